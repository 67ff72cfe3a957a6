/- A part of the logic and of the contracts of the functions that the statement reaches; the statement itself is proved in the last text. -/
import Derived.Test.YtdioclckllbhpaaGreatRows
import Derived.Conc.LeavingOf
import Derived.Test.YtdioclckllbhpaaGreatLibE
import Derived.Test.YtdioclckllbhpaaGreatLibMacZ

set_option linter.all false
set_option linter.unusedVariables false
set_option linter.unusedSimpArgs false
set_option linter.unnecessarySimpa false
namespace Go.Proofs.YtdioclckllbhpaaGreat
open Go.ChangeShapes Go.WideShapes Go.ChangeAt Go.RowKit Go.Conc Go.Mac
theorem own : ownKnob Tryz.prog.godebug = none := by kernel_rfl
theorem laidOut : laidOutB Tryz.prog = true := by kernel_rfl
theorem underI : Tryz.prog.underlying 27 = some (.slice 3) := by kernel_rfl
theorem under3 : Tryz.prog.underlying 3 = some (.int .i64) := by kernel_rfl
theorem under4 : Tryz.prog.underlying 4 = some .bool := by kernel_rfl
theorem cells3 : Tryz.prog.cellsOf 3 = 1 := by kernel_rfl
theorem row_VRL {c : Cx} {W : World} {b off : Nat} {arr : Array Value} {el : TypeId} {fz : Nat × Nat} (hb : W.heap[b]? = some (.cells arr el fz)) : ∀ (l : List Int) (o : Nat), (∀ j, j < l.length → W.cell? ⟨b, o + j, none⟩ = some (.int .i64 (l.getD j 0))) →
    ∃ vs : List Value, VRL c (l.flatMap cInt) vs ∧ vs <+: arr.toList.drop o
  | [], o, _ => ⟨[], rfl, List.nil_prefix⟩
  | n :: l, o, h => by
    have h0 := h 0 (by simp)
    obtain ⟨vs, h1, t, h2⟩ := row_VRL (c := c) (off := off) hb l (o + 1) (fun j hj => by have := h (j + 1) (by simpa using hj); simpa [Nat.add_assoc, Nat.add_comm 1 j] using this)
    refine ⟨.int .i64 n :: vs, ⟨_, _, rfl, rfl, h1⟩, t, ?_⟩
    simp only [World.cell?, hb, Nat.add_zero, Option.isSome_none, Bool.false_eq_true, if_false, List.getD_cons_zero] at h0
    have hl : o < arr.toList.length := by
      have := (Array.getElem?_eq_some_iff.1 h0).1
      simpa using this
    rw [List.drop_eq_getElem_cons hl]
    have e : arr.toList[o] = .int .i64 n := by
      have := (Array.getElem?_eq_some_iff.1 h0).2
      simpa using this
    rw [e, ← h2]
    rfl
set_option maxRecDepth 100000 in
theorem lifted {f : FuncId} {fn : Func} {s : ChangeSpec} {conds : List PathCond} {rb : Nat} (hfn : Tryz.checked.prog.funcs[f]? = some fn) (hpar : fn.params.toList = [27]) (hres : fn.resultTypes.toList = [4]) (hinit : Tryz.prog.inits.idxOf? f = none)
    (hvars : s.vars = []) (hsp : ∀ (H : Type) (d : DataW H), s.fn H [d] = { results := [.lit (.bool true)], args := [d] })
    (hc : ∀ r : Option (List Int), CallsA Tryz.prog f [leftA r] [.role true] fun e _ => e = .ret (.bool true))
    (os : Os) (started : os.Started) (H : Type) (enc : TypeId × Value → H)
    (hwit : ∃ (w : World) (tape : Tape) (i : Input), w.os = os ∧ (w.forCall tape i).Shaped Tryz.checked.prog ∧ i.vars = [] ∧ Input.okWide Tryz.checked.prog (w.forCall tape i) .any w.heap.size f i ∧
      s.pre6 enc Tryz.checked.prog fn conds false (w.forCall tape i).memory i.args ∧ ({} : Assume).holds Tryz.checked.prog (lone (Frame.enter Tryz.checked.prog f i.args .normal) [] (w.forCall tape i))) :
    ReturnsInLeavingWide {} Tryz.checked os f .any (s.pre6 enc Tryz.checked.prog fn conds false) (s.post enc Tryz.checked.prog fn false true false false) := by
  refine returnsInLeavingWide_of_change_sized (C := Tryz.checked) own started hfn hwit ?_
  intro W base args ds gs before hval hW _ _ _
  have hW' := hW
  obtain ⟨p, q, hA, hV, rfl, _, _⟩ := hW
  rw [hpar] at hA
  rw [hvars] at hV
  obtain ⟨v0, d0, rfl, rfl, h0⟩ := trodAll_one hA
  obtain ⟨rfl, rfl⟩ := trodVars_none hV
  have hp0 : fn.params[0]? = some 27 := by
    have := congrArg (fun l => l[0]?) hpar
    simpa using this
  have hok := hval 0 27 v0 hp0 rfl
  have h0k := h0
  obtain ⟨fuel, hf⟩ := h0
  simp only [List.append_nil] at hW'
  have hlt : ∀ x ∈ p, x.block < W.heap.size := fun x hx => by simpa using hW'.lt x hx
  have hargs : ∀ (W' : World), Below W.heap.size W W' → DataW.Trod enc Tryz.prog W' 0 (fun b => decide (b < W.heap.size)) true 27 v0 d0 p :=
    fun W' hn => Below.trod laidOut (by kernel_rfl) (of_decide_eq_true (by kernel_rfl)) h0k hn hlt
  have hnum : ∃ r : Option (List Int), VRL (Cx.start W) [leftA r] [v0] := by
    rcases open_ints underI under3 cells3 hf with ⟨hcs, _⟩ | ⟨a, len, cap, zs, hcs, _, hl, hm, hz, _, hcell, _⟩
    · have hv : v0 = .slice none 0 0 := by obtain ⟨a0, l0, c0, rfl⟩ := okWide_slice underI hok; simpa [Value.cells] using hcs
      subst hv
      exact ⟨none, _, _, rfl, rfl, rfl⟩
    · have hv : v0 = .slice (some a) len cap := by obtain ⟨a0, l0, c0, rfl⟩ := okWide_slice underI hok; simpa [Value.cells] using hcs
      subst hv
      simp only [Value.okWide, underI, Cell.okWide, Cell.ok] at hok
      obtain ⟨_, _, _, hspot, row, cells, hshape, _⟩ := hok
      obtain ⟨b, off, spot⟩ := a
      simp only at hspot
      subst hspot
      simp only [if_true] at hz
      unfold World.shape? at hshape
      split at hshape
      · rename_i arr el fz hb
        have hlen : len ≤ zs.length := by omega
        obtain ⟨vs, h1, h2⟩ := row_VRL (c := Cx.start W) (off := off) hb (zs.take len) off (fun j hj => by
          simp only [List.length_take] at hj
          have := hcell j (by omega)
          have ea : (⟨b, off, none⟩ : Addr).add j = ⟨b, off + j, none⟩ := by unfold Addr.add; split <;> simp_all
          rw [ea] at this
          show W.cell? ⟨b, off + j, none⟩ = _
          rw [this]
          simp [List.getD, List.getElem?_take_of_lt (show j < len by omega)])
        refine ⟨some (zs.take len), _, _, rfl, ?_, rfl⟩
        have hll : (zs.take len).length = len := by rw [List.length_take]; omega
        show VR (Cx.start W) (.psl ((zs.take len).flatMap cInt) (zs.take len).length) _
        rw [hll]
        exact .inr ⟨b, off, arr, el, fz, vs, cap, rfl, hl, hb, h1, h2⟩
      · cases hshape
  obtain ⟨r, hr⟩ := hnum
  obtain ⟨M, last, o, w', t', h1, h2, h3, h4⟩ := runs_of_calls (W := W) (args := #[v0]) hinit (hc r) hr
  refine ⟨M, last, o, w', t', h1, h2, h3, h4.mono fun v hF => ?_⟩
  obtain ⟨hbel, c, _, hv⟩ := hF
  have hv' : v = .bool true := hv
  subst hv'
  have hrs : fn.resultTypes.size = 1 := by
    have := congrArg List.length hres
    simpa using this
  have hrl : Value.resultList fn.resultTypes.size (.bool true) = [.bool true] := by rw [hrs]; rfl
  refine ⟨[d0], [], _, [], p, [], by simpa using hW', ?_, ?_, ?_, hbel.frame _, fun h => by cases h⟩
  · rw [hres, hrl, List.append_nil, hsp]; exact trodAll_mk1 (shut_bool under4 true)
  · rw [hpar, List.append_nil, hsp]; exact trodAll_mk1 (hargs _ hbel)
  · rw [hvars, List.append_nil, hsp]; rfl
end Go.Proofs.YtdioclckllbhpaaGreat
namespace Go.Mac
open Go Go.Conc Go.Proofs
def is64 (n : Int) : Prop := 0 ≤ n ∧ n ≤ 63
def all64 (p : Int → Int → Bool) : Bool := (List.range 64).all fun a => (List.range 64).all fun b => p a b
theorem all64_get {p : Int → Int → Bool} (h : all64 p = true) {a b : Int} (ha : is64 a) (hb : is64 b) : p a b = true := by
  obtain ⟨x, rfl⟩ : ∃ x : Nat, a = x := ⟨a.toNat, by have := ha.1; omega⟩
  obtain ⟨y, rfl⟩ : ∃ y : Nat, b = y := ⟨b.toNat, by have := hb.1; omega⟩
  have h1 := List.all_eq_true.1 h x (List.mem_range.2 (by have := ha.2; omega))
  exact List.all_eq_true.1 h1 y (List.mem_range.2 (by have := hb.2; omega))
def in64 (n : Int) : Bool := decide (0 ≤ n) && decide (n ≤ 63)
theorem in64_iff {n : Int} : in64 n = true ↔ is64 n := by simp [in64, is64]
theorem and_nat : all64 (fun a b => andK .i64 a b == ((a.toNat &&& b.toNat : Nat) : Int) && in64 (andK .i64 a b)) = true := by kernel_rfl
theorem or_nat : all64 (fun a b => orK .i64 a b == ((a.toNat ||| b.toNat : Nat) : Int) && in64 (orK .i64 a b)) = true := by kernel_rfl
theorem not_nat : all64 (fun s u => andK .i64 s (andNotK .i64 u s) == 0 && in64 (andNotK .i64 u s)) = true := by kernel_rfl
theorem mir64 : (List.range 64).all (fun n => in64 (mirB n) && in64 (turnB n)) = true := by kernel_rfl
theorem and64 {a b : Int} (ha : is64 a) (hb : is64 b) : andK .i64 a b = ((a.toNat &&& b.toNat : Nat) : Int) ∧ is64 (andK .i64 a b) := by
  have := all64_get and_nat ha hb
  simpa [in64_iff] using this
theorem or64 {a b : Int} (ha : is64 a) (hb : is64 b) : orK .i64 a b = ((a.toNat ||| b.toNat : Nat) : Int) ∧ is64 (orK .i64 a b) := by
  have := all64_get or_nat ha hb
  simpa [in64_iff] using this
theorem not64 {s u : Int} (hs : is64 s) (hu : is64 u) : andK .i64 s (andNotK .i64 u s) = 0 ∧ is64 (andNotK .i64 u s) := by
  have := all64_get not_nat hs hu
  simpa [in64_iff] using this
def okPr (s : Int) (t : Trace) : Prop := is64 t.seen ∧ is64 t.bare ∧ andK .i64 t.seen t.bare = 0 ∧ fitsB s t = true
theorem okPr.of {s v u : Int} (hs : is64 s) (hv : is64 v) (hu : is64 u) : okPr s ⟨andK .i64 s v, andNotK .i64 u s⟩ := by
  obtain ⟨a1, a2⟩ := and64 hs hv
  obtain ⟨b1, b2⟩ := not64 hs hu
  have hsa : andK .i64 s (andK .i64 s v) = andK .i64 s v := by
    rw [(and64 hs a2).1, a1, Int.toNat_natCast, ← Nat.and_assoc, Nat.and_self]
  have hz : s.toNat &&& (andNotK .i64 u s).toNat = 0 := by
    have := (and64 hs b2).1
    rw [b1] at this
    omega
  have hab : andK .i64 (andK .i64 s v) (andNotK .i64 u s) = 0 := by
    rw [(and64 a2 b2).1, a1, Int.toNat_natCast, Nat.and_comm s.toNat v.toNat, Nat.and_assoc, hz, Nat.and_zero]; rfl
  exact ⟨a2, b2, hab, by simp [fitsB, hsa, b1]⟩
theorem okPr.err {s : Int} {t : Trace} (h : okPr s t) : traceErr t = 0 := by
  obtain ⟨h1, h2, h3, _⟩ := h
  unfold is64 at h1 h2
  unfold traceErr
  rw [if_neg (by omega), if_neg (by simp [h3])]
theorem mirB64 {n : Int} (h : is64 n) : is64 (mirB n) ∧ is64 (turnB n) := by
  obtain ⟨x, rfl⟩ : ∃ x : Nat, n = x := ⟨n.toNat, by have := h.1; omega⟩
  have := List.all_eq_true.1 mir64 x (List.mem_range.2 (by have := h.2; omega))
  simpa [in64_iff] using this
end Go.Mac
namespace Go.Mac
open Go Go.Conc Go.Proofs
set_option maxRecDepth 4000
def dupTo (l : List (List UInt8)) (k : Nat) : List (List UInt8) := l.take k ++ List.replicate (l.length - k) []
theorem dupTo_zero (l : List (List UInt8)) : (if l.length = 0 then [] else (List.range l.length).map fun j => [AV.str []].getD (j % 1) .any) = (dupTo l 0).flatMap cStr := by
  have e : ∀ n, (List.range n).map (fun j => [AV.str []].getD (j % 1) .any) = (List.replicate n ([] : List UInt8)).flatMap cStr := by
    intro n
    induction n with
    | zero => rfl
    | succ n ih => rw [List.range_succ, List.map_append, ih, List.replicate_succ', List.flatMap_append]; simp [cStr, Nat.mod_one]
  simp only [dupTo, List.take_zero, List.nil_append, Nat.sub_zero]
  split
  · rename_i h; rw [h]; rfl
  · exact e _
theorem dupTo_len {l : List (List UInt8)} {k : Nat} (h : k ≤ l.length) : (dupTo l k).length = l.length := by simp [dupTo]; omega
theorem flat_set {α : Type} {f : α → List AV} {g : α → AV} (hf : ∀ x, f x = [g x]) : ∀ {l : List α} {k : Nat} {x : α}, (l.flatMap f).set k (g x) = (l.set k x).flatMap f
  | [], k, x => by simp
  | a :: l, 0, x => by simp [hf]
  | a :: l, k + 1, x => by simp only [List.flatMap_cons, hf, List.set_cons_succ, List.cons_append, List.nil_append]; rw [← flat_set hf]
theorem dupTo_succ {l : List (List UInt8)} {k : Nat} (h : k < l.length) : (dupTo l k).set k l[k] = dupTo l (k + 1) := by
  unfold dupTo
  rw [List.set_append_right _ _ (by simp; omega)]
  simp only [List.length_take, Nat.min_eq_left (Nat.le_of_lt h), Nat.sub_self]
  rw [show l.length - k = (l.length - (k + 1)) + 1 by omega, List.replicate_succ, List.set_cons_zero, List.take_succ_eq_append_getElem h, List.append_assoc]
  rfl
theorem DupStrings_ok (l : List (List UInt8)) (hl : l.length ≤ 1000) : PureA Tryz.prog 56 [sliceOf cStr l] (sliceOf cStr l) := by
  refine PureA.of_wps [2] {} 21 mixed Tryz.func56 (by kernel_rfl) rfl (by kernel_rfl) (below_psl (fun _ => rfl) _) fun h j hB => ?_
  simp only [junk_succ, junk_zero, List.cons_append, List.nil_append, List.length_cons, List.length_nil, Nat.reduceAdd]
  simp (implicitDefEqProofs := false) (dsimp := false) only [go_sem, dupTo_zero]
  refine ⟨by omega, ?_⟩
  refine WP.loopI (fun (k : Nat) s => (k ≤ l.length) ∧ s.sl.length = 22 ∧ s.df = [] ∧ s.gh = {} ∧ (s.hp = h ++ [.cells 0 ((dupTo l k).flatMap cStr)]) ∧ evA s.sl (.tmp 0) = sliceOf cStr l ∧ evA s.sl (.tmp 3) = .sl ⟨h.length, 0⟩ 1 0 l.length ∧ evA s.sl (.tmp 4) = .int .i64 k) (fun (k : Nat) => l.length - k) (0) ?_ ?_
  · simp (implicitDefEqProofs := false) (dsimp := false) only [go_sem, Nat.zero_le]
  · rintro k ⟨sl, df, hp, gh⟩ ⟨ab, al, rfl, rfl, rfl, a0, a3, a4⟩
    simp only at ab al a0 a3 a4
    obtain ⟨j, rfl⟩ := slots_lit al; clear al; simp only [junk_succ, junk_zero, evA_tmp, nth_16, nth_four, nth_one, nth_zero, Nat.zero_add, Nat.reduceAdd] at  a0 a3 a4 ⊢
    refine wp_ok (so := {}) mixed _ (by kernel_rfl) ?_
    by_cases hk : k < l.length
    · have hl2 : ((dupTo l k).flatMap cStr).length = l.length := by rw [rows_length (fun _ => rfl), dupTo_len (Nat.le_of_lt hk)]
      simp (implicitDefEqProofs := false) (dsimp := false) only [go_sem, a0, a3, a4, nat_lt hk, decide_true, row1 cStr_len hk, row1_le cStr_len hk, cStr, hl2]
      exact ⟨by omega, k + 1, ⟨by omega, by rw [flat_set (f := cStr) (g := .str) (fun _ => rfl), dupTo_succ hk], wrap_succ (by omega)⟩, by omega⟩
    · have hs : ((k : Int) < (l.length : Int)) = False := eq_false (by omega)
      have e : k = l.length := by omega
      subst e
      have hd : dupTo l l.length = l := by simp [dupTo]
      simp (implicitDefEqProofs := false) (dsimp := false) only [go_sem, a0, a3, a4, hs, decide_false, hd]
      rw [rows_all (f := cStr) (fun _ => rfl)]
structure okSizes (b : Board) : Prop where
  g : b.glyphs.length ≤ 1000
  p : b.pages.length ≤ 1000
  pr : ∀ p ∈ b.pages, p.length ≤ 1000
  c : b.cells.length ≤ 1000
  cr : ∀ r ∈ b.cells, r.length ≤ 1000
def slsFrom (g : Nat) : Nat → List (List Trace) → List AV
  | _, [] => []
  | n, r :: rs => .sl ⟨n, g⟩ 2 0 r.length :: slsFrom g (n + 1) rs
theorem slsFrom_len (g : Nat) : ∀ n rs, (slsFrom g n rs).length = rs.length
  | _, [] => rfl
  | n, r :: rs => by simp [slsFrom, slsFrom_len g (n + 1) rs]
theorem slsFrom_snoc (g : Nat) (r : List Trace) : ∀ n rs, slsFrom g n (rs ++ [r]) = slsFrom g n rs ++ [.sl ⟨n + rs.length, g⟩ 2 0 r.length]
  | n, [] => rfl
  | n, x :: rs => by
    simp only [List.cons_append, slsFrom, slsFrom_snoc g r (n + 1) rs, List.length_cons]
    rw [show n + 1 + rs.length = n + (rs.length + 1) by omega]
theorem slsFrom_drop (g : Nat) : ∀ (n : Nat) (rs : List (List Trace)) (k : Nat) (h : k < rs.length), (slsFrom g n rs).drop k = .sl ⟨n + k, g⟩ 2 0 rs[k].length :: (slsFrom g n rs).drop (k + 1)
  | n, r :: rs, 0, _ => rfl
  | n, r :: rs, k + 1, h => by
    simp only [slsFrom, List.drop_succ_cons, List.getElem_cons_succ]
    rw [slsFrom_drop g (n + 1) rs k (by simpa using h), show n + 1 + k = n + (k + 1) by omega]
def rowB (r : List Trace) : Blk := .cells 1 (r.flatMap cTrace)
def dupA (b : Board) (L : Nat) : AV := .agg [sliceOf cGlyph b.glyphs, .sl ⟨L, b.pages.length⟩ 1 0 b.pages.length, .sl ⟨L + 1, b.cells.length⟩ 1 0 b.cells.length]
def dupH (b : Board) (L : Nat) : List Blk := .cells b.pages.length (b.pages.flatMap cPage) :: .cells b.cells.length (slsFrom 1 (L + 2) b.cells) :: b.cells.map rowB
def z3 : List AV := [.nilsl, .nilsl, .nilsl]
theorem flat_leaf {α : Type} {f : α → List AV} (hf : ∀ x, (f x).all leafA = true) : ∀ l : List α, (l.flatMap f).all leafA = true
  | [] => rfl
  | x :: l => by rw [List.flatMap_cons, List.all_append, hf, flat_leaf hf l]; rfl
theorem slsFrom_below (g : Nat) {n : Nat} : ∀ (m : Nat) (rs : List (List Trace)), m + rs.length ≤ n → belowL n (slsFrom g m rs) = true
  | _, [], _ => rfl
  | m, r :: rs, h => by
    simp only [List.length_cons] at h
    have e := slsFrom_below g (n := n) (m + 1) rs (by omega)
    simp only [slsFrom, belowL, below, e]
    simp
    omega
theorem rowB_below (n : Nat) (r : List Trace) : belowBlk n (rowB r) = true := belowL_mono (Nat.zero_le n) _ (belowL_flat (f := cTrace) (fun _ => rfl) r)
theorem DupBoard_ok (b : Board) (ok : okSizes b) (h : List Blk) : CallsA Tryz.prog 15 [.agg (brdA b)] h fun e h' => ∃ a0 a1 a2 a3, e = .ret (dupA b (h.length + 4)) ∧ h' = h ++ a0 :: a1 :: a2 :: a3 :: dupH b (h.length + 4) := by
  have hgt : (b.glyphs.flatMap cGlyph).take (b.glyphs.length * 2) = b.glyphs.flatMap cGlyph := List.take_of_length_le (by rw [length_rows cGlyph_len]; exact Nat.le_refl _)
  have hgl : (b.glyphs.flatMap cGlyph).length = b.glyphs.length * 2 := length_rows cGlyph_len _
  refine CallsA.of_wpe [] { shut := [26, 45], hand := [9], tail := [(5, 9)] } 48 mixed Tryz.func15 (by kernel_rfl) rfl (by kernel_rfl) fun j hB hA => ?_; simp only [junk_succ, junk_zero, List.cons_append, List.nil_append, List.length_cons, List.length_nil, Nat.reduceAdd]
  simp (implicitDefEqProofs := false) (dsimp := false) only [go_sem, brdA, hgt, hgl]
  refine ⟨⟨flat_leaf (fun _ => rfl) _, by have := ok.g; omega⟩, ?_⟩
  refine WPI.turn (Turns.seal_cell (i := h.length + 3) (g := 0) (j := 0) (a := .sl ⟨h.length + 2, 1⟩ 2 0 b.glyphs.length) (a' := sliceOf cGlyph b.glyphs) (by simp only; rw [hget]; rfl) rfl (by simp only [sealV]; rw [hget]; simp [sliceOf, hgt]) (by simp [nmOf])) ?_
  simp only [nmOf, hset, List.set_cons_succ, List.set_cons_zero]
  refine WPI.turn (Turns.nilCell (i := h.length + 3) (j := 1) (sz := 1) (by simp only; rw [hget]; rfl) rfl) ?_
  refine WPI.turn (Turns.nilCell (i := h.length + 3) (j := 2) (sz := 1) (by simp only [List.append_assoc]; rw [hset, List.append_assoc, hget]; rfl) rfl) ?_
  simp only [hset, List.append_assoc, List.set_cons_succ, List.set_cons_zero, List.cons_append, List.nil_append, List.length_append, List.length_cons, List.length_nil, Nat.zero_add, Nat.reduceAdd]
  refine WP.loopI (fun (k : Nat) s => (k ≤ b.pages.length) ∧ s.sl.length = 49 ∧ s.df = [] ∧ s.gh = {} ∧ (s.hp = h ++ [.cells 0 (brdA b), .cells 0 z3, .dead, .cells 0 [sliceOf cGlyph b.glyphs, .sl ⟨h.length + 4, k⟩ 1 0 k, .sl ⟨h.length + 5, 0⟩ 1 0 0], .cells k ((b.pages.take k).flatMap cPage), .cells 0 []]) ∧ evA s.sl (.tmp 1) = .ptr ⟨h.length, 0⟩ 0 ∧ evA s.sl (.tmp 2) = .ptr ⟨h.length + 1, 0⟩ 0 ∧ evA s.sl (.tmp 3) = .ptr ⟨h.length + 3, 0⟩ 0 ∧ evA s.sl (.tmp 4) = .int .i64 k) (fun (k : Nat) => b.pages.length - k) (0) ?_ ?_
  · simp (implicitDefEqProofs := false) (dsimp := false) only [go_sem, brdA, Nat.zero_le]
    exact ⟨rfl, rfl⟩
  · rintro k ⟨sl, df, hp, gh⟩ ⟨ab, al, rfl, rfl, rfl, a1, a2, a3, a4⟩
    simp only at ab al a1 a2 a3 a4
    obtain ⟨j, rfl⟩ := slots_lit al; clear al; simp only [junk_succ, junk_zero, evA_tmp, nth_16, nth_four, nth_one, nth_zero, Nat.zero_add, Nat.reduceAdd] at  a1 a2 a3 a4 ⊢
    refine wp_ok (so := { shut := [26, 45], hand := [9], tail := [(5, 9)] }) mixed _ (by kernel_rfl) ?_
    by_cases hk : k < b.pages.length
    · have hkl : ((b.pages.take k).flatMap cPage).length = k := by rw [cPage_len1, List.length_take]; omega
      simp (implicitDefEqProofs := false) (dsimp := false) only [go_sem, a1, a2, a3, a4, brdA, nat_lt hk, decide_true, row1 cPage_len hk, row1_le cPage_len hk, cPage]
      (first | refine CallsA.use (DupStrings_ok b.pages[k] (ok.pr _ (List.getElem_mem hk))) ?_ | refine QuietCalls.use (DupStrings_ok b.pages[k] (ok.pr _ (List.getElem_mem hk))) ?_)
      simp (implicitDefEqProofs := false) (dsimp := false) only [go_sem, hkl, brdA]
      refine ⟨below_strs _ _, by have := ok.p; omega, k + 1, ⟨by omega, ⟨rfl, rfl, ?_⟩, wrap_succ (by have := ok.p; omega)⟩, by omega⟩
      rw [List.take_succ_eq_append_getElem hk, List.flatMap_append]
      simp [cPage, sliceOf]
    · have hs : ((k : Int) < (b.pages.length : Int)) = False := eq_false (by omega)
      have e : k = b.pages.length := by omega
      subst e
      rw [List.take_length]
      simp (implicitDefEqProofs := false) (dsimp := false) only [go_sem, a1, a2, a3, a4, brdA, hs, decide_false]
      refine WP.loopI (fun (k : Nat) s => (k ≤ b.cells.length) ∧ s.sl.length = 49 ∧ s.df = [] ∧ s.gh = {} ∧ (s.hp = h ++ .cells 0 (brdA b) :: .cells 0 z3 :: .dead :: .cells 0 [sliceOf cGlyph b.glyphs, .sl ⟨h.length + 4, b.pages.length⟩ 1 0 b.pages.length, .sl ⟨h.length + 5, k⟩ 1 0 k] :: .cells b.pages.length (b.pages.flatMap cPage) :: .cells k (slsFrom 1 (h.length + 6) (b.cells.take k)) :: (b.cells.take k).map rowB) ∧ evA s.sl (.tmp 1) = .ptr ⟨h.length, 0⟩ 0 ∧ evA s.sl (.tmp 2) = .ptr ⟨h.length + 1, 0⟩ 0 ∧ evA s.sl (.tmp 3) = .ptr ⟨h.length + 3, 0⟩ 0 ∧ evA s.sl (.tmp 5) = .int .i64 k) (fun (k : Nat) => b.cells.length - k) (0) ?_ ?_
      · simp (implicitDefEqProofs := false) (dsimp := false) only [go_sem, brdA, Nat.zero_le, List.take_zero, List.map_nil, slsFrom]
      · rintro k ⟨sl, df, hp, gh⟩ ⟨cb, cl, rfl, rfl, rfl, c1, c2, c3, c5⟩
        simp only at cb cl c1 c2 c3 c5
        obtain ⟨j, rfl⟩ := slots_lit cl; clear cl; simp only [junk_succ, junk_zero, evA_tmp, nth_16, nth_four, nth_one, nth_zero, Nat.zero_add, Nat.reduceAdd] at  c1 c2 c3 c5 ⊢
        refine wp_ok (so := { shut := [26, 45], hand := [9], tail := [(5, 9)] }) mixed _ (by kernel_rfl) ?_
        by_cases hk : k < b.cells.length
        · simp (implicitDefEqProofs := false) (dsimp := false) only [go_sem, c1, c2, c3, c5, brdA, nat_lt hk, decide_true]
          refine WP.noisy (so := { shut := [26, 45], tail := [(5, 9)] }) 10 [2, 8] [0, 0, 0, 0, 0, 0, 0, 0, 0, 2] [2, 2, 0, 1, 1, 1, 1, 1, 0, 2] ((fun T => [h ++ T, h ++ (T ++ [.cells 0 []]), h ++ (T ++ [rowB b.cells[k]])]) _) rfl mixed (by kernel_rfl) (by kernel_rfl) (by decide) (by kernel_rfl) rfl ?_
          have hrt : (b.cells[k].flatMap cTrace).take (b.cells[k].length * 2) = b.cells[k].flatMap cTrace := List.take_of_length_le (by rw [length_rows cTrace_len]; exact Nat.le_refl _)
          have hrl : (b.cells[k].flatMap cTrace).length = b.cells[k].length * 2 := length_rows cTrace_len _
          have hsl : (slsFrom 1 (h.length + 6) (b.cells.take k)).length = k := by rw [slsFrom_len, List.length_take]; omega
          simp (implicitDefEqProofs := false) (dsimp := false) only [go_sem, brdA, row1 cTraces_len hk, row1_le cTraces_len hk, cTraces, nat_lt hk, hrt, hrl, hsl]
          have hcr := ok.cr _ (List.getElem_mem hk)
          have hcl := ok.c
          refine ⟨⟨flat_leaf (fun _ => rfl) _, by omega⟩, rfl, by omega, by omega, k + 1, ⟨by omega, ⟨rfl, ⟨rfl, ?_⟩, ?_⟩, wrap_succ (by omega)⟩, by omega⟩
          · rw [List.take_succ_eq_append_getElem hk, slsFrom_snoc, List.length_map, show h.length + 6 + (b.cells.take k).length = h.length + ((b.cells.take k).length + 1 + 1 + 1 + 1 + 1 + 1) by omega]
          · rw [List.take_succ_eq_append_getElem hk, List.map_append]; rfl
        · have hs : ((k : Int) < (b.cells.length : Int)) = False := eq_false (by omega)
          have e : k = b.cells.length := by omega
          subst e
          rw [List.take_length]
          simp (implicitDefEqProofs := false) (dsimp := false) only [go_sem, c1, c2, c3, c5, brdA, hs, decide_false, z3]
          have tk : ∀ (A B C D E F : Blk), List.take (h.length + (b.cells.length + 6)) (h ++ A :: B :: C :: D :: E :: F :: b.cells.map rowB) = h ++ A :: B :: C :: D :: E :: F :: b.cells.map rowB := fun A B C D E F => List.take_of_length_le (by simp)
          refine ⟨_, h.length + (b.cells.length + 6), rfl, by omega, ?_, ?_, _, _, _, _, rfl, tk _ _ _ _ _ _⟩
          · have hbl := belowL_mono (Nat.zero_le (h.length + (b.cells.length + 6))) _ (slices_below b)
            simp only [belowL, sliceOf, below, Bool.and_eq_true] at hbl
            simp [below, belowL, hbl]
          · have hbl := belowL_mono (Nat.zero_le (h.length + (b.cells.length + 6))) _ (slices_below b)
            simp only [belowL, sliceOf, below, Bool.and_eq_true] at hbl
            have hsb := slsFrom_below 1 (n := h.length + (b.cells.length + 6)) (h.length + 6) b.cells (by omega)
            rw [tk, List.all_append, allBelow_mono (by omega) hB]
            simp [belowBlk, belowL, below, hbl, hsb]
            exact fun x _ => rowB_below _ x
end Go.Mac
namespace Go.Mac
open Go Go.Conc Go.Proofs
set_option maxRecDepth 4000
def exStep (s : Int) (out : Int) (p : Int × Int) : Int :=
  let o := andNotK .i64 out (orK .i64 p.1 p.2)
  let o := if andK .i64 s p.1 = 0 then o else orK .i64 o p.2
  if andK .i64 s p.2 = 0 then o else orK .i64 o p.1
def exchB (s : Int) (l : List (Int × Int)) : Int := l.foldl (exStep s) s
theorem cPair_len1 (l : List (Int × Int)) : (l.flatMap cPair).length = l.length := rows_length (fun _ => rfl) l
theorem exchanged_ok (z : Int) (l : List (Int × Int)) (hl : l.length ≤ 1000) : PureA Tryz.prog 151 [.int .i64 z, sliceOf cPair l] (.int .i64 (exchB z l)) := by
  refine PureA.of_wpp {} 46 mixed Tryz.func151 (by kernel_rfl) rfl (by kernel_rfl) (rfl) fun h j hB => ?_
  simp only [junk_succ, junk_zero, List.cons_append, List.nil_append, List.length_cons, List.length_nil, Nat.reduceAdd]
  simp (implicitDefEqProofs := false) (dsimp := false) only [go_sem]
  refine WP.loopI (fun (k : Nat) s => (k ≤ l.length) ∧ s.sl.length = 48 ∧ s.df = [] ∧ s.gh = {} ∧ (s.hp = h) ∧ evA s.sl (.tmp 0) = .int .i64 z ∧ evA s.sl (.tmp 1) = sliceOf cPair l ∧ evA s.sl (.tmp 5) = .int .i64 ((l.take k).foldl (exStep z) z) ∧ evA s.sl (.tmp 6) = .int .i64 k) (fun (k : Nat) => l.length - k) (0) ?_ ?_
  · simp (implicitDefEqProofs := false) (dsimp := false) only [go_sem, Nat.zero_le, List.take_zero, List.foldl_nil]
  · rintro k ⟨sl, df, hp, gh⟩ ⟨ab, al, rfl, rfl, rfl, a0, a1, a5, a6⟩
    simp only at ab al a0 a1 a5 a6
    obtain ⟨j, rfl⟩ := slots_lit al; clear al; simp only [junk_succ, junk_zero, evA_tmp, nth_16, nth_four, nth_one, nth_zero, Nat.zero_add, Nat.reduceAdd] at  a0 a1 a5 a6 ⊢
    refine wp_ok (so := {}) mixed _ (by kernel_rfl) ?_
    by_cases hk : k < l.length
    · have hst : (l.take (k + 1)).foldl (exStep z) z = exStep z ((l.take k).foldl (exStep z) z) l[k] := by
        rw [List.take_succ_eq_append_getElem hk, List.foldl_append]; rfl
      have hw := wrap_succ (i := k) (by omega)
      simp (implicitDefEqProofs := false) (dsimp := false) only [go_sem, a0, a1, a5, a6, nat_lt hk, decide_true, row1 cPair_len hk, row1_le cPair_len hk, cPair]
      have key : ∀ v, exStep z ((l.take k).foldl (exStep z) z) l[k] = v → ∃ i', (i' ≤ l.length ∧ v = (l.take i').foldl (exStep z) z ∧ IntKind.i64.wrap ((k : Int) + 1) = (i' : Int)) ∧ l.length - i' < l.length - k := fun v e => ⟨k + 1, ⟨by omega, by rw [hst, e], hw⟩, by omega⟩
      refine ⟨fun c1 => ⟨fun c2 => key _ ?_, fun c2 => key _ ?_⟩, fun c1 => ⟨fun c2 => key _ ?_, fun c2 => key _ ?_⟩⟩
      all_goals
        simp only [bne_iff_ne, ne_eq, bne_eq_false_iff_eq] at c1 c2
        simp [exStep, c1, c2]
    · have hs : ((k : Int) < (l.length : Int)) = False := eq_false (by omega)
      have e : k = l.length := by omega
      subst e
      simp (implicitDefEqProofs := false) (dsimp := false) only [go_sem, a0, a1, a5, a6, hs, decide_false, List.take_length]
      rfl
def mirL : List (Int × Int) := [(1, 2), (4, 8)]
def halfL : List (Int × Int) := [(1, 8), (2, 4), (16, 32)]
theorem MirrorOf_ok (s : Int) : PureA Tryz.prog 143 [.int .i64 s] (.int .i64 (exchB s mirL)) := by
  refine PureA.of_wpp { shut := [4, 5, 6] } 7 mixed Tryz.func143 (by kernel_rfl) rfl (by kernel_rfl) (rfl) fun h j hB => ?_
  simp only [junk_succ, junk_zero, List.cons_append, List.nil_append, List.length_cons, List.length_nil, Nat.reduceAdd]
  simp (implicitDefEqProofs := false) (dsimp := false) only [go_sem]
  (first | refine CallsA.use (exchanged_ok s mirL (by decide)) ?_ | refine QuietCalls.use (exchanged_ok s mirL (by decide)) ?_)
  simp (implicitDefEqProofs := false) (dsimp := false) only [go_sem]
theorem HalfOf_ok (s : Int) : PureA Tryz.prog 144 [.int .i64 s] (.int .i64 (exchB s halfL)) := by
  refine PureA.of_wpp { shut := [4, 5, 6, 7] } 8 mixed Tryz.func144 (by kernel_rfl) rfl (by kernel_rfl) (rfl) fun h j hB => ?_
  simp only [junk_succ, junk_zero, List.cons_append, List.nil_append, List.length_cons, List.length_nil, Nat.reduceAdd]
  simp (implicitDefEqProofs := false) (dsimp := false) only [go_sem]
  (first | refine CallsA.use (exchanged_ok s halfL (by decide)) ?_ | refine QuietCalls.use (exchanged_ok s halfL (by decide)) ?_)
  simp (implicitDefEqProofs := false) (dsimp := false) only [go_sem]
theorem exch_all : (List.range 64).all (fun n => exchB n mirL == mirB n && exchB n halfL == turnB n) = true := by kernel_rfl
theorem exch64 {n : Int} (h : is64 n) : exchB n mirL = mirroredB n ∧ exchB n halfL = turnB n := by
  obtain ⟨x, rfl⟩ : ∃ x : Nat, n = x := ⟨n.toNat, by have := h.1; omega⟩
  have := List.all_eq_true.1 exch_all x (List.mem_range.2 (by have := h.2; omega))
  simp only [Bool.and_eq_true, beq_iff_eq] at this
  rw [mirroredB, if_pos ⟨h.1, h.2⟩]
  exact this
def strokesB : List Glyph → List UInt8 → Int
  | [], _ => 0
  | g :: l, s => if g.name = s then g.strokes else strokesB l s
theorem strokesB_ink {c : UInt8} (hd : c.toNat ≠ 45) : ∀ {gs : List Glyph}, (∀ g ∈ gs, g.name.length = 1) → strokesB gs [c] = inkB (gs.map fun g => ((gkey g : Int), g.strokes)) c.toNat
  | [], _ => rfl
  | g :: l, h => by
    obtain ⟨c', e, hk⟩ := one_name (h g (List.mem_cons_self ..))
    rw [List.map_cons, inkB_cons, strokesB, strokesB_ink hd fun x hx => h x (List.mem_cons_of_mem _ hx)]
    by_cases hc : c = c'
    · subst hc
      rw [if_pos e, if_pos (by simp [hk])]
    · have : ¬ c.toNat = c'.toNat := fun q => hc (UInt8.toNat_inj.1 q)
      rw [if_neg (by rw [e]; simpa using fun q => hc q.symm), if_neg (by simp only [hk, beq_iff_eq]; omega)]
theorem strokesB_dash : ∀ {gs : List Glyph}, (∀ g ∈ gs, g.name.length = 1 ∧ 97 ≤ gkey g) → strokesB gs [45] = 0
  | [], _ => rfl
  | g :: l, h => by
    obtain ⟨h1, h2⟩ := h g (List.mem_cons_self ..)
    obtain ⟨c', e, hk⟩ := one_name h1
    rw [strokesB, if_neg, strokesB_dash fun x hx => h x (List.mem_cons_of_mem _ hx)]
    rw [e]
    intro q
    have : c' = 45 := by simpa using q
    rw [this] at hk
    have : (45 : UInt8).toNat = 45 := rfl
    omega
theorem strokesB_eq {gs : List Glyph} (ok : okGlyphs gs) (c : UInt8) : strokesB gs [c] = inkB (mapB gs) c.toNat := by
  unfold mapB
  rw [inkB_cons]
  by_cases h : c.toNat = 45
  · have : c = 45 := UInt8.toNat_inj.1 h
    subst this
    rw [strokesB_dash fun g hg => ⟨(ok.one g hg).1, (ok.one g hg).2.1⟩]; rfl
  · rw [strokesB_ink h fun g hg => (ok.one g hg).1, if_neg (by simp; omega)]
theorem strokesB_64 {gs : List Glyph} (ok : okGlyphs gs) (s : List UInt8) : is64 (strokesB gs s) := by
  have : ∀ l : List Glyph, (∀ g ∈ l, 1 ≤ g.strokes ∧ g.strokes ≤ 63) → is64 (strokesB l s) := by
    intro l
    induction l with
    | nil => intro _; exact ⟨Int.le_refl 0, by simp [strokesB]⟩
    | cons g l ih =>
      intro h
      rw [strokesB]
      split
      · have := h g (List.mem_cons_self ..); exact ⟨by omega, by omega⟩
      · exact ih fun x hx => h x (List.mem_cons_of_mem _ hx)
  exact this gs fun g hg => by have := ok.one g hg; omega
theorem strokesOn_ok (b : Board) (okg : okGlyphs b.glyphs) (p r c : Nat) (hp : p < b.pages.length) (hr : r < b.pages[p].length) (hc : c < b.pages[p][r].length) (hcs : c ≤ 1000) : PureA Tryz.prog 145 [.agg (brdA b), .int .i64 p, .int .i64 r, .int .i64 c] (.int .i64 (strokesB b.glyphs [b.pages[p][r][c]])) := by
  refine PureA.of_wpp {} 38 mixed Tryz.func145 (by kernel_rfl) rfl (by kernel_rfl) (rfl) fun h j hB => ?_
  simp only [junk_succ, junk_zero, List.cons_append, List.nil_append, List.length_cons, List.length_nil, Nat.reduceAdd]
  have hm := okg.most
  simp (implicitDefEqProofs := false) (dsimp := false) only [go_sem, brdA]
  refine WP.loopI (fun (k : Nat) s => (k ≤ b.glyphs.length ∧ strokesB (b.glyphs.drop k) [b.pages[p][r][c]] = strokesB b.glyphs [b.pages[p][r][c]]) ∧ s.sl.length = 42 ∧ s.df = [] ∧ s.gh = {} ∧ (s.hp = h ++ [.cells 0 (brdA b)]) ∧ evA s.sl (.tmp 1) = .int .i64 p ∧ evA s.sl (.tmp 2) = .int .i64 r ∧ evA s.sl (.tmp 3) = .int .i64 c ∧ evA s.sl (.tmp 4) = .ptr ⟨h.length, 0⟩ 0 ∧ evA s.sl (.tmp 9) = .int .i64 k) (fun (k : Nat) => b.glyphs.length - k) (0) ?_ ?_
  · simp (implicitDefEqProofs := false) (dsimp := false) only [go_sem, brdA, Nat.zero_le, List.drop_zero]
  · rintro k ⟨sl, df, hp, gh⟩ ⟨ab, al, rfl, rfl, rfl, a1, a2, a3, a4, a9⟩
    simp only at ab al a1 a2 a3 a4 a9
    obtain ⟨j, rfl⟩ := slots_lit al; clear al; simp only [junk_succ, junk_zero, evA_tmp, nth_16, nth_four, nth_one, nth_zero, Nat.zero_add, Nat.reduceAdd] at  a1 a2 a3 a4 a9 ⊢
    refine wp_ok (so := {}) mixed _ (by kernel_rfl) ?_
    obtain ⟨hk1, hk2⟩ := ab
    by_cases hk : k < b.glyphs.length
    · have hw := wrap_succ (i := c) (by omega)
      have hcw : ((c : Int) < ((c + 1 : Nat) : Int)) = True := eq_true (by omega)
      rw [drop_get hk, strokesB] at hk2
      simp (implicitDefEqProofs := false) (dsimp := false) only [go_sem, a1, a2, a3, a4, a9, brdA, nat_lt hk, decide_true, names_drop hk, names_le hk, row1 cPage_len hp, row1_le cPage_len hp, nat_lt hp, cPage, row1 cStr_len hr, row1_le cStr_len hr, nat_lt hr, cStr, hw]
      have ht : (b.pages[p][r].drop c).take (c + 1 - c) = [b.pages[p][r][c]] := by
        rw [List.drop_eq_getElem_cons hc, Nat.add_sub_cancel_left]; rfl
      rw [ht]
      have hle : k * 2 ≤ (b.glyphs.flatMap cGlyph).length := by rw [length_rows cGlyph_len]; omega
      have h1 := (okg.one _ (List.getElem_mem hk)).1
      refine ⟨hle, ⟨by omega, by omega⟩, by simp; omega, fun e => ⟨hle, ?_⟩, fun e => ⟨k + 1, ⟨⟨by omega, ?_⟩, wrap_succ (by omega)⟩, by omega⟩⟩
      · rw [if_pos e] at hk2; exact hk2
      · rw [if_neg (by simpa using e)] at hk2; exact hk2
    · have hs : ((k : Int) < (b.glyphs.length : Int)) = False := eq_false (by omega)
      simp (implicitDefEqProofs := false) (dsimp := false) only [go_sem, a1, a2, a3, a4, a9, brdA, hs, decide_false]
      rw [List.drop_eq_nil_of_le (by omega)] at hk2
      exact hk2
theorem shownB_64 {b : Board} (okg : okGlyphs b.glyphs) (pg : List (List UInt8)) (l : Lay) (row col : Int) : is64 (shownB (mapB b.glyphs) pg l row col) := by
  have hi : ∀ c : UInt8, is64 (inkB (mapB b.glyphs) c.toNat) := fun c => by rw [← strokesB_eq okg]; exact strokesB_64 okg _
  have hm : ∀ n, is64 n → is64 (mirroredB n) := fun n hn => by rw [mirroredB, if_pos ⟨hn.1, hn.2⟩]; exact (mirB64 hn).1
  unfold shownB
  simp only
  split
  · unfold asB
    refine hm _ ?_
    split
    · exact (mirB64 (by unfold charAt; exact hi _)).2
    · unfold charAt; exact hi _
  · exact ⟨Int.le_refl 0, by decide⟩
theorem ShownOn_ok (b : Board) (okg : okGlyphs b.glyphs) (l : Lay) (row col : Int) (p : Nat) (hlp : l.page = p) (hp : p < b.pages.length) (ok : okPage b.pages[p]) (hr : -1000 ≤ row ∧ row ≤ 1000) (hc : -1000 ≤ col ∧ col ≤ 1000) (hd : -1000 ≤ l.down ∧ l.down ≤ 1000) (hrt : -1000 ≤ l.right ∧ l.right ≤ 1000) : PureA Tryz.prog 134 [.agg (brdA b), .agg (cLay l), .int .i64 row, .int .i64 col] (.int .i64 (shownB (mapB b.glyphs) b.pages[p] l row col)) := by
  refine PureA.of_wpp { cut := [28, 34, 38] } 69 mixed Tryz.func134 (by kernel_rfl) rfl (by kernel_rfl) (rfl) fun h j hB => ?_
  simp only [junk_succ, junk_zero, List.cons_append, List.nil_append, List.length_cons, List.length_nil, Nat.reduceAdd]
  obtain ⟨pg, tu, dn, rt⟩ := l
  simp only at hlp hd hrt
  subst hlp
  have h1 := ok.pos
  have h2 := ok.most
  have h3 := ok.wmost
  have hw1 : IntKind.i64.wrap (row - dn) = row - dn := wrap64 (by omega) (by omega)
  have hw2 : IntKind.i64.wrap (col - rt) = col - rt := wrap64 (by omega) (by omega)
  have hhd : (b.pages[p].flatMap cStr).drop 0 = .str (b.pages[p].headD []) :: (b.pages[p].drop 1).flatMap cStr := by
    rw [headD_get h1]
    have := row1 cStr_len h1
    rw [this]; rfl
  simp (implicitDefEqProofs := false) (dsimp := false) only [go_sem, brdA, cLay, row1 cPage_len hp, row1_le cPage_len hp, nat_lt hp, cPage, hw1, hw2, str_get0 h1, str_len1, nat_lt h1]
  have hout : (row - dn < 0 ∨ (b.pages[p].length : Int) ≤ row - dn ∨ col - rt < 0 ∨ ((b.pages[p].headD []).length : Int) ≤ col - rt) → 0 = shownB (mapB b.glyphs) b.pages[p] ⟨p, tu, dn, rt⟩ row col := fun c => by
    simp only [shownB, letterB_out (l := ⟨p, tu, dn, rt⟩) c]; rfl
  refine ⟨fun c => hout (.inl c), fun n1 => ⟨fun c => hout (.inr (.inl c)), fun n2 => ⟨fun c => hout (.inr (.inr (.inl c))), fun n3 => ⟨⟨by omega, by omega⟩, by omega, fun c => hout (.inr (.inr (.inr c))), fun n4 => ?_⟩⟩⟩⟩
  have hin := letterB_in (p := b.pages[p]) (l := ⟨p, tu, dn, rt⟩) (row := row) (col := col) (by simp only; omega)
  obtain ⟨c', hc'⟩ : ∃ c' : Nat, col - rt = c' := ⟨(col - rt).toNat, by omega⟩
  obtain ⟨r', hr'⟩ : ∃ r' : Nat, row - dn = r' := ⟨(row - dn).toNat, by omega⟩
  have hch : ∀ (x y : Nat) (hx : x < b.pages[p].length) (hy : y < b.pages[p][x].length), inkB (mapB b.glyphs) (charAt b.pages[p] x y) = strokesB b.glyphs [b.pages[p][x][y]] := fun x y hx hy => by
    rw [strokesB_eq okg]
    simp [charAt, List.getD, hx, hy]
  refine ⟨fun ct => ?_, fun ct => ?_⟩
  · subst ct
    obtain ⟨r2, hr2⟩ : ∃ r2 : Nat, (b.pages[p].length : Int) - 1 - (row - dn) = r2 := ⟨((b.pages[p].length : Int) - 1 - (row - dn)).toNat, by omega⟩
    have e1 : IntKind.i64.wrap (IntKind.i64.wrap ((b.pages[p].length : Int) - 1) - (row - dn)) = r2 := by rw [wrap64 (n := (b.pages[p].length : Int) - 1) (by omega) (by omega), wrap64 (by omega) (by omega)]; exact hr2
    have hx : r2 < b.pages[p].length := by omega
    have hy : c' < b.pages[p][r2].length := by rw [ok.row hx]; omega
    have hs := strokesB_64 okg [b.pages[p][r2][c']]
    rw [e1, hc']
    (first | refine CallsA.use (strokesOn_ok b okg p r2 c' hp hx hy (by omega)) ?_ | refine QuietCalls.use (strokesOn_ok b okg p r2 c' hp hx hy (by omega)) ?_)
    simp (implicitDefEqProofs := false) (dsimp := false) only [go_sem]
    (first | refine CallsA.use (HalfOf_ok _) ?_ | refine QuietCalls.use (HalfOf_ok _) ?_)
    simp (implicitDefEqProofs := false) (dsimp := false) only [go_sem]
    (first | refine CallsA.use (MirrorOf_ok _) ?_ | refine QuietCalls.use (MirrorOf_ok _) ?_)
    simp (implicitDefEqProofs := false) (dsimp := false) only [go_sem]
    rw [(exch64 hs).2, (exch64 (mirB64 hs).2).1]
    simp only [shownB, hin, if_true, asB]
    rw [hr2, hc', hch r2 c' hx hy]
  · subst ct
    obtain ⟨c2, hc2⟩ : ∃ c2 : Nat, ((b.pages[p].headD []).length : Int) - 1 - (col - rt) = c2 := ⟨(((b.pages[p].headD []).length : Int) - 1 - (col - rt)).toNat, by omega⟩
    have e1 : IntKind.i64.wrap (IntKind.i64.wrap (((b.pages[p].headD []).length : Int) - 1) - (col - rt)) = c2 := by rw [wrap64 (n := ((b.pages[p].headD []).length : Int) - 1) (by omega) (by omega), wrap64 (by omega) (by omega)]; exact hc2
    have hx : r' < b.pages[p].length := by omega
    have hy : c2 < b.pages[p][r'].length := by rw [ok.row hx]; omega
    have hs := strokesB_64 okg [b.pages[p][r'][c2]]
    rw [e1, hr']
    refine ⟨⟨by omega, by omega⟩, by omega, ?_⟩
    (first | refine CallsA.use (strokesOn_ok b okg p r' c2 hp hx hy (by omega)) ?_ | refine QuietCalls.use (strokesOn_ok b okg p r' c2 hp hx hy (by omega)) ?_)
    simp (implicitDefEqProofs := false) (dsimp := false) only [go_sem]
    (first | refine CallsA.use (MirrorOf_ok _) ?_ | refine QuietCalls.use (MirrorOf_ok _) ?_)
    simp (implicitDefEqProofs := false) (dsimp := false) only [go_sem]
    rw [(exch64 hs).1]
    simp only [shownB, hin, if_true, asB, Bool.false_eq_true, if_false]
    rw [hc2, hr', hch r' c2 hx hy]
end Go.Mac
namespace Go.Mac
open Go Go.Conc Go.Proofs
set_option maxRecDepth 4000
def shown2 (b : Board) (l k : Lay) (r c : Nat) : Int := orK .i64 (shownB (mapB b.glyphs) (b.pages.getD l.page.toNat []) l r c) (shownB (mapB b.glyphs) (b.pages.getD k.page.toNat []) k r c)
def setT (cs : List (List Trace)) (r c : Nat) (t : Trace) : List (List Trace) := cs.set r ((cs.getD r []).set c t)
structure shapeT (cs : List (List Trace)) (n w : Nat) : Prop where
  len : cs.length = n
  wide : ∀ row ∈ cs, row.length = w
theorem shapeT.get {cs : List (List Trace)} {n w r : Nat} (h : shapeT cs n w) (hr : r < n) : ∃ hr' : r < cs.length, cs.getD r [] = cs[r] ∧ cs[r].length = w := by
  have hr' : r < cs.length := by rw [h.len]; exact hr
  exact ⟨hr', by simp [List.getD, hr'], h.wide _ (List.getElem_mem hr')⟩
theorem shapeT.set {cs : List (List Trace)} {n w r c : Nat} {t : Trace} (h : shapeT cs n w) (hr : r < n) : shapeT (setT cs r c t) n w := by
  obtain ⟨hr', e, hw⟩ := h.get hr
  refine ⟨by simp [setT, h.len], fun row hrow => ?_⟩
  rcases List.mem_or_eq_of_mem_set hrow with hm | rfl
  · exact h.wide row hm
  · rw [List.length_set, e]; exact hw
theorem traceAt_set {cs : List (List Trace)} {n w r c r' c' : Nat} {t : Trace} (h : shapeT cs n w) (hr : r < n) (hc : c < w) : traceAt (setT cs r c t) r' c' = if r' = r ∧ c' = c then t else traceAt cs r' c' := by
  obtain ⟨hr', e, hw⟩ := h.get hr
  unfold traceAt setT
  by_cases h1 : r' = r
  · subst h1
    have h2 : (cs.set r' ((cs.getD r' []).set c t)).getD r' [] = (cs.getD r' []).set c t := by simp [List.getD, hr']
    rw [h2]
    by_cases h3 : c' = c
    · subst h3
      rw [if_pos ⟨rfl, rfl⟩, e]
      simp [List.getD, hw, hc]
    · rw [if_neg (fun q => h3 q.2)]
      simp [List.getD, List.getElem?_set_ne (Ne.symm h3)]
  · rw [if_neg (fun q => h1 q.1)]
    have h2 : (cs.set r ((cs.getD r []).set c t)).getD r' [] = cs.getD r' [] := by simp [List.getD, List.getElem?_set_ne (Ne.symm h1)]
    rw [h2]
def pressed (f : Nat → Nat → Int) (cs : List (List Trace)) (n w r c : Nat) : Prop := ∀ r' c', r' < n → c' < w → (r' < r ∨ r' = r ∧ c' < c) → okPr (f r' c') (traceAt cs r' c')
theorem pressed.step {f : Nat → Nat → Int} {cs : List (List Trace)} {n w r c : Nat} {t : Trace} (h : pressed f cs n w r c) (hs : shapeT cs n w) (hr : r < n) (hc : c < w) (ht : okPr (f r c) t) : pressed f (setT cs r c t) n w r (c + 1) := by
  intro r' c' h1 h2 h3
  rw [traceAt_set hs hr hc]
  split
  · rename_i e; rw [e.1, e.2]; exact ht
  · rename_i e; exact h r' c' h1 h2 (by omega)
theorem pressed.row {f : Nat → Nat → Int} {cs : List (List Trace)} {n w r : Nat} (h : pressed f cs n w r w) : pressed f cs n w (r + 1) 0 := fun r' c' h1 h2 h3 => h r' c' h1 h2 (by omega)
theorem cTr_set (row : List Trace) (c : Nat) (t : Trace) (h : c < row.length) : ((row.flatMap cTrace).set (c * 2) (.int .i64 t.seen)).set (c * 2 + 1) (.int .i64 t.bare) = (row.set c t).flatMap cTrace := by
  induction row generalizing c with
  | nil => simp at h
  | cons x row ih =>
    cases c with
    | zero => rfl
    | succ c =>
      rw [show (c + 1) * 2 = c * 2 + 1 + 1 by omega]
      simp only [List.flatMap_cons, cTrace, List.cons_append, List.nil_append, List.set_cons_succ]
      rw [ih c (by simpa using h)]
theorem rowB_set {cs : List (List Trace)} {r c : Nat} {t : Trace} (hr : r < cs.length) (hc : c < cs[r].length) : (cs.map rowB).set r (.cells 1 (((cs[r].flatMap cTrace).set (c * 2) (.int .i64 t.seen)).set (c * 2 + 1) (.int .i64 t.bare))) = (setT cs r c t).map rowB := by
  have e : cs.getD r [] = cs[r] := by simp [List.getD, hr]
  rw [cTr_set _ _ _ hc, setT, List.map_set, e]; rfl
theorem slsFrom_same {cs cs' : List (List Trace)} (g : Nat) : ∀ (m : Nat), cs.map List.length = cs'.map List.length → slsFrom g m cs = slsFrom g m cs' := by
  induction cs generalizing cs' with
  | nil => intro m h; cases cs' with | nil => rfl | cons a b => cases h
  | cons x cs ih =>
    intro m h
    cases cs' with
    | nil => cases h
    | cons y cs' =>
      simp only [List.map_cons, List.cons.injEq] at h
      simp only [slsFrom, h.1, ih (m + 1) h.2]
theorem shapeT.lens {cs : List (List Trace)} {n w : Nat} (h : shapeT cs n w) : cs.map List.length = List.replicate n w := by
  rw [← h.len]
  have := h.wide
  clear h
  induction cs with
  | nil => rfl
  | cons x cs ih => simp only [List.map_cons, List.length_cons, List.replicate_succ]; rw [this x (List.mem_cons_self ..), ih fun y hy => this y (List.mem_cons_of_mem _ hy)]
structure okLays (b : Board) (l : Lay) : Prop where
  p0 : 0 ≤ l.page
  p1 : l.page < b.pages.length
  d : -1000 ≤ l.down ∧ l.down ≤ 1000
  r : -1000 ≤ l.right ∧ l.right ≤ 1000
theorem okMade.shape {b : Board} (h : okMade b) : shapeT b.cells b.cells.length (b.cells.headD []).length := ⟨rfl, h.cells.wide⟩
theorem okMade.sizes {b : Board} (h : okMade b) : okSizes b := ⟨by have := h.gl.most; omega, by have := h.most; omega, fun p hp => by have := (h.page p hp).1.most; omega, by have := h.cells.most; omega, fun r hr => by have := h.cells.wide r hr; have := h.cells.wmost; omega⟩
def PressP (b : Board) (l k : Lay) (h : List Blk) (i : Nat) (e : AEnd) (h' : List Blk) : Prop :=
  ∃ cs r x a0 a1 a2 a3 a4 a5 a6 a7 z, shapeT cs b.cells.length (b.cells.headD []).length ∧ pressed (shown2 b l k) cs b.cells.length (b.cells.headD []).length b.cells.length 0 ∧ e = .ret (dupA { b with cells := cs } (h.length + 8)) ∧
    h' = h.set i (diceB r x) ++ a0 :: a1 :: a2 :: a3 :: a4 :: a5 :: a6 :: a7 :: (dupH { b with cells := cs } (h.length + 8) ++ [z])
theorem WPI.below {P : Program} {fk : FK} {its : List Item} {Q : AExit → AS → Prop} {s : AS} (h : s.hp.all (belowBlk s.hp.length) = true → WPI P fk its Q s) : WPI P fk its Q s := by
  intro main Stop b k cs base c w tmps ds h1 h2 h3 h4
  exact h (List.all_eq_true.2 fun b hb => by obtain ⟨i, hi⟩ := List.mem_iff_getElem?.1 hb; exact h3.hp.below hi) main Stop b k cs base c w tmps ds h1 h2 h3 h4
theorem belowBlk_cells (n g : Nat) (cs : List AV) : belowBlk n (.cells g cs) = belowL n cs := rfl
theorem Press_ok (b : Board) (ok : okMade b) (l k : Lay) (okl : okLays b l) (okk : okLays b k) (h : List Blk) (i : Nat) (r : Option (List Int)) (x : Int) (hi : h[i]? = some (diceB r x)) :
    CallsA Tryz.prog 104 [.ptr ⟨i, 0⟩ 0, .agg (brdA b), .agg (cLay l), .agg (cLay k)] h (PressP b l k h i) := by
  have hl : i < h.length := (List.getElem?_eq_some_iff.1 hi).1
  have hcm := ok.cells.most
  have hwm := ok.cells.wmost
  refine CallsA.of_wpe [] { shut := [53, 59], hand := [9] } 62 mixed Tryz.func104 (by kernel_rfl) rfl (by kernel_rfl) fun j hB hA => ?_; simp only [junk_succ, junk_zero, List.cons_append, List.nil_append, List.length_cons, List.length_nil, Nat.reduceAdd]
  simp (implicitDefEqProofs := false) (dsimp := false) only [go_sem, brdA, cLay]
  refine CallsA.mono (DupBoard_ok b ok.sizes _) ?_
  rintro _ _ ⟨u0, u1, u2, u3, rfl, rfl⟩
  simp (implicitDefEqProofs := false) (dsimp := false) only [go_sem, dupA, dupH]
  simp only [Nat.add_assoc, Nat.reduceAdd, List.length_map]
  refine WPI.below fun hbel => ?_
  simp only [List.all_append, List.all_cons, List.length_append, List.length_cons, List.length_map, List.length_nil, Bool.and_eq_true, Nat.zero_add, Nat.add_assoc, Nat.reduceAdd] at hbel
  obtain ⟨_, _, _, _, _, bu0, bu1, bu2, bu3, _⟩ := hbel
  have hpl : l.page.toNat < b.pages.length := by have := okl.p0; have := okl.p1; omega
  have hpk : k.page.toNat < b.pages.length := by have := okk.p0; have := okk.p1; omega
  have hsh2 : ∀ r c : Nat, orK .i64 (shownB (mapB b.glyphs) b.pages[l.page.toNat] l r c) (shownB (mapB b.glyphs) b.pages[k.page.toNat] k r c) = shown2 b l k r c := fun r c => by simp [shown2, List.getD, hpl, hpk]
  have hs64 : ∀ r c : Nat, is64 (shown2 b l k r c) := fun r c => (or64 (shownB_64 ok.gl _ _ _ _) (shownB_64 ok.gl _ _ _ _)).2
  refine WP.loopI (fun (r : Nat) s => (r ≤ b.cells.length) ∧ s.sl.length = 66 ∧ s.df = [] ∧ s.gh = {} ∧ (∃ cs d x, shapeT cs b.cells.length (b.cells.headD []).length ∧ pressed (shown2 b l k) cs b.cells.length (b.cells.headD []).length r 0 ∧ s.hp = h.set i (diceB d x) ++ .cells 0 (brdA b) :: .cells 0 (cLay l) :: .cells 0 (cLay k) :: .cells 0 z3 :: u0 :: u1 :: u2 :: u3 :: .cells b.pages.length (b.pages.flatMap cPage) :: .cells b.cells.length (slsFrom 1 (h.length + 10) b.cells) :: (cs.map rowB ++ [.cells 0 [sliceOf cGlyph b.glyphs, .sl ⟨h.length + 8, b.pages.length⟩ 1 0 b.pages.length, .sl ⟨h.length + 9, b.cells.length⟩ 1 0 b.cells.length]])) ∧ evA s.sl (.tmp 0) = .ptr ⟨i, 0⟩ 0 ∧ evA s.sl (.tmp 5) = .ptr ⟨h.length, 0⟩ 0 ∧ evA s.sl (.tmp 6) = .ptr ⟨h.length + 1, 0⟩ 0 ∧ evA s.sl (.tmp 7) = .ptr ⟨h.length + 2, 0⟩ 0 ∧ evA s.sl (.tmp 8) = .ptr ⟨h.length + 3, 0⟩ 0 ∧ evA s.sl (.tmp 9) = .ptr ⟨h.length + (b.cells.length + 10), 0⟩ 0 ∧ evA s.sl (.tmp 10) = .int .i64 r) (fun (r : Nat) => b.cells.length - r) (0) ?_ ?_
  · simp (implicitDefEqProofs := false) (dsimp := false) only [go_sem, Nat.zero_le, brdA, cLay]
    refine ⟨b.cells, r, x, ok.shape, fun r' c' _ _ q => by omega, ?_⟩
    rw [set_same hi]; rfl
  · rintro r ⟨sl, df, hp, gh⟩ ⟨ab, al, rfl, rfl, ah, a0, a5, a6, a7, a8, a9, a10⟩
    simp only at ab al ah a0 a5 a6 a7 a8 a9 a10
    obtain ⟨j, rfl⟩ := slots_lit al; clear al; simp only [junk_succ, junk_zero, evA_tmp, nth_16, nth_four, nth_one, nth_zero, Nat.zero_add, Nat.reduceAdd] at  a0 a5 a6 a7 a8 a9 a10 ⊢
    refine wp_ok (so := { shut := [53, 59], hand := [9] }) mixed _ (by kernel_rfl) ?_
    obtain ⟨cs, d, x, hsh, hpr, rfl⟩ := ah
    have hcl := hsh.len
    have hT : ∀ y : Blk, (cs.map rowB ++ [y])[b.cells.length]? = some y := fun y => by rw [← hcl, ← List.length_map (f := rowB), List.getElem?_append_right (Nat.le_refl _), Nat.sub_self]; rfl
    by_cases hr : r < b.cells.length
    · obtain ⟨hr', he, hw⟩ := hsh.get hr
      have hdr : (slsFrom 1 (h.length + 10) b.cells).drop r = .sl ⟨h.length + (r + 10), 1⟩ 2 0 (b.cells.headD []).length :: (slsFrom 1 (h.length + 10) b.cells).drop (r + 1) := by rw [slsFrom_drop 1 (h.length + 10) b.cells r hr, ok.cells.row hr, show h.length + 10 + r = h.length + (r + 10) by omega]
      have hdl : ∀ g m, (slsFrom g m b.cells).length = b.cells.length := fun g m => slsFrom_len g m _
      simp (implicitDefEqProofs := false) (dsimp := false) only [go_sem, a0, a5, a6, a7, a8, a9, a10, nat_lt hr, decide_true, get_past0, get_past, hT, hdl]
      refine WP.loopI (fun (c : Nat) s => (c ≤ (b.cells.headD []).length) ∧ s.sl.length = 66 ∧ s.df = [] ∧ s.gh = {} ∧ (∃ cs d x, shapeT cs b.cells.length (b.cells.headD []).length ∧ pressed (shown2 b l k) cs b.cells.length (b.cells.headD []).length r c ∧ s.hp = h.set i (diceB d x) ++ .cells 0 (brdA b) :: .cells 0 (cLay l) :: .cells 0 (cLay k) :: .cells 0 z3 :: u0 :: u1 :: u2 :: u3 :: .cells b.pages.length (b.pages.flatMap cPage) :: .cells b.cells.length (slsFrom 1 (h.length + 10) b.cells) :: (cs.map rowB ++ [.cells 0 [sliceOf cGlyph b.glyphs, .sl ⟨h.length + 8, b.pages.length⟩ 1 0 b.pages.length, .sl ⟨h.length + 9, b.cells.length⟩ 1 0 b.cells.length]])) ∧ evA s.sl (.tmp 0) = .ptr ⟨i, 0⟩ 0 ∧ evA s.sl (.tmp 5) = .ptr ⟨h.length, 0⟩ 0 ∧ evA s.sl (.tmp 6) = .ptr ⟨h.length + 1, 0⟩ 0 ∧ evA s.sl (.tmp 7) = .ptr ⟨h.length + 2, 0⟩ 0 ∧ evA s.sl (.tmp 8) = .ptr ⟨h.length + 3, 0⟩ 0 ∧ evA s.sl (.tmp 9) = .ptr ⟨h.length + (b.cells.length + 10), 0⟩ 0 ∧ evA s.sl (.tmp 10) = .int .i64 r ∧ evA s.sl (.tmp 11) = .int .i64 c) (fun (c : Nat) => (b.cells.headD []).length - c) (0) ?_ ?_
      · simp (implicitDefEqProofs := false) (dsimp := false) only [go_sem, Nat.zero_le]
        exact ⟨cs, d, x, hsh, hpr, rfl⟩
      · rintro c ⟨sl, df, hp, gh⟩ ⟨eb, el, rfl, rfl, eh, e0, e5, e6, e7, e8, e9, e10, e11⟩
        simp only at eb el eh e0 e5 e6 e7 e8 e9 e10 e11
        obtain ⟨j, rfl⟩ := slots_lit el; clear el; simp only [junk_succ, junk_zero, evA_tmp, nth_16, nth_four, nth_one, nth_zero, Nat.zero_add, Nat.reduceAdd] at  e0 e5 e6 e7 e8 e9 e10 e11 ⊢
        refine wp_ok (so := { shut := [53, 59], hand := [9] }) mixed _ (by kernel_rfl) ?_
        obtain ⟨cs, d, x, hsh, hpr, rfl⟩ := eh
        have hcl := hsh.len
        obtain ⟨hr', he, hw⟩ := hsh.get hr
        have hT : ∀ y : Blk, (cs.map rowB ++ [y])[b.cells.length]? = some y := fun y => by rw [← hcl, ← List.length_map (f := rowB), List.getElem?_append_right (Nat.le_refl _), Nat.sub_self]; rfl
        have hR : ∀ y : Blk, (cs.map rowB ++ [y])[r]? = some (.cells 1 (cs[r].flatMap cTrace)) := fun y => by rw [List.getElem?_append_left (by rw [List.length_map]; exact hr'), List.getElem?_map, List.getElem?_eq_getElem hr']; rfl
        have hS : ∀ (y z : Blk), (cs.map rowB ++ [y]).set r z = (cs.map rowB).set r z ++ [y] := fun y z => List.set_append_left _ _ (by rw [List.length_map]; exact hr')
        by_cases hc : c < (b.cells.headD []).length
        · simp (implicitDefEqProofs := false) (dsimp := false) only [go_sem, e0, e5, e6, e7, e8, e9, e10, e11, nat_lt hr, nat_lt hc, decide_true, get_past0, get_past, hT, hR, hdl, hdr, brdA, cLay, z3]
          (first | refine CallsA.use (ShownOn_ok b ok.gl l r c l.page.toNat (by have := okl.p0; omega) hpl (ok.page _ (List.getElem_mem hpl)).1 (by omega) (by omega) okl.d okl.r) ?_ | refine QuietCalls.use (ShownOn_ok b ok.gl l r c l.page.toNat (by have := okl.p0; omega) hpl (ok.page _ (List.getElem_mem hpl)).1 (by omega) (by omega) okl.d okl.r) ?_)
          simp (implicitDefEqProofs := false) (dsimp := false) only [go_sem, get_past0, get_past]
          (first | refine CallsA.use (ShownOn_ok b ok.gl k r c k.page.toNat (by have := okk.p0; omega) hpk (ok.page _ (List.getElem_mem hpk)).1 (by omega) (by omega) okk.d okk.r) ?_ | refine QuietCalls.use (ShownOn_ok b ok.gl k r c k.page.toNat (by have := okk.p0; omega) hpk (ok.page _ (List.getElem_mem hpk)).1 (by omega) (by omega) okk.d okk.r) ?_)
          simp (implicitDefEqProofs := false) (dsimp := false) only [go_sem, get_past0, get_past, hsh2]
          obtain ⟨_, d1, x1, ⟨v1, rfl, hv1⟩, q1⟩ := To_det d x 63 (by omega)
          obtain ⟨_, d2, x2, ⟨v2, hm2, rfl⟩, q2⟩ := One_det d1 x1 [0, 63, (v1 : Int)] (by simp) (by simp)
          obtain ⟨_, d3, x3, ⟨v3, rfl, hv3⟩, q3⟩ := To_det d2 x2 63 (by omega)
          obtain ⟨_, d4, x4, ⟨v4, hm4, rfl⟩, q4⟩ := One_det d3 x3 [0, 0, (v3 : Int)] (by simp) (by simp)
          refine WP.noisy (so := { shut := [53, 59], }) 21 [9, 11, 15, 17] [0, 0, 0, 0, 0, 0, 0, 0, 0, 0, 1, 0, 2, 0, 0, 0, 3, 0, 0, 4, 4] [4, 4, 4, 4, 4, 4, 4, 1, 0, 0, 1, 0, 4, 3, 2, 0, 3, 0, 4, 4, 4] ((fun T => [h.set i (diceB d x) ++ T, h.set i (diceB d1 x1) ++ T, h.set i (diceB d2 x2) ++ T, h.set i (diceB d3 x3) ++ T, h.set i (diceB d4 x4) ++ T]) _) rfl mixed (by kernel_rfl) (by kernel_rfl) (by decide) (by kernel_rfl) rfl ?_
          simp (implicitDefEqProofs := false) (dsimp := false) only [go_sem, get_past0, get_past, hT, hR, hdl, hdr, nat_lt hr]
          refine turn_use hl (fun h hi => q1 h i hi) ?_
          simp (implicitDefEqProofs := false) (dsimp := false) only [go_sem]
          refine turn_use hl (fun h hi => q2 h i hi) ?_
          simp (implicitDefEqProofs := false) (dsimp := false) only [go_sem]
          refine turn_use hl (fun h hi => q3 h i hi) ?_
          simp (implicitDefEqProofs := false) (dsimp := false) only [go_sem]
          refine turn_use hl (fun h hi => q4 h i hi) ?_
          simp (implicitDefEqProofs := false) (dsimp := false) only [go_sem, get_past0, get_past, set_past0, set_past, hT, hR, hS, hdl, hdr, nat_lt hr, nat_lt hc]
          have h2 : is64 v2 := by unfold is64; simp at hm2; omega
          have h4 : is64 v4 := by unfold is64; simp at hm4; omega
          have hset := rowB_set (t := ⟨andK .i64 (shown2 b l k r c) v2, andNotK .i64 v4 (shown2 b l k r c)⟩) hr' (by rw [hw]; exact hc)
          simp only at hset
          refine ⟨by rw [length_rows cTrace_len, hw]; omega, c + 1, ⟨by omega, ⟨_, d4, x4, hsh.set hr, hpr.step hsh hr hc (okPr.of (hs64 r c) h2 h4), ?_⟩, wrap_succ (by omega)⟩, by omega⟩
          rw [hset]; rfl
        · have hs : ((c : Int) < ((b.cells.headD []).length : Int)) = False := eq_false (by omega)
          have e : c = (b.cells.headD []).length := by omega
          subst e
          simp (implicitDefEqProofs := false) (dsimp := false) only [go_sem, e0, e5, e6, e7, e8, e9, e10, e11, nat_lt hr, hs, decide_false, get_past0, get_past, hT, hR, hdl, hdr]
          exact ⟨r + 1, ⟨by omega, ⟨cs, d, x, hsh, hpr.row, rfl⟩, wrap_succ (by omega)⟩, by omega⟩
    · have hs : ((r : Int) < (b.cells.length : Int)) = False := eq_false (by omega)
      have e : r = b.cells.length := by omega
      subst e
      simp (implicitDefEqProofs := false) (dsimp := false) only [go_sem, a0, a5, a6, a7, a8, a9, a10, hs, decide_false, get_past0, get_past, set_past, hT, z3]
      have tk : ∀ (A B C D E F G H I J K : Blk), List.take (h.length + (b.cells.length + 11)) (h.set i (diceB d x) ++ A :: B :: C :: D :: E :: F :: G :: H :: I :: J :: (cs.map rowB ++ [K])) = h.set i (diceB d x) ++ A :: B :: C :: D :: E :: F :: G :: H :: I :: J :: (cs.map rowB ++ [K]) := fun A B C D E F G H I J K => List.take_of_length_le (by simp [hcl])
      have hsame := slsFrom_same 1 (h.length + 10) (hsh.lens.trans ok.shape.lens.symm)
      have hbl := belowL_mono (Nat.zero_le (h.length + (b.cells.length + 11))) _ (slices_below b)
      simp only [belowL, sliceOf, below, Bool.and_eq_true] at hbl
      have tk2 : ∀ (A B C D E F G H K : Blk), List.take (h.length + (b.cells.length + 11)) (h.set i (diceB d x) ++ A :: B :: C :: D :: E :: F :: G :: H :: .cells b.pages.length (b.pages.flatMap cPage) :: .cells b.cells.length (slsFrom 1 (h.length + 10) b.cells) :: (cs.map rowB ++ [K])) = h.set i (diceB d x) ++ A :: B :: C :: D :: E :: F :: G :: H :: (dupH { b with cells := cs } (h.length + 8) ++ [K]) := fun A B C D E F G H K => by rw [tk, dupH, hcl, ← hsame]; rfl
      refine ⟨_, h.length + (b.cells.length + 11), rfl, by omega, ?_, ?_, cs, d, x, _, _, _, _, _, _, _, _, _, hsh, hpr, ?_, tk2 _ _ _ _ _ _ _ _ _⟩
      · simp [below, belowL, hbl]
      · rw [tk, List.all_append, all_set (allBelow_mono (by omega) hB) (diceB_below _ _ _)]
        have hsb := slsFrom_below 1 (n := h.length + (b.cells.length + 11)) (h.length + 10) b.cells (by omega)
        simp [belowBlk_cells, belowL, below, hbl, hsb, bu0, bu1, bu2, bu3, cLay, brdA, sliceOf]
        exact fun x _ => rowB_below _ x
      · simp only [dupA, sliceOf, hcl]
end Go.Mac
namespace Go.Mac
open Go Go.Conc Go.Proofs
set_option maxRecDepth 4000
theorem set_at {α : Type} {l m : List α} {a b : α} {k : Nat} (h : l.length = k) : (l ++ a :: m).set k b = l ++ b :: m := by
  subst h; rw [List.set_append_right _ _ (Nat.le_refl _), Nat.sub_self]; rfl
theorem Turns.rows {n0 g : Nat} {sl : List AV} {df : List ADef} {gh : Gst} {A Z : List Blk} : ∀ (todo done : List (List Trace)),
    Turns n0 ⟨sl, df, A ++ .cells g (done.flatMap cTraces ++ slsFrom 1 (A.length + 1 + done.length) todo) :: (List.replicate done.length .dead ++ (todo.map rowB ++ Z)), gh⟩
      ⟨sl, df, A ++ .cells g ((done ++ todo).flatMap cTraces) :: (List.replicate (done ++ todo).length .dead ++ Z), gh⟩
  | [], done => by simp only [slsFrom, List.append_nil, List.map_nil, List.nil_append]; exact Turns.refl
  | r :: todo, done => by
    have hdl : (done.flatMap cTraces).length = done.length := cells_len1 done
    have e1 : (A ++ Blk.cells g (done.flatMap cTraces ++ slsFrom 1 (A.length + 1 + done.length) (r :: todo)) :: (List.replicate done.length Blk.dead ++ ((r :: todo).map rowB ++ Z)))[A.length]? = some (.cells g (done.flatMap cTraces ++ slsFrom 1 (A.length + 1 + done.length) (r :: todo))) := by
      rw [List.getElem?_append_right (Nat.le_refl _), Nat.sub_self]; rfl
    have e2 : (done.flatMap cTraces ++ slsFrom 1 (A.length + 1 + done.length) (r :: todo))[done.length]? = some (.sl ⟨A.length + 1 + done.length, 1⟩ 2 0 r.length) := by
      rw [List.getElem?_append_right (by omega), hdl, Nat.sub_self]; rfl
    have e3 : (A ++ Blk.cells g (done.flatMap cTraces ++ slsFrom 1 (A.length + 1 + done.length) (r :: todo)) :: (List.replicate done.length Blk.dead ++ ((r :: todo).map rowB ++ Z)))[A.length + 1 + done.length]? = some (rowB r) := by
      rw [List.getElem?_append_right (by omega), show A.length + 1 + done.length - A.length = done.length + 1 by omega, List.getElem?_cons_succ, List.getElem?_append_right (by simp), List.length_replicate, Nat.sub_self]; rfl
    refine Turns.trans (Turns.seal_cell (a' := sliceOf cTrace r) e1 e2 (by simp only [sealV, e3, rowB, if_true, List.drop_zero, sliceOf]; rw [List.take_of_length_le (by rw [length_rows cTrace_len]; exact Nat.le_refl _)]) (by simp only [nmOf]; omega)) ?_
    have := Turns.rows (n0 := n0) (g := g) (sl := sl) (df := df) (gh := gh) (A := A) (Z := Z) todo (done ++ [r])
    have e4 : ((A ++ Blk.cells g (done.flatMap cTraces ++ slsFrom 1 (A.length + 1 + done.length) (r :: todo)) :: (List.replicate done.length Blk.dead ++ ((r :: todo).map rowB ++ Z))).set (nmOf (.sl ⟨A.length + 1 + done.length, 1⟩ 2 0 r.length)) .dead).set A.length (.cells g ((done.flatMap cTraces ++ slsFrom 1 (A.length + 1 + done.length) (r :: todo)).set done.length (sliceOf cTrace r))) =
        A ++ .cells g ((done ++ [r]).flatMap cTraces ++ slsFrom 1 (A.length + 1 + (done ++ [r]).length) todo) :: (List.replicate (done ++ [r]).length .dead ++ (todo.map rowB ++ Z)) := by
      simp only [nmOf, slsFrom, List.map_cons, List.cons_append]
      rw [show A ++ Blk.cells g (done.flatMap cTraces ++ AV.sl ⟨A.length + 1 + done.length, 1⟩ 2 0 r.length :: slsFrom 1 (A.length + 1 + done.length + 1) todo) :: (List.replicate done.length Blk.dead ++ rowB r :: (todo.map rowB ++ Z)) = (A ++ Blk.cells g (done.flatMap cTraces ++ AV.sl ⟨A.length + 1 + done.length, 1⟩ 2 0 r.length :: slsFrom 1 (A.length + 1 + done.length + 1) todo) :: List.replicate done.length Blk.dead) ++ rowB r :: (todo.map rowB ++ Z) by simp]
      rw [set_at (by simp; omega), set_at hdl, show (A ++ Blk.cells g (done.flatMap cTraces ++ AV.sl ⟨A.length + 1 + done.length, 1⟩ 2 0 r.length :: slsFrom 1 (A.length + 1 + done.length + 1) todo) :: List.replicate done.length Blk.dead) ++ Blk.dead :: (todo.map rowB ++ Z) = A ++ Blk.cells g (done.flatMap cTraces ++ AV.sl ⟨A.length + 1 + done.length, 1⟩ 2 0 r.length :: slsFrom 1 (A.length + 1 + done.length + 1) todo) :: (List.replicate done.length Blk.dead ++ Blk.dead :: (todo.map rowB ++ Z)) by simp, set_at rfl]
      simp only [List.length_append, List.length_singleton, List.flatMap_append, List.flatMap_cons, List.flatMap_nil, cTraces, List.append_nil, List.append_assoc, List.cons_append, List.nil_append, Nat.add_assoc]
      rw [List.replicate_succ']
      simp
    rw [e4]
    rw [List.append_assoc] at this
    exact this
structure okMadeN (b : Board) (ng np nr nc : Nat) : Prop where
  made : okMade b
  gl : b.glyphs.length ≤ ng
  pl : b.pages.length ≤ np
  rows : ∀ p ∈ b.pages, p.length ≤ nr ∧ (p.headD []).length ≤ nc
theorem okLay.lays {l : Lay} {b : Board} (h : okLay l b.pages.length) : okLays b l := ⟨h.p0, h.p1, by have := h.d; omega, by have := h.r; omega⟩
theorem BlankP.pure {h : List Blk} {i ng np nr nc : Nat} {e : AEnd} {h' : List Blk} (q : BlankP false h i ng np nr nc e h') : ∃ b r x, okBlank b ng np nr nc ∧ e = .ret (.agg (brdA b)) ∧ h' = h.set i (diceB r x) := q
theorem n13 (n : Nat) : n + 12 + 1 = n + 13 := rfl
theorem n14 (n : Nat) : n + 12 + 2 = n + 14 := rfl
theorem cut13 {l T : List Blk} {b1 b2 b3 b4 b5 b6 b7 b8 b9 b10 b11 b12 b13 x : Blk} : l ++ b1 :: b2 :: b3 :: b4 :: b5 :: b6 :: b7 :: b8 :: b9 :: b10 :: b11 :: b12 :: b13 :: x :: T = (l ++ [b1, b2, b3, b4, b5, b6, b7, b8, b9, b10, b11, b12, b13]) ++ x :: T := by simp
theorem WPI.rows {P : Program} {fk : FK} {its : List Item} {Q : AExit → AS → Prop} {g m : Nat} {sl : List AV} {df : List ADef} {gh : Gst} {A Z : List Blk} {cs : List (List Trace)} (hA : A.length + 1 = m)
    (h : WPI P fk its Q ⟨sl, df, A ++ .cells g (cs.flatMap cTraces) :: (List.replicate cs.length .dead ++ Z), gh⟩) : WPI P fk its Q ⟨sl, df, A ++ .cells g (slsFrom 1 m cs) :: (cs.map rowB ++ Z), gh⟩ := by
  subst hA
  exact WPI.turn (Turns.rows (A := A) (Z := Z) cs []) h
theorem extra_ok {v w : Int} (h1 : v ∈ [1, 2, 4, 8, 16]) (h2 : w ∈ [0, 32]) : traceErr ⟨v, w⟩ = 0 := by
  simp only [List.mem_cons, List.mem_nil_iff, or_false] at h1 h2
  rcases h1 with rfl | rfl | rfl | rfl | rfl <;> rcases h2 with rfl | rfl <;> decide
theorem okMade.cells2 {b : Board} (h : okMade b) {cs : List (List Trace)} (hs : shapeT cs b.cells.length (b.cells.headD []).length) (ht : ∀ r' c', r' < b.cells.length → c' < (b.cells.headD []).length → traceErr (traceAt cs r' c') = 0) : okMade { b with cells := cs } := by
  have h0 := h.cells.pos
  have hl := hs.len
  have hd : (cs.headD []).length = (b.cells.headD []).length := by rw [headD_get (show 0 < cs.length by omega)]; exact hs.wide _ (List.getElem_mem _)
  refine ⟨h.gl, h.pos, h.most, h.page, ⟨by simp only; omega, by have := h.cells.most; simp only; omega, fun row hr => by simp only; rw [hd]; exact hs.wide row hr, by simp only; rw [hd]; exact h.cells.wpos, by simp only; rw [hd]; exact h.cells.wmost⟩, ?_⟩
  intro row hr t htm
  simp only at hr
  obtain ⟨i, hi, rfl⟩ := List.mem_iff_getElem.1 hr
  obtain ⟨j, hj, rfl⟩ := List.mem_iff_getElem.1 htm
  have hw := hs.wide _ (List.getElem_mem hi)
  rw [← traceAt_eq hi hj]
  exact ht i j (by omega) (by omega)
theorem BoardOf_ok (h : List Blk) (i : Nat) (r : Option (List Int)) (x : Int) (ng np nr nc : Nat) (hg : 0 < ng ∧ ng ≤ 6) (hp : 0 < np ∧ np ≤ 4) (hr : 0 < nr ∧ nr ≤ 3) (hc : 0 < nc ∧ nc ≤ 4) (hi : h[i]? = some (diceB r x)) :
    Rolls 54 [.ptr ⟨i, 0⟩ 0, .int .i64 ng, .int .i64 np, .int .i64 nr, .int .i64 nc] h i fun a => ∃ b, a = .agg (brdA b) ∧ okMadeN b ng np nr nc := by
  have hl : i < h.length := (List.getElem?_eq_some_iff.1 hi).1
  unfold Rolls
  refine CallsA.of_wpe [] { shut := [62, 65], hand := [6, 9, 10] } 65 mixed Tryz.func54 (by kernel_rfl) rfl (by kernel_rfl) fun j hB hA => ?_; simp only [junk_succ, junk_zero, List.cons_append, List.nil_append, List.length_cons, List.length_nil, Nat.reduceAdd]
  simp (implicitDefEqProofs := false) (dsimp := false) only [go_sem]
  refine CallsA.mono (BlankOf_walk false _ i r x ng np nr nc hg hp hr hc (get_left hi)) ?_
  intro e1 h1 q1
  obtain ⟨b, r, x, okb, rfl, rfl⟩ := q1.pure
  rw [set_left hl]
  simp (implicitDefEqProofs := false) (dsimp := false) only [go_sem, brdA, get_past0, set_past0, get_past, set_past]
  refine Rolls.use (LayOf_ok _ i r x b.pages.length (by have := okb.made.most; omega) okb.made.pos (get_ahead hl)) ?_
  rintro _ r x ⟨l, rfl, okl⟩
  rw [set_ahead hl]
  simp (implicitDefEqProofs := false) (dsimp := false) only [go_sem, cLay, get_past0, set_past0, get_past, set_past]
  refine Rolls.use (Once_ok _ i r x 4 (by omega) (by omega) (get_ahead hl)) ?_
  rintro _ r x ⟨t, rfl⟩
  rw [set_ahead hl]
  simp (implicitDefEqProofs := false) (dsimp := false) only [go_sem, cLay, get_past0, set_past0, get_past, set_past]
  have hpos := okb.made.pos
  have hmost := okb.made.most
  have hcm := okb.made.cells.most
  have hcp := okb.made.cells.pos
  have hwm := okb.made.cells.wmost
  have hwp := okb.made.cells.wpos
  refine ⟨fun _ => ?A, fun _ => ?B⟩
  case' A =>
    refine Rolls.use (LayOf_ok _ i r x b.pages.length (by omega) hpos (get_ahead hl)) ?_
    rintro _ r x ⟨k, rfl, okk⟩
    rw [set_ahead hl]
    simp (implicitDefEqProofs := false) (dsimp := false) only [go_sem, cLay, get_past0, set_past0, get_past, set_past]
  case' B =>
    have okk := okl
  all_goals
    refine wp_shut [] (so := { shut := [62, 65], }) mixed _ (by kernel_rfl) ?_
    simp (implicitDefEqProofs := false) (dsimp := false) only [go_sem, cLay, get_past0, set_past0, get_past, set_past]
    refine CallsA.mono (Press_ok b okb.made _ _ okl.lays okk.lays _ i r x (get_ahead hl)) ?_
    rintro _ _ ⟨cs, r, x, a0, a1, a2, a3, a4, a5, a6, a7, z, hsh, hpr, rfl, rfl⟩
    rw [set_ahead hl]
    have hcl := hsh.len
    simp only [List.append_assoc, List.cons_append, List.nil_append, List.length_append, List.length_set, List.length_cons, List.length_nil, Nat.zero_add, Nat.add_assoc, Nat.reduceAdd]
    simp (implicitDefEqProofs := false) (dsimp := false) only [go_sem, dupA, dupH, get_past0, set_past0, get_past, set_past, n13, n14]
    refine Rolls.use (Once_ok _ i r x 3 (by omega) (by omega) (get_ahead hl)) ?_
    rintro _ r x ⟨t, rfl⟩
    rw [set_ahead hl]
    have hw1 : IntKind.i64.wrap ((b.cells.length : Int) - 1) = (b.cells.length : Int) - 1 := wrap64 (by omega) (by omega)
    simp (implicitDefEqProofs := false) (dsimp := false) only [go_sem, get_past0, set_past0, get_past, set_past, slsFrom_len, hcl, hw1]
    have htr : ∀ r' c', r' < b.cells.length → c' < (b.cells.headD []).length → traceErr (traceAt cs r' c') = 0 := fun r' c' h1 h2 => (hpr r' c' h1 h2 (by omega)).err
    refine ⟨fun _ => ?_, fun _ => ?_⟩
    refine Rolls.use (To_ok _ i r x _ (by omega) (get_ahead hl)) ?_
    rintro _ r x ⟨v, rfl, hv⟩
    rw [set_ahead hl]
    have hvc : v < b.cells.length := by omega
    obtain ⟨hv', he, hw⟩ := hsh.get hvc
    have hR : ∀ y : Blk, (cs.map rowB ++ [y])[v]? = some (.cells 1 (cs[v].flatMap cTrace)) := fun y => by rw [List.getElem?_append_left (by rw [List.length_map]; exact hv'), List.getElem?_map, List.getElem?_eq_getElem hv']; rfl
    have hS : ∀ (y z : Blk), (cs.map rowB ++ [y]).set v z = (cs.map rowB).set v z ++ [y] := fun y z => List.set_append_left _ _ (by rw [List.length_map]; exact hv')
    have hdr : (slsFrom 1 (h.length + 14) cs).drop v = .sl ⟨h.length + (v + 14), 1⟩ 2 0 (b.cells.headD []).length :: (slsFrom 1 (h.length + 14) cs).drop (v + 1) := by rw [slsFrom_drop 1 (h.length + 14) cs v hv', hw, show h.length + 14 + v = h.length + (v + 14) by omega]
    have hdl : ∀ g m, (slsFrom g m cs).length = b.cells.length := fun g m => by rw [slsFrom_len, hcl]
    have hw2 : IntKind.i64.wrap (((b.cells.headD []).length : Int) - 1) = ((b.cells.headD []).length : Int) - 1 := wrap64 (by omega) (by omega)
    simp (implicitDefEqProofs := false) (dsimp := false) only [go_sem]
    obtain ⟨_, d1, x1, ⟨v1, rfl, hv1⟩, q1⟩ := To_det r x (((b.cells.headD []).length : Int) - 1) (by omega)
    obtain ⟨_, d2, x2, ⟨v2, hm2, rfl⟩, q2⟩ := One_det d1 x1 [1, 2, 4, 8, 16] (by simp) (by simp)
    obtain ⟨_, d3, x3, ⟨v3, hm3, rfl⟩, q3⟩ := One_det d2 x2 [0, 32] (by simp) (by simp)
    have hv1c : v1 < (b.cells.headD []).length := by omega
    refine WP.noisy (so := { shut := [62, 65], }) 21 [13, 16, 19] [0, 0, 0, 0, 0, 0, 0, 0, 0, 0, 0, 0, 0, 0, 0, 0, 0, 0, 0, 0, 3] [3, 3, 3, 3, 3, 0, 0, 0, 0, 0, 0, 0, 0, 0, 1, 1, 0, 2, 2, 0, 3] ((fun T => [h.set i (diceB r x) ++ T, h.set i (diceB d1 x1) ++ T, h.set i (diceB d2 x2) ++ T, h.set i (diceB d3 x3) ++ T]) _) rfl mixed (by kernel_rfl) (by kernel_rfl) (by decide) (by kernel_rfl) rfl ?_
    simp (implicitDefEqProofs := false) (dsimp := false) only [go_sem, get_past0, get_past, hR, hdl, hdr, nat_lt hvc, hw2]
    refine turn_use hl (fun h hi => q1 h i hi) ?_
    simp (implicitDefEqProofs := false) (dsimp := false) only [go_sem]
    refine turn_use hl (fun h hi => q2 h i hi) ?_
    simp (implicitDefEqProofs := false) (dsimp := false) only [go_sem]
    refine turn_use hl (fun h hi => q3 h i hi) ?_
    simp (implicitDefEqProofs := false) (dsimp := false) only [go_sem, get_past0, get_past, set_past0, set_past, hR, hS, hdl, hdr, nat_lt hvc, nat_lt hv1c]
    have hset := rowB_set (t := ⟨v2, v3⟩) hv' (show v1 < cs[v].length by rw [hw]; exact hv1c)
    simp only at hset
    rw [hset]
    refine ⟨by rw [length_rows cTrace_len, hw]; omega, ?_⟩
    have hs2 := hsh.set (c := v1) (t := ⟨v2, v3⟩) hvc
    have ht2 : ∀ r' c', r' < b.cells.length → c' < (b.cells.headD []).length → traceErr (traceAt (setT cs v v1 ⟨v2, v3⟩) r' c') = 0 := fun r' c' h1 h2 => by
      rw [traceAt_set hsh hvc hv1c]
      split
      · exact extra_ok hm2 hm3
      · exact htr r' c' h1 h2
    rw [slsFrom_same 1 (h.length + 14) (hsh.lens.trans hs2.lens.symm)]
    generalize setT cs v v1 ⟨v2, v3⟩ = cs2 at hs2 ht2 ⊢
    generalize hD : diceB d3 x3 = D
    rotate_left
    have hs2 := hsh
    have ht2 := htr
    obtain ⟨cs2, rfl⟩ : ∃ c, c = cs := ⟨cs, rfl⟩
    generalize hD : diceB r x = D
    all_goals
      have hcl2 := hs2.len
      rw [cut13]
      refine WPI.rows (by simp) ?_
      simp only [List.append_assoc, List.cons_append, List.nil_append]
      have hct : (cs2.flatMap cTraces).take b.cells.length = cs2.flatMap cTraces := List.take_of_length_le (by rw [cells_len1]; omega)
      have hpt : (b.pages.flatMap cPage).take b.pages.length = b.pages.flatMap cPage := List.take_of_length_le (by rw [cPage_len1]; exact Nat.le_refl _)
      refine WPI.turn (Turns.seal_cell (i := h.length + 1) (g := 0) (j := 2) (a := .sl ⟨h.length + 13, b.cells.length⟩ 1 0 b.cells.length) (a' := sliceOf cTraces cs2) (by simp only; rw [get_past]; rfl) rfl (by simp only [sealV]; rw [get_past]; simp [sliceOf, hct, hcl2]) (by simp [nmOf])) ?_
      simp only [nmOf, set_past, List.set_cons_succ, List.set_cons_zero]
      refine WPI.turn (Turns.seal_cell (i := h.length + 1) (g := 0) (j := 1) (a := .sl ⟨h.length + 12, b.pages.length⟩ 1 0 b.pages.length) (a' := sliceOf cPage b.pages) (by simp only; rw [get_past]; rfl) rfl (by simp only [sealV]; rw [get_past]; simp [sliceOf, hpt]) (by simp [nmOf])) ?_
      simp only [nmOf, set_past, List.set_cons_succ, List.set_cons_zero]
      refine wp_shut [] (so := { shut := [62, 65], }) mixed _ (by kernel_rfl) ?_
      simp (implicitDefEqProofs := false) (dsimp := false) only [go_sem, get_past0, get_past, set_past0, set_past]
      subst hD
      have hm2 := okb.made.cells2 hs2 ht2
      exact rolls_endK hB (below_mono (Nat.zero_le _) _ (brdA_belowA { b with cells := cs2 })) ⟨{ b with cells := cs2 }, rfl, hm2, okb.gl, okb.pl, okb.rows⟩
end Go.Mac

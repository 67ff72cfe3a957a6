/- A part of the logic and of the contracts of the functions that the statement reaches; the statement itself is proved in the last text. -/
import Derived.Test.YtdioclckllbhpaaGreatLibMacH

set_option linter.all false
set_option linter.unusedVariables false
set_option linter.unusedSimpArgs false
set_option linter.unnecessarySimpa false
namespace Go.Mac
open Go Go.Conc
def fillA (place : Nat → Option (Nat × Nat)) (cells : List AV) : List (Nat × AV) → Option (List AV)
  | [] => some cells
  | (i, v) :: rest =>
    match place i, valCells v with
    | some (off, size), some cs => if cs.length = size ∧ off + cs.length ≤ cells.length then fillA place (setMany cells off cs) rest else none
    | _, _ => none
theorem foldl_setMany (off : Nat) : ∀ (l : List Value) (k : Nat) (cs : Array Value),
    (l.zipIdx k).foldl (fun cs (x : Value × Nat) => cs.setIfInBounds (off + x.2) x.1) cs = (Mac.setMany cs.toList (off + k) l).toArray
  | [], k, cs => by simp [Mac.setMany]
  | v :: l, k, cs => by
    simp only [List.zipIdx_cons, List.foldl_cons, Mac.setMany]
    rw [foldl_setMany off l (k + 1)]
    simp [Nat.add_assoc]
def VRP (c : Cx) : List (Nat × AV) → List (Nat × Value) → Prop
  | [], l => l = []
  | (i, a) :: as, l => ∃ v vs, l = (i, v) :: vs ∧ VR c a v ∧ VRP c as vs
theorem fill_ok {c : Cx} {place : Nat → Option (Nat × Nat)} : ∀ {parts : List (Nat × AV)} {vs : List (Nat × Value)} {cells out : List AV} {L : List Value}, fillA place cells parts = some out → VRL c cells L → VRP c parts vs →
    ∃ out', Instr.fill place L.toArray vs = some out' ∧ VRL c out out'.toList
  | [], _, cells, out, L, h, hL, hv => by
    cases hv
    cases h
    exact ⟨_, rfl, hL⟩
  | (i, a) :: parts, _, cells, out, L, h, hL, hv => by
    obtain ⟨v, vs, rfl, h1, h2⟩ := hv
    simp only [fillA] at h
    split at h
    · rename_i off size cs hp hc
      split at h
      · rename_i hcond
        have hcs := VR_cells hc h1
        have hlen : v.cells.size = cs.length := by have := hcs.length; simpa using this
        have hll := hL.length
        obtain ⟨out', e, r⟩ := fill_ok h (hcs.setAll hL) h2
        refine ⟨out', ?_, r⟩
        simp only [Instr.fill, hp]
        have hn : (v.cells.size ≠ size || decide (off + v.cells.size > L.toArray.size)) = false := by
          simp only [hlen, hcond.1, ne_eq, not_true_eq_false, decide_false, Bool.false_or, decide_eq_false_iff_not, List.size_toArray]
          have := hcond.2; omega
        rw [if_neg (by simpa using hn)]
        have e1 : (v.cells.zipIdx.foldl (fun cs (x : Value × Nat) => cs.setIfInBounds (off + x.2) x.1) L.toArray) = (Mac.setMany L off v.cells.toList).toArray := by
          rw [← Array.foldl_toList, Array.toList_zipIdx]
          have := foldl_setMany off v.cells.toList 0 L.toArray
          simpa using this
        show Instr.fill place (v.cells.zipIdx.foldl (fun cs (x : Value × Nat) => cs.setIfInBounds (off + x.2) x.1) L.toArray) vs = some out'
        rw [e1]
        exact e
      · cases h
    · cases h
theorem VRL_map_range {c : Cx} {f : Nat → AV} {g : Nat → Value} : ∀ (n : Nat), (∀ j, j < n → VR c (f j) (g j)) → VRL c ((List.range n).map f) ((List.range n).map g)
  | 0, _ => rfl
  | n + 1, h => by
    rw [List.range_succ, List.map_append, List.map_append]
    exact (VRL_map_range n fun j hj => h j (by omega)).append ⟨_, _, rfl, h n (by omega), rfl⟩
def zeroRow (z : List AV) (n : Nat) : List AV := (List.range n).map fun j => z.getD (j % z.length) .any
theorem VRL_zeroRow (c : Cx) (Z : Array Value) (n : Nat) : VRL c (zeroRow (Z.toList.map constA) n) ((Array.range n).map (Z[· % Z.size]!)).toList := by
  simp only [zeroRow, Array.toList_map, Array.toList_range, List.length_map, Array.length_toList]
  refine VRL_map_range n fun j _ => ?_
  by_cases hz : Z.size = 0
  · have : Z = #[] := Array.eq_empty_of_size_eq_zero hz
    subst this
    simp [List.getD, VR]
  · have hlt : j % Z.size < Z.size := Nat.mod_lt _ (by omega)
    have e1 : (Z.toList.map constA).getD (j % Z.size) .any = constA Z[j % Z.size] := by simp [List.getD, hlt]
    have e2 : Z[j % Z.size]! = Z[j % Z.size] := by simp [hlt]
    rw [e1, e2]
    exact VR_constA c _
@[simp] theorem zeroRow_one (v : AV) (n : Nat) : zeroRow [v] n = List.replicate n v := by
  apply List.ext_getElem
  · simp [zeroRow]
  · intro i h1 h2; simp [zeroRow, Nat.mod_one, List.getD]
@[simp] theorem zeroRow_length (z : List AV) (n : Nat) : (zeroRow z n).length = n := by simp [zeroRow]
section
variable {P : Program} {c : Cx} {w : World} {h : List Blk} {K : AV → List Blk → Prop}
def placesA (P : Program) : List Field → Option (List (Nat × Nat))
  | [] => some []
  | f :: fs => match tyT P f.type, placesA P fs with
    | some t, some l => some ((f.offset, t.sz) :: l)
    | _, _ => none
theorem ok_places {n0 : Nat} : ∀ {fs : List Field} {l : List (Nat × Nat)}, placesA P fs = some l → Ok P c n0 (fs.mapM fun f => do pure (f.offset, ← sizeOf f.type)) w (fun r => r = .ok l w)
  | [], l, h => by cases h; simp only [List.mapM_nil]; exact ok_pure rfl
  | f :: fs, l, h => by
    simp only [placesA] at h
    split at h
    · rename_i t l' ht hl
      cases h
      obtain ⟨i, h1, h2, h3, _⟩ := tyT_some ht
      simp only [List.mapM_cons]
      refine Ok.then (a := (f.offset, t.sz)) (Ok.then (ok_sizeOf h1) (by rw [h3]; exact ok_pure rfl)) (Ok.then (ok_places hl) (ok_pure rfl))
    · cases h
theorem opk_buildStruct {t : TypeId} {f : TF} {fs : Array Field} {z out : List AV} {pl : List (Nat × Nat)} {parts : List (Nat × AV)} {vs : Array (Nat × Value)} (ht : tyT P t = some f) (hd : f.d = .struct fs) (hz : f.ze = some z) (hp : placesA P fs.toList = some pl)
    (hf : fillA (pl[·]?) z parts = some out) (hv : VRP c parts vs.toList) (hH : HR c w h) (hK : K (.agg out) h) : VOk P (Instr.build t vs) K c w := by
  obtain ⟨i, h1, h2, h3, h4, _⟩ := tyT_some ht
  rw [hz] at h4
  cases hi : i.zero with
  | none => rw [hi] at h4; cases h4
  | some Z =>
    rw [hi] at h4
    simp only [Option.map_some, Option.some.injEq] at h4
    have hzL : VRL c z Z.cells.toList := by rw [← h4]; exact VRL_constA c _
    obtain ⟨out', e, r⟩ := fill_ok hf hzL hv
    refine VOk.pure (v := .agg out) ?_ hH hK
    refine Ok.then (ok_zeroValue h1 hi) (Ok.then (ok_underlying h2) ?_)
    simp only [hd]
    have hpl : Ok P c w.heap.size (fs.mapM fun f => do pure (f.offset, ← sizeOf f.type)) w (fun r => r = .ok pl.toArray w) := by
      rw [Array.mapM_eq_mapM_toList]
      have hb : Ok P c w.heap.size ((fs.toList.mapM fun (f : Field) => (do pure (f.offset, ← sizeOf f.type) : Sem (Nat × Nat))).bind fun l => Sem.pure l.toArray) w (fun r => r = .ok pl.toArray w) :=
        Ok.bind ((ok_places hp).mono fun r e => by subst e; exact rfl)
      exact hb
    refine Ok.then hpl ?_
    have e' : Instr.fill (fun x => pl.toArray[x]?) Z.cells vs.toList = some out' := by simpa using e
    simp only [e']
    exact ok_pure ⟨_, rfl, out'.toList, by simp, r⟩
theorem opk_buildArr {t te : TypeId} {f fe : TF} {len : Nat} {z out : List AV} {parts : List (Nat × AV)} {vs : Array (Nat × Value)} (ht : tyT P t = some f) (hd : f.d = .array len te) (hz : f.ze = some z) (hte : tyT P te = some fe)
    (hf : fillA (fun i => some (i * fe.sz, fe.sz)) z parts = some out) (hv : VRP c parts vs.toList) (hH : HR c w h) (hK : K (.agg out) h) : VOk P (Instr.build t vs) K c w := by
  obtain ⟨i, h1, h2, h3, h4, _⟩ := tyT_some ht
  obtain ⟨ie, g1, g2, g3, _⟩ := tyT_some hte
  rw [hz] at h4
  cases hi : i.zero with
  | none => rw [hi] at h4; cases h4
  | some Z =>
    rw [hi] at h4
    simp only [Option.map_some, Option.some.injEq] at h4
    have hzL : VRL c z Z.cells.toList := by rw [← h4]; exact VRL_constA c _
    obtain ⟨out', e, r⟩ := fill_ok hf hzL hv
    refine VOk.pure (v := .agg out) ?_ hH hK
    refine Ok.then (ok_zeroValue h1 hi) (Ok.then (ok_underlying h2) ?_)
    simp only [hd]
    refine Ok.then (ok_sizeOf g1) ?_
    rw [g3]
    have e' : Instr.fill (fun i => some (i * fe.sz, fe.sz)) Z.cells vs.toList = some out' := by simpa using e
    simp only [e']
    exact ok_pure ⟨_, rfl, out'.toList, by simp, r⟩
theorem VR_newsl (hH : HR c w h) {sz len : Nat} (k : Nat) (hk : len * sz ≤ k) : VR (c.new w k) (.sl ⟨h.length, 0⟩ sz 0 len) (.slice (some ⟨w.heap.size, 0, none⟩) len len) :=
  ⟨⟨_, _, _, rfl⟩, ⟨0, some (w.heap.size, k)⟩, by simp [Cx.new, hH.len], Nat.le_refl _, fun _ => .inr ⟨w.heap.size, k, len, rfl, rfl, Nat.le_refl _, by omega⟩⟩
theorem opk_buildSlice {t te : TypeId} {f fe : TF} {len : Nat} {z out : List AV} {parts : List (Nat × AV)} {vs : Array (Nat × Value)} (ht : tyT P t = some f) (hd : f.d = .slice te) (hte : tyT P te = some fe) (hz : fe.ze = some z)
    (hb : len * fe.sz ≤ 16777216) (hf : fillA (fun i => some (i * fe.sz, fe.sz)) (if len * fe.sz = 0 then [] else zeroRow z (len * fe.sz)) parts = some out) (hl : out.length = len * fe.sz) (hv : VRP c parts vs.toList) (hH : HR c w h)
    (hK : K (.sl ⟨h.length, 0⟩ fe.sz 0 len) (h ++ [.cells 0 out])) : VOk P (Instr.buildSlice t len vs) K c w := by
  obtain ⟨i, h1, h2, h3, h4, _⟩ := tyT_some ht
  obtain ⟨ie, g1, g2, g3, g4, _⟩ := tyT_some hte
  rw [hz] at g4
  cases hi : ie.zero with
  | none => rw [hi] at g4; cases g4
  | some Z =>
    rw [hi] at g4
    simp only [Option.map_some, Option.some.injEq] at g4
    refine Ok.then (ok_underlying h2) ?_
    simp only [hd]
    refine Ok.then (ok_sizeOf g1) ?_
    rw [g3]
    have hnb : ¬ len * fe.sz > 2 ^ 24 := by omega
    simp only [hnb, if_false]
    have tail : ∀ Zc : Array Value, VRL c (if len * fe.sz = 0 then [] else zeroRow z (len * fe.sz)) ((Array.range (len * fe.sz)).map (Zc[· % Zc.size]!)).toList →
        Ok P c w.heap.size (do
          let some cells := Instr.fill (fun i => some (i * fe.sz, fe.sz)) ((Array.range (len * fe.sz)).map (Zc[· % Zc.size]!)) vs.toList | stuck "buildSlice: a part of the wrong size"
          pure (.slice (some (← newRow te cells)) len len)) w (fun r => ∃ V w' c' v h', r = .ok V w' ∧ K v h' ∧ VR c' v V ∧ HR c' w' h' ∧ TurnOk c c' w.heap.size) := by
      intro Zc hz2
      obtain ⟨out', e, r⟩ := fill_ok hf hz2 hv
      have e' : Instr.fill (fun i => some (i * fe.sz, fe.sz)) ((Array.range (len * fe.sz)).map (Zc[· % Zc.size]!)) vs.toList = some out' := by rw [← e, Array.toArray_toList]
      simp only [e']
      refine Ok.bind' ((ok_newRow r hH rfl).mono ?_)
      rintro _ ⟨a, w', c', h', rfl, rfl, rfl, rfl, rfl, hH'⟩
      have hs : out'.size = len * fe.sz := by have := r.length; simpa [hl] using this
      exact ⟨_, _, _, _, _, rfl, hK, VR_newsl hH _ (by omega), hH', .new c w _⟩
    by_cases h0 : len * fe.sz = 0
    · rw [if_pos h0]
      exact Ok.then (a := #[]) rfl (tail #[] (by rw [if_pos h0, h0]; simp))
    · rw [if_neg h0]
      exact Ok.then (ok_zeroValue g1 hi) (Ok.then (a := Z.cells) rfl (tail Z.cells (by rw [if_neg h0, ← g4]; exact VRL_zeroRow c _ _)))
theorem opk_makeSlice {t te : TypeId} {f fe : TF} {k1 k2 : IntKind} {n : Int} {z : List AV} (ht : tyT P t = some f) (hd : f.d = .slice te) (hte : tyT P te = some fe) (hz : fe.ze = some z) (h0 : 0 ≤ n) (hb : fe.bytes * n ≤ 281474976710656) (hn : n ≤ 281474976710656)
    (hH : HR c w h) (hK : K (.sl ⟨h.length, 0⟩ fe.sz 0 n.toNat) (h ++ [.cells 0 (if n.toNat * fe.sz = 0 then [] else zeroRow z (n.toNat * fe.sz))])) : VOk P (Instr.makeSlice t (.int k1 n) (.int k2 n)) K c w := by
  obtain ⟨i, h1, h2, h3, h4, _⟩ := tyT_some ht
  obtain ⟨ie, g1, g2, g3, g4, g5⟩ := tyT_some hte
  rw [hz] at g4
  cases hi : ie.zero with
  | none => rw [hi] at g4; cases g4
  | some Z =>
    rw [hi] at g4
    simp only [Option.map_some, Option.some.injEq] at g4
    refine Ok.then (ok_underlying h2) ?_
    simp only [hd]
    refine Ok.then (a := n) (Ok.then (a := (k1, n)) rfl rfl) (Ok.then (a := n) (Ok.then (a := (k2, n)) rfl rfl) (Ok.then (ok_typeInfo g1) ?_))
    have hw : IntKind.i64.wrap n = n := by
      simp only [IntKind.wrap, IntKind.bits, IntKind.signed]
      have : n % (2 ^ 64 : Int) = n := Int.emod_eq_of_lt h0 (by omega)
      simp only [this]
      rw [if_neg]
      simp; omega
    simp only [hw]
    have tail : ∀ Zc : Array Value, VRL c (if n.toNat * fe.sz = 0 then [] else zeroRow z (n.toNat * fe.sz)) ((Array.range (n.toNat * fe.sz)).map (Zc[· % Zc.size]!)).toList →
        Ok P c w.heap.size (do
          let a ← newRow te ((Array.range (n.toNat * fe.sz)).map (Zc[· % Zc.size]!))
          pure (.slice (some a) n.toNat n.toNat)) w (fun r => ∃ V w' c' v h', r = .ok V w' ∧ K v h' ∧ VR c' v V ∧ HR c' w' h' ∧ TurnOk c c' w.heap.size) := by
      intro Zc hz2
      refine Ok.bind' ((ok_newRow hz2 hH rfl).mono ?_)
      rintro _ ⟨a, w', c', h', rfl, rfl, rfl, rfl, rfl, hH'⟩
      exact ⟨_, _, _, _, _, rfl, hK, VR_newsl hH _ (by simp), hH', .new c w _⟩
    have hcond : ¬ ((decide (n < 0) || decide ((ie.bytes : Int) * n > 2 ^ 48) || decide (n < 0) || decide (n > n)) = true) := by
      rw [g5]; simp; omega
    rw [if_neg hcond]
    refine Ok.then (a := ()) ?_ (Ok.then (ok_sizeOf g1) ?_)
    · unfold askRoom
      split
      · exact ⟨rfl, rfl⟩
      · exact ok_pure rfl
    rw [g3]
    by_cases h0 : n.toNat * fe.sz = 0
    · rw [if_pos h0]
      exact Ok.then (a := #[]) rfl (tail #[] (by rw [if_pos h0, h0]; simp))
    · rw [if_neg h0]
      exact Ok.then (ok_zeroValue g1 hi) (Ok.then (a := Z.cells) rfl (tail Z.cells (by rw [if_neg h0, ← g4]; exact VRL_zeroRow c _ _)))
theorem ok_bound {n0 : Nat} {k : IntKind} {x : Int} {y : Nat} {code : BoundsCode} (h0 : 0 ≤ x) (h1 : x ≤ y) : Ok P c n0 (Instr.sliceBound (.int k x) y code) w (fun r => r = .ok x.toNat w) :=
  Ok.then (a := (k, x)) rfl (by simp only [h0, h1, and_self, if_true]; exact ok_pure rfl)
def loB : Option AV → Option Int
  | none => some 0
  | some (.int _ x) => some x
  | _ => none
def hiB (d : Nat) : Option AV → Option Int
  | none => some d
  | some (.int _ x) => some x
  | _ => none
theorem ok_bounds {n0 len cap : Nat} {isS : Bool} {lo hi : Option AV} {LO HI : Option Value} {l u : Int} (hlo : loB lo = some l) (hhi : hiB len hi = some u) (h0 : 0 ≤ l) (h1 : l ≤ u) (h2 : u ≤ cap) (_hl : len ≤ cap)
    (hvl : ∀ a, lo = some a → ∃ V, LO = some V ∧ VR c a V) (hvl' : lo = none → LO = none) (hvh : ∀ a, hi = some a → ∃ V, HI = some V ∧ VR c a V) (hvh' : hi = none → HI = none) :
    Ok P c n0 (Instr.sliceBounds isS len cap LO HI none) w (fun r => r = .ok (l.toNat, u.toNat, cap) w) := by
  have hl' : ∀ (Q : Result (Nat × Nat × Nat) → Prop), Q (.ok (l.toNat, u.toNat, cap) w) → Ok P c n0 (match LO with
      | some v => do
        let l ← Instr.sliceBound v u.toNat .sliceB
        pure (l, u.toNat, cap)
      | none => do
        let l ← pure 0
        pure (l, u.toNat, cap)) w Q := by
    intro Q hQ
    cases lo with
    | none => rw [hvl' rfl]; simp only [loB, Option.some.injEq] at hlo; subst hlo; exact hQ
    | some a =>
      obtain ⟨V, rfl, hV⟩ := hvl a rfl
      cases a <;> simp only [loB, reduceCtorEq, Option.some.injEq] at hlo
      subst hlo
      cases hV
      exact Ok.then (ok_bound (by omega) (by omega)) hQ
  unfold Instr.sliceBounds
  refine Ok.then (a := cap) rfl ?_
  cases hi with
  | none =>
    rw [hvh' rfl]
    simp only [hiB, Option.some.injEq] at hhi
    subst hhi
    exact Ok.then (a := len) rfl (hl' _ rfl)
  | some a =>
    obtain ⟨V, rfl, hV⟩ := hvh a rfl
    cases a <;> simp only [hiB, reduceCtorEq, Option.some.injEq] at hhi
    subst hhi
    cases hV
    exact Ok.then (ok_bound (by omega) h2) (hl' _ rfl)
theorem opk_sliceStr {t : TypeId} {f : TF} {s : List UInt8} {lo hi : Option AV} {LO HI : Option Value} {l u : Int} (ht : tyT P t = some f) (hd : f.d = .string) (hlo : loB lo = some l) (hhi : hiB s.length hi = some u) (h0 : 0 ≤ l) (h1 : l ≤ u) (h2 : u ≤ s.length)
    (hvl : ∀ a, lo = some a → ∃ V, LO = some V ∧ VR c a V) (hvl' : lo = none → LO = none) (hvh : ∀ a, hi = some a → ∃ V, HI = some V ∧ VR c a V) (hvh' : hi = none → HI = none)
    (hH : HR c w h) (hK : K (.str ((s.drop l.toNat).take (u.toNat - l.toNat))) h) : VOk P (Instr.sliceAt t (.string ⟨s.toArray⟩) LO HI none) K c w := by
  obtain ⟨i, g1, g2, _⟩ := tyT_some ht
  refine VOk.pure (v := .str ((s.drop l.toNat).take (u.toNat - l.toNat))) ?_ hH hK
  refine Ok.then (ok_underlying g2) ?_
  simp only [hd]
  refine Ok.then (ok_underlying g2) ?_
  simp only [hd, Option.isSome_none, Bool.false_eq_true, if_false]
  have hs : (⟨s.toArray⟩ : ByteArray).size = s.length := by simp [ByteArray.size]
  refine Ok.then (a := (l.toNat, u.toNat, s.length)) (by rw [hs]; exact ok_bounds hlo hhi h0 h1 h2 (Nat.le_refl _) hvl hvl' hvh hvh') (ok_pure ⟨_, rfl, ?_⟩)
  show Value.string _ = Value.string _
  congr 1
  apply ByteArray.ext
  simp [List.extract_eq_take_drop]
theorem opk_slicePsl {t te : TypeId} {f fe : TF} {cells : List AV} {len : Nat} {V : Value} {lo hi : Option AV} {LO HI : Option Value} {l u : Int} (ht : tyT P t = some f) (hd : f.d = .slice te) (hte : tyT P te = some fe)
    (hlo : loB lo = some l) (hhi : hiB len hi = some u) (h0 : 0 ≤ l) (h1 : l ≤ u) (h2 : u ≤ len) (hcl : len * fe.sz ≤ cells.length)
    (hvl : ∀ a, lo = some a → ∃ V, LO = some V ∧ VR c a V) (hvl' : lo = none → LO = none) (hvh : ∀ a, hi = some a → ∃ V, HI = some V ∧ VR c a V) (hvh' : hi = none → HI = none)
    (hv : VR c (.psl cells len) V) (hH : HR c w h) (hK : K (.psl ((cells.drop (l.toNat * fe.sz)).take ((u.toNat - l.toNat) * fe.sz)) (u.toNat - l.toNat)) h) : VOk P (Instr.sliceAt t V LO HI none) K c w := by
  obtain ⟨i, g1, g2, _⟩ := tyT_some ht
  obtain ⟨ie, e1, e2, e3, _⟩ := tyT_some hte
  refine VOk.pure (v := .psl ((cells.drop (l.toNat * fe.sz)).take ((u.toNat - l.toNat) * fe.sz)) (u.toNat - l.toNat)) ?_ hH hK
  refine Ok.then (ok_underlying g2) ?_
  simp only [hd]
  refine Ok.then (ok_underlying g2) ?_
  rcases hv with ⟨rfl, rfl, a, rfl⟩ | ⟨b, o, arr, el, fz, L, cap, rfl, hc1, hi', hL, hp⟩
  · simp only [hd]
    refine Ok.then (a := (l.toNat, u.toNat, 0)) (ok_bounds hlo hhi h0 h1 h2 (Nat.le_refl _) hvl hvl' hvh hvh') (Ok.then (ok_sizeOf e1) (ok_pure ⟨_, rfl, .inl ⟨by simp, by omega, ?_⟩⟩))
    have hu : u = 0 := by omega
    have hl0 : l = 0 := by omega
    subst hu; subst hl0
    exact ⟨_, rfl⟩
  · simp only [hd]
    refine Ok.then (a := (l.toNat, u.toNat, cap)) (ok_bounds hlo hhi h0 h1 (by omega) hc1 hvl hvl' hvh hvh') (Ok.then (ok_sizeOf e1) (ok_pure ?_))
    simp only [Option.map_some, e3]
    by_cases hm : cap = l.toNat
    · have hz : u.toNat - l.toNat = 0 := by omega
      rw [if_pos hm, hz]
      exact ⟨_, rfl, .inr ⟨b, o, arr, el, fz, [], cap - l.toNat, rfl, by omega, hi', by simp, List.nil_prefix⟩⟩
    · rw [if_neg hm, add_eq]
      refine ⟨_, rfl, .inr ⟨b, o + l.toNat * fe.sz, arr, el, fz, (L.drop (l.toNat * fe.sz)).take ((u.toNat - l.toNat) * fe.sz), cap - l.toNat, rfl, by omega, hi', (hL.drop _).take _, ?_⟩⟩
      rw [← List.drop_drop]
      refine (List.take_prefix _ _).trans (drop_prefix hp _ ?_)
      have : l.toNat * fe.sz ≤ len * fe.sz := Nat.mul_le_mul_right _ (by omega)
      rw [hL.length]; omega
theorem opk_sliceSl {t te : TypeId} {f fe : TF} {n : Nm} {off len : Nat} {cs : List AV} {V : Value} {lo hi : Option AV} {LO HI : Option Value} {l u : Int} (ht : tyT P t = some f) (hd : f.d = .slice te) (hte : tyT P te = some fe)
    (hcur : h[n.id]? = some (.cells n.gen cs))
    (hlo : loB lo = some l) (hhi : hiB len hi = some u) (h0 : 0 ≤ l) (h1 : l ≤ u) (h2 : u ≤ len) (h3 : l < len ∨ l = 0)
    (hvl : ∀ a, lo = some a → ∃ V, LO = some V ∧ VR c a V) (hvl' : lo = none → LO = none) (hvh : ∀ a, hi = some a → ∃ V, HI = some V ∧ VR c a V) (hvh' : hi = none → HI = none)
    (hv : VR c (.sl n fe.sz off len) V) (hH : HR c w h) (hK : K (.sl n fe.sz (off + l.toNat * fe.sz) (u.toNat - l.toNat)) h) : VOk P (Instr.sliceAt t V LO HI none) K c w := by
  obtain ⟨i, g1, g2, _⟩ := tyT_some ht
  obtain ⟨ie, e1, e2, e3, _⟩ := tyT_some hte
  refine VOk.pure (v := .sl n fe.sz (off + l.toNat * fe.sz) (u.toNat - l.toNat)) ?_ hH hK
  refine Ok.then (ok_underlying g2) ?_
  simp only [hd]
  refine Ok.then (ok_underlying g2) ?_
  obtain ⟨en, he, hg, hp, _⟩ := own_cells hH hcur hv.2
  rcases hp with ⟨rfl, rfl, rfl⟩ | ⟨b, kk, cap, hs, rfl, hc1, hc2⟩
  · simp only [hd]
    refine Ok.then (a := (l.toNat, u.toNat, 0)) (ok_bounds hlo hhi h0 h1 h2 (Nat.le_refl _) hvl hvl' hvh hvh') (Ok.then (ok_sizeOf e1) (ok_pure ?_))
    have hu : u = 0 := by omega
    have hl0 : l = 0 := by omega
    subst hu; subst hl0
    exact ⟨_, rfl, ⟨_, _, _, rfl⟩, en, he, by omega, fun _ => .inl ⟨by simp, by simp, rfl⟩⟩
  · simp only [hd]
    refine Ok.then (a := (l.toNat, u.toNat, cap)) (ok_bounds hlo hhi h0 h1 (by omega) hc1 hvl hvl' hvh hvh') (Ok.then (ok_sizeOf e1) (ok_pure ?_))
    simp only [Option.map_some, e3]
    have hcap : off + l.toNat * fe.sz + (cap - l.toNat) * fe.sz ≤ kk := by
      have : l.toNat * fe.sz + (cap - l.toNat) * fe.sz = cap * fe.sz := by rw [← Nat.add_mul]; congr 1; omega
      omega
    by_cases hm : cap = l.toNat
    · have hl0 : l.toNat = 0 := by omega
      rw [if_pos hm]
      refine ⟨_, rfl, ⟨_, _, _, rfl⟩, en, he, by omega, fun _ => .inr ⟨b, kk, cap - l.toNat, hs, ?_, by omega, hcap⟩⟩
      simp [hl0]
    · rw [if_neg hm, add_eq]
      exact ⟨_, rfl, ⟨_, _, _, rfl⟩, en, he, by omega, fun _ => .inr ⟨b, kk, cap - l.toNat, hs, rfl, by omega, hcap⟩⟩
def zeroA (f : TF) (z : List AV) : AV := if aggD f.d then .agg z else z.getD 0 .any
def zeroFits (P : Program) (t : TypeId) : Bool :=
  match P.info? t, P.underlying t with
  | some i, some d => match i.zero with
    | some (.agg _) => aggD d
    | some (.tuple _) => false
    | some _ => !aggD d
    | none => false
  | _, _ => false
theorem ok_zeroA {n0 : Nat} {t : TypeId} {f : TF} {z : List AV} (ht : tyT P t = some f) (hz : f.ze = some z) (hf : zeroFits P t = true) : Ok P c n0 (zeroValue t) w (fun r => ∃ V, r = .ok V w ∧ VR c (zeroA f z) V) := by
  obtain ⟨i, h1, h2, h3, h4, _⟩ := tyT_some ht
  rw [hz] at h4
  cases hi : i.zero with
  | none => rw [hi] at h4; cases h4
  | some Z =>
    rw [hi] at h4
    simp only [Option.map_some, Option.some.injEq] at h4
    refine (ok_zeroValue h1 hi).mono fun r e => ⟨Z, e, ?_⟩
    simp only [zeroFits, h1, h2, hi] at hf
    unfold zeroA
    cases hg : aggD f.d with
    | true =>
      rw [hg] at hf
      simp only [if_true]
      cases Z <;> simp only [Bool.not_true, Bool.false_eq_true] at hf
      rename_i cells
      exact ⟨cells.toList, by simp, by rw [← h4]; exact VRL_constA c _⟩
    | false =>
      rw [hg] at hf
      simp only [Bool.false_eq_true, if_false]
      have hz1 : Z.cells = #[Z] := by cases Z <;> first | rfl | cases hf
      rw [← h4, hz1]
      exact VR_constA c Z
theorem opk_assert {xt at_ t : TypeId} {f : TF} {v : AV} {V : Value} (ht : tyT P at_ = some f) (hd : ∀ ms, f.d ≠ .interface ms) (hv : VR c (.iface t v) V) (hH : HR c w h)
    (h1 : t = at_ → K (.tup [v, .bool true]) h) (h2 : t ≠ at_ → ∃ z, f.ze = some z ∧ zeroFits P at_ = true ∧ K (.tup [zeroA f z, .bool false]) h) : VOk P (Instr.typeAssert V xt at_ true) K c w := by
  obtain ⟨i, g1, g2, g3, g4, _⟩ := tyT_some ht
  obtain ⟨x, rfl, hx⟩ := hv
  refine Ok.then (ok_underlying g2) ?_
  have key : ∀ d, f.d = d → (∀ ms, d ≠ .interface ms) → Ok P c w.heap.size (if t = at_ then pure (.tuple #[x, .bool true]) else do pure (.tuple #[← zeroValue at_, .bool false])) w
      (fun r => ∃ V w' c' v h', r = .ok V w' ∧ K v h' ∧ VR c' v V ∧ HR c' w' h' ∧ TurnOk c c' w.heap.size) := by
    intro d _ _
    by_cases he : t = at_
    · rw [if_pos he]
      exact ok_pure ⟨_, w, c, _, h, rfl, h1 he, ⟨[x, .bool true], rfl, x, _, rfl, hx, _, _, rfl, rfl, rfl⟩, hH, .refl c _⟩
    · rw [if_neg he]
      obtain ⟨z, hz, hf, hK⟩ := h2 he
      refine Ok.bind' ((ok_zeroA ht hz hf).mono ?_)
      rintro _ ⟨Z, rfl, hZ⟩
      simp only [thenOk]
      exact ok_pure ⟨_, w, c, _, h, rfl, hK, ⟨[Z, .bool false], rfl, Z, _, rfl, hZ, _, _, rfl, rfl, rfl⟩, hH, .refl c _⟩
  cases hfd : f.d with
  | interface ms => exact absurd hfd (hd ms)
  | _ => exact key _ hfd (by intro ms h; cases h)
theorem opk_assertNil {xt at_ : TypeId} {f : TF} {z : List AV} (ht : tyT P at_ = some f) (hd : ∀ ms, f.d ≠ .interface ms) (hz : f.ze = some z) (hf : zeroFits P at_ = true) (hH : HR c w h)
    (hK : K (.tup [zeroA f z, .bool false]) h) : VOk P (Instr.typeAssert .nilIface xt at_ true) K c w := by
  obtain ⟨i, g1, g2, g3, g4, _⟩ := tyT_some ht
  refine Ok.then (ok_underlying g2) ?_
  have key : Ok P c w.heap.size (do pure (.tuple #[← zeroValue at_, .bool false])) w
      (fun r => ∃ V w' c' v h', r = .ok V w' ∧ K v h' ∧ VR c' v V ∧ HR c' w' h' ∧ TurnOk c c' w.heap.size) := by
    refine Ok.bind' ((ok_zeroA ht hz hf).mono ?_)
    rintro _ ⟨Z, rfl, hZ⟩
    simp only [thenOk]
    exact ok_pure ⟨_, w, c, _, h, rfl, hK, ⟨[Z, .bool false], rfl, Z, _, rfl, hZ, _, _, rfl, rfl, rfl⟩, hH, .refl c _⟩
  cases hfd : f.d with
  | interface ms => exact absurd hfd (hd ms)
  | _ => exact key
theorem opk_copy {st xt ty te : TypeId} {f fe : TF} {n : Nm} {off len m : Nat} {cs src : List AV} {a : AV} {S X : Value} (ht : tyT P st = some f) (hd : f.d = .slice te) (hte : tyT P te = some fe) (hb : h[n.id]? = some (.cells n.gen cs)) (hcs : off + len * fe.sz ≤ cs.length)
    (hs : srcA h fe.sz a = some (src, m)) (hl : src.length = m * fe.sz) (hsz : ∀ s, a = .str s → fe.sz = 1) (hleaf : src.all leafA = true) (hS : VR c (.sl n fe.sz off len) S) (hX : VR c a X) (hH : HR c w h)
    (hK : K (.int .i64 (Nat.min m len)) (h.set n.id (.cells n.gen (setMany cs off (src.take (Nat.min m len * fe.sz)))))) : VOk P (Builtin.copy_ #[st, xt] ty #[S, X]) K c w := by
  obtain ⟨i, h1, h2, h3, h4, h5⟩ := tyT_some ht
  obtain ⟨ie, g1, g2, g3, g4, g5⟩ := tyT_some hte
  obtain ⟨hlen, L, hL, hfc⟩ := src_ok (P := P) hs hl hsz hX hH
  have hLl : L.length = m * fe.sz := by rw [hL.length, hl]
  obtain ⟨en, he, hg, hp, hx⟩ := own_cells hH hb hS.2
  have hmin1 : Nat.min m len ≤ m := Nat.min_le_left _ _
  have hmin2 : Nat.min m len ≤ len := Nat.min_le_right _ _
  have hfull := hfc (Nat.min m len) hmin1
  unfold Builtin.copy_
  simp only [List.getElem?_toArray, List.getElem?_cons_zero, List.getElem?_cons_succ]
  refine Ok.then (ok_underlying h2) ?_
  simp only [hd]
  have hleafL : ∀ v ∈ L.take (Nat.min m len * fe.sz), v.oneCell' = true := fun v hv => leaf_all hleaf hL v (List.mem_of_mem_take hv)
  rcases hp with ⟨rfl, rfl, rfl⟩ | ⟨b, kk, cap, hs', rfl, hc1, hc2⟩
  · simp only []
    refine Ok.then (hlen _) ?_
    refine Ok.then (ok_sizeOf g1) ?_
    rw [g3]
    refine Ok.then hfull (ok_pure ⟨_, w, c, _, _, rfl, hK, rfl, ?_, .refl c _⟩)
    have hm0 : Nat.min m 0 = 0 := Nat.min_zero m
    rw [hm0, Nat.zero_mul, List.take_zero]
    simp only [Mac.setMany]
    have : h.set n.id (.cells n.gen cs) = h := by
      apply List.ext_getElem?
      intro j
      by_cases hj : n.id = j
      · subst hj; rw [List.getElem?_set_self (List.getElem?_eq_some_iff.1 hb).1, hb]
      · rw [List.getElem?_set_ne hj]
    rw [this]; exact hH
  · rcases hx with ⟨hx, _⟩ | ⟨b', k', arr, el, l, hx, hm, hw, hk, hr, hp⟩
    · rw [hx] at hs'; cases hs'
    rw [hx] at hs'
    cases hs'
    have hb'' : b < w.heap.size := (Array.getElem?_eq_some_iff.1 hw).1
    have hll : l.length = cs.length := hr.length
    have hla : l.length ≤ arr.toList.length := hp.length_le
    have hmul : Nat.min m len * fe.sz ≤ len * fe.sz := Nat.mul_le_mul_right _ hmin2
    have htl : (L.take (Nat.min m len * fe.sz)).length ≤ Nat.min m len * fe.sz := by simp; omega
    simp only []
    refine Ok.then (hlen _) ?_
    refine Ok.then (ok_sizeOf g1) ?_
    rw [g3]
    refine Ok.then hfull ?_
    have hst := ok_storeCells (P := P) (n0 := w.heap.size) (.inl hm) (L.take (Nat.min m len * fe.sz)) off 0 w arr hw (by simp at hla; omega) hleafL
    refine Ok.bind' (hst.mono fun r e => ?_)
    subst e
    simp only [thenOk]
    refine ok_pure ⟨_, _, c, _, _, rfl, hK, rfl, ?_, .refl c _⟩
    refine hH.update he hb rfl hx hm (putBlk_size _ _ _) (fun j hj => putBlk_other (Ne.symm hj)) ⟨hg, .inr ⟨b, kk, _, el, _, hx, hm, putBlk_same hb'', by simpa using hk, VRL.setAll (hL.take _) hr, ?_⟩⟩
    obtain ⟨t', ht'⟩ := hp
    refine ⟨t', ?_⟩
    simp only [Nat.add_zero]
    rw [← ht', setMany_append _ _ _ _ (by omega)]
def bytesA : List AV → Option (List UInt8)
  | [] => some []
  | .int .u8 n :: l => (bytesA l).map (UInt8.ofNat n.toNat :: ·)
  | _ => none
theorem ok_forBytes {n0 : Nat} : ∀ {cs : List AV} {bs : List UInt8} {L : List Value} (r : ByteArray), bytesA cs = some bs → VRL c cs L →
    Ok P c n0 (forIn L r fun v r => (do
      let .int .u8 n := v | stuck "bytesToString: byte expected"
      pure (.yield (r.push (UInt8.ofNat n.toNat))) : Sem (ForInStep ByteArray))) w (fun x => x = .ok ⟨(r.data.toList ++ bs).toArray⟩ w)
  | [], bs, L, r, hb, hv => by
    cases hv
    simp only [bytesA, Option.some.injEq] at hb
    subst hb
    exact ok_pure (by simp)
  | a :: cs, bs, L, r, hb, hv => by
    obtain ⟨v, vs, rfl, h1, h2⟩ := hv
    unfold bytesA at hb
    split at hb
    · rename_i e; cases e
    · rename_i n l e
      cases e
      cases hr : bytesA cs with
      | none => rw [hr] at hb; cases hb
      | some bs' =>
        rw [hr] at hb
        simp only [Option.map_some, Option.some.injEq] at hb
        subst hb
        have h1' : v = .int .u8 n := h1
        subst h1'
        simp only [List.forIn_cons]
        refine Ok.then (a := .yield (r.push (UInt8.ofNat n.toNat))) (ok_pure rfl) ?_
        refine (ok_forBytes (r.push (UInt8.ofNat n.toNat)) hr h2).mono fun x e => ?_
        rw [e]
        simp
    · cases hb
theorem opk_convBytes {s d e : TypeId} {fs fd fe : TF} {cs : List AV} {bs : List UInt8} {m : Nat} {a : AV} {X : Value} (hs : tyT P s = some fs) (hd : tyT P d = some fd) (hks : fs.d = .slice e) (hte : tyT P e = some fe) (hke : fe.d = .int .u8) (hkd : fd.d = .string)
    (ha : (∃ n sz off len, a = .sl n sz off len) ∨ ∃ l len, a = .psl l len) (hsrc : srcA h 1 a = some (cs, m)) (hl : cs.length = m) (hb : bytesA cs = some bs) (hX : VR c a X) (hH : HR c w h) (hK : K (.str bs) h) : VOk P (convert s d X) K c w := by
  obtain ⟨i, h1, h2, _⟩ := tyT_some hs
  obtain ⟨j, g1, g2, _⟩ := tyT_some hd
  obtain ⟨ie, e1, e2, _⟩ := tyT_some hte
  obtain ⟨hlen, L, hL, hfc⟩ := src_ok (P := P) hsrc (by omega) (fun _ _ => rfl) hX hH
  have hfull := hfc m (Nat.le_refl _)
  have hLl : L.length = m := by rw [hL.length, hl]
  have hsl : X = .slice none 0 0 ∨ ∃ o len cap, X = .slice (some o) len cap := by
    rcases ha with ⟨n, sz, off, len, rfl⟩ | ⟨l, len, rfl⟩
    · simp only [srcA] at hsrc
      split at hsrc
      · rename_i g cs' hb'
        split at hsrc
        · rename_i hg
          subst hg
          obtain ⟨_, _, _, hp, _⟩ := own_cells hH hb' hX.2
          rcases hp with ⟨_, _, rfl⟩ | ⟨b, kk, cap, _, rfl, _, _⟩
          · exact .inl rfl
          · exact .inr ⟨_, _, _, rfl⟩
        · cases hsrc
      · cases hsrc
    · rcases hX with ⟨_, _, a, rfl⟩ | ⟨b, o, arr, el, fz, l', cap, rfl, _⟩
      · cases a with
        | none => exact .inl rfl
        | some a => exact .inr ⟨_, _, _, rfl⟩
      · exact .inr ⟨_, _, _, rfl⟩
  refine VOk.pure (v := .str bs) ?_ hH hK
  rw [hkd] at g2
  refine Ok.then (ok_underlying h2) (Ok.then (ok_underlying g2) ?_)
  rw [hks]
  rcases hsl with rfl | ⟨o, len, cap, rfl⟩
  · have h0 : m = 0 := ((Result.ok.inj (hlen 0)).1).symm
    subst h0
    have : cs = [] := List.length_eq_zero_iff.1 hl
    subst this
    simp only [bytesA, Option.some.injEq] at hb
    subst hb
    refine Ok.then (ok_underlying e2) ?_
    simp only [hke]
    exact ok_pure ⟨_, rfl, rfl⟩
  · have h0 : len = m := (Result.ok.inj (hlen 0)).1
    subst h0
    refine Ok.then (ok_underlying e2) ?_
    simp only [hke]
    have hf : Ok P c w.heap.size (loadCells o (len * 1)) w (fun r => r = .ok (L.take (len * 1)).toArray w) := hfull
    rw [Nat.mul_one] at hf
    refine Ok.then hf ?_
    rw [List.take_of_length_le (by omega)]
    simp only [List.forIn_toArray]
    refine Ok.then (ok_forBytes ByteArray.empty hb hL) ?_
    exact ok_pure ⟨_, rfl, by simp [VR]⟩
theorem ok_bounds3 {n0 len cap : Nat} {isS : Bool} {lo : Option AV} {LO : Option Value} {k1 k2 : IntKind} {l u m : Int} (hlo : loB lo = some l) (h0 : 0 ≤ l) (h1 : l ≤ u) (h2 : u ≤ m) (h3 : m ≤ cap)
    (hvl : ∀ a, lo = some a → ∃ V, LO = some V ∧ VR c a V) (hvl' : lo = none → LO = none) :
    Ok P c n0 (Instr.sliceBounds isS len cap LO (some (.int k1 u)) (some (.int k2 m))) w (fun r => r = .ok (l.toNat, u.toNat, m.toNat) w) := by
  unfold Instr.sliceBounds
  refine Ok.then (ok_bound (by omega) h3) (Ok.then (ok_bound (by omega) (by omega)) ?_)
  cases lo with
  | none => rw [hvl' rfl]; simp only [loB, Option.some.injEq] at hlo; subst hlo; exact ok_pure rfl
  | some a =>
    obtain ⟨V, rfl, hV⟩ := hvl a rfl
    cases a <;> simp only [loB, reduceCtorEq, Option.some.injEq] at hlo
    subst hlo
    cases hV
    exact Ok.then (ok_bound (by omega) (by omega)) (ok_pure rfl)
theorem opk_slice3Psl {t te : TypeId} {f fe : TF} {cells : List AV} {len : Nat} {V : Value} {lo : Option AV} {LO : Option Value} {k1 k2 : IntKind} {l u m : Int} (ht : tyT P t = some f) (hd : f.d = .slice te) (hte : tyT P te = some fe)
    (hlo : loB lo = some l) (h0 : 0 ≤ l) (h1 : l ≤ u) (h2 : u ≤ m) (h3 : m ≤ len) (hcl : len * fe.sz ≤ cells.length)
    (hvl : ∀ a, lo = some a → ∃ V, LO = some V ∧ VR c a V) (hvl' : lo = none → LO = none)
    (hv : VR c (.psl cells len) V) (hH : HR c w h) (hK : K (.psl ((cells.drop (l.toNat * fe.sz)).take ((u.toNat - l.toNat) * fe.sz)) (u.toNat - l.toNat)) h) : VOk P (Instr.sliceAt t V LO (some (.int k1 u)) (some (.int k2 m))) K c w := by
  obtain ⟨i, g1, g2, _⟩ := tyT_some ht
  obtain ⟨ie, e1, e2, e3, _⟩ := tyT_some hte
  refine VOk.pure (v := .psl ((cells.drop (l.toNat * fe.sz)).take ((u.toNat - l.toNat) * fe.sz)) (u.toNat - l.toNat)) ?_ hH hK
  refine Ok.then (ok_underlying g2) ?_
  simp only [hd]
  refine Ok.then (ok_underlying g2) ?_
  rcases hv with ⟨rfl, rfl, a, rfl⟩ | ⟨b, o, arr, el, fz, L, cap, rfl, hc1, hi', hL, hp⟩
  · simp only [hd]
    have hm0 : m.toNat = 0 := by omega
    refine Ok.then (a := (l.toNat, u.toNat, m.toNat)) (ok_bounds3 hlo h0 h1 h2 (by omega) hvl hvl') (Ok.then (ok_sizeOf e1) (ok_pure ⟨_, rfl, .inl ⟨by simp, by omega, ?_⟩⟩))
    have hu : u = 0 := by omega
    have hl0 : l = 0 := by omega
    rw [hm0]
    subst hu; subst hl0
    exact ⟨_, rfl⟩
  · simp only [hd]
    refine Ok.then (a := (l.toNat, u.toNat, m.toNat)) (ok_bounds3 hlo h0 h1 h2 (by omega) hvl hvl') (Ok.then (ok_sizeOf e1) (ok_pure ?_))
    simp only [Option.map_some, e3]
    by_cases hm : m.toNat = l.toNat
    · have hz : u.toNat - l.toNat = 0 := by omega
      rw [if_pos hm, hz]
      exact ⟨_, rfl, .inr ⟨b, o, arr, el, fz, [], m.toNat - l.toNat, rfl, by omega, hi', by simp, List.nil_prefix⟩⟩
    · rw [if_neg hm, add_eq]
      refine ⟨_, rfl, .inr ⟨b, o + l.toNat * fe.sz, arr, el, fz, (L.drop (l.toNat * fe.sz)).take ((u.toNat - l.toNat) * fe.sz), m.toNat - l.toNat, rfl, by omega, hi', (hL.drop _).take _, ?_⟩⟩
      rw [← List.drop_drop]
      refine (List.take_prefix _ _).trans (drop_prefix hp _ ?_)
      have : l.toNat * fe.sz ≤ len * fe.sz := Nat.mul_le_mul_right _ (by omega)
      rw [hL.length]; omega
theorem opk_clear {st ty te : TypeId} {f fe : TF} {n : Nm} {off len : Nat} {cs z : List AV} {S : Value} (ht : tyT P st = some f) (hd : f.d = .slice te) (hte : tyT P te = some fe) (hz : fe.ze = some z) (hzl : z.length = fe.sz) (hzleaf : z.all leafA = true) (hb : h[n.id]? = some (.cells n.gen cs)) (hcs : off + len * fe.sz ≤ cs.length)
    (hS : VR c (.sl n fe.sz off len) S) (hH : HR c w h)
    (hK : K (.tup []) (h.set n.id (.cells n.gen (setMany cs off (zeroRow z (len * fe.sz)))))) : VOk P (Builtin.clear_ #[st] ty #[S]) K c w := by
  obtain ⟨i, h1, h2, h3, h4, h5⟩ := tyT_some ht
  obtain ⟨ie, g1, g2, g3, g4, g5⟩ := tyT_some hte
  rw [hz] at g4
  cases hi : ie.zero with
  | none => rw [hi] at g4; cases g4
  | some Z =>
    rw [hi] at g4
    simp only [Option.map_some, Option.some.injEq] at g4
    have hZ : Z.cells.size = fe.sz := by rw [← hzl, ← g4]; simp
    obtain ⟨en, he, hg, hp, hx⟩ := own_cells hH hb hS.2
    have hsame : h.set n.id (.cells n.gen cs) = h := by
      apply List.ext_getElem?
      intro j
      by_cases hj : n.id = j
      · subst hj; rw [List.getElem?_set_self (List.getElem?_eq_some_iff.1 hb).1, hb]
      · rw [List.getElem?_set_ne hj]
    have hzero : len = 0 → K (.tup []) h := fun h0 => by
      subst h0
      have e : zeroRow z (0 * fe.sz) = [] := by simp [zeroRow]
      rw [e] at hK
      simp only [Mac.setMany, hsame] at hK
      exact hK
    unfold Builtin.clear_
    simp only [List.getElem?_toArray, List.getElem?_cons_zero]
    refine Ok.then (ok_underlying h2) ?_
    rcases hp with ⟨rfl, rfl, rfl⟩ | ⟨b, kk, cap, hs', rfl, hc1, hc2⟩
    · simp only [hd]
      exact ok_pure ⟨_, w, c, _, _, rfl, hzero rfl, ⟨[], rfl, rfl⟩, hH, .refl c _⟩
    · rcases hx with ⟨hx, _⟩ | ⟨b', k', arr, el, l, hx, hm, hw, hk, hr, hp⟩
      · rw [hx] at hs'; cases hs'
      rw [hx] at hs'
      cases hs'
      by_cases hl0 : len = 0
      · subst hl0
        simp only [hd]
        exact ok_pure ⟨_, w, c, _, _, rfl, hzero rfl, ⟨[], rfl, rfl⟩, hH, .refl c _⟩
      · obtain ⟨len, rfl⟩ := Nat.exists_eq_succ_of_ne_zero hl0
        have hb'' : b < w.heap.size := (Array.getElem?_eq_some_iff.1 hw).1
        have hll : l.length = cs.length := hr.length
        have hla : l.length ≤ arr.toList.length := hp.length_le
        have hrow : VRL c (zeroRow z ((len + 1) * fe.sz)) (Builtin.zeroCells Z.cells (len + 1)).toList := by
          have := VRL_zeroRow c Z.cells ((len + 1) * fe.sz)
          rw [g4] at this
          unfold Builtin.zeroCells
          rw [hZ]
          rwa [hZ] at this
        have hleaf : (zeroRow z ((len + 1) * fe.sz)).all leafA = true := by
          rw [List.all_eq_true] at *
          intro x hx
          simp only [zeroRow, List.mem_map, List.mem_range] at hx
          obtain ⟨j, hj, rfl⟩ := hx
          have h0 : 0 < z.length := by
            rcases Nat.eq_zero_or_pos z.length with h | h
            · rw [← hzl, h] at hj; simp at hj
            · exact h
          have hlt : j % z.length < z.length := Nat.mod_lt _ h0
          rw [List.getD_eq_getElem?_getD, List.getElem?_eq_getElem hlt]
          exact hzleaf _ (List.getElem_mem hlt)
        have hlen : (Builtin.zeroCells Z.cells (len + 1)).toList.length = (len + 1) * fe.sz := by rw [hrow.length]; simp
        simp only [hd]
        refine Ok.then (ok_zeroValue g1 hi) ?_
        have hst := ok_storeCells (P := P) (n0 := w.heap.size) (.inl hm) (Builtin.zeroCells Z.cells (len + 1)).toList off 0 w arr hw (by have hcs' : off + (len + 1) * fe.sz ≤ cs.length := hcs; simp only [Array.length_toList] at hla; rw [hlen]; omega) (leaf_all hleaf hrow)
        refine Ok.bind' (hst.mono fun r e => ?_)
        subst e
        simp only [thenOk]
        refine ok_pure ⟨_, _, c, _, _, rfl, hK, ⟨[], rfl, rfl⟩, ?_, .refl c _⟩
        refine hH.update he hb rfl hx hm (putBlk_size _ _ _) (fun j hj => putBlk_other (Ne.symm hj)) ⟨hg, .inr ⟨b, kk, _, el, _, hx, hm, putBlk_same hb'', by simpa using hk, VRL.setAll hrow hr, ?_⟩⟩
        obtain ⟨t', ht'⟩ := hp
        refine ⟨t', ?_⟩
        simp only [Nat.add_zero]
        rw [← ht', setMany_append _ _ _ _ (by have hcs' : off + (len + 1) * fe.sz ≤ cs.length := hcs; rw [hlen]; omega)]
end
end Go.Mac

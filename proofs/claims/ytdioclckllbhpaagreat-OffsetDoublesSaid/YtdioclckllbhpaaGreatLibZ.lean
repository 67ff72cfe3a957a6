/- A part of the logic and of the contracts of the functions that the statement reaches; the statement itself is proved in the last text. -/
import Derived.Deep.Slices
import Derived.Test.YtdioclckllbhpaaGreatLibD
import Derived.Test.YtdioclckllbhpaaGreatLibF

set_option linter.all false
set_option linter.unusedVariables false
set_option linter.unusedSimpArgs false
set_option linter.unnecessarySimpa false
namespace Go.Proofs.YtdioclckllbhpaaGreat
open Go.ChangeShapes Go.WideShapes Go.ChangeAt Go.RowKit Go.Conc Go.Mac
section
variable {H : Type} {enc : TypeId × Value → H} {W : World}
def ReadsAs (W : World) {H : Type} (enc : TypeId × Value → H) (t : TypeId) {α : Type} (F : α → List AV) (Q : α → Prop) : Prop :=
  ∀ (fuel : Nat) (cs : List Value) (x : DataW H × List MemPlace), DataW.trod enc Tryz.prog W 0 (fun _ => true) true fuel t cs = some x → ∃ y : α, VRL (Cx.start W) (F y) cs ∧ Q y
theorem rows_read {α : Type} {F : α → List AV} {Q : α → Prop} {sz : Nat} {L : List Value} {c : Cx} : ∀ (n o : Nat), (∀ i, i < n → ∃ vals y, vals <+: L.drop (o + i * sz) ∧ vals.length = sz ∧ VRL c (F y) vals ∧ Q y) →
    ∃ (ys : List α) (vs : List Value), ys.length = n ∧ VRL c (ys.flatMap F) vs ∧ vs <+: L.drop o ∧ ∀ y ∈ ys, Q y
  | 0, o, _ => ⟨[], [], rfl, rfl, List.nil_prefix, by simp⟩
  | n + 1, o, h => by
    obtain ⟨vals, y, h1, h2, h3, h4⟩ := h 0 (by omega)
    obtain ⟨ys, vs, g1, g2, g3, g4⟩ := rows_read (sz := sz) (L := L) n (o + sz) (fun i hi => by
      have := h (i + 1) (by omega)
      rwa [show o + (i + 1) * sz = o + sz + i * sz by rw [Nat.add_mul]; omega] at this)
    refine ⟨y :: ys, vals ++ vs, by simp [g1], ?_, ?_, ?_⟩
    · rw [List.flatMap_cons]; exact VRL.append h3 g2
    · rw [Nat.zero_mul, Nat.add_zero] at h1
      obtain ⟨t, ht⟩ := h1
      obtain ⟨t', ht'⟩ := g3
      refine ⟨t', ?_⟩
      have e : t = L.drop (o + sz) := by
        rw [← List.drop_drop, ← ht, List.drop_left' h2]
      rw [List.append_assoc, ht', ← e, ht]
    · intro z hz
      rcases List.mem_cons.1 hz with rfl | hz
      · exact h4
      · exact g4 z hz
theorem cells_prefix {w : World} {b : Nat} {arr : Array Value} {el : TypeId} {fz : Nat × Nat} {off n : Nat} {cs : List Value} (hb : w.heap[b]? = some (.cells arr el fz)) (h : w.cells? 0 ⟨b, off, none⟩ n = some cs) : cs <+: arr.toList.drop off ∧ cs.length = n := by
  obtain ⟨_, hl, hc⟩ := World.cells?_some h
  refine ⟨?_, hl⟩
  rw [List.prefix_iff_eq_take]
  apply List.ext_getElem?
  intro i
  rw [List.getElem?_take]
  by_cases hi : i < n
  · rw [if_pos (by omega), List.getElem?_drop, ← hc i hi]
    have ea : (⟨b, off, none⟩ : Addr).add i = ⟨b, off + i, none⟩ := by unfold Addr.add; split <;> simp_all
    rw [ea]
    simp [World.cell?, hb]
  · rw [if_neg (by omega), List.getElem?_eq_none (by omega)]
theorem reads_slice {t e : TypeId} {α : Type} {F : α → List AV} {Q : α → Prop} {sz : Nat} (ht : Tryz.prog.underlying t = some (.slice e)) (hsz : Tryz.prog.cellsOf e = sz + 1) (h : ReadsAs W enc e F Q) :
    ReadsAs W enc t (fun l : List α => [sliceOf F l]) (fun l => ∀ y ∈ l, Q y) := by
  intro fuel cs x hx
  rcases Deep.open_slice ht hx with ⟨rfl, _⟩ | ⟨a, len, cap, m, n, D, Pl, rfl, _, hlc, _, hm, _, hel⟩
  · exact ⟨[], ⟨_, _, rfl, .inl ⟨rfl, rfl, none, rfl⟩, rfl⟩, by simp⟩
  · simp only [if_true] at hm
    subst hm
    rw [hsz] at hel
    by_cases h0 : m = 0
    · subst h0
      obtain rfl : len = 0 := by omega
      exact ⟨[], ⟨_, _, rfl, .inl ⟨rfl, rfl, some a, rfl⟩, rfl⟩, by simp⟩
    · obtain ⟨cs0, hc0, _⟩ := hel 0 (by omega)
      obtain ⟨_, hl0, hcell⟩ := World.cells?_some hc0
      have hz := hcell 0 (by omega)
      rw [Nat.zero_mul] at hz
      have ha0 : (a.add 0).add 0 = a := by simp [Addr.add]
      rw [ha0, List.getElem?_eq_getElem (by omega)] at hz
      obtain ⟨b, off, spot⟩ := a
      unfold World.cell? at hz
      split at hz
      · rename_i arr el fz hb
        split at hz
        · cases hz
        · rename_i hs
          have hs' : spot = none := by cases spot with | none => rfl | some s => simp at hs
          subst hs'
          obtain ⟨ys, vs, g1, g2, g3, g4⟩ := rows_read (F := F) (Q := Q) (sz := sz + 1) (L := arr.toList) (c := Cx.start W) len off (fun i hi => by
            obtain ⟨cs', h1, h2⟩ := hel i (by omega)
            have ea : (⟨b, off, none⟩ : Addr).add (i * (sz + 1)) = ⟨b, off + i * (sz + 1), none⟩ := by unfold Addr.add; split <;> simp_all
            rw [ea] at h1
            obtain ⟨p1, p2⟩ := cells_prefix hb h1
            obtain ⟨y, hy, hq⟩ := h _ _ _ h2
            exact ⟨cs', y, p1, p2, hy, hq⟩)
          subst g1
          exact ⟨ys, ⟨_, _, rfl, .inr ⟨b, off, arr, el, fz, vs, m, rfl, hlc, hb, g2, g3⟩, rfl⟩, g4⟩
      · cases hz
theorem reads_int {t : TypeId} (ht : Tryz.prog.underlying t = some (.int .i64)) : ReadsAs W enc t cInt isI64 := by
  intro fuel cs x hx
  cases fuel with
  | zero => simp [DataW.trod] at hx
  | succ n =>
    unfold DataW.trod at hx
    simp only [ht] at hx
    split at hx <;> try (simp at hx; done)
    all_goals rename_i h1; try cases h1
    split at hx
    · rename_i hc
      obtain ⟨rfl, hw⟩ := hc
      simp only [Lit.wf, Bool.and_eq_true] at hw
      exact ⟨_, ⟨_, _, rfl, rfl, rfl⟩, of_decide_eq_true hw.1, of_decide_eq_true hw.2⟩
    · cases hx
theorem reads_str {t : TypeId} (ht : Tryz.prog.underlying t = some .string) : ReadsAs W enc t cStr (fun _ => True) := by
  intro fuel cs x hx
  cases fuel with
  | zero => simp [DataW.trod] at hx
  | succ n =>
    unfold DataW.trod at hx
    simp only [ht] at hx
    split at hx <;> try (simp at hx; done)
    all_goals rename_i h1; try cases h1
    rename_i sv
    exact ⟨sv.data.toList, ⟨_, _, rfl, by simp [VR], rfl⟩, trivial⟩
theorem field_read {t : TypeId} {fs : Array Field} {fuel : Nat} {cs : List Value} {x : DataW H × List MemPlace} (ht : Tryz.prog.underlying t = some (.struct fs)) (hx : DataW.trod enc Tryz.prog W 0 (fun _ => true) true fuel t cs = some x) {i : Nat} {f : Field} (hf : fs[i]? = some f)
    {α : Type} {F : α → List AV} {Q : α → Prop} (h : ReadsAs W enc f.type F Q) : ∃ y : α, VRL (Cx.start W) (F y) ((cs.drop f.offset).take (Tryz.prog.cellsOf f.type)) ∧ Q y := by
  obtain ⟨xs, n, _, _, hl, hxs, hall⟩ := DataW.trod_struct ht hx
  have := hall i f hf
  rw [List.getElem?_eq_getElem (by rw [hxs]; exact (Array.getElem?_eq_some_iff.1 hf).1)] at this
  exact h _ _ _ this
theorem struct_len {t : TypeId} {fs : Array Field} {fuel : Nat} {cs : List Value} {x : DataW H × List MemPlace} (ht : Tryz.prog.underlying t = some (.struct fs)) (hx : DataW.trod enc Tryz.prog W 0 (fun _ => true) true fuel t cs = some x) : cs.length = Tryz.prog.cellsOf t := by
  obtain ⟨xs, n, _, _, hl, hxs, hall⟩ := DataW.trod_struct ht hx
  exact hl
end
theorem trodAll_stays {H : Type} {enc : TypeId × Value → H} {W W' : World} : ∀ {ts : List TypeId} {vs : List Value} {ds : List (DataW H)} {ps : List MemPlace}, (∀ t ∈ ts, Tryz.prog.readableRec t = true ∧ t < Tryz.prog.types.size) →
    DataW.TrodAll enc Tryz.prog W 0 (fun _ => true) true ts vs ds ps → Below W.heap.size W W' → (∀ x ∈ ps, x.block < W.heap.size) → DataW.TrodAll enc Tryz.prog W' 0 (fun b => decide (b < W.heap.size)) true ts vs ds ps
  | [], [], [], _, _, h, _, _ => h
  | t :: ts, v :: vs, d :: ds, _, ht, h, hb, hlt => by
    obtain ⟨p, q, h1, h2, rfl⟩ := h
    obtain ⟨a1, a2⟩ := ht t (List.mem_cons_self ..)
    exact ⟨p, q, Below.trod laidOut a1 a2 h1 hb (fun x hx => hlt x (List.mem_append.2 (.inl hx))), trodAll_stays (fun t ht' => ht t (List.mem_cons_of_mem _ ht')) h2 hb (fun x hx => hlt x (List.mem_append.2 (.inr hx))), rfl⟩
theorem trodAll_len {H : Type} {enc : TypeId × Value → H} {W : World} : ∀ {ts : List TypeId} {vs : List Value} {ds : List (DataW H)} {ps : List MemPlace}, DataW.TrodAll enc Tryz.prog W 0 (fun _ => true) true ts vs ds ps → vs.length = ts.length ∧ ds.length = ts.length
  | [], [], [], _, _ => ⟨rfl, rfl⟩
  | t :: ts, v :: vs, d :: ds, _, h => by
    obtain ⟨p, q, h1, h2, rfl⟩ := h
    obtain ⟨a1, a2⟩ := trodAll_len h2
    exact ⟨by simp [a1], by simp [a2]⟩
set_option maxRecDepth 100000 in
theorem liftedN {f : FuncId} {fn : Func} {s : ChangeSpec} {conds : List PathCond} {ts : List TypeId} (hfn : Tryz.checked.prog.funcs[f]? = some fn) (hpar : fn.params.toList = ts) (hts : ∀ t ∈ ts, Tryz.prog.readableRec t = true ∧ t < Tryz.prog.types.size) (hres : fn.resultTypes.toList = [4]) (hinit : Tryz.prog.inits.idxOf? f = none)
    (hvars : s.vars = []) (hsp : ∀ (H : Type) (ds : List (DataW H)), ds.length = ts.length → s.fn H ds = { results := [.lit (.bool true)], args := ds })
    (hc : ∀ (H : Type) (enc : TypeId × Value → H) (W : World) (base : Nat) (vs : List Value) (ds : List (DataW H)) (ps : List MemPlace), (∀ (j : Nat) t v, ts[j]? = some t → vs[j]? = some v → Value.okWide Tryz.prog W .any base t v) →
      DataW.TrodAll enc Tryz.prog W 0 (fun _ => true) true ts vs ds ps → ∃ avs, VRL (Cx.start W) avs vs ∧ CallsA Tryz.prog f avs [.role true] fun e _ => e = .ret (.bool true))
    (os : Os) (started : os.Started) (H : Type) (enc : TypeId × Value → H)
    (hwit : ∃ (w : World) (tape : Tape) (i : Input), w.os = os ∧ (w.forCall tape i).Shaped Tryz.checked.prog ∧ i.vars = [] ∧ Input.okWide Tryz.checked.prog (w.forCall tape i) .any w.heap.size f i ∧
      s.pre6 enc Tryz.checked.prog fn conds false (w.forCall tape i).memory i.args ∧ ({} : Assume).holds Tryz.checked.prog (lone (Frame.enter Tryz.checked.prog f i.args .normal) [] (w.forCall tape i))) :
    ReturnsInLeavingWide {} Tryz.checked os f .any (s.pre6 enc Tryz.checked.prog fn conds false) (s.post enc Tryz.checked.prog fn false true false false) := by
  refine returnsInLeavingWide_of_change_sized (C := Tryz.checked) own started hfn hwit ?_
  intro W base args ds gs before hval hW _ _ _
  have hW' := hW
  obtain ⟨p, q, hA, hV, rfl, _, _⟩ := hW
  rw [hpar] at hA
  rw [hvars] at hV
  obtain ⟨rfl, rfl⟩ := trodVars_none hV
  simp only [List.append_nil] at hW'
  have hlt : ∀ x ∈ p, x.block < W.heap.size := fun x hx => by simpa using hW'.lt x hx
  obtain ⟨avs, hr, hcall⟩ := hc H enc W base args.toList ds p (fun j t v h1 h2 => hval j t v (by
    have := congrArg (fun l => l[j]?) hpar
    simp only [Array.getElem?_toList] at this
    rw [this]; exact h1) (by simpa using h2)) hA
  obtain ⟨M, last, o, w', t', h1, h2, h3, h4⟩ := runs_of_calls (W := W) (args := args) hinit hcall hr
  refine ⟨M, last, o, w', t', h1, h2, h3, h4.mono fun v hF => ?_⟩
  obtain ⟨hbel, c, _, hv⟩ := hF
  have hv' : v = .bool true := hv
  subst hv'
  have hrs : fn.resultTypes.size = 1 := by
    have := congrArg List.length hres
    simpa using this
  have hrl : Value.resultList fn.resultTypes.size (.bool true) = [.bool true] := by rw [hrs]; rfl
  have hdl := (trodAll_len hA).2
  refine ⟨ds, [], _, [], p, [], by simpa using hW', ?_, ?_, ?_, hbel.frame _, fun h => by cases h⟩
  · rw [hres, hrl, List.append_nil, hsp H ds hdl]; exact trodAll_mk1 (shut_bool under4 true)
  · rw [hpar, List.append_nil, hsp H ds hdl]; exact trodAll_stays hts hA hbel hlt
  · rw [hvars, List.append_nil, hsp H ds hdl]; rfl
section
variable {H : Type} {enc : TypeId × Value → H} {W : World}
theorem underS : Tryz.prog.underlying 9 = some .string := by kernel_rfl
theorem field_at {t : TypeId} {fs : Array Field} {fuel : Nat} {cs : List Value} {x : DataW H × List MemPlace} (ht : Tryz.prog.underlying t = some (.struct fs)) (hx : DataW.trod enc Tryz.prog W 0 (fun _ => true) true fuel t cs = some x) {i : Nat} {ft : TypeId} {off : Nat}
    (hf : (fs[i]?).map (fun f => (f.type, f.offset)) = some (ft, off)) {α : Type} {F : α → List AV} {Q : α → Prop} (h : ReadsAs W enc ft F Q) : ∃ y : α, VRL (Cx.start W) (F y) ((cs.drop off).take (Tryz.prog.cellsOf ft)) ∧ Q y := by
  obtain ⟨f, h1, h2⟩ := Option.map_eq_some_iff.1 hf
  cases h2
  exact field_read ht hx h1 h
theorem cellsS : Tryz.prog.cellsOf 9 = 1 := by kernel_rfl
theorem fs_trace : ∃ fs : Array Field, Tryz.prog.underlying 86 = some (.struct fs) ∧ (fs[0]?).map (fun f => (f.type, f.offset)) = some (3, 0) ∧ (fs[1]?).map (fun f => (f.type, f.offset)) = some (3, 1) :=
  ⟨match Tryz.prog.underlying 86 with | some (.struct fs) => fs | _ => #[], by kernel_rfl, by kernel_rfl, by kernel_rfl⟩
theorem fs_glyph : ∃ fs : Array Field, Tryz.prog.underlying 76 = some (.struct fs) ∧ (fs[0]?).map (fun f => (f.type, f.offset)) = some (9, 0) ∧ (fs[1]?).map (fun f => (f.type, f.offset)) = some (3, 1) :=
  ⟨match Tryz.prog.underlying 76 with | some (.struct fs) => fs | _ => #[], by kernel_rfl, by kernel_rfl, by kernel_rfl⟩
theorem fs_board : ∃ fs : Array Field, Tryz.prog.underlying 26 = some (.struct fs) ∧ (fs[0]?).map (fun f => (f.type, f.offset)) = some (22, 0) ∧ (fs[1]?).map (fun f => (f.type, f.offset)) = some (23, 1) ∧ (fs[2]?).map (fun f => (f.type, f.offset)) = some (24, 2) :=
  ⟨match Tryz.prog.underlying 26 with | some (.struct fs) => fs | _ => #[], by kernel_rfl, by kernel_rfl, by kernel_rfl, by kernel_rfl⟩
theorem reads_trace : ReadsAs W enc 86 cTrace (fun _ => True) := by
  intro fuel cs x hx
  obtain ⟨fs, hu, f0, f1⟩ := fs_trace
  have hl : cs.length = 2 := by rw [struct_len hu hx]; kernel_rfl
  obtain ⟨a, b, rfl⟩ : ∃ a b, cs = [a, b] := by match cs, hl with | [a, b], _ => exact ⟨a, b, rfl⟩
  obtain ⟨y0, h0, _⟩ := field_at hu hx f0 (reads_int under3)
  obtain ⟨y1, h1, _⟩ := field_at hu hx f1 (reads_int under3)
  rw [cells3] at h0 h1
  exact ⟨⟨y0, y1⟩, (VRL.append h0 h1 : VRL (Cx.start W) (cInt y0 ++ cInt y1) _), trivial⟩
theorem reads_glyph : ReadsAs W enc 76 cGlyph (fun _ => True) := by
  intro fuel cs x hx
  obtain ⟨fs, hu, f0, f1⟩ := fs_glyph
  have hl : cs.length = 2 := by rw [struct_len hu hx]; kernel_rfl
  obtain ⟨a, b, rfl⟩ : ∃ a b, cs = [a, b] := by match cs, hl with | [a, b], _ => exact ⟨a, b, rfl⟩
  obtain ⟨y0, h0, _⟩ := field_at hu hx f0 (reads_str underS)
  obtain ⟨y1, h1, _⟩ := field_at hu hx f1 (reads_int under3)
  rw [cellsS] at h0
  rw [cells3] at h1
  exact ⟨⟨y0, y1⟩, (VRL.append h0 h1 : VRL (Cx.start W) (cStr y0 ++ cInt y1) _), trivial⟩
theorem reads_glyphs : ReadsAs W enc 22 (fun l : List Glyph => [sliceOf cGlyph l]) (fun l => ∀ y ∈ l, True) := reads_slice (sz := 1) (by kernel_rfl) (by kernel_rfl) reads_glyph
theorem reads_strs : ReadsAs W enc 36 cPage (fun l => ∀ y ∈ l, True) := reads_slice (sz := 0) (by kernel_rfl) (by kernel_rfl) (reads_str underS)
theorem reads_pages : ReadsAs W enc 23 (fun l : List (List (List UInt8)) => [sliceOf cPage l]) (fun l => ∀ y ∈ l, ∀ z ∈ y, True) := reads_slice (sz := 0) (by kernel_rfl) (by kernel_rfl) reads_strs
theorem reads_row : ReadsAs W enc 56 cTraces (fun l => ∀ y ∈ l, True) := reads_slice (sz := 1) (by kernel_rfl) (by kernel_rfl) reads_trace
theorem reads_rows : ReadsAs W enc 24 (fun l : List (List Mac.Trace) => [sliceOf cTraces l]) (fun l => ∀ y ∈ l, ∀ z ∈ y, True) := reads_slice (sz := 0) (by kernel_rfl) (by kernel_rfl) reads_row
theorem reads_ints : ReadsAs W enc 27 (fun l : List Int => [leftA (some l)]) (fun l => ∀ y ∈ l, isI64 y) := reads_slice (sz := 0) (by kernel_rfl) (by kernel_rfl) (reads_int under3)
theorem reads_board : ReadsAs W enc 26 brdA (fun _ => True) := by
  intro fuel cs x hx
  obtain ⟨fs, hu, f0, f1, f2⟩ := fs_board
  have hl : cs.length = 3 := by rw [struct_len hu hx]; kernel_rfl
  obtain ⟨a, b, c, rfl⟩ : ∃ a b c, cs = [a, b, c] := by match cs, hl with | [a, b, c], _ => exact ⟨a, b, c, rfl⟩
  obtain ⟨y0, h0, _⟩ := field_at hu hx f0 reads_glyphs
  obtain ⟨y1, h1, _⟩ := field_at hu hx f1 reads_pages
  obtain ⟨y2, h2, _⟩ := field_at hu hx f2 reads_rows
  rw [show Tryz.prog.cellsOf 22 = 1 by kernel_rfl] at h0
  rw [show Tryz.prog.cellsOf 23 = 1 by kernel_rfl] at h1
  rw [show Tryz.prog.cellsOf 24 = 1 by kernel_rfl] at h2
  exact ⟨⟨y0, y1, y2⟩, (VRL.append h0 (VRL.append h1 h2) : VRL (Cx.start W) ([sliceOf cGlyph y0] ++ ([sliceOf cPage y1] ++ [sliceOf cTraces y2])) _), trivial⟩
set_option maxRecDepth 100000 in
theorem arg_cell {t : TypeId} {v : Value} {base : Nat} {d : DataW H} {p : List MemPlace} {α : Type} {F : α → AV} {Q : α → Prop} (hv : ∀ v, Value.okWide Tryz.prog W .any base t v → v.cells = #[v]) (h : ReadsAs W enc t (fun y : α => [F y]) Q)
    (hok : Value.okWide Tryz.prog W .any base t v) (hd : DataW.Trod enc Tryz.prog W 0 (fun _ => true) true t v d p) : ∃ y, VR (Cx.start W) (F y) v ∧ Q y := by
  obtain ⟨fuel, hf⟩ := hd
  rw [hv v hok] at hf
  obtain ⟨y, h1, h2⟩ := h _ _ _ hf
  obtain ⟨w, ws, e, h3, _⟩ := h1
  cases e
  exact ⟨y, h3, h2⟩
set_option maxRecDepth 100000 in
theorem arg_struct {t : TypeId} {v : Value} {base : Nat} {d : DataW H} {p : List MemPlace} {fs : Array Field} {α : Type} {F : α → List AV} {Q : α → Prop} (hu : Tryz.prog.underlying t = some (.struct fs)) (h : ReadsAs W enc t F Q)
    (hok : Value.okWide Tryz.prog W .any base t v) (hd : DataW.Trod enc Tryz.prog W 0 (fun _ => true) true t v d p) : ∃ y, VR (Cx.start W) (.agg (F y)) v ∧ Q y := by
  obtain ⟨fuel, hf⟩ := hd
  unfold Value.okWide at hok
  rw [hu] at hok
  obtain ⟨cs, rfl, _⟩ := hok
  obtain ⟨y, h1, h2⟩ := h _ _ _ hf
  exact ⟨y, ⟨cs.toList, by simp, h1⟩, h2⟩
set_option maxRecDepth 100000 in
theorem int_cells {base : Nat} (v : Value) (hok : Value.okWide Tryz.prog W .any base 3 v) : v.cells = #[v] := by
  simp only [Value.okWide, under3, Cell.okWide, Cell.ok] at hok
  split at hok
  all_goals first | exact hok.elim | rfl | skip
set_option maxRecDepth 100000 in
theorem ints_cells {base : Nat} (v : Value) (hok : Value.okWide Tryz.prog W .any base 27 v) : v.cells = #[v] := by
  obtain ⟨a, b, c, rfl⟩ := okWide_slice underI hok
  rfl
end
end Go.Proofs.YtdioclckllbhpaaGreat
namespace Go.Mac
open Go Go.Conc Go.Proofs
set_option maxRecDepth 4000
theorem within_ok (n lo hi : Int) : PureA Tryz.prog 141 [.int .i64 n, .int .i64 lo, .int .i64 hi] (.bool (decide (lo ≤ n) && decide (n ≤ hi))) := by
  refine PureA.of_wpp { cut := [10] } 12 mixed Tryz.func141 (by kernel_rfl) rfl (by kernel_rfl) (rfl) fun h j hB => ?_
  simp only [junk_succ, junk_zero, List.cons_append, List.nil_append, List.length_cons, List.length_nil, Nat.reduceAdd]
  simp (implicitDefEqProofs := false) (dsimp := false) only [go_sem]
  refine ⟨fun c => ?_, fun c => ?_⟩
  · have : lo ≤ n := c
    simp [this]
  · have : ¬ lo ≤ n := by simpa using c
    simp [this]
theorem inside_ok (n lo hi : Int) : PureA Tryz.prog 81 [.int .i64 n, .int .i64 lo, .int .i64 hi] (.bool (decide (lo ≤ n) && decide (n ≤ hi))) := by
  refine PureA.of_wpp { cut := [10] } 12 mixed Tryz.func81 (by kernel_rfl) rfl (by kernel_rfl) (rfl) fun h j hB => ?_
  simp only [junk_succ, junk_zero, List.cons_append, List.nil_append, List.length_cons, List.length_nil, Nat.reduceAdd]
  simp (implicitDefEqProofs := false) (dsimp := false) only [go_sem]
  refine ⟨fun c => ?_, fun c => ?_⟩
  · have : lo ≤ n := c
    simp [this]
  · have : ¬ lo ≤ n := by simpa using c
    simp [this]
def glyI (gs : List Glyph) (s : List UInt8) : Option Nat := gs.findIdx? fun g => g.name == s
def glyN (gs : List Glyph) (s : List UInt8) : Int := match glyI gs s with | some k => k | none => -1
def glyF (gs : List Glyph) (s : List UInt8) : Bool := match glyI gs s with | some _ => true | none => s == [45]
theorem glyI_at {gs : List Glyph} {s : List UInt8} {k : Nat} (hk : k < gs.length) (hn : ∀ q (hq : q < gs.length), q < k → gs[q].name ≠ s) (he : gs[k].name = s) : glyI gs s = some k := by
  rw [glyI, List.findIdx?_eq_some_iff_getElem]
  exact ⟨hk, by simpa using he, fun q hq => by simpa using hn q (by omega) hq⟩
theorem glyI_end {gs : List Glyph} {s : List UInt8} (hn : ∀ q (hq : q < gs.length), gs[q].name ≠ s) : glyI gs s = none := by
  rw [glyI, List.findIdx?_eq_none_iff]
  intro x hx
  obtain ⟨q, hq, rfl⟩ := List.getElem_of_mem hx
  simpa using hn q hq
theorem glyF_has {gs : List Glyph} (ok : okGlyphs gs) (b : UInt8) : glyF gs [b] = hasB (mapB gs) b.toNat := by
  have h1 : glyF gs [b] = (gs.any (fun g => g.name == [b]) || b == 45) := by
    unfold glyF glyI
    cases hi : gs.findIdx? fun g => g.name == [b] with
    | none =>
      rw [List.findIdx?_eq_none_iff] at hi
      have : gs.any (fun g => g.name == [b]) = false := by rw [List.any_eq_false]; intro x hx; rw [hi x hx]; decide
      rw [this]; simp
    | some k =>
      rw [List.findIdx?_eq_some_iff_getElem] at hi
      obtain ⟨hk, he, _⟩ := hi
      have : gs.any (fun g => g.name == [b]) = true := List.any_eq_true.2 ⟨_, List.getElem_mem hk, he⟩
      rw [this]; rfl
  rw [h1, hasB, mapB, List.any_cons, List.any_map, Bool.or_comm]
  congr 1
  · rw [Bool.eq_iff_iff]
    simp only [beq_iff_eq]
    constructor
    · rintro rfl; rfl
    · intro h; apply UInt8.toNat.inj; have h2 : (b.toNat : Int) = 45 := by simpa using h
      have : b.toNat = 45 := by omega
      exact this
  · rw [Bool.eq_iff_iff, List.any_eq_true, List.any_eq_true]
    constructor
    · rintro ⟨g, hg, he⟩
      refine ⟨g, hg, ?_⟩
      have he' : g.name = [b] := by simpa using he
      simp [gkey, he']
    · rintro ⟨g, hg, he⟩
      refine ⟨g, hg, ?_⟩
      obtain ⟨c, hc, hk⟩ := one_name (ok.one g hg).1
      have e2 : (b.toNat : Int) = (gkey g : Int) := by simpa using he
      rw [hk] at e2
      have : b = c := UInt8.toNat.inj (by omega)
      rw [hc, this]; simp
theorem Rglyph_ok (gs : List Glyph) (nm : List UInt8) (hl : gs.length ≤ 1000) (hn : nm.length ≤ 1000) (hg : ∀ g ∈ gs, g.name.length ≤ 1000) : PureA Tryz.prog 118 [sliceOf cGlyph gs, .str nm] (.tup [.int .i64 (glyN gs nm), .bool (glyF gs nm)]) := by
  refine PureA.of_wpp {} 21 mixed Tryz.func118 (by kernel_rfl) rfl (by kernel_rfl) (rfl) fun h j hB => ?_
  simp only [junk_succ, junk_zero, List.cons_append, List.nil_append, List.length_cons, List.length_nil, Nat.reduceAdd]
  simp (implicitDefEqProofs := false) (dsimp := false) only [go_sem]
  refine WP.loopI (fun (k : Nat) s => (k ≤ gs.length ∧ ∀ q (hq : q < gs.length), q < k → gs[q].name ≠ nm) ∧ s.sl.length = 23 ∧ s.df = [] ∧ s.gh = {} ∧ (s.hp = h) ∧ evA s.sl (.tmp 0) = sliceOf cGlyph gs ∧ evA s.sl (.tmp 1) = .str nm ∧ evA s.sl (.tmp 6) = .int .i64 k) (fun (k : Nat) => gs.length - k) (0) ?_ ?_
  · simp (implicitDefEqProofs := false) (dsimp := false) only [go_sem, Nat.zero_le]
    exact fun q hq hk => by omega
  · rintro k ⟨sl, df, hp, gh⟩ ⟨ab, al, rfl, rfl, rfl, a0, a1, a6⟩
    simp only at ab al a0 a1 a6
    obtain ⟨j, rfl⟩ := slots_lit al; clear al; simp only [junk_succ, junk_zero, evA_tmp, nth_16, nth_four, nth_one, nth_zero, Nat.zero_add, Nat.reduceAdd] at  a0 a1 a6 ⊢
    refine wp_ok (so := {}) mixed _ (by kernel_rfl) ?_
    obtain ⟨ak, an⟩ := ab
    by_cases hk : k < gs.length
    · simp (implicitDefEqProofs := false) (dsimp := false) only [go_sem, a0, a1, a6, nat_lt hk, decide_true, rowN cGlyph_len hk, rowN_le cGlyph_len hk, cGlyph]
      have h1 := hg _ (List.getElem_mem hk)
      refine ⟨by omega, fun e => ?_, fun e => ⟨k + 1, ⟨⟨by omega, fun q hq h3 => ?_⟩, wrap_succ (by omega)⟩, by omega⟩⟩
      · have := glyI_at hk an (by simpa using e)
        simp [glyN, glyF, this]
      · by_cases e3 : q = k
        · subst e3; exact by simpa using e
        · exact an q hq (by omega)
    · have hs : ((k : Int) < (gs.length : Int)) = False := eq_false (by omega)
      have := glyI_end fun q hq => an q hq (by omega)
      simp (implicitDefEqProofs := false) (dsimp := false) only [go_sem, a0, a1, a6, hs, decide_false, glyN, glyF, this]
      omega
theorem str_get00 {p : List (List UInt8)} (h : 0 < p.length) : (p.flatMap cStr).drop 0 = .str (p.headD []) :: (p.drop 1).flatMap cStr := by
  rw [headD_get h]
  have := row1 cStr_len h
  rw [this]; rfl
theorem RcheckPage_ok (gs : List Glyph) (ok : okGlyphs gs) (p : List (List UInt8)) : PureA Tryz.prog 84 [sliceOf cGlyph gs, sliceOf cStr p] (.int .i64 (pageErr (mapB gs) p)) := by
  refine PureA.of_wpp {} 65 mixed Tryz.func84 (by kernel_rfl) rfl (by kernel_rfl) (rfl) fun h j hB => ?_
  simp only [junk_succ, junk_zero, List.cons_append, List.nil_append, List.length_cons, List.length_nil, Nat.reduceAdd]
  have hm := ok.most
  simp (implicitDefEqProofs := false) (dsimp := false) only [go_sem]
  refine ⟨fun c0 => ?_, fun c0 => ⟨fun c1 => ?_, fun c1 => ?_⟩⟩
  · have : p.length = 0 := by simpa using c0
    simp [pageErr, sizedB, this]
  · have h1 : ¬ ((p.length : Int) < 1) := by intro e; have : p.length = 0 := by omega
                                             rw [this] at c0; simp at c0
    have h2 : (3 : Int) < p.length := by simpa using c1
    simp [pageErr, sizedB, h1, h2]
  have hne : p.length ≠ 0 := by intro e; rw [e] at c0; simp at c0
  have h3 : ¬ (3 : Int) < p.length := by simpa using c1
  have hz : sizedB p.length 3 = 0 := by rw [sizedB, if_neg (by omega), if_neg h3]
  have eg : rowsErr (mapB gs) (p.headD []).length p = pageErr (mapB gs) p := by simp only [pageErr, hz, ne_eq, not_true_eq_false, if_false]
  have hp0 : 0 < p.length := by omega
  refine WP.loopI (fun (i : Nat) s => (i ≤ p.length ∧ rowsErr (mapB gs) (p.headD []).length (p.drop i) = pageErr (mapB gs) p) ∧ s.sl.length = 67 ∧ s.df = [] ∧ s.gh = {} ∧ (s.hp = h) ∧ evA s.sl (.tmp 0) = sliceOf cGlyph gs ∧ evA s.sl (.tmp 1) = sliceOf cStr p ∧ evA s.sl (.tmp 5) = .int .i64 i) (fun (i : Nat) => p.length - i) (0) ?_ ?_
  · simp (implicitDefEqProofs := false) (dsimp := false) only [go_sem, Nat.zero_le, List.drop_zero]
    exact eg
  · rintro i ⟨sl, df, hp, gh⟩ ⟨ab, al, rfl, rfl, rfl, a0, a1, a5⟩
    simp only at ab al a0 a1 a5
    obtain ⟨j, rfl⟩ := slots_lit al; clear al; simp only [junk_succ, junk_zero, evA_tmp, nth_16, nth_four, nth_one, nth_zero, Nat.zero_add, Nat.reduceAdd] at  a0 a1 a5 ⊢
    refine wp_ok (so := {}) mixed _ (by kernel_rfl) ?_
    obtain ⟨ab, aq⟩ := ab
    by_cases hi : i < p.length
    · rw [drop_get hi] at aq
      simp (implicitDefEqProofs := false) (dsimp := false) only [go_sem, a0, a1, a5, nat_lt hi, decide_true, row1 cStr_len hi, row1_le cStr_len hi, cStr, str_get00 hp0, str_len1, nat_lt hp0]
      have hg := fun g hg => Nat.le_trans (Nat.le_of_eq (ok.one g hg).1) (by decide : 1 ≤ 1000)
      refine ⟨by omega, fun d1 => ?_, fun d1 => ⟨by omega, fun d2 => ?_, fun d2 => ⟨by omega, ⟨by omega, by omega⟩, fun d3 => ?_, fun d3 => ?_⟩⟩⟩
      · have : p[i].length = 0 := by omega
        rw [← aq, rowsErr, if_pos (by simp [sizedB, this])]; simp [sizedB, this]
      · have n1 : ¬ ((p[i].length : Int) < 1) := by omega
        have n2 : (4 : Int) < p[i].length := d2
        have : sizedB p[i].length 4 = 6 := by rw [sizedB, if_neg n1, if_pos n2]
        rw [← aq, rowsErr, if_pos (by rw [this]; decide), this]
      · have n1 : p[i].length ≠ 0 := by intro e; rw [e] at d1; simp at d1
        have hz : sizedB p[i].length 4 = 0 := by rw [sizedB, if_neg (by omega), if_neg (by omega)]
        have n3 : p[i].length ≠ (p.headD []).length := by intro e; rw [e] at d3; simp at d3
        rw [← aq, rowsErr, if_neg (by rw [hz]; decide), if_pos n3]
      have n1 : p[i].length ≠ 0 := by intro e; rw [e] at d1; simp at d1
      have hz : sizedB p[i].length 4 = 0 := by rw [sizedB, if_neg (by omega), if_neg (by omega)]
      have n3 : p[i].length = (p.headD []).length := by
        have : (p[i].length : Int) = (p.headD []).length := by simpa using d3
        omega
      refine WP.loopI (fun (x : Nat) s => (x ≤ p[i].length ∧ charsErr (mapB gs) (p[i].drop x) = charsErr (mapB gs) p[i]) ∧ s.sl.length = 67 ∧ s.df = [] ∧ s.gh = {} ∧ (s.hp = hp) ∧ evA s.sl (.tmp 0) = sliceOf cGlyph gs ∧ evA s.sl (.tmp 1) = sliceOf cStr p ∧ evA s.sl (.tmp 5) = .int .i64 i ∧ evA s.sl (.tmp 6) = .int .i64 x) (fun (x : Nat) => p[i].length - x) (0) ?_ ?_
      · simp (implicitDefEqProofs := false) (dsimp := false) only [go_sem, Nat.zero_le, List.drop_zero]
      · rintro x ⟨sl, df, hp, gh⟩ ⟨cb, cl, rfl, rfl, rfl, c0, c1, c5, c6⟩
        simp only at cb cl c0 c1 c5 c6
        obtain ⟨j, rfl⟩ := slots_lit cl; clear cl; simp only [junk_succ, junk_zero, evA_tmp, nth_16, nth_four, nth_one, nth_zero, Nat.zero_add, Nat.reduceAdd] at  c0 c1 c5 c6 ⊢
        refine wp_ok (so := {}) mixed _ (by kernel_rfl) ?_
        obtain ⟨cb, cq⟩ := cb
        by_cases hx : x < p[i].length
        · have hw := wrap_succ (i := x) (by omega)
          have ht : (p[i].drop x).take (x + 1 - x) = [p[i][x]] := by
            rw [List.drop_eq_getElem_cons hx, Nat.add_sub_cancel_left]; rfl
          rw [drop_get hx] at cq
          simp (implicitDefEqProofs := false) (dsimp := false) only [go_sem, c0, c1, c5, c6, nat_lt hx, nat_lt hi, decide_true, row1 cStr_len hi, row1_le cStr_len hi, cStr, hw, ht]
          refine ⟨by omega, ?_⟩
          (first | refine CallsA.use (Rglyph_ok gs [p[i][x]] (by omega) (by simp) hg) ?_ | refine QuietCalls.use (Rglyph_ok gs [p[i][x]] (by omega) (by simp) hg) ?_)
          cases hf : glyF gs [p[i][x]] with
          | true =>
            simp (implicitDefEqProofs := false) (dsimp := false) only [go_sem]
            refine ⟨x + 1, ⟨⟨by omega, ?_⟩, wrap_succ (by omega)⟩, by omega⟩
            rw [← cq, charsErr, ← glyF_has ok, hf, if_pos rfl]
          | false =>
            simp (implicitDefEqProofs := false) (dsimp := false) only [go_sem]
            have hc2 : charsErr (mapB gs) p[i] = 2 := by rw [← cq]; exact charsErr_no (by rw [← glyF_has ok, hf])
            rw [← aq, rowsErr_char hz n3 (by rw [hc2]; decide)]
        · have hs : ((x : Int) < (p[i].length : Int)) = False := eq_false (by omega)
          rw [List.drop_eq_nil_of_le (by omega)] at cq
          simp (implicitDefEqProofs := false) (dsimp := false) only [go_sem, c0, c1, c5, c6, nat_lt hi, row1 cStr_len hi, row1_le cStr_len hi, cStr, hs, decide_false]
          refine ⟨i + 1, ⟨⟨by omega, ?_⟩, wrap_succ (by omega)⟩, by omega⟩
          rw [← aq, rowsErr_fine hz n3 (by rw [← cq]; rfl)]
    · have hs : ((i : Int) < (p.length : Int)) = False := eq_false (by omega)
      simp (implicitDefEqProofs := false) (dsimp := false) only [go_sem, a0, a1, a5, hs, decide_false]
      rw [List.drop_eq_nil_of_le (by omega)] at aq
      exact aq
end Go.Mac
namespace Go.Mac
open Go Go.Conc Go.Proofs
set_option maxRecDepth 4000
theorem andK_comm (a b : Int) : andK .i64 a b = andK .i64 b a := by simp only [andK, BitVec.and_comm]
def bitAt : Nat → Int
  | 0 => 1 | 1 => 2 | 2 => 4 | 3 => 8 | 4 => 16 | _ => 32
def halfAcc (n : Int) : Nat → Int
  | 0 => 0
  | i + 1 => if andK .i64 n (bitAt i) = 0 then halfAcc n i else orK .i64 (halfAcc n i) (turnAt i)
def halfR (n : Int) : Int := halfAcc n 6
def mirTo : Nat → Int
  | 0 => 2 | 1 => 1 | 2 => 8 | _ => 4
def mirAcc (n : Int) : Nat → Int
  | 0 => andK .i64 n 48
  | i + 1 => if andK .i64 n (bitAt i) = 0 then mirAcc n i else IntKind.i64.wrap (mirAcc n i + mirTo i)
def mirR (n : Int) : Int := mirAcc n 4
theorem half_all : (List.range 64).all (fun n => halfR n == turnB n && mirR n == mirroredB n) = true := by kernel_rfl
theorem half64 {n : Int} (h : is64 n) : halfR n = turnB n ∧ mirR n = mirroredB n := by
  obtain ⟨x, rfl⟩ : ∃ x : Nat, n = x := ⟨n.toNat, by have := h.1; omega⟩
  have := List.all_eq_true.1 half_all x (List.mem_range.2 (by have := h.2; omega))
  simp only [Bool.and_eq_true, beq_iff_eq] at this
  exact this
theorem Rhalf_ok (n : Int) : PureA Tryz.prog 82 [.int .i64 n] (.int .i64 (halfR n)) := by
  refine PureA.of_wpp { shut := [7, 8] } 28 mixed Tryz.func82 (by kernel_rfl) rfl (by kernel_rfl) (rfl) fun h j hB => ?_
  simp only [junk_succ, junk_zero, List.cons_append, List.nil_append, List.length_cons, List.length_nil, Nat.reduceAdd]
  simp (implicitDefEqProofs := false) (dsimp := false) only [go_sem]
  refine WP.loopI (fun (i : Nat) s => (i ≤ 6) ∧ s.sl.length = 29 ∧ s.df = [] ∧ s.gh = {} ∧ (s.hp = h) ∧ evA s.sl (.tmp 0) = .int .i64 n ∧ evA s.sl (.tmp 3) = .psl [.int .i64 1, .int .i64 2, .int .i64 4, .int .i64 8, .int .i64 16, .int .i64 32] 6 ∧ evA s.sl (.tmp 4) = .psl [.int .i64 8, .int .i64 4, .int .i64 2, .int .i64 1, .int .i64 32, .int .i64 16] 6 ∧ evA s.sl (.tmp 5) = .int .i64 (halfAcc n i) ∧ evA s.sl (.tmp 6) = .int .i64 i) (fun (i : Nat) => 6 - i) (0) ?_ ?_
  · simp (implicitDefEqProofs := false) (dsimp := false) only [go_sem, halfAcc]
  · rintro i ⟨sl, df, hp, gh⟩ ⟨ab, al, rfl, rfl, rfl, a0, a3, a4, a5, a6⟩
    simp only at ab al a0 a3 a4 a5 a6
    obtain ⟨j, rfl⟩ := slots_lit al; clear al; simp only [junk_succ, junk_zero, evA_tmp, nth_16, nth_four, nth_one, nth_zero, Nat.zero_add, Nat.reduceAdd] at  a0 a3 a4 a5 a6 ⊢
    refine wp_ok (so := { shut := [7, 8] }) mixed _ (by kernel_rfl) ?_
    by_cases hi : i < 6
    · have hx : [AV.int IntKind.i64 8, AV.int IntKind.i64 4, AV.int IntKind.i64 2, AV.int IntKind.i64 1, AV.int IntKind.i64 32, AV.int IntKind.i64 16].drop i = .int .i64 (turnAt i) :: [AV.int IntKind.i64 8, AV.int IntKind.i64 4, AV.int IntKind.i64 2, AV.int IntKind.i64 1, AV.int IntKind.i64 32, AV.int IntKind.i64 16].drop (i + 1) := by
        match i, hi with
        | 0, _ => rfl | 1, _ => rfl | 2, _ => rfl | 3, _ => rfl | 4, _ => rfl | 5, _ => rfl
      have hy : [AV.int IntKind.i64 1, AV.int IntKind.i64 2, AV.int IntKind.i64 4, AV.int IntKind.i64 8, AV.int IntKind.i64 16, AV.int IntKind.i64 32].drop i = .int .i64 (bitAt i) :: [AV.int IntKind.i64 1, AV.int IntKind.i64 2, AV.int IntKind.i64 4, AV.int IntKind.i64 8, AV.int IntKind.i64 16, AV.int IntKind.i64 32].drop (i + 1) := by
        match i, hi with
        | 0, _ => rfl | 1, _ => rfl | 2, _ => rfl | 3, _ => rfl | 4, _ => rfl | 5, _ => rfl
      have hs : ((i : Int) < 6) = True := eq_true (by omega)
      have hle : (i ≤ 6) = True := eq_true (by omega)
      have hw := wrap_succ (i := i) (by omega)
      simp (implicitDefEqProofs := false) (dsimp := false) only [go_sem, a0, a3, a4, a5, a6, hs, hle, hx, hy, decide_true, hi]
      refine ⟨fun e => ⟨i + 1, ⟨by omega, ?_, hw⟩, by omega⟩, fun e => ⟨i + 1, ⟨by omega, ?_, hw⟩, by omega⟩⟩
      · have : ¬ andK .i64 n (bitAt i) = 0 := by simpa using e
        simp [halfAcc, this]
      · have : andK .i64 n (bitAt i) = 0 := by simpa using e
        simp [halfAcc, this]
    · have : i = 6 := by omega
      subst this
      simp (implicitDefEqProofs := false) (dsimp := false) only [go_sem, a0, a3, a4, a5, a6]
      rfl
theorem RMirrored_ok (n : Int) : PureA Tryz.prog 138 [.int .i64 n] (.int .i64 (mirR n)) := by
  refine PureA.of_wpp { shut := [9, 10] } 30 mixed Tryz.func138 (by kernel_rfl) rfl (by kernel_rfl) (rfl) fun h j hB => ?_
  simp only [junk_succ, junk_zero, List.cons_append, List.nil_append, List.length_cons, List.length_nil, Nat.reduceAdd]
  simp (implicitDefEqProofs := false) (dsimp := false) only [go_sem]
  refine WP.loopI (fun (i : Nat) s => (i ≤ 4) ∧ s.sl.length = 31 ∧ s.df = [] ∧ s.gh = {} ∧ (s.hp = h) ∧ evA s.sl (.tmp 0) = .int .i64 n ∧ evA s.sl (.tmp 4) = .psl [.int .i64 1, .int .i64 2, .int .i64 4, .int .i64 8] 4 ∧ evA s.sl (.tmp 5) = .psl [.int .i64 2, .int .i64 1, .int .i64 8, .int .i64 4] 4 ∧ evA s.sl (.tmp 3) = .int .i64 (mirAcc n i) ∧ evA s.sl (.tmp 6) = .int .i64 i) (fun (i : Nat) => 4 - i) (0) ?_ ?_
  · simp (implicitDefEqProofs := false) (dsimp := false) only [go_sem, mirAcc]
  · rintro i ⟨sl, df, hp, gh⟩ ⟨ab, al, rfl, rfl, rfl, a0, a4, a5, a3, a6⟩
    simp only at ab al a0 a4 a5 a3 a6
    obtain ⟨j, rfl⟩ := slots_lit al; clear al; simp only [junk_succ, junk_zero, evA_tmp, nth_16, nth_four, nth_one, nth_zero, Nat.zero_add, Nat.reduceAdd] at  a0 a4 a5 a3 a6 ⊢
    refine wp_ok (so := { shut := [9, 10] }) mixed _ (by kernel_rfl) ?_
    by_cases hi : i < 4
    · have hx : [AV.int IntKind.i64 2, AV.int IntKind.i64 1, AV.int IntKind.i64 8, AV.int IntKind.i64 4].drop i = .int .i64 (mirTo i) :: [AV.int IntKind.i64 2, AV.int IntKind.i64 1, AV.int IntKind.i64 8, AV.int IntKind.i64 4].drop (i + 1) := by
        match i, hi with
        | 0, _ => rfl | 1, _ => rfl | 2, _ => rfl | 3, _ => rfl
      have hy : [AV.int IntKind.i64 1, AV.int IntKind.i64 2, AV.int IntKind.i64 4, AV.int IntKind.i64 8].drop i = .int .i64 (bitAt i) :: [AV.int IntKind.i64 1, AV.int IntKind.i64 2, AV.int IntKind.i64 4, AV.int IntKind.i64 8].drop (i + 1) := by
        match i, hi with
        | 0, _ => rfl | 1, _ => rfl | 2, _ => rfl | 3, _ => rfl
      have hs : ((i : Int) < 4) = True := eq_true (by omega)
      have hle : (i ≤ 4) = True := eq_true (by omega)
      have hw := wrap_succ (i := i) (by omega)
      simp (implicitDefEqProofs := false) (dsimp := false) only [go_sem, a0, a4, a5, a3, a6, hs, hle, hx, hy, decide_true, hi]
      refine ⟨fun e => ⟨i + 1, ⟨by omega, ?_, hw⟩, by omega⟩, fun e => ⟨i + 1, ⟨by omega, ?_, hw⟩, by omega⟩⟩
      · have : ¬ andK .i64 n (bitAt i) = 0 := by simpa using e
        simp [mirAcc, this]
      · have : andK .i64 n (bitAt i) = 0 := by simpa using e
        simp [mirAcc, this]
    · have : i = 4 := by omega
      subst this
      simp (implicitDefEqProofs := false) (dsimp := false) only [go_sem, a0, a4, a5, a3, a6]
      rfl
theorem Rfits_ok (b : Board) (okc : okCells b.cells) (r c : Nat) (n : Int) (hr : r < b.cells.length) (hc : c < (b.cells.headD []).length) : PureA Tryz.prog 116 [.agg (brdA b), .int .i64 r, .int .i64 c, .int .i64 n] (.bool (fitsB n (traceAt b.cells r c))) := by
  refine PureA.of_wpp { cut := [25] } 28 mixed Tryz.func116 (by kernel_rfl) rfl (by kernel_rfl) (rfl) fun h j hB => ?_
  simp only [junk_succ, junk_zero, List.cons_append, List.nil_append, List.length_cons, List.length_nil, Nat.reduceAdd]
  have hc' := okc.at hr hc
  simp (implicitDefEqProofs := false) (dsimp := false) only [go_sem, brdA, nat_lt hr, row1 cTraces_len hr, row1_le cTraces_len hr, cTraces, nat_lt hc', rowN cTrace_len hc', rowN_le cTrace_len hc', cTrace]
  have h1 : andK .i64 b.cells[r][c].seen n = andK .i64 n b.cells[r][c].seen := andK_comm _ _
  have h2 : andK .i64 b.cells[r][c].bare n = andK .i64 n b.cells[r][c].bare := andK_comm _ _
  rw [fitsB, traceAt_eq hr hc', h1, h2]
  refine ⟨fun e => ?_, fun e => ?_⟩
  · rw [e]; simp
  · rw [e]; simp
theorem Rletter_ok (b : Board) (l : Lay) (row col : Int) (p : Nat) (hp : l.page = p) (hpl : p < b.pages.length) (h0 : 0 < b.pages[p].length) (hl : b.pages[p].length ≤ 1000) (hr : -1000 ≤ row ∧ row ≤ 1000) (hc : -1000 ≤ col ∧ col ≤ 1000) (hd : -1000 ≤ l.down ∧ l.down ≤ 1000) (hrt : -1000 ≤ l.right ∧ l.right ≤ 1000) (hw : (b.pages[p].headD []).length ≤ 1000) : PureA Tryz.prog 115 [.agg (brdA b), .agg (cLay l), .int .i64 row, .int .i64 col] (tup3 (letterB b.pages[p] l row col)) := by
  refine PureA.of_wpp { cut := [34] } 56 mixed Tryz.func115 (by kernel_rfl) rfl (by kernel_rfl) (rfl) fun h j hB => ?_
  simp only [junk_succ, junk_zero, List.cons_append, List.nil_append, List.length_cons, List.length_nil, Nat.reduceAdd]
  obtain ⟨pg, tu, dn, rt⟩ := l
  simp only at hp hd hrt
  subst hp
  have hw1 : IntKind.i64.wrap (row - dn) = row - dn := wrap64 (by omega) (by omega)
  have hw2 : IntKind.i64.wrap (col - rt) = col - rt := wrap64 (by omega) (by omega)
  have hw3 : IntKind.i64.wrap ((b.pages[p].length : Int) - 1) = (b.pages[p].length : Int) - 1 := wrap64 (by omega) (by omega)
  have hw4 : IntKind.i64.wrap (((b.pages[p].headD []).length : Int) - 1) = ((b.pages[p].headD []).length : Int) - 1 := wrap64 (by omega) (by omega)
  simp (implicitDefEqProofs := false) (dsimp := false) only [go_sem, brdA, cLay, row1 cPage_len hpl, row1_le cPage_len hpl, nat_lt hpl, cPage, hw1, hw2, str_get00 h0, str_len1, nat_lt h0, hw3, hw4]
  (first | refine CallsA.use (inside_ok (row - dn) 0 ((b.pages[p].length : Int) - 1)) ?_ | refine QuietCalls.use (inside_ok (row - dn) 0 ((b.pages[p].length : Int) - 1)) ?_)
  cases q1 : (decide ((0 : Int) ≤ row - dn) && decide (row - dn ≤ (b.pages[p].length : Int) - 1)) with
  | false =>
    simp (implicitDefEqProofs := false) (dsimp := false) only [go_sem]
    rw [letterB_out (by simp only [Bool.and_eq_false_iff, decide_eq_false_iff_not] at q1; simp only; omega)]; rfl
  | true =>
    simp only [Bool.and_eq_true, decide_eq_true_eq] at q1
    simp (implicitDefEqProofs := false) (dsimp := false) only [go_sem, str_get0 h0, str_len1, nat_lt h0, hw4, str_get00 h0]
    refine ⟨⟨by omega, by omega⟩, ?_⟩
    (first | refine CallsA.use (inside_ok (col - rt) 0 (((b.pages[p].headD []).length : Int) - 1)) ?_ | refine QuietCalls.use (inside_ok (col - rt) 0 (((b.pages[p].headD []).length : Int) - 1)) ?_)
    cases q2 : (decide ((0 : Int) ≤ col - rt) && decide (col - rt ≤ ((b.pages[p].headD []).length : Int) - 1)) with
    | false =>
      simp (implicitDefEqProofs := false) (dsimp := false) only [go_sem]
      rw [letterB_out (by simp only [Bool.and_eq_false_iff, decide_eq_false_iff_not] at q2; simp only; omega)]; rfl
    | true =>
      simp only [Bool.and_eq_true, decide_eq_true_eq] at q2
      have hin := letterB_in (p := b.pages[p]) (l := ⟨p, tu, dn, rt⟩) (row := row) (col := col) (by simp only; omega)
      have hw5 : IntKind.i64.wrap ((b.pages[p].length : Int) - 1 - (row - dn)) = (b.pages[p].length : Int) - 1 - (row - dn) := wrap64 (by omega) (by omega)
      have hw6 : IntKind.i64.wrap (((b.pages[p].headD []).length : Int) - 1 - (col - rt)) = ((b.pages[p].headD []).length : Int) - 1 - (col - rt) := wrap64 (by omega) (by omega)
      simp (implicitDefEqProofs := false) (dsimp := false) only [go_sem, hw3, hw4, hw5, hw6, str_get00 h0, str_len1, nat_lt h0, str_get0 h0]
      refine ⟨fun e => ?_, fun e => ?_⟩
      · subst e; rw [hin]; rfl
      · subst e; refine ⟨⟨by omega, by omega⟩, ?_⟩; rw [hin]; rfl
theorem strokesB_at {gs : List Glyph} {nm : List UInt8} {k : Nat} (h : glyI gs nm = some k) : ∃ hk : k < gs.length, strokesB gs nm = gs[k].strokes := by
  induction gs generalizing k with
  | nil => simp [glyI] at h
  | cons g l ih =>
    rw [glyI, List.findIdx?_cons] at h
    by_cases e : g.name = nm
    · rw [if_pos (by simpa using e)] at h
      cases h
      exact ⟨by simp, by rw [strokesB, if_pos e]; rfl⟩
    · rw [if_neg (by simpa using e)] at h
      obtain ⟨k', hk', rfl⟩ := Option.map_eq_some_iff.1 h
      obtain ⟨h1, h2⟩ := ih hk'
      exact ⟨by simpa using h1, by rw [strokesB, if_neg e, h2]; rfl⟩
theorem strokesB_none {gs : List Glyph} {nm : List UInt8} (h : glyI gs nm = none) : strokesB gs nm = 0 := by
  induction gs with
  | nil => rfl
  | cons g l ih =>
    rw [glyI, List.findIdx?_cons] at h
    by_cases e : g.name = nm
    · rw [if_pos (by simpa using e)] at h; cases h
    · rw [if_neg (by simpa using e)] at h
      rw [strokesB, if_neg e]
      exact ih (Option.map_eq_none_iff.1 h)
def glyS (gs : List Glyph) (n : Int) : Int := if n < 0 then 0 else (gs.getD n.toNat ⟨[], 0⟩).strokes
theorem glyS_N (gs : List Glyph) (nm : List UInt8) : glyS gs (glyN gs nm) = strokesB gs nm := by
  unfold glyN
  cases h : glyI gs nm with
  | none => rw [strokesB_none h]; rfl
  | some k =>
    obtain ⟨h1, h2⟩ := strokesB_at h
    rw [h2, glyS, if_neg (by simp only; omega)]
    simp [List.getD, h1]
theorem glyN_lt (gs : List Glyph) (nm : List UInt8) : -1 ≤ glyN gs nm ∧ glyN gs nm < gs.length := by
  unfold glyN
  cases h : glyI gs nm with
  | none => exact ⟨by simp, by simp only; omega⟩
  | some k =>
    obtain ⟨h1, _⟩ := strokesB_at h
    exact ⟨by simp only; omega, by simp only; omega⟩
theorem asB0 (l : Lay) : asB l 0 = 0 := by unfold asB; cases l.turned <;> decide
theorem Rseen_ok (b : Board) (okg : okGlyphs b.glyphs) (l : Lay) (n : Int) (h1 : -1 ≤ n) (h2 : n < b.glyphs.length) : PureA Tryz.prog 117 [.agg (brdA b), .agg (cLay l), .int .i64 n] (.int .i64 (asB l (glyS b.glyphs n))) := by
  refine PureA.of_wpp {} 19 mixed Tryz.func117 (by kernel_rfl) rfl (by kernel_rfl) (rfl) fun h j hB => ?_
  simp only [junk_succ, junk_zero, List.cons_append, List.nil_append, List.length_cons, List.length_nil, Nat.reduceAdd]
  obtain ⟨pg, tu, dn, rt⟩ := l
  simp (implicitDefEqProofs := false) (dsimp := false) only [go_sem, brdA, cLay]
  refine ⟨fun c => ?_, fun c => ?_⟩
  · rw [glyS, if_pos c, asB0]
  · obtain ⟨k, rfl⟩ : ∃ k : Nat, n = k := ⟨n.toNat, by omega⟩
    have hk : k < b.glyphs.length := by omega
    have hst := okg.one _ (List.getElem_mem hk)
    have h64 : is64 b.glyphs[k].strokes := ⟨by omega, by omega⟩
    have hg : glyS b.glyphs k = b.glyphs[k].strokes := by rw [glyS, if_neg c]; simp [List.getD, hk]
    simp (implicitDefEqProofs := false) (dsimp := false) only [go_sem, brdA, cLay, nat_lt hk, rowN cGlyph_len hk, rowN_le cGlyph_len hk, cGlyph]
    refine ⟨fun e => ?_, fun e => ?_⟩
    · subst e
      (first | refine CallsA.use (Rhalf_ok _) ?_ | refine QuietCalls.use (Rhalf_ok _) ?_)
      simp (implicitDefEqProofs := false) (dsimp := false) only [go_sem]
      (first | refine CallsA.use (RMirrored_ok _) ?_ | refine QuietCalls.use (RMirrored_ok _) ?_)
      simp (implicitDefEqProofs := false) (dsimp := false) only [go_sem]
      have h64' : is64 (turnB b.glyphs[k].strokes) := (mirB64 h64).2
      rw [hg, (half64 h64).1, (half64 h64').2]; rfl
    · subst e
      (first | refine CallsA.use (RMirrored_ok _) ?_ | refine QuietCalls.use (RMirrored_ok _) ?_)
      simp (implicitDefEqProofs := false) (dsimp := false) only [go_sem]
      rw [hg, (half64 h64).2]; rfl
theorem ch_eq {p : List (List UInt8)} {x y : Nat} (hx : x < p.length) (hy : y < p[x].length) : charAt p x y = p[x][y].toNat := by simp [charAt, List.getD, hx, hy]
theorem Rshown_ok (b : Board) (okg : okGlyphs b.glyphs) (l : Lay) (row col : Int) (p : Nat) (hlp : l.page = p) (hp : p < b.pages.length) (ok : okPage b.pages[p]) (hr : -1000 ≤ row ∧ row ≤ 1000) (hc : -1000 ≤ col ∧ col ≤ 1000) (hd : -1000 ≤ l.down ∧ l.down ≤ 1000) (hrt : -1000 ≤ l.right ∧ l.right ≤ 1000) : PureA Tryz.prog 72 [.agg (brdA b), .agg (cLay l), .int .i64 row, .int .i64 col] (.int .i64 (shownB (mapB b.glyphs) b.pages[p] l row col)) := by
  refine PureA.of_wpp {} 44 mixed Tryz.func72 (by kernel_rfl) rfl (by kernel_rfl) (rfl) fun h j hB => ?_
  simp only [junk_succ, junk_zero, List.cons_append, List.nil_append, List.length_cons, List.length_nil, Nat.reduceAdd]
  obtain ⟨pg, tu, dn, rt⟩ := l
  simp only at hlp hd hrt
  subst hlp
  have h1 := ok.pos
  have h2 := ok.most
  have h3 := ok.wmost
  have hm := okg.most
  have hg := fun g hg => Nat.le_trans (Nat.le_of_eq (okg.one g hg).1) (by decide : 1 ≤ 1000)
  simp (implicitDefEqProofs := false) (dsimp := false) only [go_sem, brdA, cLay]
  (first | refine CallsA.use (Rletter_ok b ⟨p, tu, dn, rt⟩ row col p rfl hp h1 (by omega) hr hc hd hrt (by omega)) ?_ | refine QuietCalls.use (Rletter_ok b ⟨p, tu, dn, rt⟩ row col p rfl hp h1 (by omega) hr hc hd hrt (by omega)) ?_)
  rcases letterB_cases (p := b.pages[p]) ⟨p, tu, dn, rt⟩ row col with e | ⟨r, c, e, hx, hy0⟩
  · rw [e]
    simp (implicitDefEqProofs := false) (dsimp := false) only [go_sem, tup3]
    simp only [shownB, e]; rfl
  · have hy : c < b.pages[p][r].length := by rw [ok.row hx]; omega
    have hw := wrap_succ (i := c) (by omega)
    have ht : (b.pages[p][r].drop c).take (c + 1 - c) = [b.pages[p][r][c]] := by
      rw [List.drop_eq_getElem_cons hy, Nat.add_sub_cancel_left]; rfl
    rw [e]
    simp (implicitDefEqProofs := false) (dsimp := false) only [go_sem, tup3, brdA, cLay, row1 cPage_len hp, row1_le cPage_len hp, nat_lt hp, cPage, row1 cStr_len hx, row1_le cStr_len hx, nat_lt hx, cStr, hw, ht]
    refine ⟨⟨by omega, by omega⟩, ?_⟩
    (first | refine CallsA.use (Rglyph_ok b.glyphs [b.pages[p][r][c]] (by omega) (by simp) hg) ?_ | refine QuietCalls.use (Rglyph_ok b.glyphs [b.pages[p][r][c]] (by omega) (by simp) hg) ?_)
    simp (implicitDefEqProofs := false) (dsimp := false) only [go_sem]
    have hN := glyN_lt b.glyphs [b.pages[p][r][c]]
    (first | refine CallsA.use (Rseen_ok b okg ⟨p, tu, dn, rt⟩ _ hN.1 hN.2) ?_ | refine QuietCalls.use (Rseen_ok b okg ⟨p, tu, dn, rt⟩ _ hN.1 hN.2) ?_)
    simp (implicitDefEqProofs := false) (dsimp := false) only [go_sem]
    simp only [shownB, e, if_true, glyS_N, strokesB_eq okg]
    rw [ch_eq (x := r) (y := c) hx hy]
end Go.Mac
namespace Go.Mac
open Go Go.Conc Go.Proofs
set_option maxRecDepth 4000
theorem laysB_le {b : Board} (ok : okBoard b) : (laysB b).length ≤ 72 := by
  unfold laysB rightsB
  have h1 := List.length_filter_le (rightB b) (allWays b (mapB b.glyphs))
  have h2 := allWays_len b (mapB b.glyphs)
  have := ok.most
  omega
end Go.Mac
namespace Go.Mac
open Go Go.Conc Go.Proofs
theorem misB_nil {f : List Int} {cs : List (List Trace)} (h : (misB f cs).length = 0) {r c : Nat} (hr : r < cs.length) (hc : c < (cs.headD []).length) (hc4 : c < 4) : fitsB (f.getD (4 * r + c) 0) (traceAt cs r c) = true := by
  have h0 : misB f cs = [] := List.length_eq_zero_iff.1 h
  unfold misB misTo at h0
  rw [List.flatMap_eq_nil_iff] at h0
  have h1 := h0 (4 * r + c) (List.mem_range.2 (by omega))
  simp only [show (4 * r + c) % 4 = c by omega, hc, if_true, misAt, show (4 * r + c) / 4 = r by omega] at h1
  cases hf : fitsB (f.getD (4 * r + c) 0) (traceAt cs r c) with
  | true => rfl
  | false => rw [hf] at h1; simp at h1
theorem mem_ways {b : Board} {m : List (Int × Int)} {x : Lay × List Int} (h : x ∈ allWays b m) : ∃ p n, p < b.pages.length ∧ n < 18 ∧ x = wayN b m p n := by
  unfold allWays at h
  obtain ⟨p, hp, hx⟩ := List.mem_flatMap.1 h
  obtain ⟨n, hn, rfl⟩ := List.mem_map.1 hx
  exact ⟨p, n, List.mem_range.1 hp, List.mem_range.1 hn, rfl⟩
theorem face_get {m : List (Int × Int)} {p : List (List UInt8)} {cs : List (List Trace)} {l : Lay} {r c : Nat} (hr : r < cs.length) (hr3 : cs.length ≤ 3) (hc : c < (cs.headD []).length) (hc4 : (cs.headD []).length ≤ 4) : (faceB m p cs l).getD (4 * r + c) 0 = shownB m p l r c := by
  unfold faceB part12
  have : 4 * r + c < 12 := by omega
  rw [List.getD_eq_getElem?_getD, List.getElem?_map, List.getElem?_range this]
  simp only [Option.map_some, Option.getD_some, this, if_true, faceAt]
  rw [show (4 * r + c) / 4 = r by omega, show (4 * r + c) % 4 = c by omega, if_pos ⟨hr, hc⟩]
section
variable {xs : List (Lay × List Int)} {i : Nat} (h64 : ∀ x ∈ xs, is64 (x.2.getD i 0))
include h64
end
end Go.Mac
namespace Go.Mac
open Go Go.Conc Go.Proofs
set_option maxRecDepth 4000
def layErr2 (b : Board) (l : Lay) : Int := if boardErr b ≠ 0 then boardErr b else layErr b l
def misR (b : Board) (l : Lay) : List (Int × Int) := wrongB (mapB b.glyphs) (b.pages.getD l.page.toNat []) b.cells l
end Go.Mac
namespace Go.Mac
open Go Go.Conc Go.Proofs
set_option maxRecDepth 4000
theorem RcheckGlyphs_ok (gs : List Glyph) : PureA Tryz.prog 120 [sliceOf cGlyph gs] (.int .i64 (glyphsErr gs)) := by
  refine PureA.of_wpp { cut := [24, 32, 42] } 78 mixed Tryz.func120 (by kernel_rfl) rfl (by kernel_rfl) (rfl) fun h j hB => ?_
  simp only [junk_succ, junk_zero, List.cons_append, List.nil_append, List.length_cons, List.length_nil, Nat.reduceAdd]
  simp (implicitDefEqProofs := false) (dsimp := false) only [go_sem]
  refine ⟨fun c0 => ?_, fun c0 => ⟨fun c1 => ?_, fun c1 => ?_⟩⟩
  · have : gs.length = 0 := by simpa using c0
    simp [glyphsErr, this]
  · have h0 : gs.length ≠ 0 := by intro e; rw [e] at c0; simp at c0
    simp only [glyphsErr, h0, if_false]; rw [if_pos (by omega)]
  have hne : gs.length ≠ 0 := by intro e; rw [e] at c0; simp at c0
  have eg : gliErr [] gs = glyphsErr gs := by simp only [glyphsErr, hne, if_false]; rw [if_neg (by omega)]
  refine WP.loopI (fun (i : Nat) s => (i ≤ gs.length ∧ gliErr (gs.take i) (gs.drop i) = glyphsErr gs ∧ (lastName (gs.take i)).length ≤ 1) ∧ s.sl.length = 79 ∧ s.df = [] ∧ s.gh = {} ∧ (s.hp = h) ∧ evA s.sl (.tmp 0) = sliceOf cGlyph gs ∧ evA s.sl (.tmp 3) = .int .i64 i) (fun (i : Nat) => gs.length - i) (0) ?_ ?_
  · simp (implicitDefEqProofs := false) (dsimp := false) only [go_sem, Nat.zero_le]
    exact ⟨eg, by simp [lastName]⟩
  · rintro i ⟨sl, df, hp, gh⟩ ⟨ab, al, rfl, rfl, rfl, a0, a3⟩
    simp only at ab al a0 a3
    obtain ⟨j, rfl⟩ := slots_lit al; clear al; simp only [junk_succ, junk_zero, evA_tmp, nth_16, nth_four, nth_one, nth_zero, Nat.zero_add, Nat.reduceAdd] at  a0 a3 ⊢
    refine wp_ok (so := { cut := [24, 32, 42] }) mixed _ (by kernel_rfl) ?_
    obtain ⟨ab, aq, hlen⟩ := ab
    by_cases hi : i < gs.length
    · rw [drop_get hi] at aq
      have htl : (gs.take i).length = i := by simp; omega
      have hne : gs.take i = [] ↔ i = 0 := by rw [← List.length_eq_zero_iff, htl]
      have hnil : i = 0 → gs.take i = [] := fun e => by rw [e]; rfl
      have w : i ≠ 0 → IntKind.i64.wrap ((i : Int) - 1) = ((i - 1 : Nat) : Int) := fun e => by rw [wrap64 (by omega) (by omega)]; omega
      by_cases h0 : i = 0
      case' pos =>
        have e1 : ((i : Int) > 0) = False := eq_false (by omega)
        simp (implicitDefEqProofs := false) (dsimp := false) only [go_sem, a0, a3, nat_lt hi, decide_true, decide_false, rowN cGlyph_len hi, rowN_le cGlyph_len hi, hi, cGlyph, e1]
        refine ⟨fun d1 => by rw [← aq, gliErr, if_pos (.inl (by intro e; rw [e] at d1; simp at d1))], fun d1 => ?_⟩
        have hl1 : gs[i].name.length = 1 := by have := eq_of_beq (by simpa [bne] using d1 : ((gs[i].name.length : Int) == 1) = true); omega
        refine ⟨by omega, fun d2 => by rw [← aq, gliErr, if_pos (.inr (.inl d2))], fun d2 => ⟨by omega, fun d3 => by rw [← aq, gliErr, if_pos (.inr (.inr (by simpa using d3)))], fun d3 => ?_⟩⟩
        have Q5 : ¬ (gs.take i ≠ [] ∧ (Op.bytesLess gs[i].name (lastName (gs.take i)) || gs[i].name == lastName (gs.take i)) = true) := fun e => e.1 (hnil h0)
      case' neg =>
        have e1 : ((i : Int) > 0) = True := eq_true (by omega)
        have hi1 : i - 1 < gs.length := by omega
        have hlast : gs[i - 1].name = lastName (gs.take i) := by
          unfold lastName
          rw [List.getLastD_eq_getLast?, List.getLast?_eq_getElem?, htl, List.getElem?_eq_getElem (by omega)]; simp
        simp (implicitDefEqProofs := false) (dsimp := false) only [go_sem, a0, a3, nat_lt hi, decide_true, decide_false, rowN cGlyph_len hi, rowN_le cGlyph_len hi, hi, cGlyph, e1, w h0, nat_lt hi1, rowN cGlyph_len hi1, rowN_le cGlyph_len hi1]
        refine ⟨fun d1 => by rw [← aq, gliErr, if_pos (.inl (by intro e; rw [e] at d1; simp at d1))], fun d1 => ?_⟩
        have hl1 : gs[i].name.length = 1 := by have := eq_of_beq (by simpa [bne] using d1 : ((gs[i].name.length : Int) == 1) = true); omega
        refine ⟨by omega, fun d2 => by rw [← aq, gliErr, if_pos (.inr (.inl d2))], fun d2 => ⟨by omega, fun d3 => by rw [← aq, gliErr, if_pos (.inr (.inr (by simpa using d3)))], fun d3 => ?_⟩⟩
        have p2' : ¬ (gs[i].name.length ≠ 1 ∨ Op.bytesLess gs[i].name [97] = true ∨ (Op.bytesLess gs[i].name [122] || gs[i].name == [122]) = false) := by
          rintro (e | e | e)
          · exact e hl1
          · rw [d2] at e; cases e
          · rw [e] at d3; cases d3
        rw [hlast]
        refine ⟨by omega, fun d4 => by rw [← aq, gliErr, if_neg p2', if_pos ⟨by rw [ne_eq, hne]; exact h0, d4⟩], fun d4 => ?_⟩
        have Q5 : ¬ (gs.take i ≠ [] ∧ (Op.bytesLess gs[i].name (lastName (gs.take i)) || gs[i].name == lastName (gs.take i)) = true) := by
          rintro ⟨_, e⟩
          rw [d4] at e; cases e
      all_goals
        have p2 : ¬ (gs[i].name.length ≠ 1 ∨ Op.bytesLess gs[i].name [97] = true ∨ (Op.bytesLess gs[i].name [122] || gs[i].name == [122]) = false) := by
          rintro (e | e | e)
          · exact e hl1
          · rw [d2] at e; cases e
          · rw [e] at d3; cases d3
        (first | refine CallsA.use (within_ok gs[i].strokes 1 63) ?_ | refine QuietCalls.use (within_ok gs[i].strokes 1 63) ?_)
        cases q6 : (decide ((1 : Int) ≤ gs[i].strokes) && decide (gs[i].strokes ≤ 63)) with
        | false =>
          simp (implicitDefEqProofs := false) (dsimp := false) only [go_sem]
          rw [← aq, gliErr, if_neg p2, if_neg Q5, if_pos (by simp only [Bool.and_eq_false_iff, decide_eq_false_iff_not] at q6; omega)]
        | true =>
          simp only [Bool.and_eq_true, decide_eq_true_eq] at q6
          simp (implicitDefEqProofs := false) (dsimp := false) only [go_sem]
          refine WP.loopI (fun (x : Nat) s => (x ≤ i ∧ ∀ q (hq : q < gs.length), q < x → gs[q].strokes ≠ gs[i].strokes) ∧ s.sl.length = 79 ∧ s.df = [] ∧ s.gh = {} ∧ (s.hp = hp) ∧ evA s.sl (.tmp 0) = sliceOf cGlyph gs ∧ evA s.sl (.tmp 3) = .int .i64 i ∧ evA s.sl (.tmp 4) = .int .i64 x) (fun (x : Nat) => i - x) (0) ?_ ?_
          · simp (implicitDefEqProofs := false) (dsimp := false) only [go_sem, Nat.zero_le]
            exact fun q hq e => by omega
          · rintro x ⟨sl, df, hp, gh⟩ ⟨cb, cl, rfl, rfl, rfl, c0, c3, c4⟩
            simp only at cb cl c0 c3 c4
            obtain ⟨j, rfl⟩ := slots_lit cl; clear cl; simp only [junk_succ, junk_zero, evA_tmp, nth_16, nth_four, nth_one, nth_zero, Nat.zero_add, Nat.reduceAdd] at  c0 c3 c4 ⊢
            refine wp_ok (so := { cut := [24, 32, 42] }) mixed _ (by kernel_rfl) ?_
            obtain ⟨cb, cq⟩ := cb
            by_cases hx : x < i
            · have hx' : x < gs.length := by omega
              simp (implicitDefEqProofs := false) (dsimp := false) only [go_sem, c0, c3, c4, nat_lt hx, nat_lt hx', nat_lt hi, decide_true, rowN cGlyph_len hi, rowN_le cGlyph_len hi, rowN cGlyph_len hx', rowN_le cGlyph_len hx', cGlyph]
              refine ⟨fun e => ?_, fun e => ⟨x + 1, ⟨⟨by omega, fun q hq h3 => ?_⟩, wrap_succ (by omega)⟩, by omega⟩⟩
              · have : (gs.take i).any (fun x => x.strokes == gs[i].strokes) = true := by
                  rw [List.any_eq_true]
                  refine ⟨gs[x], List.mem_take_iff_getElem.2 ⟨x, by omega, rfl⟩, by simpa using e⟩
                rw [← aq, gliErr, if_neg p2, if_neg Q5, if_neg (by omega), if_pos this]
              · by_cases e3 : q = x
                · subst e3; exact by simpa using e
                · exact cq q hq (by omega)
            · have hs : ((x : Int) < (i : Int)) = False := eq_false (by omega)
              simp (implicitDefEqProofs := false) (dsimp := false) only [go_sem, c0, c3, c4, hs, decide_false]
              have d8 : (gs.take i).any (fun x => x.strokes == gs[i].strokes) = false := by
                rw [List.any_eq_false]
                intro y hy
                obtain ⟨q, hq, rfl⟩ := List.mem_take_iff_getElem.1 hy
                have := cq q (by omega) (by omega)
                simpa using this
              refine ⟨i + 1, ⟨⟨by omega, ?_, ?_⟩, wrap_succ (by omega)⟩, by omega⟩
              · rw [← aq]
                conv => rhs; rw [gliErr, if_neg p2, if_neg Q5, if_neg (by omega), if_neg (by rw [d8]; decide)]
                rw [List.take_add_one, List.getElem?_eq_getElem hi]; rfl
              · rw [List.take_add_one, List.getElem?_eq_getElem hi]
                simp only [lastName, Option.toList_some, List.getLastD_concat]; omega
    · have hs : ((i : Int) < (gs.length : Int)) = False := eq_false (by omega)
      simp (implicitDefEqProofs := false) (dsimp := false) only [go_sem, a0, a3, hs, decide_false]
      rw [List.drop_eq_nil_of_le (by omega)] at aq
      exact aq
theorem RcheckLights_ok : PureA Tryz.prog 121 [.psl [.nilsl] 1] (.int .i64 0) := by
  refine PureA.of_wpp { cut := [37] } 54 mixed Tryz.func121 (by kernel_rfl) rfl (by kernel_rfl) (rfl) fun h j hB => ?_
  simp only [junk_succ, junk_zero, List.cons_append, List.nil_append, List.length_cons, List.length_nil, Nat.reduceAdd]
  simp (implicitDefEqProofs := false) (dsimp := false) only [go_sem]
  refine WP.loopI (fun (i : Nat) s => (i ≤ 1) ∧ s.sl.length = 55 ∧ s.df = [] ∧ s.gh = {} ∧ (s.hp = h) ∧ evA s.sl (.tmp 0) = .psl [.nilsl] 1 ∧ evA s.sl (.tmp 3) = .int .i64 i) (fun (i : Nat) => 1 - i) (0) ?_ ?_
  · simp (implicitDefEqProofs := false) (dsimp := false) only [go_sem, Nat.zero_le]
  · rintro i ⟨sl, df, hp, gh⟩ ⟨ab, al, rfl, rfl, rfl, a0, a3⟩
    simp only at ab al a0 a3
    obtain ⟨j, rfl⟩ := slots_lit al; clear al; simp only [junk_succ, junk_zero, evA_tmp, nth_16, nth_four, nth_one, nth_zero, Nat.zero_add, Nat.reduceAdd] at  a0 a3 ⊢
    refine wp_ok (so := { cut := [37] }) mixed _ (by kernel_rfl) ?_
    by_cases hi : i = 0
    · subst hi
      simp (implicitDefEqProofs := false) (dsimp := false) only [go_sem, a0, a3]
      refine WP.loopI (fun (x : Nat) s => (x = 0) ∧ s.sl.length = 55 ∧ s.df = [] ∧ s.gh = {} ∧ (s.hp = hp) ∧ evA s.sl (.tmp 0) = .psl [.nilsl] 1 ∧ evA s.sl (.tmp 3) = .int .i64 0 ∧ evA s.sl (.tmp 4) = .int .i64 0) (fun (x : Nat) => 0) (0) ?_ ?_
      · simp (implicitDefEqProofs := false) (dsimp := false) only [go_sem, a0, a3]
      · rintro x ⟨sl, df, hp, gh⟩ ⟨cb, cl, rfl, rfl, rfl, c0, c3, c4⟩
        simp only at cb cl c0 c3 c4
        obtain ⟨j, rfl⟩ := slots_lit cl; clear cl; simp only [junk_succ, junk_zero, evA_tmp, nth_16, nth_four, nth_one, nth_zero, Nat.zero_add, Nat.reduceAdd] at  c0 c3 c4 ⊢
        refine wp_ok (so := { cut := [37] }) mixed _ (by kernel_rfl) ?_
        simp (implicitDefEqProofs := false) (dsimp := false) only [go_sem, c0, c3, c4]
        exact ⟨1, by decide⟩
    · have : i = 1 := by omega
      subst this
      simp (implicitDefEqProofs := false) (dsimp := false) only [go_sem, a0, a3]
theorem R3Check_ok (gs : List Glyph) : PureA Tryz.prog 83 [sheetA gs] (.int .i64 (glyphsErr gs)) := by
  refine PureA.of_wpp {} 67 mixed Tryz.func83 (by kernel_rfl) rfl (by kernel_rfl) (rfl) fun h j hB => ?_
  simp only [junk_succ, junk_zero, List.cons_append, List.nil_append, List.length_cons, List.length_nil, Nat.reduceAdd]
  simp (implicitDefEqProofs := false) (dsimp := false) only [go_sem, sheetA]
  (first | refine CallsA.use (RcheckGlyphs_ok gs) ?_ | refine QuietCalls.use (RcheckGlyphs_ok gs) ?_)
  simp (implicitDefEqProofs := false) (dsimp := false) only [go_sem, sheetA]
  intro e0
  have e0' : glyphsErr gs = 0 := by simpa using e0
  (first | refine CallsA.use (RcheckLights_ok) ?_ | refine QuietCalls.use (RcheckLights_ok) ?_)
  simp (implicitDefEqProofs := false) (dsimp := false) only [go_sem, sheetA]
  refine WP.loopI (fun (i : Nat) s => (i = 0) ∧ s.sl.length = 68 ∧ s.df = [] ∧ s.gh = {} ∧ (s.hp = h ++ [.cells 0 [sliceOf cGlyph gs, .psl [.nilsl] 1, .nilsl]]) ∧ evA s.sl (.tmp 1) = .ptr ⟨h.length, 0⟩ 0 ∧ evA s.sl (.tmp 5) = .int .i64 0) (fun (i : Nat) => 0) (0) ?_ ?_
  · simp (implicitDefEqProofs := false) (dsimp := false) only [go_sem]
  · rintro i ⟨sl, df, hp, gh⟩ ⟨ab, al, rfl, rfl, rfl, a1, a5⟩
    simp only at ab al a1 a5
    obtain ⟨j, rfl⟩ := slots_lit al; clear al; simp only [junk_succ, junk_zero, evA_tmp, nth_16, nth_four, nth_one, nth_zero, Nat.zero_add, Nat.reduceAdd] at  a1 a5 ⊢
    refine wp_ok (so := {}) mixed _ (by kernel_rfl) ?_
    simp (implicitDefEqProofs := false) (dsimp := false) only [go_sem, a1, a5]
    exact e0'.symm
theorem tr_get00 {p : List (List Trace)} (h : 0 < p.length) : (p.flatMap cTraces).drop 0 = sliceOf cTrace (p.headD []) :: (p.drop 1).flatMap cTraces := by
  rw [headD_get h]
  have := row1 cTraces_len h
  rw [this]; rfl
theorem tr_len1 (p : List (List Trace)) : (p.flatMap cTraces).length = p.length := rows_length (fun _ => rfl) p
theorem RcheckCells_ok (cs : List (List Trace)) : PureA Tryz.prog 85 [sliceOf cTraces cs] (.int .i64 (cellsErr cs)) := by
  refine PureA.of_wpp { cut := [60] } 71 mixed Tryz.func85 (by kernel_rfl) rfl (by kernel_rfl) (rfl) fun h j hB => ?_
  simp only [junk_succ, junk_zero, List.cons_append, List.nil_append, List.length_cons, List.length_nil, Nat.reduceAdd]
  simp (implicitDefEqProofs := false) (dsimp := false) only [go_sem]
  refine ⟨fun c0 => ?_, fun c0 => ⟨fun c1 => ?_, fun c1 => ?_⟩⟩
  · have : cs.length = 0 := by omega
    simp [cellsErr, sizedB, this]
  · have h1 : ¬ ((cs.length : Int) < 1) := by omega
    have h2 : (3 : Int) < cs.length := c1
    simp [cellsErr, sizedB, h1, h2]
  have hne : cs.length ≠ 0 := by intro e; rw [e] at c0; simp at c0
  have h3 : ¬ (3 : Int) < cs.length := c1
  have hz : sizedB cs.length 3 = 0 := by rw [sizedB, if_neg (by omega), if_neg h3]
  have eg : cellRowsErr (cs.headD []).length cs = cellsErr cs := by simp only [cellsErr, hz, ne_eq, not_true_eq_false, if_false]
  have hp0 : 0 < cs.length := by omega
  refine WP.loopI (fun (i : Nat) s => (i ≤ cs.length ∧ cellRowsErr (cs.headD []).length (cs.drop i) = cellsErr cs) ∧ s.sl.length = 72 ∧ s.df = [] ∧ s.gh = {} ∧ (∃ J, s.hp = h ++ J) ∧ evA s.sl (.tmp 0) = sliceOf cTraces cs ∧ evA s.sl (.tmp 3) = .int .i64 i) (fun (i : Nat) => cs.length - i) (0) ?_ ?_
  · simp (implicitDefEqProofs := false) (dsimp := false) only [go_sem, Nat.zero_le, List.drop_zero]
    exact eg
  · rintro i ⟨sl, df, hp, gh⟩ ⟨ab, al, rfl, rfl, ah, a0, a3⟩
    simp only at ab al ah a0 a3
    obtain ⟨j, rfl⟩ := slots_lit al; clear al; simp only [junk_succ, junk_zero, evA_tmp, nth_16, nth_four, nth_one, nth_zero, Nat.zero_add, Nat.reduceAdd] at  a0 a3 ⊢
    refine wp_ok (so := { cut := [60] }) mixed _ (by kernel_rfl) ?_
    obtain ⟨J, rfl⟩ := ah
    obtain ⟨ab, aq⟩ := ab
    by_cases hi : i < cs.length
    · rw [drop_get hi] at aq
      simp (implicitDefEqProofs := false) (dsimp := false) only [go_sem, a0, a3, nat_lt hi, decide_true, row1 cTraces_len hi, row1_le cTraces_len hi, cTraces, tr_get00 hp0, tr_len1, nat_lt hp0]
      refine ⟨by omega, fun d1 => ?_, fun d1 => ⟨by omega, fun d2 => ?_, fun d2 => ⟨by omega, ⟨by omega, by omega⟩, fun d3 => ?_, fun d3 => ?_⟩⟩⟩
      · have : cs[i].length = 0 := by omega
        rw [← aq, cellRowsErr, if_pos (by simp [sizedB, this])]; simp [sizedB, this]
      · have n1 : ¬ ((cs[i].length : Int) < 1) := by omega
        have n2 : (4 : Int) < cs[i].length := d2
        have : sizedB cs[i].length 4 = 6 := by rw [sizedB, if_neg n1, if_pos n2]
        rw [← aq, cellRowsErr, if_pos (by rw [this]; decide), this]
      · have n1 : cs[i].length ≠ 0 := by intro e; rw [e] at d1; simp at d1
        have hz : sizedB cs[i].length 4 = 0 := by rw [sizedB, if_neg (by omega), if_neg (by omega)]
        have n3 : cs[i].length ≠ (cs.headD []).length := by intro e; rw [e] at d3; simp at d3
        rw [← aq, cellRowsErr, if_neg (by rw [hz]; decide), if_pos n3]
      have n1 : cs[i].length ≠ 0 := by intro e; rw [e] at d1; simp at d1
      have hz : sizedB cs[i].length 4 = 0 := by rw [sizedB, if_neg (by omega), if_neg (by omega)]
      have n3 : cs[i].length = (cs.headD []).length := by
        have : (cs[i].length : Int) = (cs.headD []).length := by simpa using d3
        omega
      refine WP.loopI (fun (x : Nat) s => (x ≤ cs[i].length ∧ tracesErr (cs[i].drop x) = tracesErr cs[i]) ∧ s.sl.length = 72 ∧ s.df = [] ∧ s.gh = {} ∧ (∃ J, s.hp = h ++ J) ∧ evA s.sl (.tmp 0) = sliceOf cTraces cs ∧ evA s.sl (.tmp 3) = .int .i64 i ∧ evA s.sl (.tmp 4) = .int .i64 x) (fun (x : Nat) => cs[i].length - x) (0) ?_ ?_
      · simp (implicitDefEqProofs := false) (dsimp := false) only [go_sem, Nat.zero_le, List.drop_zero]
      · rintro x ⟨sl, df, hp, gh⟩ ⟨cb, cl, rfl, rfl, ch, c0, c3, c4⟩
        simp only at cb cl ch c0 c3 c4
        obtain ⟨j, rfl⟩ := slots_lit cl; clear cl; simp only [junk_succ, junk_zero, evA_tmp, nth_16, nth_four, nth_one, nth_zero, Nat.zero_add, Nat.reduceAdd] at  c0 c3 c4 ⊢
        refine wp_ok (so := { cut := [60] }) mixed _ (by kernel_rfl) ?_
        obtain ⟨J, rfl⟩ := ch
        obtain ⟨cb, cq⟩ := cb
        by_cases hx : x < cs[i].length
        · rw [drop_get hx] at cq
          simp (implicitDefEqProofs := false) (dsimp := false) only [go_sem, c0, c3, c4, nat_lt hx, nat_lt hi, decide_true, row1 cTraces_len hi, row1_le cTraces_len hi, cTraces, rowN cTrace_len hx, rowN_le cTrace_len hx, cTrace]
          (first | refine CallsA.use (inside_ok cs[i][x].seen 0 63) ?_ | refine QuietCalls.use (inside_ok cs[i][x].seen 0 63) ?_)
          cases q1 : (decide ((0 : Int) ≤ cs[i][x].seen) && decide (cs[i][x].seen ≤ 63)) with
          | false =>
            simp (implicitDefEqProofs := false) (dsimp := false) only [go_sem]
            have t1 : traceErr cs[i][x] = 1 := by rw [traceErr, if_pos (by simp only [Bool.and_eq_false_iff, decide_eq_false_iff_not] at q1; omega)]
            rw [← aq, cellRowsErr_trace hz n3 (by rw [← cq, tracesErr_no (by rw [t1]; decide), t1]; decide), ← cq, tracesErr_no (by rw [t1]; decide), t1]
          | true =>
            simp only [Bool.and_eq_true, decide_eq_true_eq] at q1
            simp (implicitDefEqProofs := false) (dsimp := false) only [go_sem]
            (first | refine CallsA.use (inside_ok cs[i][x].bare 0 63) ?_ | refine QuietCalls.use (inside_ok cs[i][x].bare 0 63) ?_)
            cases q2 : (decide ((0 : Int) ≤ cs[i][x].bare) && decide (cs[i][x].bare ≤ 63)) with
            | false =>
              simp (implicitDefEqProofs := false) (dsimp := false) only [go_sem]
              have t1 : traceErr cs[i][x] = 1 := by rw [traceErr, if_pos (by simp only [Bool.and_eq_false_iff, decide_eq_false_iff_not] at q2; omega)]
              rw [← aq, cellRowsErr_trace hz n3 (by rw [← cq, tracesErr_no (by rw [t1]; decide), t1]; decide), ← cq, tracesErr_no (by rw [t1]; decide), t1]
            | true =>
              simp only [Bool.and_eq_true, decide_eq_true_eq] at q2
              simp (implicitDefEqProofs := false) (dsimp := false) only [go_sem]
              refine ⟨fun e => ?_, fun e => ⟨x + 1, ⟨⟨by omega, ?_⟩, wrap_succ (by omega)⟩, by omega⟩⟩
              · have t1 : traceErr cs[i][x] = 9 := by rw [traceErr, if_neg (by omega), if_pos (by simpa using e)]
                rw [← aq, cellRowsErr_trace hz n3 (by rw [← cq, tracesErr_no (by rw [t1]; decide), t1]; decide), ← cq, tracesErr_no (by rw [t1]; decide), t1]
              · have t1 : traceErr cs[i][x] = 0 := by rw [traceErr, if_neg (by omega), if_neg (by simpa using e)]
                rw [← cq, tracesErr_fine t1]
        · have hs : ((x : Int) < (cs[i].length : Int)) = False := eq_false (by omega)
          rw [List.drop_eq_nil_of_le (by omega)] at cq
          simp (implicitDefEqProofs := false) (dsimp := false) only [go_sem, c0, c3, c4, nat_lt hi, row1 cTraces_len hi, row1_le cTraces_len hi, cTraces, hs, decide_false]
          refine ⟨i + 1, ⟨⟨by omega, ?_⟩, wrap_succ (by omega)⟩, by omega⟩
          rw [← aq, cellRowsErr_fine hz n3 (by rw [← cq]; rfl)]
    · have hs : ((i : Int) < (cs.length : Int)) = False := eq_false (by omega)
      simp (implicitDefEqProofs := false) (dsimp := false) only [go_sem, a0, a3, hs, decide_false]
      rw [List.drop_eq_nil_of_le (by omega)] at aq
      exact aq
theorem RCheck_ok (b : Board) : PureA Tryz.prog 33 [.agg (brdA b)] (.int .i64 (boardErr b)) := by
  refine PureA.of_wpp { shut := [8] } 42 mixed Tryz.func33 (by kernel_rfl) rfl (by kernel_rfl) (rfl) fun h j hB => ?_
  simp only [junk_succ, junk_zero, List.cons_append, List.nil_append, List.length_cons, List.length_nil, Nat.reduceAdd]
  simp (implicitDefEqProofs := false) (dsimp := false) only [go_sem, brdA]
  (first | refine CallsA.use (R3Check_ok b.glyphs) ?_ | refine QuietCalls.use (R3Check_ok b.glyphs) ?_)
  simp (implicitDefEqProofs := false) (dsimp := false) only [go_sem, brdA]
  refine ⟨fun c0 => ?_, fun c0 => ⟨fun c1 => ?_, fun c1 => ⟨fun c2 => ?_, fun c2 => ?_⟩⟩⟩
  · rw [boardErr, if_pos (by simpa using c0)]
  · have e0 : glyphsErr b.glyphs = 0 := by simpa using c0
    have : sizedB b.pages.length 4 = 7 := by rw [sizedB, if_pos (by omega)]
    rw [boardErr, if_neg (by rw [e0]; decide), if_pos (by rw [this]; decide), this]
  · have e0 : glyphsErr b.glyphs = 0 := by simpa using c0
    have hne : b.pages.length ≠ 0 := by intro e; rw [e] at c1; simp at c1
    have : sizedB b.pages.length 4 = 6 := by rw [sizedB, if_neg (by omega), if_pos (by omega)]
    rw [boardErr, if_neg (by rw [e0]; decide), if_pos (by rw [this]; decide), this]
  have e0 : glyphsErr b.glyphs = 0 := by simpa using c0
  have okg := okGlyphs.of e0
  have hne : b.pages.length ≠ 0 := by intro e; rw [e] at c1; simp at c1
  have hz : sizedB b.pages.length 4 = 0 := by rw [sizedB, if_neg (by omega), if_neg (by omega)]
  have eb : boardErr b = if pagesErr (mapB b.glyphs) b.pages ≠ 0 then pagesErr (mapB b.glyphs) b.pages else cellsErr b.cells := by
    rw [boardErr, if_neg (by rw [e0]; decide), if_neg (by rw [hz]; decide)]
  refine WP.loopI (fun (i : Nat) s => (i ≤ b.pages.length ∧ pagesErr (mapB b.glyphs) (b.pages.drop i) = pagesErr (mapB b.glyphs) b.pages) ∧ s.sl.length = 43 ∧ s.df = [] ∧ s.gh = {} ∧ (s.hp = h ++ [.cells 0 (brdA b)]) ∧ evA s.sl (.tmp 1) = .ptr ⟨h.length, 0⟩ 0 ∧ evA s.sl (.tmp 4) = .int .i64 i) (fun (i : Nat) => b.pages.length - i) (0) ?_ ?_
  · simp (implicitDefEqProofs := false) (dsimp := false) only [go_sem, brdA, Nat.zero_le, List.drop_zero]
  · rintro i ⟨sl, df, hp, gh⟩ ⟨ab, al, rfl, rfl, rfl, a1, a4⟩
    simp only at ab al a1 a4
    obtain ⟨j, rfl⟩ := slots_lit al; clear al; simp only [junk_succ, junk_zero, evA_tmp, nth_16, nth_four, nth_one, nth_zero, Nat.zero_add, Nat.reduceAdd] at  a1 a4 ⊢
    refine wp_ok (so := { shut := [8] }) mixed _ (by kernel_rfl) ?_
    obtain ⟨ab, aq⟩ := ab
    by_cases hi : i < b.pages.length
    · rw [drop_get hi, pagesErr] at aq
      simp (implicitDefEqProofs := false) (dsimp := false) only [go_sem, a1, a4, brdA, nat_lt hi, decide_true, row1 cPage_len hi, row1_le cPage_len hi, cPage]
      (first | refine CallsA.use (RcheckPage_ok b.glyphs okg b.pages[i]) ?_ | refine QuietCalls.use (RcheckPage_ok b.glyphs okg b.pages[i]) ?_)
      simp (implicitDefEqProofs := false) (dsimp := false) only [go_sem]
      refine ⟨fun e => ?_, fun e => ⟨i + 1, ⟨⟨by omega, ?_⟩, rfl, wrap_succ (by omega)⟩, by omega⟩⟩
      · have e' : pageErr (mapB b.glyphs) b.pages[i] ≠ 0 := by simpa using e
        rw [if_pos e'] at aq
        rw [eb, ← aq, if_pos e']
      · have e' : pageErr (mapB b.glyphs) b.pages[i] = 0 := by simpa using e
        rw [if_neg (by rw [e']; decide)] at aq
        exact aq
    · have hs : ((i : Int) < (b.pages.length : Int)) = False := eq_false (by omega)
      rw [List.drop_eq_nil_of_le (by omega)] at aq
      simp (implicitDefEqProofs := false) (dsimp := false) only [go_sem, a1, a4, brdA, hs, decide_false]
      (first | refine CallsA.use (RcheckCells_ok b.cells) ?_ | refine QuietCalls.use (RcheckCells_ok b.cells) ?_)
      simp (implicitDefEqProofs := false) (dsimp := false) only [go_sem]
      rw [eb, ← aq]; rfl
theorem RcheckLay_ok (b : Board) (l : Lay) : PureA Tryz.prog 64 [.agg (brdA b), .agg (cLay l)] (.int .i64 (layErr2 b l)) := by
  refine PureA.of_wpp { cut := [23] } 27 mixed Tryz.func64 (by kernel_rfl) rfl (by kernel_rfl) (rfl) fun h j hB => ?_
  simp only [junk_succ, junk_zero, List.cons_append, List.nil_append, List.length_cons, List.length_nil, Nat.reduceAdd]
  obtain ⟨pg, tu, dn, rt⟩ := l
  simp (implicitDefEqProofs := false) (dsimp := false) only [go_sem, brdA, cLay]
  (first | refine CallsA.use (RCheck_ok b) ?_ | refine QuietCalls.use (RCheck_ok b) ?_)
  simp (implicitDefEqProofs := false) (dsimp := false) only [go_sem, brdA, cLay]
  refine ⟨fun c0 => ?_, fun c0 => ?_⟩
  · rw [layErr2, if_pos (by simpa using c0)]
  have e0 : boardErr b = 0 := by simpa using c0
  have ok := okBoard.of e0
  have hsz := (sizedB_zero (boardErr_zero e0).2.1)
  have hw : IntKind.i64.wrap ((b.pages.length : Int) - 1) = (b.pages.length : Int) - 1 := wrap64 (by omega) (by omega)
  have el : layErr2 b ⟨pg, tu, dn, rt⟩ = layErr b ⟨pg, tu, dn, rt⟩ := by rw [layErr2, if_neg (by rw [e0]; decide)]
  rw [hw]
  (first | refine CallsA.use (inside_ok pg 0 ((b.pages.length : Int) - 1)) ?_ | refine QuietCalls.use (inside_ok pg 0 ((b.pages.length : Int) - 1)) ?_)
  cases q1 : (decide ((0 : Int) ≤ pg) && decide (pg ≤ (b.pages.length : Int) - 1)) with
  | false =>
    simp (implicitDefEqProofs := false) (dsimp := false) only [go_sem]
    rw [el, layErr, if_pos (by simp only [Bool.and_eq_false_iff, decide_eq_false_iff_not] at q1; simp only; omega)]
  | true =>
    simp only [Bool.and_eq_true, decide_eq_true_eq] at q1
    simp (implicitDefEqProofs := false) (dsimp := false) only [go_sem]
    (first | refine CallsA.use (inside_ok dn (-1) 1) ?_ | refine QuietCalls.use (inside_ok dn (-1) 1) ?_)
    cases q2 : (decide ((-1 : Int) ≤ dn) && decide (dn ≤ 1)) with
    | false =>
      simp (implicitDefEqProofs := false) (dsimp := false) only [go_sem]
      rw [el, layErr, if_neg (by simp only; omega), if_pos (by simp only [Bool.and_eq_false_iff, decide_eq_false_iff_not] at q2; simp only; omega)]
    | true =>
      simp only [Bool.and_eq_true, decide_eq_true_eq] at q2
      simp (implicitDefEqProofs := false) (dsimp := false) only [go_sem]
      (first | refine CallsA.use (inside_ok rt (-1) 1) ?_ | refine QuietCalls.use (inside_ok rt (-1) 1) ?_)
      cases q3 : (decide ((-1 : Int) ≤ rt) && decide (rt ≤ 1)) with
      | false =>
        simp (implicitDefEqProofs := false) (dsimp := false) only [go_sem]
        rw [el, layErr, if_neg (by simp only; omega), if_pos (by simp only [Bool.and_eq_false_iff, decide_eq_false_iff_not] at q3; simp only; omega)]
      | true =>
        simp only [Bool.and_eq_true, decide_eq_true_eq] at q3
        simp (implicitDefEqProofs := false) (dsimp := false) only [go_sem]
        rw [el, layErr, if_neg (by simp only; omega), if_neg (by simp only; omega)]
end Go.Mac
namespace Go.Mac
open Go Go.Conc Go.Proofs
set_option maxRecDepth 4000
theorem Rmisfits_ok (b : Board) (okg : okGlyphs b.glyphs) (okc : okCells b.cells) (l : Lay) (p : Nat) (hlp : l.page = p) (hp : p < b.pages.length) (ok : okPage b.pages[p]) (hd : -1000 ≤ l.down ∧ l.down ≤ 1000) (hrt : -1000 ≤ l.right ∧ l.right ≤ 1000) : PureA Tryz.prog 88 [.agg (brdA b), .agg (cLay l)] (sliceOf cPair (misB (faceB (mapB b.glyphs) b.pages[p] b.cells l) b.cells)) := by
  refine PureA.of_wps [4] { shut := [38, 39] } 40 mixed Tryz.func88 (by kernel_rfl) rfl (by kernel_rfl) (below_psl (fun _ => rfl) _) fun h j hB => ?_
  simp only [junk_succ, junk_zero, List.cons_append, List.nil_append, List.length_cons, List.length_nil, Nat.reduceAdd]
  have q1 := okc.most
  have q2 := okc.wmost
  simp (implicitDefEqProofs := false) (dsimp := false) only [go_sem, brdA, cLay]
  refine WPI.turn (Turns.nilSlot (d := 5) (sz := 1) ?_) ?_
  · simp (implicitDefEqProofs := false) (dsimp := false) only [go_sem]
  simp (implicitDefEqProofs := false) (dsimp := false) only [go_sem]
  refine WP.loopI (fun (i : Nat) s => (i ≤ b.cells.length) ∧ s.sl.length = 42 ∧ s.df = [] ∧ s.gh = {} ∧ (s.hp = h ++ [.cells 0 (brdA b), .cells 0 (cLay l), .cells (misTo (faceB (mapB b.glyphs) b.pages[p] b.cells l) b.cells (4 * i)).length ((misTo (faceB (mapB b.glyphs) b.pages[p] b.cells l) b.cells (4 * i)).flatMap cPair)]) ∧ evA s.sl (.tmp 2) = .ptr ⟨h.length, 0⟩ 0 ∧ evA s.sl (.tmp 3) = .ptr ⟨h.length + 1, 0⟩ 0 ∧ evA s.sl (.tmp 5) = .sl ⟨h.length + 2, (misTo (faceB (mapB b.glyphs) b.pages[p] b.cells l) b.cells (4 * i)).length⟩ 1 0 (misTo (faceB (mapB b.glyphs) b.pages[p] b.cells l) b.cells (4 * i)).length ∧ evA s.sl (.tmp 6) = .int .i64 i) (fun (i : Nat) => b.cells.length - i) (0) ?_ ?_
  · simp (implicitDefEqProofs := false) (dsimp := false) only [go_sem, brdA, cLay, Nat.mul_zero, Nat.zero_le]
    simp [misTo]
  · rintro i ⟨sl, df, hp, gh⟩ ⟨ab, al, rfl, rfl, rfl, a2, a3, a5, a6⟩
    simp only at ab al a2 a3 a5 a6
    obtain ⟨j, rfl⟩ := slots_lit al; clear al; simp only [junk_succ, junk_zero, evA_tmp, nth_16, nth_four, nth_one, nth_zero, Nat.zero_add, Nat.reduceAdd] at  a2 a3 a5 a6 ⊢
    refine wp_ok (so := { shut := [38, 39] }) mixed _ (by kernel_rfl) ?_
    by_cases hi : i < b.cells.length
    · have hw := okc.row hi
      simp (implicitDefEqProofs := false) (dsimp := false) only [go_sem, a2, a3, a5, a6, brdA, cLay, nat_lt hi, decide_true]
      refine WP.loopI (fun (x : Nat) s => (x ≤ (b.cells.headD []).length) ∧ s.sl.length = 42 ∧ s.df = [] ∧ s.gh = {} ∧ (s.hp = h ++ [.cells 0 (brdA b), .cells 0 (cLay l), .cells (misTo (faceB (mapB b.glyphs) b.pages[p] b.cells l) b.cells (4 * i + x)).length ((misTo (faceB (mapB b.glyphs) b.pages[p] b.cells l) b.cells (4 * i + x)).flatMap cPair)]) ∧ evA s.sl (.tmp 2) = .ptr ⟨h.length, 0⟩ 0 ∧ evA s.sl (.tmp 3) = .ptr ⟨h.length + 1, 0⟩ 0 ∧ evA s.sl (.tmp 5) = .sl ⟨h.length + 2, (misTo (faceB (mapB b.glyphs) b.pages[p] b.cells l) b.cells (4 * i + x)).length⟩ 1 0 (misTo (faceB (mapB b.glyphs) b.pages[p] b.cells l) b.cells (4 * i + x)).length ∧ evA s.sl (.tmp 6) = .int .i64 i ∧ evA s.sl (.tmp 7) = .int .i64 x) (fun (x : Nat) => (b.cells.headD []).length - x) (0) ?_ ?_
      · simp (implicitDefEqProofs := false) (dsimp := false) only [go_sem, brdA, Nat.zero_le, Nat.add_zero]
        rfl
      · rintro x ⟨sl, df, hp, gh⟩ ⟨cb, cl, rfl, rfl, rfl, c2, c3, c5, c6, c7⟩
        simp only at cb cl c2 c3 c5 c6 c7
        obtain ⟨j, rfl⟩ := slots_lit cl; clear cl; simp only [junk_succ, junk_zero, evA_tmp, nth_16, nth_four, nth_one, nth_zero, Nat.zero_add, Nat.reduceAdd] at  c2 c3 c5 c6 c7 ⊢
        refine wp_ok (so := { shut := [38, 39] }) mixed _ (by kernel_rfl) ?_
        by_cases hx : x < (b.cells.headD []).length
        · have e : misTo (faceB (mapB b.glyphs) b.pages[p] b.cells l) b.cells (4 * i + (x + 1)) = misTo (faceB (mapB b.glyphs) b.pages[p] b.cells l) b.cells (4 * i + x) ++ if fitsB (shownB (mapB b.glyphs) b.pages[p] l i x) (traceAt b.cells i x) then [] else [((i : Int), (x : Int))] := by
            rw [← Nat.add_assoc, misTo_succ, ← face_get hi q1 hx q2]
            simp only [misAt, show (4 * i + x) / 4 = i by omega, show (4 * i + x) % 4 = x by omega, hx, if_true]
          simp (implicitDefEqProofs := false) (dsimp := false) only [go_sem, c2, c3, c5, c6, c7, brdA, cLay, nat_lt hx, nat_lt hi, decide_true, row1 cTraces_len hi, row1_le cTraces_len hi, cTraces, hw]
          (first | refine CallsA.use (Rshown_ok b okg l i x p hlp hp ok (by omega) (by omega) hd hrt) ?_ | refine QuietCalls.use (Rshown_ok b okg l i x p hlp hp ok (by omega) (by omega) hd hrt) ?_)
          simp (implicitDefEqProofs := false) (dsimp := false) only [go_sem]
          (first | refine CallsA.use (Rfits_ok b okc i x _ hi hx) ?_ | refine QuietCalls.use (Rfits_ok b okc i x _ hi hx) ?_)
          cases hq : fitsB (shownB (mapB b.glyphs) b.pages[p] l i x) (traceAt b.cells i x) with
          | true =>
            simp (implicitDefEqProofs := false) (dsimp := false) only [go_sem]
            refine ⟨x + 1, ?_⟩
            rw [e, hq, wrap_succ (by omega)]
            refine ⟨⟨by omega, ?_⟩, by omega⟩
            simp [brdA, sliceOf, cLay]
          | false =>
            simp (implicitDefEqProofs := false) (dsimp := false) only [go_sem]
            have hn := misTo_len (faceB (mapB b.glyphs) b.pages[p] b.cells l) b.cells (4 * i + x)
            refine ⟨⟨rows_length cPair_len _, by omega⟩, x + 1, ?_⟩
            rw [e, hq, wrap_succ (by omega)]
            refine ⟨⟨by omega, ?_⟩, by omega⟩
            simp [cPair, brdA, sliceOf, cLay]
        · have hs : ((x : Int) < ((b.cells.headD []).length : Int)) = False := eq_false (by omega)
          simp (implicitDefEqProofs := false) (dsimp := false) only [go_sem, c2, c3, c5, c6, c7, brdA, cLay, nat_lt hi, decide_true, row1 cTraces_len hi, row1_le cTraces_len hi, cTraces, hw, hs, decide_false]
          refine ⟨i + 1, ?_⟩
          rw [show 4 * (i + 1) = 4 * i + x + (4 - x) by omega, misTo_skip (n := 4 * i + x) (m := 4 - x) (by intro k _ _; omega), wrap_succ (by omega)]
          refine ⟨⟨by omega, ?_⟩, by omega⟩
          simp
    · have hs : ((i : Int) < (b.cells.length : Int)) = False := eq_false (by omega)
      simp (implicitDefEqProofs := false) (dsimp := false) only [go_sem, a2, a3, a5, a6, brdA, hs, decide_false, rows_all cPair_len]
      have : i = b.cells.length := by omega
      subst this
      rfl
theorem lay_at (p : Int) (t d r : Nat) (ht : t < 2) (hd : d < 3) (hr : r < 3) : layN p (9 * t + 3 * d + r) = ⟨p, decide (t = 1), (d : Int) - 1, (r : Int) - 1⟩ := by
  unfold layN
  have e1 : (9 * t + 3 * d + r) % 9 / 3 = d := by omega
  have e2 : (9 * t + 3 * d + r) % 3 = r := by omega
  rw [e1, e2]
  congr 1
  by_cases h : t = 1
  · subst h; simp; omega
  · have : t = 0 := by omega
    subst this; simp; omega
def wayTo (p : Int) (n : Nat) : List Lay := (List.range n).map (layN p)
theorem wayTo_succ (p : Int) (n : Nat) : wayTo p (n + 1) = wayTo p n ++ [layN p n] := by simp [wayTo, List.range_succ]
theorem wayTo_length (p : Int) (n : Nat) : (wayTo p n).length = n := by simp [wayTo]
theorem Rways_ok (p : Int) : PureA Tryz.prog 65 [.int .i64 p] (sliceOf cLay (wayTo p 18)) := by
  refine PureA.of_wps [2] { shut := [26] } 28 mixed Tryz.func65 (by kernel_rfl) rfl (by kernel_rfl) (below_psl (fun _ => rfl) _) fun h j hB => ?_
  simp only [junk_succ, junk_zero, List.cons_append, List.nil_append, List.length_cons, List.length_nil, Nat.reduceAdd]
  simp (implicitDefEqProofs := false) (dsimp := false) only [go_sem]
  refine WPI.turn (Turns.nilSlot (d := 3) (sz := 4) ?_) ?_
  · simp (implicitDefEqProofs := false) (dsimp := false) only [go_sem]
  simp (implicitDefEqProofs := false) (dsimp := false) only [go_sem]
  refine WP.loopI (fun (t : Nat) s => (t ≤ 2) ∧ s.sl.length = 29 ∧ s.df = [] ∧ s.gh = {} ∧ (s.hp = h ++ [.cells (9 * t) ((wayTo p (9 * t)).flatMap cLay)]) ∧ evA s.sl (.tmp 0) = .int .i64 p ∧ evA s.sl (.tmp 3) = .sl ⟨h.length, 9 * t⟩ 4 0 (9 * t) ∧ evA s.sl (.tmp 4) = .int .i64 t) (fun (t : Nat) => 2 - t) (0) ?_ ?_
  · simp (implicitDefEqProofs := false) (dsimp := false) only [go_sem]
    simp [wayTo]
  · rintro t ⟨sl, df, hp, gh⟩ ⟨ab, al, rfl, rfl, rfl, a0, a3, a4⟩
    simp only at ab al a0 a3 a4
    obtain ⟨j, rfl⟩ := slots_lit al; clear al; simp only [junk_succ, junk_zero, evA_tmp, nth_16, nth_four, nth_one, nth_zero, Nat.zero_add, Nat.reduceAdd] at  a0 a3 a4 ⊢
    refine wp_ok (so := { shut := [26] }) mixed _ (by kernel_rfl) ?_
    by_cases ht : t < 2
    · have hs : ((t : Int) ≤ 1) = True := eq_true (by omega)
      simp (implicitDefEqProofs := false) (dsimp := false) only [go_sem, a0, a3, a4, hs, decide_true]
      refine WP.loopI (fun (d : Nat) s => (d ≤ 3) ∧ s.sl.length = 29 ∧ s.df = [] ∧ s.gh = {} ∧ (s.hp = h ++ [.cells (9 * t + 3 * d) ((wayTo p (9 * t + 3 * d)).flatMap cLay)]) ∧ evA s.sl (.tmp 0) = .int .i64 p ∧ evA s.sl (.tmp 3) = .sl ⟨h.length, 9 * t + 3 * d⟩ 4 0 (9 * t + 3 * d) ∧ evA s.sl (.tmp 4) = .int .i64 t ∧ evA s.sl (.tmp 5) = .int .i64 ((d : Int) - 1)) (fun (d : Nat) => 3 - d) (0) ?_ ?_
      · simp (implicitDefEqProofs := false) (dsimp := false) only [go_sem, Nat.mul_zero, Nat.add_zero]
        simp
      · rintro d ⟨sl, df, hp, gh⟩ ⟨cb, cl, rfl, rfl, rfl, c0, c3, c4, c5⟩
        simp only at cb cl c0 c3 c4 c5
        obtain ⟨j, rfl⟩ := slots_lit cl; clear cl; simp only [junk_succ, junk_zero, evA_tmp, nth_16, nth_four, nth_one, nth_zero, Nat.zero_add, Nat.reduceAdd] at  c0 c3 c4 c5 ⊢
        refine wp_ok (so := { shut := [26] }) mixed _ (by kernel_rfl) ?_
        by_cases hd : d < 3
        · have hs : ((d : Int) - 1 ≤ 1) = True := eq_true (by omega)
          simp (implicitDefEqProofs := false) (dsimp := false) only [go_sem, c0, c3, c4, c5, hs, decide_true]
          refine WP.loopI (fun (r : Nat) s => (r ≤ 3) ∧ s.sl.length = 29 ∧ s.df = [] ∧ s.gh = {} ∧ (s.hp = h ++ [.cells (9 * t + 3 * d + r) ((wayTo p (9 * t + 3 * d + r)).flatMap cLay)]) ∧ evA s.sl (.tmp 0) = .int .i64 p ∧ evA s.sl (.tmp 3) = .sl ⟨h.length, 9 * t + 3 * d + r⟩ 4 0 (9 * t + 3 * d + r) ∧ evA s.sl (.tmp 4) = .int .i64 t ∧ evA s.sl (.tmp 5) = .int .i64 ((d : Int) - 1) ∧ evA s.sl (.tmp 6) = .int .i64 ((r : Int) - 1)) (fun (r : Nat) => 3 - r) (0) ?_ ?_
          · simp (implicitDefEqProofs := false) (dsimp := false) only [go_sem, Nat.add_zero]
            simp
          · rintro r ⟨sl, df, hp, gh⟩ ⟨gb, gl, rfl, rfl, rfl, g0, g3, g4, g5, g6⟩
            simp only at gb gl g0 g3 g4 g5 g6
            obtain ⟨j, rfl⟩ := slots_lit gl; clear gl; simp only [junk_succ, junk_zero, evA_tmp, nth_16, nth_four, nth_one, nth_zero, Nat.zero_add, Nat.reduceAdd] at  g0 g3 g4 g5 g6 ⊢
            refine wp_ok (so := { shut := [26] }) mixed _ (by kernel_rfl) ?_
            by_cases hr : r < 3
            · have hs : ((r : Int) - 1 ≤ 1) = True := eq_true (by omega)
              simp (implicitDefEqProofs := false) (dsimp := false) only [go_sem, g0, g3, g4, g5, g6, hs, decide_true]
              have hn : ((wayTo p (9 * t + 3 * d + r)).flatMap cLay).length = (9 * t + 3 * d + r) * 4 := by rw [length_rows cLay_len, wayTo_length]
              refine ⟨⟨hn, by omega⟩, r + 1, ⟨⟨by omega, ⟨by omega, ?_⟩, by rw [Nat.add_assoc], by rw [wrap64 (by omega) (by omega)]; omega⟩, by omega⟩⟩
              have e1 : ((t : Int) == 1) = decide (t = 1) := by rw [Bool.eq_iff_iff]; simp; omega
              rw [← Nat.add_assoc, wayTo_succ, lay_at p t d r ht hd hr, e1]
              simp [cLay]
            · have hs : ((r : Int) - 1 ≤ 1) = False := eq_false (by omega)
              simp (implicitDefEqProofs := false) (dsimp := false) only [go_sem, g0, g3, g4, g5, g6, hs, decide_false]
              have : r = 3 := by omega
              subst this
              refine ⟨d + 1, ?_⟩
              rw [show 9 * t + 3 * (d + 1) = 9 * t + 3 * d + 3 by omega]
              refine ⟨⟨by omega, ⟨rfl, rfl⟩, rfl, by rw [wrap64 (by omega) (by omega)]; omega⟩, by omega⟩
        · have hs : ((d : Int) - 1 ≤ 1) = False := eq_false (by omega)
          simp (implicitDefEqProofs := false) (dsimp := false) only [go_sem, c0, c3, c4, c5, hs, decide_false]
          have : d = 3 := by omega
          subst this
          refine ⟨t + 1, ?_⟩
          rw [show 9 * (t + 1) = 9 * t + 3 * 3 by omega]
          refine ⟨⟨by omega, ⟨rfl, rfl⟩, rfl, wrap_succ (by omega)⟩, by omega⟩
    · have hs : ((t : Int) ≤ 1) = False := eq_false (by omega)
      have : t = 2 := by omega
      subst this
      simp (implicitDefEqProofs := false) (dsimp := false) only [go_sem, a0, a3, a4]
      rw [List.take_of_length_le (by rw [length_rows cLay_len, wayTo_length]; omega), wayTo_length]
def waysTo (k : Nat) : List Lay := (List.range k).flatMap fun p : Nat => wayTo p 18
theorem waysTo_succ (k : Nat) : waysTo (k + 1) = waysTo k ++ wayTo k 18 := by simp [waysTo, List.range_succ]
theorem waysTo_length (k : Nat) : (waysTo k).length = 18 * k := by
  induction k with
  | zero => rfl
  | succ k ih => rw [waysTo_succ, List.length_append, ih, wayTo_length]; omega
theorem Rall_ok (b : Board) (hl : b.pages.length ≤ 1000) : PureA Tryz.prog 92 [.agg (brdA b)] (sliceOf cLay (waysTo b.pages.length)) := by
  refine PureA.of_wps [2] {} 16 mixed Tryz.func92 (by kernel_rfl) rfl (by kernel_rfl) (below_psl (fun _ => rfl) _) fun h j hB => ?_
  simp only [junk_succ, junk_zero, List.cons_append, List.nil_append, List.length_cons, List.length_nil, Nat.reduceAdd]
  simp (implicitDefEqProofs := false) (dsimp := false) only [go_sem, brdA]
  refine WPI.turn (Turns.nilSlot (d := 3) (sz := 4) ?_) ?_
  · simp (implicitDefEqProofs := false) (dsimp := false) only [go_sem]
  simp (implicitDefEqProofs := false) (dsimp := false) only [go_sem]
  refine WP.loopI (fun (i : Nat) s => (i ≤ b.pages.length) ∧ s.sl.length = 17 ∧ s.df = [] ∧ s.gh = {} ∧ (s.hp = h ++ [.cells 0 (brdA b), .cells i ((waysTo i).flatMap cLay)]) ∧ evA s.sl (.tmp 1) = .ptr ⟨h.length, 0⟩ 0 ∧ evA s.sl (.tmp 3) = .sl ⟨h.length + 1, i⟩ 4 0 (18 * i) ∧ evA s.sl (.tmp 4) = .int .i64 i) (fun (i : Nat) => b.pages.length - i) (0) ?_ ?_
  · simp (implicitDefEqProofs := false) (dsimp := false) only [go_sem, brdA, Nat.zero_le, Nat.mul_zero]
    rfl
  · rintro i ⟨sl, df, hp, gh⟩ ⟨ab, al, rfl, rfl, rfl, a1, a3, a4⟩
    simp only at ab al a1 a3 a4
    obtain ⟨j, rfl⟩ := slots_lit al; clear al; simp only [junk_succ, junk_zero, evA_tmp, nth_16, nth_four, nth_one, nth_zero, Nat.zero_add, Nat.reduceAdd] at  a1 a3 a4 ⊢
    refine wp_ok (so := {}) mixed _ (by kernel_rfl) ?_
    have hll : ((waysTo i).flatMap cLay).length = 18 * i * 4 := by rw [length_rows cLay_len, waysTo_length]
    have hl2 : ((wayTo i 18).flatMap cLay).length = 18 * 4 := by rw [length_rows cLay_len, wayTo_length]
    by_cases hi : i < b.pages.length
    · simp (implicitDefEqProofs := false) (dsimp := false) only [go_sem, a1, a3, a4, brdA, nat_lt hi, decide_true]
      (first | refine CallsA.use (Rways_ok i) ?_ | refine QuietCalls.use (Rways_ok i) ?_)
      have ht2 : ((wayTo i 18).flatMap cLay).take 72 = (wayTo i 18).flatMap cLay := List.take_of_length_le (by rw [hl2]; decide)
      have hlf : ((wayTo i 18).flatMap cLay).all leafA = true := by simp [cLay, leafA]
      simp (implicitDefEqProofs := false) (dsimp := false) only [go_sem, wayTo_length, hl2, hll]
      rw [ht2]
      refine ⟨⟨hl2, hlf, by omega⟩, i + 1, ⟨by omega, ⟨rfl, rfl, ?_⟩, by rw [show 18 * (i + 1) = 18 * i + 18 by omega], wrap_succ (by omega)⟩, by omega⟩
      rw [waysTo_succ, List.flatMap_append]
    · have hs : ((i : Int) < (b.pages.length : Int)) = False := eq_false (by omega)
      have : i = b.pages.length := by omega
      subst this
      simp (implicitDefEqProofs := false) (dsimp := false) only [go_sem, a1, a3, a4, brdA, hs, decide_false]
      rw [List.take_of_length_le (by rw [hll]; omega), waysTo_length]
def rightR (b : Board) : List Lay := (waysTo b.pages.length).filter fun l => (misR b l).length == 0
def rightRTo (b : Board) (k : Nat) : List Lay := ((waysTo b.pages.length).take k).filter fun l => (misR b l).length == 0
theorem rightRTo_succ {b : Board} {k : Nat} (hk : k < (waysTo b.pages.length).length) : rightRTo b (k + 1) = rightRTo b k ++ if (misR b (waysTo b.pages.length)[k]).length == 0 then [(waysTo b.pages.length)[k]] else [] := by
  simp only [rightRTo, List.take_succ_eq_append_getElem hk, List.filter_append, List.filter_cons, List.filter_nil]
theorem rightRTo_le (b : Board) (k : Nat) : (rightRTo b k).length ≤ k := by
  unfold rightRTo
  exact Nat.le_trans (List.length_filter_le _ _) (by rw [List.length_take]; omega)
theorem waysTo_get {n k : Nat} (h : k < 18 * n) : (waysTo n)[k]? = some (layN ((k / 18 : Nat) : Int) (k % 18)) := by
  induction n with
  | zero => omega
  | succ n ih =>
    rw [waysTo_succ]
    by_cases hk : k < 18 * n
    · rw [List.getElem?_append_left (by rw [waysTo_length]; exact hk)]; exact ih hk
    · rw [List.getElem?_append_right (by rw [waysTo_length]; omega), waysTo_length]
      have e1 : k / 18 = n := by omega
      have e2 : k - 18 * n = k % 18 := by omega
      rw [e1, e2, wayTo, List.getElem?_map, List.getElem?_range (by omega)]; rfl
theorem ways_at {b : Board} {k : Nat} (hk : k < (waysTo b.pages.length).length) : ∃ hp : k / 18 < b.pages.length, (waysTo b.pages.length)[k].page = ((k / 18 : Nat) : Int) ∧ ((-1 ≤ (waysTo b.pages.length)[k].down ∧ (waysTo b.pages.length)[k].down ≤ 1) ∧ (-1 ≤ (waysTo b.pages.length)[k].right ∧ (waysTo b.pages.length)[k].right ≤ 1)) := by
  have hl := waysTo_length b.pages.length
  have h18 : k < 18 * b.pages.length := by omega
  have := waysTo_get h18
  rw [List.getElem?_eq_getElem hk] at this
  rw [Option.some.inj this]
  refine ⟨by omega, rfl, ⟨?_, ?_⟩, ?_, ?_⟩ <;> simp only [layN] <;> omega
theorem misR_at {b : Board} {w : Lay} {p : Nat} (hp : p < b.pages.length) (h : w.page = p) : misR b w = misB (faceB (mapB b.glyphs) b.pages[p] b.cells w) b.cells := by
  rw [misR, wrongB, h]
  simp [List.getD, hp]
theorem Rright_ok (b : Board) (okg : okGlyphs b.glyphs) (ok : okBoard b) : PureA Tryz.prog 71 [.agg (brdA b)] (sliceOf cLay (rightR b)) := by
  refine PureA.of_wps [2] { shut := [27] } 29 mixed Tryz.func71 (by kernel_rfl) rfl (by kernel_rfl) (below_psl (fun _ => rfl) _) fun h j hB => ?_
  simp only [junk_succ, junk_zero, List.cons_append, List.nil_append, List.length_cons, List.length_nil, Nat.reduceAdd]
  have hmp := ok.most
  simp (implicitDefEqProofs := false) (dsimp := false) only [go_sem, brdA]
  (first | refine CallsA.use (Rall_ok b (by omega)) ?_ | refine QuietCalls.use (Rall_ok b (by omega)) ?_)
  simp (implicitDefEqProofs := false) (dsimp := false) only [go_sem]
  refine WPI.turn (Turns.nilSlot (d := 3) (sz := 4) ?_) ?_
  · simp (implicitDefEqProofs := false) (dsimp := false) only [go_sem]
  simp (implicitDefEqProofs := false) (dsimp := false) only [go_sem]
  refine WP.loopI (fun (k : Nat) s => (k ≤ (waysTo b.pages.length).length) ∧ s.sl.length = 30 ∧ s.df = [] ∧ s.gh = {} ∧ (s.hp = h ++ [.cells 0 (brdA b), .cells (rightRTo b k).length ((rightRTo b k).flatMap cLay)]) ∧ evA s.sl (.tmp 1) = .ptr ⟨h.length, 0⟩ 0 ∧ evA s.sl (.tmp 3) = .sl ⟨h.length + 1, (rightRTo b k).length⟩ 4 0 (rightRTo b k).length ∧ evA s.sl (.tmp 4) = sliceOf cLay (waysTo b.pages.length) ∧ evA s.sl (.tmp 5) = .int .i64 k) (fun (k : Nat) => (waysTo b.pages.length).length - k) (0) ?_ ?_
  · simp (implicitDefEqProofs := false) (dsimp := false) only [go_sem, brdA, Nat.zero_le]
    simp [rightRTo]
  · rintro k ⟨sl, df, hp, gh⟩ ⟨ab, al, rfl, rfl, rfl, a1, a3, a4, a5⟩
    simp only at ab al a1 a3 a4 a5
    obtain ⟨j, rfl⟩ := slots_lit al; clear al; simp only [junk_succ, junk_zero, evA_tmp, nth_16, nth_four, nth_one, nth_zero, Nat.zero_add, Nat.reduceAdd] at  a1 a3 a4 a5 ⊢
    refine wp_ok (so := { shut := [27] }) mixed _ (by kernel_rfl) ?_
    have hwl := waysTo_length b.pages.length
    have hrl : ((rightRTo b k).flatMap cLay).length = (rightRTo b k).length * 4 := length_rows cLay_len _
    by_cases hk' : k < (waysTo b.pages.length).length
    · obtain ⟨hpg, hN⟩ := ways_at (b := b) hk'
      have e := rightRTo_succ hk'
      rw [misR_at hpg hN.1] at e
      have hle := rightRTo_le b k
      have hlp := hN.1
      have hbd := hN.2
      simp (implicitDefEqProofs := false) (dsimp := false) only [go_sem, a1, a3, a4, a5, brdA, nat_lt hk', decide_true, rowN cLay_len hk', rowN_le cLay_len hk', cLay]
      (first | refine CallsA.use (Rmisfits_ok b okg ok.cells (waysTo b.pages.length)[k] (k / 18) hlp hpg (ok.page _ (List.getElem_mem hpg)) (by omega) (by omega)) ?_ | refine QuietCalls.use (Rmisfits_ok b okg ok.cells (waysTo b.pages.length)[k] (k / 18) hlp hpg (ok.page _ (List.getElem_mem hpg)) (by omega) (by omega)) ?_)
      cases hq : (misB (faceB (mapB b.glyphs) b.pages[k / 18] b.cells (waysTo b.pages.length)[k]) b.cells).length == 0 with
      | true =>
        have hq' : (((misB (faceB (mapB b.glyphs) b.pages[k / 18] b.cells (waysTo b.pages.length)[k]) b.cells).length : Int) == 0) = true := by rw [len_eq0]; exact hq
        simp (implicitDefEqProofs := false) (dsimp := false) only [go_sem, hq', nat_lt hk', rowN cLay_len hk', rowN_le cLay_len hk', cLay]
        refine ⟨⟨hrl, by omega⟩, k + 1, ⟨⟨by omega, ?_⟩, by omega⟩⟩
        rw [e, hq, wrap_succ (by omega)]
        simp [brdA, sliceOf, cLay]
      | false =>
        have hq' : (((misB (faceB (mapB b.glyphs) b.pages[k / 18] b.cells (waysTo b.pages.length)[k]) b.cells).length : Int) == 0) = false := by rw [len_eq0]; exact hq
        simp (implicitDefEqProofs := false) (dsimp := false) only [go_sem, hq']
        refine ⟨k + 1, ⟨⟨by omega, ?_⟩, by omega⟩⟩
        rw [e, hq, wrap_succ (by omega)]
        simp [brdA, sliceOf]
    · have hs : ((k : Int) < (((waysTo b.pages.length).length : Nat) : Int)) = False := eq_false (by omega)
      have : k = (waysTo b.pages.length).length := by omega
      subst this
      simp (implicitDefEqProofs := false) (dsimp := false) only [go_sem, a1, a3, a4, a5, brdA, hs, decide_false]
      have : rightRTo b (waysTo b.pages.length).length = rightR b := by rw [rightRTo, List.take_length]; rfl
      rw [this] at hrl ⊢
      rw [List.take_of_length_le (by rw [hrl]; exact Nat.le_refl _)]
end Go.Mac
namespace Go.Mac
open Go Go.Conc Go.Proofs
set_option maxRecDepth 4000
def wideB (b : Board) : Nat := (b.cells.headD []).length
end Go.Mac
namespace Go.Mac
open Go Go.Conc Go.Proofs
end Go.Mac
namespace Go.Mac
open Go Go.Conc Go.Proofs
set_option maxRecDepth 4000
end Go.Mac
namespace Go.Mac
open Go Go.Conc Go.Proofs
set_option maxRecDepth 4000
end Go.Mac
namespace Go.Mac
open Go Go.Conc Go.Proofs
theorem misB_of {f : List Int} {cs : List (List Trace)} (h : ∀ r c, r < cs.length → c < (cs.headD []).length → c < 4 → fitsB (f.getD (4 * r + c) 0) (traceAt cs r c) = true) : misB f cs = [] := by
  unfold misB misTo
  rw [List.flatMap_eq_nil_iff]
  intro k hk
  have hk := List.mem_range.1 hk
  split
  · rename_i hw
    have := h (k / 4) (k % 4) (by omega) hw (by omega)
    rw [show 4 * (k / 4) + k % 4 = k by omega] at this
    rw [misAt, if_pos this]
  · rfl
def seenL (b : Board) (l : Lay) (r c : Nat) : Int := shownB (mapB b.glyphs) (b.pages.getD l.page.toNat []) l r c
end Go.Mac
namespace Go.Mac
open Go Go.Conc Go.Proofs
end Go.Mac
namespace Go.Mac
open Go Go.Conc Go.Proofs
def faceL (b : Board) (l : Lay) : List Int := faceB (mapB b.glyphs) (b.pages.getD l.page.toNat []) b.cells l
end Go.Mac
namespace Go.Mac
open Go Go.Conc Go.Proofs
set_option maxRecDepth 4000
structure wayOk (b : Board) (l : Lay) (p : Nat) : Prop where
  page : l.page = p
  lt : p < b.pages.length
  d : -1 ≤ l.down ∧ l.down ≤ 1
  r : -1 ≤ l.right ∧ l.right ≤ 1
theorem wayOk.seen {b : Board} {l : Lay} {p : Nat} (h : wayOk b l p) (r c : Nat) : shownB (mapB b.glyphs) (b.pages[p]'h.lt) l r c = seenL b l r c := by
  have := h.lt
  simp [seenL, h.page, List.getD, this]
theorem wayOk.of {b : Board} {p n : Nat} (hp : p < b.pages.length) : wayOk b (layN p n) p := ⟨rfl, hp, by simp only [layN]; omega, by simp only [layN]; omega⟩
end Go.Mac
namespace Go.Mac
open Go Go.Conc Go.Proofs
set_option maxRecDepth 4000
theorem cells_len1' (b : Board) : (b.cells.flatMap cTraces).length = b.cells.length := rows_length (fun _ => rfl) _
theorem DupPure_ok (b : Board) (ok : okSizes b) : PureA Tryz.prog 15 [.agg (brdA b)] (.agg (brdA b)) := fun h => by
  have hgt : (b.glyphs.flatMap cGlyph).take (b.glyphs.length * 2) = b.glyphs.flatMap cGlyph := List.take_of_length_le (by rw [length_rows cGlyph_len]; exact Nat.le_refl _)
  have hgl : (b.glyphs.flatMap cGlyph).length = b.glyphs.length * 2 := length_rows cGlyph_len _
  refine CallsA.of_wpe [] { shut := [26, 45], hand := [9, 10], tail := [(5, 9)] } 48 mixed Tryz.func15 (by kernel_rfl) rfl (by kernel_rfl) fun j hB hA => ?_; simp only [junk_succ, junk_zero, List.cons_append, List.nil_append, List.length_cons, List.length_nil, Nat.reduceAdd]
  simp (implicitDefEqProofs := false) (dsimp := false) only [go_sem, brdA, hgt, hgl]
  refine ⟨⟨flat_leaf (fun _ => rfl) _, by have := ok.g; omega⟩, ?_⟩
  refine WPI.turn (Turns.seal_cell (i := h.length + 3) (g := 0) (j := 0) (a := .sl ⟨h.length + 2, 1⟩ 2 0 b.glyphs.length) (a' := sliceOf cGlyph b.glyphs) (by simp only; rw [hget]; rfl) rfl (by simp only [sealV]; rw [hget]; simp [sliceOf, hgt]) (by simp [nmOf])) ?_
  simp only [nmOf, hset, List.set_cons_succ, List.set_cons_zero]
  refine WPI.turn (Turns.nilCell (i := h.length + 3) (j := 1) (sz := 1) (by simp only; rw [hget]; rfl) rfl) ?_
  refine WPI.turn (Turns.nilCell (i := h.length + 3) (j := 2) (sz := 1) (by simp only [List.append_assoc]; rw [hset, List.append_assoc, hget]; rfl) rfl) ?_
  simp only [hset, List.append_assoc, List.set_cons_succ, List.set_cons_zero, List.cons_append, List.nil_append, List.length_append, List.length_cons, List.length_nil, Nat.zero_add, Nat.reduceAdd]
  refine WP.loopI (fun (k : Nat) s => (k ≤ b.pages.length) ∧ s.sl.length = 49 ∧ s.df = [] ∧ s.gh = {} ∧ (s.hp = h ++ [.cells 0 (brdA b), .cells 0 z3, .dead, .cells 0 [sliceOf cGlyph b.glyphs, .sl ⟨h.length + 4, k⟩ 1 0 k, .sl ⟨h.length + 5, 0⟩ 1 0 0], .cells k ((b.pages.take k).flatMap cPage), .cells 0 []]) ∧ evA s.sl (.tmp 1) = .ptr ⟨h.length, 0⟩ 0 ∧ evA s.sl (.tmp 2) = .ptr ⟨h.length + 1, 0⟩ 0 ∧ evA s.sl (.tmp 3) = .ptr ⟨h.length + 3, 0⟩ 0 ∧ evA s.sl (.tmp 4) = .int .i64 k) (fun (k : Nat) => b.pages.length - k) (0) ?_ ?_
  · simp (implicitDefEqProofs := false) (dsimp := false) only [go_sem, brdA, Nat.zero_le]
    exact ⟨rfl, rfl⟩
  · rintro k ⟨sl, df, hp, gh⟩ ⟨ab, al, rfl, rfl, rfl, a1, a2, a3, a4⟩
    simp only at ab al a1 a2 a3 a4
    obtain ⟨j, rfl⟩ := slots_lit al; clear al; simp only [junk_succ, junk_zero, evA_tmp, nth_16, nth_four, nth_one, nth_zero, Nat.zero_add, Nat.reduceAdd] at  a1 a2 a3 a4 ⊢
    refine wp_ok (so := { shut := [26, 45], hand := [9, 10], tail := [(5, 9)] }) mixed _ (by kernel_rfl) ?_
    by_cases hk : k < b.pages.length
    · have hkl : ((b.pages.take k).flatMap cPage).length = k := by rw [cPage_len1, List.length_take]; omega
      simp (implicitDefEqProofs := false) (dsimp := false) only [go_sem, a1, a2, a3, a4, brdA, nat_lt hk, decide_true, row1 cPage_len hk, row1_le cPage_len hk, cPage]
      (first | refine CallsA.use (DupStrings_ok b.pages[k] (ok.pr _ (List.getElem_mem hk))) ?_ | refine QuietCalls.use (DupStrings_ok b.pages[k] (ok.pr _ (List.getElem_mem hk))) ?_)
      simp (implicitDefEqProofs := false) (dsimp := false) only [go_sem, hkl, brdA]
      refine ⟨below_strs _ _, by have := ok.p; omega, k + 1, ⟨by omega, ⟨rfl, rfl, ?_⟩, wrap_succ (by have := ok.p; omega)⟩, by omega⟩
      rw [List.take_succ_eq_append_getElem hk, List.flatMap_append]
      simp [cPage, sliceOf]
    · have hs : ((k : Int) < (b.pages.length : Int)) = False := eq_false (by omega)
      have e : k = b.pages.length := by omega
      subst e
      rw [List.take_length]
      simp (implicitDefEqProofs := false) (dsimp := false) only [go_sem, a1, a2, a3, a4, brdA, hs, decide_false]
      refine WP.loopI (fun (k : Nat) s => (k ≤ b.cells.length) ∧ s.sl.length = 49 ∧ s.df = [] ∧ s.gh = {} ∧ (s.hp = h ++ .cells 0 (brdA b) :: .cells 0 z3 :: .dead :: .cells 0 [sliceOf cGlyph b.glyphs, .sl ⟨h.length + 4, b.pages.length⟩ 1 0 b.pages.length, .sl ⟨h.length + 5, k⟩ 1 0 k] :: .cells b.pages.length (b.pages.flatMap cPage) :: .cells k (slsFrom 1 (h.length + 6) (b.cells.take k)) :: (b.cells.take k).map rowB) ∧ evA s.sl (.tmp 1) = .ptr ⟨h.length, 0⟩ 0 ∧ evA s.sl (.tmp 2) = .ptr ⟨h.length + 1, 0⟩ 0 ∧ evA s.sl (.tmp 3) = .ptr ⟨h.length + 3, 0⟩ 0 ∧ evA s.sl (.tmp 5) = .int .i64 k) (fun (k : Nat) => b.cells.length - k) (0) ?_ ?_
      · simp (implicitDefEqProofs := false) (dsimp := false) only [go_sem, brdA, Nat.zero_le, List.take_zero, List.map_nil, slsFrom]
      · rintro k ⟨sl, df, hp, gh⟩ ⟨cb, cl, rfl, rfl, rfl, c1, c2, c3, c5⟩
        simp only at cb cl c1 c2 c3 c5
        obtain ⟨j, rfl⟩ := slots_lit cl; clear cl; simp only [junk_succ, junk_zero, evA_tmp, nth_16, nth_four, nth_one, nth_zero, Nat.zero_add, Nat.reduceAdd] at  c1 c2 c3 c5 ⊢
        refine wp_ok (so := { shut := [26, 45], hand := [9, 10], tail := [(5, 9)] }) mixed _ (by kernel_rfl) ?_
        by_cases hk : k < b.cells.length
        · simp (implicitDefEqProofs := false) (dsimp := false) only [go_sem, c1, c2, c3, c5, brdA, nat_lt hk, decide_true]
          refine WP.noisy (so := { shut := [26, 45], tail := [(5, 9)] }) 10 [2, 8] [0, 0, 0, 0, 0, 0, 0, 0, 0, 2] [2, 2, 0, 1, 1, 1, 1, 1, 0, 2] ((fun T => [h ++ T, h ++ (T ++ [.cells 0 []]), h ++ (T ++ [rowB b.cells[k]])]) _) rfl mixed (by kernel_rfl) (by kernel_rfl) (by decide) (by kernel_rfl) rfl ?_
          have hrt : (b.cells[k].flatMap cTrace).take (b.cells[k].length * 2) = b.cells[k].flatMap cTrace := List.take_of_length_le (by rw [length_rows cTrace_len]; exact Nat.le_refl _)
          have hrl : (b.cells[k].flatMap cTrace).length = b.cells[k].length * 2 := length_rows cTrace_len _
          have hsl : (slsFrom 1 (h.length + 6) (b.cells.take k)).length = k := by rw [slsFrom_len, List.length_take]; omega
          simp (implicitDefEqProofs := false) (dsimp := false) only [go_sem, brdA, row1 cTraces_len hk, row1_le cTraces_len hk, cTraces, nat_lt hk, hrt, hrl, hsl]
          have hcr := ok.cr _ (List.getElem_mem hk)
          have hcl := ok.c
          refine ⟨⟨flat_leaf (fun _ => rfl) _, by omega⟩, rfl, by omega, by omega, k + 1, ⟨by omega, ⟨rfl, ⟨rfl, ?_⟩, ?_⟩, wrap_succ (by omega)⟩, by omega⟩
          · rw [List.take_succ_eq_append_getElem hk, slsFrom_snoc, List.length_map, show h.length + 6 + (b.cells.take k).length = h.length + ((b.cells.take k).length + 1 + 1 + 1 + 1 + 1 + 1) by omega]
          · rw [List.take_succ_eq_append_getElem hk, List.map_append]; rfl
        · have hs : ((k : Int) < (b.cells.length : Int)) = False := eq_false (by omega)
          have e : k = b.cells.length := by omega
          subst e
          rw [List.take_length]
          simp (implicitDefEqProofs := false) (dsimp := false) only [go_sem, c1, c2, c3, c5, brdA, hs, decide_false]
          have hct : (b.cells.flatMap cTraces).take b.cells.length = b.cells.flatMap cTraces := List.take_of_length_le (by rw [cells_len1']; exact Nat.le_refl _)
          have hpt : (b.pages.flatMap cPage).take b.pages.length = b.pages.flatMap cPage := List.take_of_length_le (by rw [cPage_len1]; exact Nat.le_refl _)
          have hh : ∀ (a b c d e f : Blk) (R : List Blk), h ++ a :: b :: c :: d :: e :: f :: R = (h ++ [a, b, c, d, e]) ++ f :: (R ++ []) := fun _ _ _ _ _ _ _ => by simp
          rw [hh]
          refine WPI.rows (by simp) ?_
          simp only [List.append_assoc, List.cons_append, List.nil_append]
          refine WPI.turn (Turns.seal_cell (i := h.length + 3) (g := 0) (j := 2) (a := .sl ⟨h.length + 5, b.cells.length⟩ 1 0 b.cells.length) (a' := sliceOf cTraces b.cells) (by simp only; rw [hget]; rfl) rfl (by simp only [sealV]; rw [hget]; simp [sliceOf, hct]) (by simp [nmOf])) ?_
          simp only [nmOf, hset, List.set_cons_succ, List.set_cons_zero]
          refine WPI.turn (Turns.seal_cell (i := h.length + 3) (g := 0) (j := 1) (a := .sl ⟨h.length + 4, b.pages.length⟩ 1 0 b.pages.length) (a' := sliceOf cPage b.pages) (by simp only; rw [hget]; rfl) rfl (by simp only [sealV]; rw [hget]; simp [sliceOf, hpt]) (by simp [nmOf])) ?_
          simp only [nmOf, hset, List.set_cons_succ, List.set_cons_zero]
          refine wp_shut [] (so := { shut := [26, 45], tail := [(5, 9)] }) mixed _ (by kernel_rfl) ?_
          simp (implicitDefEqProofs := false) (dsimp := false) only [go_sem, z3]
          refine quiet_fine hB ?_
          have hbl := belowL_mono (Nat.zero_le h.length) _ (slices_below b)
          simpa [below, sliceOf] using hbl
def longB (b : Board) : Bool := (decide (20 < b.glyphs.length) || decide (20 < b.pages.length) || decide (20 < b.cells.length)) || b.glyphs.any (fun g => decide (40 < g.name.length)) || b.pages.any (fun p => decide (20 < p.length) || p.any fun r => decide (40 < r.length)) || b.cells.any fun r => decide (20 < r.length)
structure shortB (b : Board) : Prop where
  g : b.glyphs.length ≤ 20
  p : b.pages.length ≤ 20
  c : b.cells.length ≤ 20
  gn : ∀ g ∈ b.glyphs, g.name.length ≤ 40
  pr : ∀ p ∈ b.pages, p.length ≤ 20
  pc : ∀ p ∈ b.pages, ∀ r ∈ p, r.length ≤ 40
  cr : ∀ r ∈ b.cells, r.length ≤ 20
theorem shortB.of {b : Board} (h : longB b = false) : shortB b := by
  simp only [longB, Bool.or_eq_false_iff, decide_eq_false_iff_not, List.any_eq_false, Bool.or_eq_true, decide_eq_true_eq, List.any_eq_true, not_or, not_exists, not_and] at h
  obtain ⟨⟨⟨⟨⟨h1, h2⟩, h3⟩, h4⟩, h5⟩, h6⟩ := h
  exact ⟨by omega, by omega, by omega, fun g hg => by have := h4 g hg; omega, fun p hp => by have := (h5 p hp).1; omega, fun p hp r hr => by have := (h5 p hp).2 r hr; omega, fun r hr => by have := h6 r hr; omega⟩
theorem shortB.sizes {b : Board} (h : shortB b) : okSizes b := ⟨by have := h.g; omega, by have := h.p; omega, fun p hp => by have := h.pr p hp; omega, by have := h.c; omega, fun r hr => by have := h.cr r hr; omega⟩
theorem okMade.short {b : Board} (h : okMade b) : shortB b := ⟨by have := h.gl.most; omega, by have := h.most; omega, by have := h.cells.most; omega, fun g hg => by have := (h.gl.one g hg).1; omega, fun p hp => by have := (h.page p hp).1.most; omega, fun p hp r hr => by have := (h.page p hp).1.wide r hr; have := (h.page p hp).1.wmost; omega, fun r hr => by have := h.cells.wide r hr; have := h.cells.wmost; omega⟩
theorem eqGlyphS {d : Nat} {a0 : List UInt8} {a1 : Int} : eqA Tryz.prog (d + 2) 76 (.agg [.str a0, .int .i64 a1]) (.agg [.str a0, .int .i64 a1]) = some true := by
  have hu := under_ty ty76
  have e : ∀ a b : Int, eqA Tryz.prog (d + 1) 3 (.int .i64 a) (.int .i64 b) = some (a == b) := fun a b => eqA_int ty3 rfl
  have eb : ∀ a b : List UInt8, eqA Tryz.prog (d + 1) 9 (.str a) (.str b) = some (a == b) := fun a b => by
    simp only [eqA, under_ty ty9, ty9]
  have hs : (Tryz.prog.stoodInHeld 76) = false := by kernel_rfl
  have hq := eqAll_some [a0 == a0, a1 == a1]
  simp only [List.map_cons, List.map_nil] at hq
  unfold eqA
  simp only [hu, ty76, hs, ty3, ty9, List.map_cons, List.map_nil, Bool.false_eq_true, if_false, partA, aggD, List.getD_cons_zero, List.getD_cons_succ, e, eb]
  rw [if_neg (by decide), if_neg (by decide), hq]
  simp
theorem eqTraceS {d : Nat} {a0 a1 : Int} : eqA Tryz.prog (d + 2) 86 (.agg [.int .i64 a0, .int .i64 a1]) (.agg [.int .i64 a0, .int .i64 a1]) = some true := by
  have hu := under_ty ty86
  have e : ∀ a b : Int, eqA Tryz.prog (d + 1) 3 (.int .i64 a) (.int .i64 b) = some (a == b) := fun a b => eqA_int ty3 rfl
  have hs : (Tryz.prog.stoodInHeld 86) = false := by kernel_rfl
  have hq := eqAll_some [a0 == a0, a1 == a1]
  simp only [List.map_cons, List.map_nil] at hq
  unfold eqA
  simp only [hu, ty86, hs, ty3, List.map_cons, List.map_nil, Bool.false_eq_true, if_false, partA, aggD, List.getD_cons_zero, List.getD_cons_succ, e]
  rw [if_neg (by decide), if_neg (by decide), hq]
  simp
theorem eqGuardG : (Tryz.prog.eqGuardType Tryz.prog.depth 76 = false) = True := eq_true (by kernel_rfl)
theorem eqGuardT : (Tryz.prog.eqGuardType Tryz.prog.depth 86 = false) = True := eq_true (by kernel_rfl)
theorem EqBoards_ok (b : Board) (ok : shortB b) : PureA Tryz.prog 19 [.agg (brdA b), .agg (brdA b)] (.bool true) := by
  refine PureA.of_wpp { cut := [16, 25] } 116 mixed Tryz.func19 (by kernel_rfl) rfl (by kernel_rfl) (rfl) fun h j hB => ?_
  simp only [junk_succ, junk_zero, List.cons_append, List.nil_append, List.length_cons, List.length_nil, Nat.reduceAdd]
  have hg := ok.g
  have hp := ok.p
  have hc := ok.c
  simp (implicitDefEqProofs := false) (dsimp := false) only [go_sem, brdA, bne_self_eq_false]
  refine WP.loopI (fun (k : Nat) s => (k ≤ b.glyphs.length) ∧ s.sl.length = 118 ∧ s.df = [] ∧ s.gh = {} ∧ (s.hp = h ++ [.cells 0 (brdA b), .cells 0 (brdA b)]) ∧ evA s.sl (.tmp 2) = .ptr ⟨h.length, 0⟩ 0 ∧ evA s.sl (.tmp 3) = .ptr ⟨h.length + 1, 0⟩ 0 ∧ evA s.sl (.tmp 5) = .int .i64 k) (fun (k : Nat) => b.glyphs.length - k) (0) ?_ ?_
  · simp (implicitDefEqProofs := false) (dsimp := false) only [go_sem, brdA, Nat.zero_le]
  · rintro k ⟨sl, df, hp, gh⟩ ⟨ab, al, rfl, rfl, rfl, a2, a3, a5⟩
    simp only at ab al a2 a3 a5
    obtain ⟨j, rfl⟩ := slots_lit al; clear al; simp only [junk_succ, junk_zero, evA_tmp, nth_16, nth_four, nth_one, nth_zero, Nat.zero_add, Nat.reduceAdd] at  a2 a3 a5 ⊢
    refine wp_ok (so := { cut := [16, 25] }) mixed _ (by kernel_rfl) ?_
    by_cases hk : k < b.glyphs.length
    · have hn := ok.gn _ (List.getElem_mem hk)
      simp (implicitDefEqProofs := false) (dsimp := false) only [go_sem, a2, a3, a5, brdA, nat_lt hk, decide_true, rowN cGlyph_len hk, rowN_le cGlyph_len hk, cGlyph, eqGlyphS, eqGuardG, Bool.not_true]
      exact ⟨k + 1, ⟨by omega, wrap_succ (by omega)⟩, by omega⟩
    · have hs : ((k : Int) < (b.glyphs.length : Int)) = False := eq_false (by omega)
      simp (implicitDefEqProofs := false) (dsimp := false) only [go_sem, a2, a3, a5, brdA, hs, decide_false]
      refine WP.loopI (fun (k : Nat) s => (k ≤ b.pages.length) ∧ s.sl.length = 118 ∧ s.df = [] ∧ s.gh = {} ∧ (s.hp = h ++ [.cells 0 (brdA b), .cells 0 (brdA b)]) ∧ evA s.sl (.tmp 2) = .ptr ⟨h.length, 0⟩ 0 ∧ evA s.sl (.tmp 3) = .ptr ⟨h.length + 1, 0⟩ 0 ∧ evA s.sl (.tmp 6) = .int .i64 k) (fun (k : Nat) => b.pages.length - k) (0) ?_ ?_
      · simp (implicitDefEqProofs := false) (dsimp := false) only [go_sem, brdA, Nat.zero_le]
      · rintro k ⟨sl, df, hp, gh⟩ ⟨cb, cl, rfl, rfl, rfl, c2, c3, c6⟩
        simp only at cb cl c2 c3 c6
        obtain ⟨j, rfl⟩ := slots_lit cl; clear cl; simp only [junk_succ, junk_zero, evA_tmp, nth_16, nth_four, nth_one, nth_zero, Nat.zero_add, Nat.reduceAdd] at  c2 c3 c6 ⊢
        refine wp_ok (so := { cut := [16, 25] }) mixed _ (by kernel_rfl) ?_
        by_cases hk : k < b.pages.length
        · have h1 := ok.pr _ (List.getElem_mem hk)
          have h2 := ok.pc _ (List.getElem_mem hk)
          simp (implicitDefEqProofs := false) (dsimp := false) only [go_sem, c2, c3, c6, brdA, nat_lt hk, decide_true, row1 cPage_len hk, row1_le cPage_len hk, cPage]
          (first | refine CallsA.use (eqStrings_ok b.pages[k] b.pages[k] (by omega) (fun s hs => by have := h2 s hs; omega) (fun s hs => by have := h2 s hs; omega)) ?_ | refine QuietCalls.use (eqStrings_ok b.pages[k] b.pages[k] (by omega) (fun s hs => by have := h2 s hs; omega) (fun s hs => by have := h2 s hs; omega)) ?_)
          simp (implicitDefEqProofs := false) (dsimp := false) only [go_sem, beq_self_eq_true]
          exact ⟨k + 1, ⟨by omega, rfl, wrap_succ (by omega)⟩, by omega⟩
        · have hs : ((k : Int) < (b.pages.length : Int)) = False := eq_false (by omega)
          simp (implicitDefEqProofs := false) (dsimp := false) only [go_sem, c2, c3, c6, brdA, hs, decide_false]
          refine WP.loopI (fun (k : Nat) s => (k ≤ b.cells.length) ∧ s.sl.length = 118 ∧ s.df = [] ∧ s.gh = {} ∧ (s.hp = h ++ [.cells 0 (brdA b), .cells 0 (brdA b)]) ∧ evA s.sl (.tmp 2) = .ptr ⟨h.length, 0⟩ 0 ∧ evA s.sl (.tmp 3) = .ptr ⟨h.length + 1, 0⟩ 0 ∧ evA s.sl (.tmp 7) = .int .i64 k) (fun (k : Nat) => b.cells.length - k) (0) ?_ ?_
          · simp (implicitDefEqProofs := false) (dsimp := false) only [go_sem, brdA, Nat.zero_le]
          · rintro k ⟨sl, df, hp, gh⟩ ⟨eb, el, rfl, rfl, rfl, e2, e3, e7⟩
            simp only at eb el e2 e3 e7
            obtain ⟨j, rfl⟩ := slots_lit el; clear el; simp only [junk_succ, junk_zero, evA_tmp, nth_16, nth_four, nth_one, nth_zero, Nat.zero_add, Nat.reduceAdd] at  e2 e3 e7 ⊢
            refine wp_ok (so := { cut := [16, 25] }) mixed _ (by kernel_rfl) ?_
            by_cases hk : k < b.cells.length
            · have h1 := ok.cr _ (List.getElem_mem hk)
              simp (implicitDefEqProofs := false) (dsimp := false) only [go_sem, e2, e3, e7, brdA, nat_lt hk, decide_true, row1 cTraces_len hk, row1_le cTraces_len hk, cTraces, bne_self_eq_false]
              refine WP.loopI (fun (x : Nat) s => (x ≤ b.cells[k].length) ∧ s.sl.length = 118 ∧ s.df = [] ∧ s.gh = {} ∧ (s.hp = h ++ [.cells 0 (brdA b), .cells 0 (brdA b)]) ∧ evA s.sl (.tmp 2) = .ptr ⟨h.length, 0⟩ 0 ∧ evA s.sl (.tmp 3) = .ptr ⟨h.length + 1, 0⟩ 0 ∧ evA s.sl (.tmp 7) = .int .i64 k ∧ evA s.sl (.tmp 8) = .int .i64 x) (fun (x : Nat) => b.cells[k].length - x) (0) ?_ ?_
              · simp (implicitDefEqProofs := false) (dsimp := false) only [go_sem, brdA, Nat.zero_le]
              · rintro x ⟨sl, df, hp, gh⟩ ⟨fb, fl, rfl, rfl, rfl, f2, f3, f7, f8⟩
                simp only at fb fl f2 f3 f7 f8
                obtain ⟨j, rfl⟩ := slots_lit fl; clear fl; simp only [junk_succ, junk_zero, evA_tmp, nth_16, nth_four, nth_one, nth_zero, Nat.zero_add, Nat.reduceAdd] at  f2 f3 f7 f8 ⊢
                refine wp_ok (so := { cut := [16, 25] }) mixed _ (by kernel_rfl) ?_
                by_cases hx : x < b.cells[k].length
                · simp (implicitDefEqProofs := false) (dsimp := false) only [go_sem, f2, f3, f7, f8, brdA, nat_lt hk, nat_lt hx, decide_true, row1 cTraces_len hk, row1_le cTraces_len hk, cTraces, rowN cTrace_len hx, rowN_le cTrace_len hx, cTrace, eqTraceS, eqGuardT, Bool.not_true]
                  exact ⟨x + 1, ⟨by omega, wrap_succ (by omega)⟩, by omega⟩
                · have hs : ((x : Int) < (b.cells[k].length : Int)) = False := eq_false (by omega)
                  simp (implicitDefEqProofs := false) (dsimp := false) only [go_sem, f2, f3, f7, f8, brdA, nat_lt hk, row1 cTraces_len hk, row1_le cTraces_len hk, cTraces, hs, decide_false]
                  exact ⟨k + 1, ⟨by omega, wrap_succ (by omega)⟩, by omega⟩
            · have hs : ((k : Int) < (b.cells.length : Int)) = False := eq_false (by omega)
              simp (implicitDefEqProofs := false) (dsimp := false) only [go_sem, e2, e3, e7, brdA, hs, decide_false]
theorem any_false {α : Type} {f : α → Bool} {l : List α} (h : ∀ q (hq : q < l.length), f l[q] = false) : l.any f = false := by
  rw [List.any_eq_false]
  intro x hx
  obtain ⟨q, hq, rfl⟩ := List.getElem_of_mem hx
  rw [h q hq]; decide
theorem long_ok (b : Board) : PureA Tryz.prog 10 [.agg (brdA b)] (.bool (longB b)) := by
  refine PureA.of_wpp { cut := [11, 17] } 85 mixed Tryz.func10 (by kernel_rfl) rfl (by kernel_rfl) (rfl) fun h j hB => ?_
  simp only [junk_succ, junk_zero, List.cons_append, List.nil_append, List.length_cons, List.length_nil, Nat.reduceAdd]
  simp (implicitDefEqProofs := false) (dsimp := false) only [go_sem, brdA]
  refine ⟨fun c0 => ?_, fun c0 => ⟨fun c1 => ?_, fun c1 => ⟨fun c2 => ?_, fun c2 => ?_⟩⟩⟩
  · have : 20 < b.glyphs.length := by omega
    simp [longB, this]
  · have : 20 < b.pages.length := by omega
    simp [longB, this]
  · have : 20 < b.cells.length := by omega
    simp [longB, this]
  have q0 : decide (20 < b.glyphs.length) = false := decide_eq_false (by omega)
  have q1 : decide (20 < b.pages.length) = false := decide_eq_false (by omega)
  have q2 : decide (20 < b.cells.length) = false := decide_eq_false (by omega)
  refine WP.loopI (fun (k : Nat) s => (k ≤ b.glyphs.length ∧ ∀ q (hq : q < b.glyphs.length), q < k → b.glyphs[q].name.length ≤ 40) ∧ s.sl.length = 86 ∧ s.df = [] ∧ s.gh = {} ∧ (s.hp = h ++ [.cells 0 (brdA b)]) ∧ evA s.sl (.tmp 1) = .ptr ⟨h.length, 0⟩ 0 ∧ evA s.sl (.tmp 3) = .int .i64 k) (fun (k : Nat) => b.glyphs.length - k) (0) ?_ ?_
  · simp (implicitDefEqProofs := false) (dsimp := false) only [go_sem, brdA, Nat.zero_le]
    exact fun q hq e => by omega
  · rintro k ⟨sl, df, hp, gh⟩ ⟨ab, al, rfl, rfl, rfl, a1, a3⟩
    simp only at ab al a1 a3
    obtain ⟨j, rfl⟩ := slots_lit al; clear al; simp only [junk_succ, junk_zero, evA_tmp, nth_16, nth_four, nth_one, nth_zero, Nat.zero_add, Nat.reduceAdd] at  a1 a3 ⊢
    refine wp_ok (so := { cut := [11, 17] }) mixed _ (by kernel_rfl) ?_
    obtain ⟨ab, an⟩ := ab
    by_cases hk : k < b.glyphs.length
    · simp (implicitDefEqProofs := false) (dsimp := false) only [go_sem, a1, a3, brdA, nat_lt hk, decide_true, rowN cGlyph_len hk, rowN_le cGlyph_len hk, cGlyph]
      refine ⟨fun e => ?_, fun e => ⟨k + 1, ⟨⟨by omega, fun q hq h3 => ?_⟩, wrap_succ (by omega)⟩, by omega⟩⟩
      · have : b.glyphs.any (fun g => decide (40 < g.name.length)) = true := List.any_eq_true.2 ⟨_, List.getElem_mem hk, decide_eq_true (by omega)⟩
        simp [longB, this]
      · by_cases e3 : q = k
        · subst e3; omega
        · exact an q hq (by omega)
    · have hs : ((k : Int) < (b.glyphs.length : Int)) = False := eq_false (by omega)
      have q3 := any_false (f := fun g : Glyph => decide (40 < g.name.length)) fun q hq => decide_eq_false (by have := an q hq (by omega); omega)
      simp (implicitDefEqProofs := false) (dsimp := false) only [go_sem, a1, a3, brdA, hs, decide_false]
      refine WP.loopI (fun (k : Nat) s => (k ≤ b.pages.length ∧ ∀ q (hq : q < b.pages.length), q < k → b.pages[q].length ≤ 20 ∧ ∀ r ∈ b.pages[q], r.length ≤ 40) ∧ s.sl.length = 86 ∧ s.df = [] ∧ s.gh = {} ∧ (s.hp = h ++ [.cells 0 (brdA b)]) ∧ evA s.sl (.tmp 1) = .ptr ⟨h.length, 0⟩ 0 ∧ evA s.sl (.tmp 4) = .int .i64 k) (fun (k : Nat) => b.pages.length - k) (0) ?_ ?_
      · simp (implicitDefEqProofs := false) (dsimp := false) only [go_sem, brdA, Nat.zero_le]
        exact fun q hq e => by omega
      · rintro k ⟨sl, df, hp, gh⟩ ⟨cb, cl, rfl, rfl, rfl, c1, c4⟩
        simp only at cb cl c1 c4
        obtain ⟨j, rfl⟩ := slots_lit cl; clear cl; simp only [junk_succ, junk_zero, evA_tmp, nth_16, nth_four, nth_one, nth_zero, Nat.zero_add, Nat.reduceAdd] at  c1 c4 ⊢
        refine wp_ok (so := { cut := [11, 17] }) mixed _ (by kernel_rfl) ?_
        obtain ⟨ab, an⟩ := cb
        by_cases hk : k < b.pages.length
        · simp (implicitDefEqProofs := false) (dsimp := false) only [go_sem, c1, c4, brdA, nat_lt hk, decide_true, row1 cPage_len hk, row1_le cPage_len hk, cPage]
          refine ⟨fun e => ?_, fun e => ?_⟩
          · have : b.pages.any (fun p => decide (20 < p.length) || p.any fun r => decide (40 < r.length)) = true := List.any_eq_true.2 ⟨_, List.getElem_mem hk, by rw [decide_eq_true (show 20 < b.pages[k].length by omega)]; rfl⟩
            simp only [longB, this, Bool.or_true, Bool.true_or]
          refine WP.loopI (fun (x : Nat) s => (x ≤ b.pages[k].length ∧ ∀ q (hq : q < b.pages[k].length), q < x → b.pages[k][q].length ≤ 40) ∧ s.sl.length = 86 ∧ s.df = [] ∧ s.gh = {} ∧ (s.hp = h ++ [.cells 0 (brdA b)]) ∧ evA s.sl (.tmp 1) = .ptr ⟨h.length, 0⟩ 0 ∧ evA s.sl (.tmp 4) = .int .i64 k ∧ evA s.sl (.tmp 5) = .int .i64 x) (fun (x : Nat) => b.pages[k].length - x) (0) ?_ ?_
          · simp (implicitDefEqProofs := false) (dsimp := false) only [go_sem, brdA, Nat.zero_le]
            exact fun q hq e => by omega
          · rintro x ⟨sl, df, hp, gh⟩ ⟨db, dl, rfl, rfl, rfl, d1, d4, d5⟩
            simp only at db dl d1 d4 d5
            obtain ⟨j, rfl⟩ := slots_lit dl; clear dl; simp only [junk_succ, junk_zero, evA_tmp, nth_16, nth_four, nth_one, nth_zero, Nat.zero_add, Nat.reduceAdd] at  d1 d4 d5 ⊢
            refine wp_ok (so := { cut := [11, 17] }) mixed _ (by kernel_rfl) ?_
            obtain ⟨db, dn⟩ := db
            by_cases hx : x < b.pages[k].length
            · simp (implicitDefEqProofs := false) (dsimp := false) only [go_sem, d1, d4, d5, brdA, nat_lt hk, nat_lt hx, decide_true, row1 cPage_len hk, row1_le cPage_len hk, cPage, row1 cStr_len hx, row1_le cStr_len hx, cStr]
              refine ⟨fun e => ?_, fun e => ⟨x + 1, ⟨⟨by omega, fun q hq h3 => ?_⟩, wrap_succ (by omega)⟩, by omega⟩⟩
              · have : b.pages.any (fun p => decide (20 < p.length) || p.any fun r => decide (40 < r.length)) = true := List.any_eq_true.2 ⟨_, List.getElem_mem hk, by
                  rw [Bool.or_eq_true]; exact .inr (List.any_eq_true.2 ⟨_, List.getElem_mem hx, decide_eq_true (by omega)⟩)⟩
                simp only [longB, this, Bool.or_true, Bool.true_or]
              · by_cases e3 : q = x
                · subst e3; omega
                · exact dn q hq (by omega)
            · have hs : ((x : Int) < (b.pages[k].length : Int)) = False := eq_false (by omega)
              have q4 := any_false (f := fun r : List UInt8 => decide (40 < r.length)) fun q hq => decide_eq_false (by have := dn q hq (by omega); omega)
              simp (implicitDefEqProofs := false) (dsimp := false) only [go_sem, d1, d4, d5, brdA, nat_lt hk, row1 cPage_len hk, row1_le cPage_len hk, cPage, hs, decide_false]
              refine ⟨k + 1, ⟨⟨by omega, fun q hq h3 => ?_⟩, wrap_succ (by omega)⟩, by omega⟩
              by_cases e3 : q = k
              · subst e3; refine ⟨by omega, fun r hr => ?_⟩; have := List.any_eq_false.1 q4 r hr; simp only [decide_eq_true_eq] at this; omega
              · exact an q hq (by omega)
        · have hs : ((k : Int) < (b.pages.length : Int)) = False := eq_false (by omega)
          have q4 := any_false (f := fun p : List (List UInt8) => decide (20 < p.length) || p.any fun r => decide (40 < r.length)) fun q hq => by
            obtain ⟨a1, a2⟩ := an q hq (by omega)
            rw [decide_eq_false (by omega), Bool.false_or, List.any_eq_false]
            intro r hr
            have := a2 r hr
            simp only [decide_eq_true_eq]; omega
          simp (implicitDefEqProofs := false) (dsimp := false) only [go_sem, c1, c4, brdA, hs, decide_false]
          refine WP.loopI (fun (k : Nat) s => (k ≤ b.cells.length ∧ ∀ q (hq : q < b.cells.length), q < k → b.cells[q].length ≤ 20) ∧ s.sl.length = 86 ∧ s.df = [] ∧ s.gh = {} ∧ (s.hp = h ++ [.cells 0 (brdA b)]) ∧ evA s.sl (.tmp 1) = .ptr ⟨h.length, 0⟩ 0 ∧ evA s.sl (.tmp 6) = .int .i64 k) (fun (k : Nat) => b.cells.length - k) (0) ?_ ?_
          · simp (implicitDefEqProofs := false) (dsimp := false) only [go_sem, brdA, Nat.zero_le]
            exact fun q hq e => by omega
          · rintro k ⟨sl, df, hp, gh⟩ ⟨eb, el, rfl, rfl, rfl, e1, e6⟩
            simp only at eb el e1 e6
            obtain ⟨j, rfl⟩ := slots_lit el; clear el; simp only [junk_succ, junk_zero, evA_tmp, nth_16, nth_four, nth_one, nth_zero, Nat.zero_add, Nat.reduceAdd] at  e1 e6 ⊢
            refine wp_ok (so := { cut := [11, 17] }) mixed _ (by kernel_rfl) ?_
            obtain ⟨eb, en⟩ := eb
            by_cases hk : k < b.cells.length
            · simp (implicitDefEqProofs := false) (dsimp := false) only [go_sem, e1, e6, brdA, nat_lt hk, decide_true, row1 cTraces_len hk, row1_le cTraces_len hk, cTraces]
              refine ⟨fun e => ?_, fun e => ⟨k + 1, ⟨⟨by omega, fun q hq h3 => ?_⟩, wrap_succ (by omega)⟩, by omega⟩⟩
              · have : b.cells.any (fun r => decide (20 < r.length)) = true := List.any_eq_true.2 ⟨_, List.getElem_mem hk, decide_eq_true (by omega)⟩
                simp only [longB, this, Bool.or_true]
              · by_cases e3 : q = k
                · subst e3; omega
                · exact en q hq (by omega)
            · have hs : ((k : Int) < (b.cells.length : Int)) = False := eq_false (by omega)
              have q5 := any_false (f := fun r : List Trace => decide (20 < r.length)) fun q hq => decide_eq_false (by have := en q hq (by omega); omega)
              simp (implicitDefEqProofs := false) (dsimp := false) only [go_sem, e1, e6, brdA, hs, decide_false]
              rw [longB, q0, q1, q2, q3, q4, q5]; rfl
end Go.Mac
namespace Go.Mac
open Go Go.Conc Go.Proofs
set_option maxRecDepth 4000
theorem role_left {h k : List Blk} (hro : h[0]? = some (.role true)) : (h ++ k)[0]? = some (.role true) := by
  rw [List.getElem?_append_left (List.getElem?_eq_some_iff.1 hro).1]; exact hro
end Go.Mac
namespace Go.Mac
open Go Go.Conc Go.Proofs
set_option maxRecDepth 4000
theorem WPI.dup {P : Program} {fk : FK} {its : List Item} {Q : AExit → AS → Prop} {sl : List AV} {df : List ADef} {gh : Gst} {A : List Blk} {b : Board} {gl pg : AV} {m : Nat} (hA : A.length = m)
    (hk : WPI P fk its Q ⟨sl, df, A ++ .dead :: (List.replicate b.cells.length .dead ++ [.cells 0 [gl, pg, sliceOf cTraces b.cells]]), gh⟩) :
    WPI P fk its Q ⟨sl, df, A ++ .cells b.cells.length (slsFrom 1 (m + 1) b.cells) :: (b.cells.map rowB ++ [.cells 0 [gl, pg, .sl ⟨m, b.cells.length⟩ 1 0 b.cells.length]]), gh⟩ := by
  refine WPI.rows (by rw [hA]) ?_
  have hct : (b.cells.flatMap cTraces).take b.cells.length = b.cells.flatMap cTraces := List.take_of_length_le (by rw [cells_len1]; exact Nat.le_refl _)
  have g1 : ∀ x : Blk, (A ++ x :: (List.replicate b.cells.length Blk.dead ++ [.cells 0 [gl, pg, .sl ⟨m, b.cells.length⟩ 1 0 b.cells.length]]))[m + (1 + b.cells.length)]? = some (.cells 0 [gl, pg, .sl ⟨m, b.cells.length⟩ 1 0 b.cells.length]) := fun x => by
    rw [← hA, List.getElem?_append_right (by omega), Nat.add_sub_cancel_left, Nat.add_comm 1, List.getElem?_cons_succ, List.getElem?_append_right (by simp), List.length_replicate, Nat.sub_self]; rfl
  have g2 : ∀ (x : Blk) (l : List Blk), (A ++ x :: l)[m]? = some x := fun x l => by rw [← hA, List.getElem?_append_right (Nat.le_refl _), Nat.sub_self]; rfl
  have s2 : ∀ (x y : Blk) (l : List Blk), (A ++ x :: l).set m y = A ++ y :: l := fun x y l => by rw [← hA, List.set_append_right _ _ (Nat.le_refl _), Nat.sub_self]; rfl
  have s1 : ∀ (x y : Blk), (A ++ x :: (List.replicate b.cells.length Blk.dead ++ [.cells 0 [gl, pg, .sl ⟨m, b.cells.length⟩ 1 0 b.cells.length]])).set (m + (1 + b.cells.length)) y = A ++ x :: (List.replicate b.cells.length Blk.dead ++ [y]) := fun x y => by
    rw [← hA, List.set_append_right _ _ (by omega), Nat.add_sub_cancel_left, Nat.add_comm 1, List.set_cons_succ, List.set_append_right _ _ (by simp), List.length_replicate, Nat.sub_self]; rfl
  refine WPI.turn (Turns.seal_cell (i := m + (1 + b.cells.length)) (g := 0) (j := 2) (a := .sl ⟨m, b.cells.length⟩ 1 0 b.cells.length) (a' := sliceOf cTraces b.cells) (g1 _) rfl (by simp only [sealV]; rw [g2]; simp [sliceOf, hct]) (by simp [nmOf])) ?_
  simp only [nmOf, s2, s1, List.set_cons_succ, List.set_cons_zero]
  exact hk
theorem cPage_set (l : List (List (List UInt8))) (k : Nat) (p : List (List UInt8)) : (l.flatMap cPage).set k (sliceOf cStr p) = (l.set k p).flatMap cPage := by
  induction l generalizing k with
  | nil => rfl
  | cons x l ih =>
    cases k with
    | zero => rfl
    | succ k =>
      have := ih k
      simp only [List.flatMap_cons, cPage, List.cons_append, List.nil_append, List.set_cons_succ] at this ⊢
      rw [this]
set_option maxHeartbeats 4000000 in
theorem WPI.dupS {P : Program} {fk : FK} {its : List Item} {Q : AExit → AS → Prop} {sl : List AV} {df : List ADef} {gh : Gst} {A : List Blk} {b : Board} {gl : AV} {m gp : Nat} (hA : A.length = m)
    (hk : WPI P fk its Q ⟨sl, df, A ++ .dead :: .dead :: (List.replicate b.cells.length .dead ++ [.cells 0 [gl, sliceOf cPage b.pages, sliceOf cTraces b.cells]]), gh⟩) :
    WPI P fk its Q ⟨sl, df, A ++ .cells gp (b.pages.flatMap cPage) :: .cells b.cells.length (slsFrom 1 (m + 2) b.cells) :: (b.cells.map rowB ++ [.cells 0 [gl, .sl ⟨m, gp⟩ 1 0 b.pages.length, .sl ⟨m + 1, b.cells.length⟩ 1 0 b.cells.length]]), gh⟩ := by
  have hh : ∀ (x y : Blk) (l : List Blk), A ++ x :: y :: l = (A ++ [x]) ++ y :: l := fun _ _ _ => by simp
  rw [hh]
  refine WPI.dup (m := m + 1) (by simp [hA]) ?_
  have hpt : (b.pages.flatMap cPage).take b.pages.length = b.pages.flatMap cPage := List.take_of_length_le (by rw [cPage_len1]; exact Nat.le_refl _)
  have g1 : ∀ x y z : Blk, (A ++ x :: y :: (List.replicate b.cells.length Blk.dead ++ [z]))[m + (2 + b.cells.length)]? = some z := fun x y z => by
    rw [← hA, List.getElem?_append_right (by omega), Nat.add_sub_cancel_left, Nat.add_comm 2, List.getElem?_cons_succ, List.getElem?_cons_succ, List.getElem?_append_right (by simp), List.length_replicate, Nat.sub_self]; rfl
  have g2 : ∀ (x : Blk) (l : List Blk), (A ++ x :: l)[m]? = some x := fun x l => by rw [← hA, List.getElem?_append_right (Nat.le_refl _), Nat.sub_self]; rfl
  have s2 : ∀ (x y : Blk) (l : List Blk), (A ++ x :: l).set m y = A ++ y :: l := fun x y l => by rw [← hA, List.set_append_right _ _ (Nat.le_refl _), Nat.sub_self]; rfl
  have s1 : ∀ (x y z w : Blk), (A ++ x :: y :: (List.replicate b.cells.length Blk.dead ++ [z])).set (m + (2 + b.cells.length)) w = A ++ x :: y :: (List.replicate b.cells.length Blk.dead ++ [w]) := fun x y z w => by
    rw [← hA, List.set_append_right _ _ (by omega), Nat.add_sub_cancel_left, Nat.add_comm 2, List.set_cons_succ, List.set_cons_succ, List.set_append_right _ _ (by simp), List.length_replicate, Nat.sub_self]; rfl
  simp only [List.append_assoc, List.cons_append, List.nil_append]
  refine WPI.turn (Turns.seal_cell (i := m + (2 + b.cells.length)) (g := 0) (j := 1) (a := .sl ⟨m, gp⟩ 1 0 b.pages.length) (a' := sliceOf cPage b.pages) (g1 _ _ _) rfl (by simp only [sealV]; rw [g2]; simp [sliceOf, hpt]) (by simp [nmOf])) ?_
  simp only [nmOf, s2, s1, List.set_cons_succ, List.set_cons_zero]
  exact hk
theorem cut6 {l T : List Blk} {b1 b2 b3 b4 b5 b6 x : Blk} : l ++ b1 :: b2 :: b3 :: b4 :: b5 :: b6 :: x :: T = (l ++ [b1, b2, b3, b4, b5, b6]) ++ x :: T := by simp
theorem n61 (n : Nat) : n + 6 + 1 = n + 7 := rfl
theorem n62 (n : Nat) : n + 6 + 2 = n + 8 := rfl
theorem get_mapB {cs : List (List Trace)} {y : Blk} : (cs.map rowB ++ [y])[cs.length]? = some y := by rw [List.getElem?_append_right (by simp), List.length_map, Nat.sub_self]; rfl
def setsL (b made other : Board) : List Board := [b, made, other, made]
theorem short_setP {b o : Board} (hb : shortB b) (ho : shortB o) {k : Nat} (h0 : 0 < b.pages.length) : shortB { o with pages := o.pages.set k b.pages[0] } := by
  have hm : ∀ p ∈ o.pages.set k b.pages[0], p ∈ o.pages ∨ p = b.pages[0] := fun p hp => List.mem_or_eq_of_mem_set hp
  refine ⟨ho.g, by simp only [List.length_set]; exact ho.p, ho.c, ho.gn, fun p hp => ?_, fun p hp r hr => ?_, ho.cr⟩
  · rcases hm p hp with h | rfl
    · exact ho.pr p h
    · exact hb.pr _ (List.getElem_mem h0)
  · rcases hm p hp with h | rfl
    · exact ho.pc p h r hr
    · exact hb.pc _ (List.getElem_mem h0) r hr
theorem short_setC {o : Board} (ho : shortB o) {row row' : List Trace} {rest : List (List Trace)} (hc : o.cells = row :: rest) (hl : row'.length = row.length) : shortB { o with cells := row' :: rest } := by
  have h1 := ho.c
  have h2 := ho.cr
  rw [hc] at h1 h2
  refine ⟨ho.g, ho.p, by simpa using h1, ho.gn, ho.pr, ho.pc, fun r hr => ?_⟩
  rcases List.mem_cons.1 hr with rfl | hr
  · rw [hl]; exact h2 _ (List.mem_cons_self ..)
  · exact h2 _ (List.mem_cons_of_mem _ hr)
def SetsP (b : Board) (h : List Blk) (i : Nat) (e : AEnd) (h' : List Blk) : Prop :=
  ∃ J made other r x, okMadeN made 4 3 2 3 ∧ shortB other ∧ e = .ret (.sl ⟨h.length + J.length, 0⟩ 3 0 4) ∧ h' = h.set i (diceB r x) ++ (J ++ [.cells 0 ((setsL b made other).flatMap brdA)])
theorem turn_use3 {f : FuncId} {args : List AV} {r r' : Option (List Int)} {x x' : Int} {v : AV} {h T : List Blk} {i : Nat} {K : AV → Prop}
    (hi : h[i]? = some (diceB r x)) (c : ∀ h, h[i]? = some (diceB r x) → CallsA Tryz.prog f args h fun e h' => e = .ret v ∧ h' = h.set i (diceB r' x')) (hk : K v) : TurnCalls Tryz.prog f args (h ++ T) (h.set i (diceB r' x') ++ T) K := by
  refine TurnCalls.use ?_ hk
  have := c _ (get_left (k := T) hi)
  rwa [set_left (List.getElem?_eq_some_iff.1 hi).1] at this
theorem pg_get00 {p : List (List (List UInt8))} (h : 0 < p.length) : (p.flatMap cPage).drop 0 = sliceOf cStr p[0] :: (p.drop 1).flatMap cPage := by
  have := row1 cPage_len h
  rw [this]; rfl
theorem pg_get0 {p : List (List (List UInt8))} (h : 0 < p.length) : (p.flatMap cPage).getD 0 .any = sliceOf cStr p[0] := by
  have := pg_get00 h
  rw [List.drop_zero] at this
  rw [this]; rfl
theorem sets_end {b made other : Board} {h h3 Kk H : List Blk} {i n1 : Nat} {r : Option (List Int)} {x : Int} (hB : h.all (belowBlk h.length) = true) (hl : i < h.length) (hs : h3 = h.set i (diceB r x)) (okN : okMadeN made 4 3 2 3) (ho : shortB other)
    (hn : n1 = Kk.length) (hH : H = h3 ++ (Kk ++ [.cells 0 ((setsL b made other).flatMap brdA)])) (hbk : Kk.all (belowBlk (h3.length + Kk.length + 1)) = true) :
    ∃ v n, AV.sl ⟨h3.length + n1, 0⟩ 3 0 4 = v ∧ h3.length ≤ n ∧ below n v = true ∧ (H.take n).all (belowBlk n) = true ∧ SetsP b h i (.ret v) (H.take n) := by
  subst hn; subst hH
  have hlen : h3.length = h.length := by rw [hs, List.length_set]
  have tk : (h3 ++ (Kk ++ [Blk.cells 0 ((setsL b made other).flatMap brdA)])).take (h3.length + Kk.length + 1) = h3 ++ (Kk ++ [Blk.cells 0 ((setsL b made other).flatMap brdA)]) := List.take_of_length_le (by simp; omega)
  refine ⟨_, h3.length + Kk.length + 1, rfl, by omega, by simp [below], ?_, Kk, made, other, r, x, okN, ho, by rw [hlen], by rw [tk, hs]⟩
  rw [tk, List.all_append, List.all_append, hbk]
  have h1 : h3.all (belowBlk (h3.length + Kk.length + 1)) = true := by
    rw [hs]
    rw [List.all_eq_true]
    intro y hy
    rcases List.mem_or_eq_of_mem_set hy with hy | rfl
    · have := List.all_eq_true.1 (allBelow_mono (show h.length ≤ (h.set i (diceB r x)).length + Kk.length + 1 by rw [List.length_set]; omega) hB) y hy
      exact this
    · cases r <;> simp [diceB, leftA, belowBlk, belowL, below, ints]
      exact belowL_flat (f := cInt) (fun _ => rfl) _
  rw [h1]
  have h2 : belowL (h3.length + Kk.length + 1) ((setsL b made other).flatMap brdA) = true := belowL_flat (f := brdA) (fun y => slices_below y) _
  simp [belowBlk, h2]
theorem sets_ok (b : Board) (sb : shortB b) (h : List Blk) (i : Nat) (r : Option (List Int)) (x : Int) (hi : h[i]? = some (diceB r x)) :
    CallsA Tryz.prog 13 [.agg (brdA b), .ptr ⟨i, 0⟩ 0] h (SetsP b h i) := by
  have hl : i < h.length := (List.getElem?_eq_some_iff.1 hi).1
  refine CallsA.of_wpe [] { cut := [15, 37], hand := [3, 4, 5, 7], tail := [(6, 10)] } 59 mixed Tryz.func13 (by kernel_rfl) rfl (by kernel_rfl) fun j hB hA => ?_; simp only [junk_succ, junk_zero, List.cons_append, List.nil_append, List.length_cons, List.length_nil, Nat.reduceAdd]
  simp (implicitDefEqProofs := false) (dsimp := false) only [go_sem, brdA]
  refine Rolls.use (BoardOf_ok _ i r x 4 3 2 3 (by omega) (by omega) (by omega) (by omega) (get_left hi)) ?_
  rintro _ r x ⟨made, rfl, okN⟩
  rw [set_left hl]
  obtain ⟨h2, e2⟩ : ∃ h2, h2 = h.set i (diceB r x) := ⟨_, rfl⟩
  have hl2 : h.length = h2.length := by rw [e2, List.length_set]
  have hi2 : h2[i]? = some (diceB r x) := by rw [e2, List.getElem?_set_self hl]
  rw [← e2]
  have okm := okN.made
  simp only [hl2]
  simp (implicitDefEqProofs := false) (dsimp := false) only [go_sem, brdA]
  refine CallsA.mono (DupBoard_ok made okm.sizes _) ?_
  rintro _ _ ⟨u0, u1, u2, u3, rfl, rfl⟩
  simp only [List.append_assoc, List.cons_append, List.nil_append, List.length_append, List.length_cons, List.length_nil, Nat.zero_add, Nat.add_assoc, Nat.reduceAdd]
  simp (implicitDefEqProofs := false) (dsimp := false) only [go_sem, dupA, dupH, n61, n62]
  simp only [hl2, List.length_map, Nat.add_assoc, Nat.reduceAdd]
  have hi2l : i < h2.length := by omega
  by_cases hp0 : 0 < b.pages.length
  case' pos =>
    have e1 : ((b.pages.length : Int) > 0) = True := eq_true (by omega)
    refine wp_shut [] (so := { cut := [15, 37], tail := [(6, 10)] }) mixed _ (by kernel_rfl) ?_
    simp (implicitDefEqProofs := false) (dsimp := false) only [go_sem, e1, decide_true]
    refine Rolls.use (Once_ok _ i r x 2 (by omega) (by omega) (get_left hi2)) ?_
    rintro _ r' x' ⟨v, rfl⟩
    rw [set_left hi2l]
    obtain ⟨h3, e3⟩ : ∃ h3, h3 = h2.set i (diceB r' x') := ⟨_, rfl⟩
    have hl3 : h2.length = h3.length := by rw [e3, List.length_set]
    have hi3 : h3[i]? = some (diceB r' x') := by rw [e3, List.getElem?_set_self hi2l]
    have hs3 : h3 = h.set i (diceB r' x') := by rw [e3, e2, List.set_set]
    rw [← e3]
    clear e3
    simp only [hl3]
    cases v
  case' neg =>
    have e1 : ((b.pages.length : Int) > 0) = False := eq_false (by omega)
    refine wp_shut [] (so := { cut := [15, 37], tail := [(6, 10)] }) mixed _ (by kernel_rfl) ?_
    simp (implicitDefEqProofs := false) (dsimp := false) only [go_sem, e1, decide_false]
    obtain ⟨h3, hs3⟩ : ∃ h3, h3 = h2 := ⟨_, rfl⟩
    obtain ⟨r', x', hrx⟩ : ∃ r' x', (r' = r ∧ x' = x) := ⟨r, x, rfl, rfl⟩
    obtain ⟨rfl, rfl⟩ := hrx
    subst hs3
    have hs3 := e2
    have hl3 : h3.length = h3.length := rfl
    have hi3 := hi2
  case' pos.true =>
    have hmk := okm.pos
    have hml := okm.most
    have hw1 : IntKind.i64.wrap ((made.pages.length : Int) - 1) = (made.pages.length : Int) - 1 := wrap64 (by omega) (by omega)
    simp (implicitDefEqProofs := false) (dsimp := false) only [go_sem, hl3]
    obtain ⟨_, d1, x1, ⟨v1, rfl, hv1⟩, q1⟩ := To_det r' x' ((made.pages.length : Int) - 1) (by omega)
    refine WP.noisy (so := { cut := [15, 37], tail := [(6, 10)] }) 13 [7] [0, 0, 0, 0, 0, 0, 0, 0, 0, 0, 0, 0, 1] [1, 1, 0, 0, 0, 0, 0, 0, 1, 1, 1, 1, 1] ((fun T => [h3 ++ T, h3.set i (diceB d1 x1) ++ T]) _) rfl mixed (by kernel_rfl) (by kernel_rfl) (by decide) (by kernel_rfl) rfl ?_
    simp (implicitDefEqProofs := false) (dsimp := false) only [go_sem, hw1, get_mapB, get_past0, get_past]
    refine turn_use3 hi3 (fun h hi => q1 h i hi) ?_
    have hpl1 : (b.pages.flatMap cPage).length = b.pages.length := cPage_len1 _
    simp (implicitDefEqProofs := false) (dsimp := false) only [go_sem, get_past0, get_past, set_past0, set_past, get_mapB, pg_get00 hp0, pg_get0 hp0, hpl1, nat_lt hp0]
    refine ⟨⟨by omega, by omega⟩, ⟨by omega, by omega⟩, ?_⟩
    have hv1l : v1 < made.pages.length := by omega
    have hmpl : (made.pages.flatMap cPage).length = made.pages.length := cPage_len1 _
    (first | refine CallsA.use (DupStrings_ok b.pages[0] (by have := sb.pr _ (List.getElem_mem hp0); omega)) ?_ | refine QuietCalls.use (DupStrings_ok b.pages[0] (by have := sb.pr _ (List.getElem_mem hp0); omega)) ?_)
    simp (implicitDefEqProofs := false) (dsimp := false) only [go_sem, get_past0, get_past, set_past0, set_past, get_mapB, nat_lt hv1l, hmpl]
    refine ⟨by omega, ?_⟩
    obtain ⟨ob, hob⟩ : ∃ ob : Board, ob = { made with pages := made.pages.set v1 b.pages[0] } := ⟨_, rfl⟩
    have hos : shortB ob := by rw [hob]; exact short_setP sb okm.short hp0
    have hoc : ob.cells = made.cells := by rw [hob]
    have hog : ob.glyphs = made.glyphs := by rw [hob]
    have hop : (made.pages.flatMap cPage).set v1 (.psl (b.pages[0].flatMap cStr) b.pages[0].length) = ob.pages.flatMap cPage := by rw [hob]; exact cPage_set _ _ _
    have hol : made.pages.length = ob.pages.length := by rw [hob]; simp
    obtain ⟨h4, e4⟩ : ∃ h4, h4 = h3.set i (diceB d1 x1) := ⟨_, rfl⟩
    have hl4 : h3.length = h4.length := by rw [e4, List.length_set]
    have hs4 : h4 = h.set i (diceB d1 x1) := by rw [e4, hs3, List.set_set]
    rw [← e4, hop, cut6]
    have hT : ∀ (y : Blk), (List.replicate made.cells.length Blk.dead ++ [y])[made.cells.length]? = some y := fun y => by rw [List.getElem?_append_right (by simp), List.length_replicate, Nat.sub_self]; rfl
    rw [← hoc] at hT ⊢
    clear e4 hs3 hi3
    simp only [hl4]
    rw [hol]
    refine WPI.dupS (b := ob) (gp := ob.pages.length) (m := h4.length + 6) (by simp) ?_
    simp only [List.append_assoc, List.cons_append, List.nil_append]
    refine WPI.of_below fun hb _ => ?_
    refine wp_shut [] (so := { cut := [15, 37], tail := [(6, 10)] }) mixed _ (by kernel_rfl) ?_
    simp (implicitDefEqProofs := false) (dsimp := false) only [go_sem, hT]
    refine sets_end (b := b) (made := made) (other := ob) (Kk := .cells 0 (brdA b) :: .cells 0 (brdA made) :: u0 :: u1 :: u2 :: u3 :: .dead :: .dead :: (List.replicate ob.cells.length .dead ++ [.cells 0 (brdA ob)])) hB hl hs4 okN hos ?_ ?_ ?_
    · simp
    · simp [setsL, brdA, sliceOf, hoc, hog, hol]
    · simp only at hb
      rw [List.all_append, Bool.and_eq_true] at hb
      have hb2 := allBelow_mono (m := h4.length + (ob.cells.length + 9) + 1) (by simp) hb.2
      simpa [brdA, sliceOf, hoc, hog, hol, Nat.add_assoc] using hb2
  case' pos.false =>
    simp (implicitDefEqProofs := false) (dsimp := false) only [go_sem, hl3]
  all_goals
    have hT : ∀ (y : Blk), (List.replicate made.cells.length Blk.dead ++ [y])[made.cells.length]? = some y := fun y => by rw [List.getElem?_append_right (by simp), List.length_replicate, Nat.sub_self]; rfl
    rcases hcs : b.cells with _ | ⟨_ | ⟨t, ts⟩, rest⟩
    · refine wp_shut [] (so := { cut := [15, 37], tail := [(6, 10)] }) mixed _ (by kernel_rfl) ?_
      simp (implicitDefEqProofs := false) (dsimp := false) only [go_sem, hcs, List.flatMap_nil, List.flatMap_cons, cTraces, cTrace]
      rw [cut6]
      refine WPI.dupS (b := made) (m := h3.length + 6) (by simp) ?_
      simp only [List.append_assoc, List.cons_append, List.nil_append]
      refine WPI.of_below fun hb _ => ?_
      refine wp_shut [] (so := { cut := [15, 37], tail := [(6, 10)] }) mixed _ (by kernel_rfl) ?_
      simp (implicitDefEqProofs := false) (dsimp := false) only [go_sem, hT]
      refine sets_end (b := b) (made := made) (other := made) (Kk := .cells 0 (brdA b) :: .cells 0 (brdA made) :: u0 :: u1 :: u2 :: u3 :: .dead :: .dead :: (List.replicate made.cells.length .dead ++ [.cells 0 (brdA made)])) hB hl hs3 okN okm.short ?_ ?_ ?_
      · simp
      · simp [setsL, brdA, hcs, sliceOf, cTraces, cTrace]
      · simp only at hb
        rw [List.all_append, Bool.and_eq_true] at hb
        have hb2 := allBelow_mono (m := h3.length + (made.cells.length + 9) + 1) (by simp) hb.2
        simpa [brdA, hcs, sliceOf, cTraces, cTrace, Nat.add_assoc] using hb2
    · have p1 : (((rest.length + 1 : Nat) : Int) > 0) = True := eq_true (by omega)
      refine wp_shut [] (so := { cut := [15, 37], tail := [(6, 10)] }) mixed _ (by kernel_rfl) ?_
      simp (implicitDefEqProofs := false) (dsimp := false) only [go_sem, hcs, List.flatMap_nil, List.flatMap_cons, cTraces, cTrace, p1, nat_lt (Nat.succ_pos rest.length)]
      rw [cut6]
      refine WPI.dupS (b := made) (m := h3.length + 6) (by simp) ?_
      simp only [List.append_assoc, List.cons_append, List.nil_append]
      refine WPI.of_below fun hb _ => ?_
      refine wp_shut [] (so := { cut := [15, 37], tail := [(6, 10)] }) mixed _ (by kernel_rfl) ?_
      simp (implicitDefEqProofs := false) (dsimp := false) only [go_sem, hT]
      refine sets_end (b := b) (made := made) (other := made) (Kk := .cells 0 (brdA b) :: .cells 0 (brdA made) :: u0 :: u1 :: u2 :: u3 :: .dead :: .dead :: (List.replicate made.cells.length .dead ++ [.cells 0 (brdA made)])) hB hl hs3 okN okm.short ?_ ?_ ?_
      · simp
      · simp [setsL, brdA, hcs, sliceOf, cTraces, cTrace]
      · simp only at hb
        rw [List.all_append, Bool.and_eq_true] at hb
        have hb2 := allBelow_mono (m := h3.length + (made.cells.length + 9) + 1) (by simp) hb.2
        simpa [brdA, hcs, sliceOf, cTraces, cTrace, Nat.add_assoc] using hb2
    · have p1 : (((rest.length + 1 : Nat) : Int) > 0) = True := eq_true (by omega)
      have p2 : (((ts.length + 1 : Nat) : Int) > 0) = True := eq_true (by omega)
      obtain ⟨mt, mts, mrest, hmc⟩ : ∃ mt mts mrest, made.cells = (mt :: mts) :: mrest := by
        have hml := okm.cells.wpos
        cases hq : made.cells with
        | nil => have := okm.cells.pos; rw [hq] at this; simp at this
        | cons a l =>
          rw [hq] at hml
          cases a with
          | nil => simp at hml
          | cons x y => exact ⟨x, y, l, rfl⟩
      obtain ⟨ob, hob⟩ : ∃ ob : Board, ob = { made with cells := (t :: mts) :: mrest } := ⟨_, rfl⟩
      have hos : shortB ob := by rw [hob]; exact short_setC okm.short hmc rfl
      refine wp_shut [] (so := { cut := [15, 37], tail := [(6, 10)] }) mixed _ (by kernel_rfl) ?_
      simp (implicitDefEqProofs := false) (dsimp := false) only [go_sem, hcs, hmc, List.flatMap_nil, List.flatMap_cons, cTraces, cTrace, p1, p2, nat_lt (Nat.succ_pos rest.length), nat_lt (Nat.succ_pos ts.length), nat_lt (Nat.succ_pos mrest.length), nat_lt (Nat.succ_pos mts.length), slsFrom, get_mapB, List.map_cons, rowB]
      refine ⟨by omega, by omega, ?_⟩
      have hT : ∀ (y : Blk), (List.replicate mrest.length Blk.dead ++ [y])[mrest.length]? = some y := fun y => by rw [List.getElem?_append_right (by simp), List.length_replicate, Nat.sub_self]; rfl
      rw [cut6]
      simp only [Nat.add_assoc, Nat.reduceAdd]
      refine WPI.dupS (b := { made with cells := (t :: mts) :: mrest }) (gp := made.pages.length) (m := h3.length + 6) (by simp) ?_
      simp only [List.length_cons, List.replicate_succ, List.append_assoc, List.cons_append, List.nil_append, sliceOf, List.flatMap_cons, cTraces, cTrace]
      refine WPI.of_below fun hb _ => ?_
      refine wp_shut [] (so := { cut := [15, 37], tail := [(6, 10)] }) mixed _ (by kernel_rfl) ?_
      simp (implicitDefEqProofs := false) (dsimp := false) only [go_sem, hT]
      refine sets_end (b := b) (made := made) (other := ob) (Kk := .cells 0 (brdA b) :: .cells 0 (brdA made) :: u0 :: u1 :: u2 :: u3 :: .dead :: .dead :: .dead :: (List.replicate mrest.length .dead ++ [.cells 0 (brdA ob)])) hB hl hs3 okN hos ?_ ?_ ?_
      · simp
      · simp [setsL, brdA, sliceOf, hob, hcs, hmc, cTraces, cTrace]
      · simp only at hb
        rw [List.all_append, Bool.and_eq_true] at hb
        have hb2 := allBelow_mono (m := h3.length + (mrest.length + 10) + 1) (by simp) hb.2
        simpa [brdA, sliceOf, hob, hcs, hmc, cTraces, cTrace, Nat.add_assoc] using hb2
end Go.Mac
namespace Go.Mac
open Go Go.Conc Go.Proofs
set_option maxRecDepth 4000
theorem waysTo_all (b : Board) (m : List (Int × Int)) : (allWays b m).map Prod.fst = waysTo b.pages.length := by
  unfold allWays waysTo
  rw [List.map_flatMap]
  congr 1
theorem right_lays (b : Board) : (laysB b).map Prod.fst = rightR b := by
  unfold laysB rightsB rightR
  rw [← waysTo_all b (mapB b.glyphs), List.filter_map]
  congr 1
  refine List.filter_congr fun x hx => ?_
  simp only [rightB, Function.comp]
  congr 2
  obtain ⟨p, n, hp, hn, rfl⟩ := mem_ways hx
  rfl
end Go.Mac
namespace Go.Mac
open Go Go.Conc Go.Proofs
set_option maxRecDepth 4000
end Go.Mac
namespace Go.Mac
open Go Go.Conc Go.Proofs
set_option maxRecDepth 4000
theorem eqInts_nil : PureA Tryz.prog 42 [.nilsl, .nilsl] (.bool true) := by
  refine PureA.of_wpp { cut := [13] } 29 mixed Tryz.func42 (by kernel_rfl) rfl (by kernel_rfl) (rfl) fun h j hB => ?_
  simp only [junk_succ, junk_zero, List.cons_append, List.nil_append, List.length_cons, List.length_nil, Nat.reduceAdd]
  simp (implicitDefEqProofs := false) (dsimp := false) only [go_sem]
  refine WP.loopI (fun (k : Nat) s => (k = 0) ∧ s.sl.length = 31 ∧ s.df = [] ∧ s.gh = {} ∧ (s.hp = h) ∧ evA s.sl (.tmp 0) = .nilsl ∧ evA s.sl (.tmp 1) = .nilsl ∧ evA s.sl (.tmp 5) = .bool true ∧ evA s.sl (.tmp 6) = .int .i64 0) (fun (k : Nat) => 0) (0) ?_ ?_
  · simp (implicitDefEqProofs := false) (dsimp := false) only [go_sem]
  · rintro k ⟨sl, df, hp, gh⟩ ⟨ab, al, rfl, rfl, rfl, a0, a1, a5, a6⟩
    simp only at ab al a0 a1 a5 a6
    obtain ⟨j, rfl⟩ := slots_lit al; clear al; simp only [junk_succ, junk_zero, evA_tmp, nth_16, nth_four, nth_one, nth_zero, Nat.zero_add, Nat.reduceAdd] at  a0 a1 a5 a6 ⊢
    refine wp_ok (so := { cut := [13] }) mixed _ (by kernel_rfl) ?_
    simp (implicitDefEqProofs := false) (dsimp := false) only [go_sem, a0, a1, a5, a6]
theorem brd_len (b : Board) : (brdA b).length = 3 := rfl
theorem hJ_get {J : List Blk} (y : Blk) : (J ++ [y])[J.length]? = some y := by simp
theorem hJ_set {J : List Blk} (y z : Blk) : (J ++ [y]).set J.length z = J ++ [z] := by simp
theorem sets_short {b made other : Board} (sb : shortB b) (okm : okMade made) (so : shortB other) : ∀ x ∈ setsL b made other, shortB x := by
  intro x hx
  rw [setsL] at hx
  simp only [List.mem_cons, List.mem_nil_iff, or_false] at hx
  rcases hx with rfl | rfl | rfl | rfl
  · exact sb
  · exact okm.short
  · exact so
  · exact okm.short
end Go.Mac
namespace Go.Mac
open Go Go.Conc Go.Proofs
set_option maxRecDepth 4000
theorem right_len (b : Board) : (rightR b).length = (laysB b).length := by rw [← right_lays, List.length_map]
end Go.Mac
namespace Go.Mac
open Go Go.Conc Go.Proofs
set_option maxRecDepth 4000
def ddTo (l : List Int) : Nat → List Int
  | 0 => []
  | t + 1 => if t = 0 ∨ l.getD t 0 ≠ l.getD (t - 1) 0 then ddTo l t ++ [l.getD t 0] else ddTo l t
theorem ddTo_len (l : List Int) : ∀ t, (ddTo l t).length ≤ t
  | 0 => Nat.le_refl _
  | t + 1 => by
    rw [ddTo]
    have := ddTo_len l t
    split <;> simp <;> omega
theorem ddTo_same {l : List Int} : ∀ t, t ≤ l.length → (∀ k, 0 < k → k < t → l.getD k 0 ≠ l.getD (k - 1) 0) → ddTo l t = l.take t
  | 0, _, _ => by simp [ddTo]
  | t + 1, ht, h => by
    have ih := ddTo_same t (by omega) fun k h1 h2 => h k h1 (by omega)
    rw [ddTo, if_pos, ih, List.take_succ_eq_append_getElem (by omega)]
    · rw [List.getD_eq_getElem?_getD, List.getElem?_eq_getElem (by omega)]; rfl
    · by_cases e : t = 0
      · exact .inl e
      · exact .inr (h t (by omega) (by omega))
theorem cInt_len1 (l : List Int) : (l.flatMap cInt).length = l.length := rows_length (fun _ => rfl) l
theorem setMany_tail {α : Type} : ∀ (V B A : List α), V.length = B.length → setMany (A ++ B) A.length V = A ++ V
  | [], B, A, h => by
    have : B = [] := List.length_eq_zero_iff.1 h.symm
    subst this; simp [setMany]
  | v :: V, [], A, h => by simp at h
  | v :: V, b :: B, A, h => by
    have e : (A ++ b :: B).set A.length v = (A ++ [v]) ++ B := by rw [List.set_append_right _ _ (Nat.le_refl _), Nat.sub_self]; simp
    have := setMany_tail V B (A ++ [v]) (by simpa using h)
    rw [setMany, e, show A.length + 1 = (A ++ [v]).length by simp, this]
    simp
theorem cInt_zero (n : Nat) : ((List.range n).map fun q => [AV.int .i64 0].getD (q % 1) .any) = (List.replicate n (0 : Int)).flatMap cInt := by
  induction n with
  | zero => rfl
  | succ n ih => rw [List.range_succ, List.map_append, ih, List.replicate_succ', List.flatMap_append]; simp [cInt, Nat.mod_one]
theorem cInt_set : ∀ (l : List Int) (m : Nat) (v : Int), (l.flatMap cInt).set m (.int .i64 v) = (l.set m v).flatMap cInt
  | [], _, _ => rfl
  | _ :: _, 0, _ => rfl
  | x :: l, m + 1, v => by
    have := cInt_set l m v
    simp only [List.flatMap_cons, cInt, List.cons_append, List.nil_append, List.set_cons_succ] at this ⊢
    rw [this]
theorem Compact_ok (l : List Int) (hl : l.length ≤ 1000) (h : List Blk) (i g : Nat) (hi : h[i]? = some (.cells g (l.flatMap cInt))) :
    CallsA Tryz.prog 130 [.sl ⟨i, g⟩ 1 0 l.length] h fun e h' => ∃ cs : List Int, e = .ret (.sl ⟨i, g⟩ 1 0 (ddTo l l.length).length) ∧ h' = h.set i (.cells g (cs.flatMap cInt)) ∧ cs.length = l.length ∧ cs.take (ddTo l l.length).length = ddTo l l.length := by
  have hlt : i < h.length := (List.getElem?_eq_some_iff.1 hi).1
  refine CallsA.of_wpe [] {} 60 mixed Tryz.func130 (by kernel_rfl) rfl (by kernel_rfl) fun j hB hA => ?_; simp only [junk_succ, junk_zero, List.cons_append, List.nil_append, List.length_cons, List.length_nil, Nat.reduceAdd]
  simp (implicitDefEqProofs := false) (dsimp := false) only [go_sem]
  have hbel : ∀ m, below h.length (.sl ⟨i, g⟩ 1 0 m) = true := fun m => by simp [below, hlt]
  have hne : ∀ q, (l.getD q 0 = l.getD q 0) := fun _ => rfl
  have hquiet : (∀ k, 0 < k → k < l.length → l.getD k 0 ≠ l.getD (k - 1) 0) → ∃ v n, AV.sl ⟨i, g⟩ 1 0 l.length = v ∧ h.length ≤ n ∧ below n v = true ∧ (List.take n h).all (belowBlk n) = true ∧ ∃ cs : List Int, AEnd.ret v = AEnd.ret (.sl ⟨i, g⟩ 1 0 (ddTo l l.length).length) ∧ List.take n h = h.set i (.cells g (cs.flatMap cInt)) ∧ cs.length = l.length ∧ cs.take (ddTo l l.length).length = ddTo l l.length := fun hq => by
    have e := ddTo_same l.length (Nat.le_refl _) hq
    rw [List.take_length] at e
    rw [e]
    exact ⟨_, h.length, rfl, Nat.le_refl _, hbel _, by rw [List.take_length]; exact hB, l, rfl, by rw [List.take_length, set_same hi], rfl, List.take_length⟩
  refine ⟨⟨_, hi⟩, fun h2 => hquiet fun k h1 h3 => by omega, fun h2 => ?_⟩
  have hgs : ∀ y : Blk, (h.set i y)[i]? = some y := fun y => List.getElem?_set_self hlt
  have hss : ∀ y z : Blk, (h.set i y).set i z = h.set i z := fun y z => List.set_set ..
  have hsi := set_same hi
  refine WP.loopI (fun (k : Nat) s => ((0 < k ∧ k ≤ l.length) ∧ ∀ q, 0 < q → q < k → l.getD q 0 ≠ l.getD (q - 1) 0) ∧ s.sl.length = 61 ∧ s.df = [] ∧ s.gh = {} ∧ (s.hp = h.set i (.cells g (l.flatMap cInt))) ∧ evA s.sl (.tmp 0) = .sl ⟨i, g⟩ 1 0 l.length ∧ evA s.sl (.tmp 3) = .int .i64 k) (fun (k : Nat) => l.length - k) (1) ?_ ?_
  · simp (implicitDefEqProofs := false) (dsimp := false) only [go_sem, hsi]
    exact ⟨by omega, fun q h3 h4 => by omega⟩
  · rintro k ⟨sl, df, hp, gh⟩ ⟨ab, al, rfl, rfl, rfl, a0, a3⟩
    simp only at ab al a0 a3
    obtain ⟨j, rfl⟩ := slots_lit al; clear al; simp only [junk_succ, junk_zero, evA_tmp, nth_16, nth_four, nth_one, nth_zero, Nat.zero_add, Nat.reduceAdd] at  a0 a3 ⊢
    refine wp_ok (so := {}) mixed _ (by kernel_rfl) ?_
    obtain ⟨⟨k0, kl⟩, kn⟩ := ab
    by_cases hk : k < l.length
    · have hw : IntKind.i64.wrap ((k : Int) - 1) = ((k - 1 : Nat) : Int) := by rw [wrap64 (by omega) (by omega)]; omega
      have hk1 : k - 1 < l.length := by omega
      have gk : l.getD k 0 = l[k] := by rw [List.getD_eq_getElem?_getD, List.getElem?_eq_getElem hk]; rfl
      have gk1 : l.getD (k - 1) 0 = l[k - 1] := by rw [List.getD_eq_getElem?_getD, List.getElem?_eq_getElem hk1]; rfl
      simp (implicitDefEqProofs := false) (dsimp := false) only [go_sem, a0, a3, hgs, nat_lt hk, decide_true, hw, nat_lt hk1, row1 cInt_len hk, row1 cInt_len hk1, row1_le cInt_len hk, row1_le cInt_len hk1, cInt, cInt_len1]
      refine ⟨fun e => ⟨⟨by omega, by omega, .inl trivial⟩, ?_⟩, fun e => ⟨k + 1, ⟨⟨⟨by omega, by omega⟩, fun q h3 h4 => ?_⟩, wrap_succ (by omega)⟩, by omega⟩⟩
      · have dk : ddTo l k = l.take k := ddTo_same k (by omega) kn
        have dk1 : ddTo l (k + 1) = ddTo l k := by rw [ddTo, if_neg]; rw [gk, gk1]; omega
        have hdl : (ddTo l (k + 1)).length = k := by rw [dk1, dk, List.length_take]; omega
        refine WP.loopI (fun (u : Nat) s => ((0 < u ∧ k + u ≤ l.length) ∧ (ddTo l (k + u)).length < k + u) ∧ s.sl.length = 61 ∧ s.df = [] ∧ s.gh = {} ∧ (∃ cs : List Int, cs.length = l.length ∧ cs.take (ddTo l (k + u)).length = ddTo l (k + u) ∧ (∀ q, k + u ≤ q + 1 → cs.getD q 0 = l.getD q 0) ∧ s.hp = h.set i (.cells g (cs.flatMap cInt))) ∧ evA s.sl (.tmp 0) = .sl ⟨i, g⟩ 1 0 l.length ∧ evA s.sl (.tmp 3) = .int .i64 (ddTo l (k + u)).length ∧ evA s.sl (.tmp 4) = .sl ⟨i, g⟩ 1 k (l.length - k) ∧ evA s.sl (.tmp 5) = .int .i64 u) (fun (u : Nat) => l.length - (k + u)) (1) ?_ ?_
        · simp (implicitDefEqProofs := false) (dsimp := false) only [go_sem, hdl]
          exact ⟨⟨by omega, by omega⟩, l, rfl, by rw [dk1, dk], fun _ _ => rfl, rfl⟩
        · rintro u ⟨sl, df, hp, gh⟩ ⟨cb, cl, rfl, rfl, ch, c0, c3, c4, c5⟩
          simp only at cb cl ch c0 c3 c4 c5
          obtain ⟨j, rfl⟩ := slots_lit cl; clear cl; simp only [junk_succ, junk_zero, evA_tmp, nth_16, nth_four, nth_one, nth_zero, Nat.zero_add, Nat.reduceAdd] at  c0 c3 c4 c5 ⊢
          refine wp_ok (so := {}) mixed _ (by kernel_rfl) ?_
          obtain ⟨⟨u0, ul⟩, ud⟩ := cb
          obtain ⟨cs, q1, q2, q3, rfl⟩ := ch
          by_cases hu : k + u < l.length
          · have hs : ((u : Int) < ((l.length - k : Nat) : Int)) = True := eq_true (by omega)
            have hw2 : IntKind.i64.wrap ((u : Int) - 1) = ((u - 1 : Nat) : Int) := by rw [wrap64 (by omega) (by omega)]; omega
            have hs2 : (((u - 1 : Nat) : Int) < ((l.length - k : Nat) : Int)) = True := eq_true (by omega)
            have c1 : k + u < cs.length := by omega
            have c2 : k + (u - 1) < cs.length := by omega
            have hd : (ddTo l (k + u)).length < l.length := by omega
            simp (implicitDefEqProofs := false) (dsimp := false) only [go_sem, c0, c3, c4, c5, hgs, hss, hs, hs2, decide_true, hw2, row1 cInt_len c1, row1 cInt_len c2, cInt, nat_lt hd, cInt_len1, q1]
            have e1 : cs[k + u] = l.getD (k + u) 0 := by have := q3 (k + u) (by omega); rwa [List.getD_eq_getElem?_getD, List.getElem?_eq_getElem c1] at this
            have e2 : cs[k + (u - 1)] = l.getD (k + u - 1) 0 := by have := q3 (k + (u - 1)) (by omega); rw [show k + u - 1 = k + (u - 1) by omega]; rwa [List.getD_eq_getElem?_getD, List.getElem?_eq_getElem c2] at this
            have hnx : ddTo l (k + (u + 1)) = if l.getD (k + u) 0 ≠ l.getD (k + u - 1) 0 then ddTo l (k + u) ++ [l.getD (k + u) 0] else ddTo l (k + u) := by
              rw [← Nat.add_assoc, ddTo]
              by_cases e : l.getD (k + u) 0 ≠ l.getD (k + u - 1) 0
              · rw [if_pos (.inr e), if_pos e]
              · rw [if_neg (by omega), if_neg e]
            rw [e1, e2]
            refine ⟨fun e => ⟨by omega, u + 1, ⟨⟨⟨by omega, by omega⟩, ?_⟩, ⟨cs.set (ddTo l (k + u)).length (l.getD (k + u) 0), by simp [q1], ?_, fun q hq => ?_, ?_⟩, ?_, wrap_succ (by omega)⟩, by omega⟩, fun e => ⟨u + 1, ⟨⟨⟨by omega, by omega⟩, ?_⟩, ⟨cs, q1, ?_, fun q hq => q3 q (by omega), rfl⟩, ?_, wrap_succ (by omega)⟩, by omega⟩⟩
            · rw [hnx, if_pos (bne_iff_ne.1 e), List.length_append, List.length_singleton]; omega
            · rw [hnx, if_pos (bne_iff_ne.1 e), List.length_append, List.length_singleton, List.take_succ_eq_append_getElem (by rw [List.length_set]; omega), List.take_set_of_le (Nat.le_refl _), q2, List.getElem_set_self]
            · rw [List.getD_eq_getElem?_getD, List.getElem?_set_ne (by omega), ← List.getD_eq_getElem?_getD]; exact q3 q (by omega)
            · rw [cInt_set]
            · rw [hnx, if_pos (bne_iff_ne.1 e), List.length_append, List.length_singleton]; exact wrap_succ (by omega)
            all_goals
              have e := Classical.not_not.1 (fun q => absurd (bne_iff_ne.2 q) (by rw [e]; simp))
              rw [hnx, if_neg (by simpa using e)]
            · omega
            · exact q2
          · have hs : ((u : Int) < ((l.length - k : Nat) : Int)) = False := eq_false (by omega)
            have eu : k + u = l.length := by omega
            rw [eu] at ud q2 q3
            have hcl : (cs.flatMap cInt).length = l.length := by rw [cInt_len1, q1]
            have htl : (ddTo l l.length).length ≤ (cs.flatMap cInt).length := by omega
            have hset : setMany (cs.flatMap cInt) (ddTo l l.length).length ((List.range (l.length - (ddTo l l.length).length)).map fun q => [AV.int .i64 0].getD (q % 1) .any) = (ddTo l l.length ++ List.replicate (l.length - (ddTo l l.length).length) 0).flatMap cInt := by
              have h1 : cs.flatMap cInt = (ddTo l l.length).flatMap cInt ++ (cs.drop (ddTo l l.length).length).flatMap cInt := by
                rw [← List.flatMap_append]
                conv => lhs; rw [← List.take_append_drop (ddTo l l.length).length cs, q2]
              have h3 := setMany_tail ((List.replicate (l.length - (ddTo l l.length).length) (0 : Int)).flatMap cInt) ((cs.drop (ddTo l l.length).length).flatMap cInt) ((ddTo l l.length).flatMap cInt) (by rw [cInt_len1, cInt_len1, List.length_replicate, List.length_drop, q1])
              rw [cInt_len1] at h3
              rw [cInt_zero, h1, h3, List.flatMap_append]
            simp (implicitDefEqProofs := false) (dsimp := false) only [go_sem, c0, c3, c4, c5, hgs, hss, hs, decide_false, eu]
            rw [hset, Nat.sub_zero]
            have hlen : (List.take h.length (h.set i (.cells g ((ddTo l l.length ++ List.replicate (l.length - (ddTo l l.length).length) 0).flatMap cInt)))) = h.set i (.cells g ((ddTo l l.length ++ List.replicate (l.length - (ddTo l l.length).length) 0).flatMap cInt)) := List.take_of_length_le (by simp)
            refine ⟨⟨by omega, by omega, .inl (by omega)⟩, by omega, ⟨by omega, .inr trivial⟩, _, h.length, rfl, Nat.le_refl _, hbel _, ?_, _, rfl, hlen, by simp; omega, List.take_left⟩
            rw [hlen]
            exact all_set hB (belowL_flat (f := cInt) (fun _ => rfl) _)
      · by_cases e3 : q = k
        · subst e3; rw [gk, gk1]; exact beq_eq_false_iff_ne.1 e
        · exact kn q h3 (by omega)
    · have hs : ((k : Int) < (l.length : Int)) = False := eq_false (by omega)
      have ek : k = l.length := by omega
      subst ek
      simp (implicitDefEqProofs := false) (dsimp := false) only [go_sem, a0, a3, hgs, hs, decide_false, hsi]
      exact ⟨⟨_, hi⟩, hquiet kn⟩
end Go.Mac
namespace Go.Mac
open Go Go.Conc Go.Proofs
def pagesL (b : Board) : List Int := (laysB b).map fun x => x.1.page
def pagesB (b : Board) : List Int := ddTo (pagesL b) (pagesL b).length
end Go.Mac
namespace Go.Mac
open Go Go.Conc Go.Proofs
def firstN (f : Nat → Bool) : Nat → Option Nat
  | 0 => none
  | n + 1 => match firstN f n with
    | some k => some k
    | none => if f n = true then some n else none
theorem firstN_none {f : Nat → Bool} : ∀ {n}, firstN f n = none → ∀ k, k < n → f k = false
  | 0, _, _, h => by omega
  | n + 1, h, k, hk => by
    rw [firstN] at h
    cases q : firstN f n with
    | some x => rw [q] at h; cases h
    | none =>
      rw [q] at h
      by_cases e : k = n
      · subst e
        cases hf : f k with
        | false => rfl
        | true => simp [hf] at h
      · exact firstN_none q k (by omega)
theorem firstN_some {f : Nat → Bool} {k : Nat} : ∀ {n}, firstN f n = some k → k < n ∧ f k = true ∧ ∀ i, i < k → f i = false
  | 0, h => by cases h
  | n + 1, h => by
    rw [firstN] at h
    cases q : firstN f n with
    | some x =>
      rw [q] at h
      cases h
      obtain ⟨h1, h2⟩ := firstN_some q
      exact ⟨by omega, h2⟩
    | none =>
      rw [q] at h
      by_cases hf : f n = true
      · simp only [hf, if_true, Option.some.injEq] at h
        subst h
        exact ⟨by omega, hf, fun i hi => firstN_none q i hi⟩
      · simp [hf] at h
theorem firstN_is {f : Nat → Bool} {k n : Nat} (hk : k < n) (h : f k = true) (hb : ∀ i, i < k → f i = false) : firstN f n = some k := by
  cases q : firstN f n with
  | none => have := firstN_none q k hk; rw [h] at this; cases this
  | some x =>
    obtain ⟨_, h2, h3⟩ := firstN_some q
    by_cases e : x < k
    · have := hb x e; rw [h2] at this; cases this
    · by_cases e2 : k < x
      · have := h3 k e2; rw [h] at this; cases this
      · rw [show x = k by omega]
theorem firstN_end {f : Nat → Bool} {n : Nat} (h : ∀ k, k < n → f k = false) : firstN f n = none := by
  cases q : firstN f n with
  | none => rfl
  | some x =>
    obtain ⟨h1, h2, _⟩ := firstN_some q
    have := h x h1; rw [h2] at this; cases this
def rowSeen (r : List Trace) : Bool := r.any fun t => t.seen != 0
def anySeen (cs : List (List Trace)) : Bool := cs.any rowSeen
def exC (b : Board) (k : Nat) : Bool := decide (k / b.pages.length ≤ k % b.pages.length) && decide (0 < doubleB b (mapB b.glyphs) (k / b.pages.length) (k % b.pages.length))
def exFind (b : Board) : Option Nat := firstN (exC b) (b.pages.length * b.pages.length)
theorem exC_at {b : Board} {p q : Nat} (hq : q < b.pages.length) : (p * b.pages.length + q) / b.pages.length = p ∧ (p * b.pages.length + q) % b.pages.length = q := by
  have hn : 0 < b.pages.length := by omega
  constructor
  · rw [Nat.mul_comm, Nat.mul_add_div hn, Nat.div_eq_of_lt hq]; omega
  · rw [Nat.mul_comm, Nat.mul_add_mod, Nat.mod_eq_of_lt hq]
theorem exC_pq {b : Board} {p q : Nat} (hq : q < b.pages.length) (h : p ≤ q) : exC b (p * b.pages.length + q) = decide (0 < doubleB b (mapB b.glyphs) p q) := by
  obtain ⟨e1, e2⟩ := exC_at (p := p) hq
  rw [exC, e1, e2, decide_eq_true h, Bool.true_and]
theorem exC_low {b : Board} {p q : Nat} (hq : q < b.pages.length) (h : q < p) : exC b (p * b.pages.length + q) = false := by
  obtain ⟨e1, e2⟩ := exC_at (p := p) hq
  rw [exC, e1, e2, decide_eq_false (by omega), Bool.false_and]
def noEx (b : Board) (p q : Nat) : Prop := ∀ k, k < p * b.pages.length + q → exC b k = false
theorem noEx_row {b : Board} {p : Nat} (hp : p < b.pages.length) (h : noEx b p 0) : noEx b p p := fun k hk => by
  by_cases e : k < p * b.pages.length
  · exact h k (by omega)
  · have := exC_low (b := b) (p := p) (q := k - p * b.pages.length) (by omega) (by omega)
    rwa [show p * b.pages.length + (k - p * b.pages.length) = k by omega] at this
theorem noEx_next {b : Board} {p q : Nat} (hq : q < b.pages.length) (hpq : p ≤ q) (h : noEx b p q) (hd : ¬ 0 < doubleB b (mapB b.glyphs) p q) : noEx b p (q + 1) := fun k hk => by
  by_cases e : k < p * b.pages.length + q
  · exact h k e
  · have := exC_pq (b := b) hq hpq
    rw [decide_eq_false hd] at this
    rwa [show k = p * b.pages.length + q by omega]
theorem noEx_down {b : Board} {p : Nat} (h : noEx b p b.pages.length) : noEx b (p + 1) 0 := fun k hk => h k (by rw [Nat.succ_mul] at hk; omega)
theorem noEx_hit {b : Board} {p q : Nat} (hp : p < b.pages.length) (hq : q < b.pages.length) (hpq : p ≤ q) (h : noEx b p q) (hd : 0 < doubleB b (mapB b.glyphs) p q) : exFind b = some (p * b.pages.length + q) := by
  refine firstN_is ?_ ?_ h
  · have : (p + 1) * b.pages.length ≤ b.pages.length * b.pages.length := Nat.mul_le_mul_right _ hp
    rw [Nat.succ_mul] at this; omega
  · rw [exC_pq hq hpq, decide_eq_true hd]
theorem noEx_all {b : Board} (h : noEx b b.pages.length 0) : exFind b = none := firstN_end fun k hk => h k (by omega)
theorem pages_head {b : Board} : (0 < (pagesB b).length ↔ 0 < (laysB b).length) ∧ (0 < (laysB b).length → (pagesB b).getD 0 0 = ((laysB b).map fun x => x.1.page).getD 0 0) := by
  have hlen : (pagesL b).length = (laysB b).length := by rw [pagesL, List.length_map]
  have hh : ∀ (l : List Int) k, 0 < k → ∃ m, ddTo l k = l.getD 0 0 :: m := fun l k => by
    induction k with
    | zero => intro h; omega
    | succ k ih =>
      intro _
      by_cases e : k = 0
      · subst e
        exact ⟨[], by rw [ddTo, if_pos (.inl rfl)]; rfl⟩
      · obtain ⟨m, hm⟩ := ih (by omega)
        rw [ddTo, hm]
        split
        · exact ⟨_, rfl⟩
        · exact ⟨m, rfl⟩
  refine ⟨?_, fun h => ?_⟩
  · constructor
    · intro h
      have := ddTo_len (pagesL b) (pagesL b).length
      rw [pagesB] at h; omega
    · intro h
      obtain ⟨m, hm⟩ := hh (pagesL b) (pagesL b).length (by omega)
      rw [pagesB, hm]; simp
  · obtain ⟨m, hm⟩ := hh (pagesL b) (pagesL b).length (by omega)
    rw [pagesB, hm]; rfl
end Go.Mac
namespace Go.Mac
open Go Go.Conc Go.Proofs
set_option maxRecDepth 4000
theorem cInt_take (l : List Int) (n : Nat) : (l.flatMap cInt).take n = (l.take n).flatMap cInt := by
  induction l generalizing n with
  | nil => simp
  | cons x l ih =>
    cases n with
    | zero => rfl
    | succ n => simp only [List.flatMap_cons, cInt, List.cons_append, List.nil_append, List.take_succ_cons]; rw [ih]
theorem pagesL_len (b : Board) : (pagesL b).length = (laysB b).length := by rw [pagesL, List.length_map]
theorem pagesL_succ {b : Board} {k : Nat} (hk : k < (laysB b).length) : (pagesL b).take (k + 1) = (pagesL b).take k ++ [(laysB b)[k].1.page] := by
  rw [List.take_succ_eq_append_getElem (by rw [pagesL_len]; exact hk)]
  congr 2
  exact List.getElem_map ..
theorem pages_ok (b : Board) (ok : okBoard b) : PureA Tryz.prog 99 [.agg (bdA b (mapB b.glyphs))] (sliceOf cInt (pagesB b)) := by
  refine PureA.of_wps [2] { shut := [22] } 26 mixed Tryz.func99 (by kernel_rfl) rfl (by kernel_rfl) (below_psl (fun _ => rfl) _) fun h j hB => ?_
  simp only [junk_succ, junk_zero, List.cons_append, List.nil_append, List.length_cons, List.length_nil, Nat.reduceAdd]
  have hn := laysB_le ok
  simp (implicitDefEqProofs := false) (dsimp := false) only [go_sem, bdA]
  (first | refine CallsA.use (rights_ok b _ ok) ?_ | refine QuietCalls.use (rights_ok b _ ok) ?_)
  simp (implicitDefEqProofs := false) (dsimp := false) only [go_sem]
  refine WPI.turn (Turns.nilSlot (d := 3) (sz := 1) ?_) ?_
  · simp (implicitDefEqProofs := false) (dsimp := false) only [go_sem]
  simp (implicitDefEqProofs := false) (dsimp := false) only [go_sem]
  refine WP.loopI (fun (k : Nat) s => (k ≤ (laysB b).length) ∧ s.sl.length = 27 ∧ s.df = [] ∧ s.gh = {} ∧ (∃ J, s.hp = h ++ .cells 0 (bdA b (mapB b.glyphs)) :: .cells k (((pagesL b).take k).flatMap cInt) :: J) ∧ evA s.sl (.tmp 3) = .sl ⟨h.length + 1, k⟩ 1 0 k ∧ evA s.sl (.tmp 13) = sliceOf cLayF (laysB b) ∧ evA s.sl (.tmp 14) = .int .i64 (laysB b).length ∧ evA s.sl (.tmp 15) = .int .i64 k) (fun (k : Nat) => (laysB b).length - k) (0) ?_ ?_
  · simp (implicitDefEqProofs := false) (dsimp := false) only [go_sem, Nat.zero_le, bdA]
    exact ⟨⟨_, rfl, rfl⟩, rfl, rfl⟩
  · rintro k ⟨sl, df, hp, gh⟩ ⟨ab, al, rfl, rfl, ah, a3, a13, a14, a15⟩
    simp only at ab al ah a3 a13 a14 a15
    obtain ⟨j, rfl⟩ := slots_lit al; clear al; simp only [junk_succ, junk_zero, evA_tmp, nth_16, nth_four, nth_one, nth_zero, Nat.zero_add, Nat.reduceAdd] at  a3 a13 a14 a15 ⊢
    refine wp_ok (so := { shut := [22] }) mixed _ (by kernel_rfl) ?_
    obtain ⟨J, rfl⟩ := ah
    by_cases hk : k < (laysB b).length
    · have hJ : ∀ y : Blk, (J ++ [y])[J.length]? = some y := fun y => by simp
      have hJs : ∀ y z : Blk, (J ++ [y]).set J.length z = J ++ [z] := fun y z => by simp
      have hll : (((pagesL b).take k).flatMap cInt).length = k := by rw [cInt_len1, List.length_take, pagesL_len]; omega
      simp (implicitDefEqProofs := false) (dsimp := false) only [go_sem, a3, a13, a14, a15, nat_lt hk, decide_true, rowN cLayF_len hk, rowN_le cLayF_len hk, cLayF, cLay, hJ, hJs, hll]
      refine ⟨by omega, k + 1, ⟨by omega, ⟨_, ⟨rfl, ?_⟩, rfl⟩, rfl, wrap_succ (by omega)⟩, by omega⟩
      rw [pagesL_succ hk]; simp [cInt]
    · have hs : ((k : Int) < ((laysB b).length : Int)) = False := eq_false (by omega)
      have ek : k = (laysB b).length := by omega
      subst ek
      have e0 : (pagesL b).take (laysB b).length = pagesL b := List.take_of_length_le (by rw [pagesL_len]; exact Nat.le_refl _)
      simp (implicitDefEqProofs := false) (dsimp := false) only [go_sem, a3, a13, a14, a15, hs, decide_false]
      rw [e0]
      have hC := Compact_ok (pagesL b) (by rw [pagesL_len]; omega) (h ++ .cells 0 (bdA b (mapB b.glyphs)) :: .cells (laysB b).length ((pagesL b).flatMap cInt) :: J) (h.length + 1) (laysB b).length (by simp)
      have hpb : ddTo (pagesL b) (laysB b).length = pagesB b := by rw [pagesB, pagesL_len]
      rw [pagesL_len, hpb] at hC
      refine CallsA.mono hC ?_
      rintro _ _ ⟨cs, rfl, rfl, q1, q2⟩
      simp (implicitDefEqProofs := false) (dsimp := false) only [go_sem]
      rw [cInt_take, q2]
end Go.Mac
namespace Go.Mac
open Go Go.Conc Go.Proofs
set_option maxRecDepth 4000
theorem indexTrace_ok (l : List Trace) (hl : l.length < 9223372036854775807) (g : FuncId) (hc : callable Tryz.prog g = True) (cap : List AV) (p : Trace → Bool) (h : List Blk) (hF : ∀ x ∈ l, QuietAt g (.agg (cTrace x) :: cap) h (.bool (p x))) :
    QuietAt 129 [sliceOf cTrace l, .fn (.func g) [] cap] h (.int .i64 (idxFrom p l 0)) := by
  unfold QuietAt
  refine CallsA.of_wpe [] {} 17 mixed Tryz.func129 (by kernel_rfl) rfl (by kernel_rfl) fun j hB hA => ?_; simp only [junk_succ, junk_zero, List.cons_append, List.nil_append, List.length_cons, List.length_nil, Nat.reduceAdd]
  simp (implicitDefEqProofs := false) (dsimp := false) only [go_sem]
  refine WP.loopI (fun (i : Nat) s => (i ≤ l.length ∧ idxFrom p (l.drop i) i = idxFrom p l 0) ∧ s.sl.length = 19 ∧ s.df = [] ∧ s.gh = {} ∧ (s.hp = h) ∧ evA s.sl (.tmp 0) = sliceOf cTrace l ∧ evA s.sl (.tmp 1) = .fn (.func g) [] cap ∧ evA s.sl (.tmp 7) = .int .i64 l.length ∧ evA s.sl (.tmp 8) = .int .i64 i) (fun (i : Nat) => l.length - i) (0) ?_ ?_
  · simp (implicitDefEqProofs := false) (dsimp := false) only [go_sem, Nat.zero_le]
  · rintro i ⟨sl, df, hp, gh⟩ ⟨ab, al, rfl, rfl, rfl, a0, a1, a7, a8⟩
    simp only at ab al a0 a1 a7 a8
    obtain ⟨j, rfl⟩ := slots_lit al; clear al; simp only [junk_succ, junk_zero, evA_tmp, nth_16, nth_four, nth_one, nth_zero, Nat.zero_add, Nat.reduceAdd] at  a0 a1 a7 a8 ⊢
    refine wp_ok (so := {}) mixed _ (by kernel_rfl) ?_
    obtain ⟨ab, aq⟩ := ab
    by_cases hi : i < l.length
    · rw [drop_get hi] at aq
      simp (implicitDefEqProofs := false) (dsimp := false) only [go_sem, a0, a1, a7, a8, nat_lt hi, decide_true, rowN cTrace_len hi, rowN_le cTrace_len hi, hi, cTrace, hc]
      refine QuietAt.use (hF _ (List.getElem_mem hi)) ?_
      cases hp : p l[i] with
      | true =>
        simp (implicitDefEqProofs := false) (dsimp := false) only [go_sem]
        rw [show (i : Int) = idxFrom p l 0 by rw [← aq]; simp [idxFrom, hp]]
        exact quiet_fine0 hB rfl
      | false =>
        simp (implicitDefEqProofs := false) (dsimp := false) only [go_sem]
        refine ⟨i + 1, ⟨⟨by omega, ?_⟩, wrap_succ (by omega)⟩, by omega⟩
        rw [← aq]; simp [idxFrom, hp]
    · have hs : ((i : Int) < (l.length : Int)) = False := eq_false (by omega)
      simp (implicitDefEqProofs := false) (dsimp := false) only [go_sem, a0, a1, a7, a8, hs, decide_false]
      rw [List.drop_eq_nil_of_le (by omega)] at aq
      rw [← aq]
      exact quiet_fine0 hB rfl
theorem containsTrace_ok (l : List Trace) (hl : l.length < 9223372036854775807) (g : FuncId) (hc : callable Tryz.prog g = True) (cap : List AV) (p : Trace → Bool) (h : List Blk) (hF : ∀ x ∈ l, QuietAt g (.agg (cTrace x) :: cap) h (.bool (p x))) :
    QuietAt 98 [sliceOf cTrace l, .fn (.func g) [] cap] h (.bool (l.any p)) := by
  unfold QuietAt
  refine CallsA.of_wpe [] {} 7 mixed Tryz.func98 (by kernel_rfl) rfl (by kernel_rfl) fun j hB hA => ?_; simp only [junk_succ, junk_zero, List.cons_append, List.nil_append, List.length_cons, List.length_nil, Nat.reduceAdd]
  simp (implicitDefEqProofs := false) (dsimp := false) only [go_sem]
  refine QuietAt.use (indexTrace_ok l hl g hc cap p h hF) ?_
  simp (implicitDefEqProofs := false) (dsimp := false) only [go_sem, idxFrom_any]
  exact quiet_fine0 hB rfl
theorem indexTraces_ok (l : List (List Trace)) (hl : l.length < 9223372036854775807) (g : FuncId) (hc : callable Tryz.prog g = True) (cap : List AV) (p : List Trace → Bool) (h : List Blk) (hF : ∀ x ∈ l, QuietAt g (sliceOf cTrace x :: cap) h (.bool (p x))) :
    QuietAt 128 [sliceOf cTraces l, .fn (.func g) [] cap] h (.int .i64 (idxFrom p l 0)) := by
  unfold QuietAt
  refine CallsA.of_wpe [] {} 17 mixed Tryz.func128 (by kernel_rfl) rfl (by kernel_rfl) fun j hB hA => ?_; simp only [junk_succ, junk_zero, List.cons_append, List.nil_append, List.length_cons, List.length_nil, Nat.reduceAdd]
  simp (implicitDefEqProofs := false) (dsimp := false) only [go_sem]
  refine WP.loopI (fun (i : Nat) s => (i ≤ l.length ∧ idxFrom p (l.drop i) i = idxFrom p l 0) ∧ s.sl.length = 19 ∧ s.df = [] ∧ s.gh = {} ∧ (s.hp = h) ∧ evA s.sl (.tmp 0) = sliceOf cTraces l ∧ evA s.sl (.tmp 1) = .fn (.func g) [] cap ∧ evA s.sl (.tmp 7) = .int .i64 l.length ∧ evA s.sl (.tmp 8) = .int .i64 i) (fun (i : Nat) => l.length - i) (0) ?_ ?_
  · simp (implicitDefEqProofs := false) (dsimp := false) only [go_sem, Nat.zero_le]
  · rintro i ⟨sl, df, hp, gh⟩ ⟨ab, al, rfl, rfl, rfl, a0, a1, a7, a8⟩
    simp only at ab al a0 a1 a7 a8
    obtain ⟨j, rfl⟩ := slots_lit al; clear al; simp only [junk_succ, junk_zero, evA_tmp, nth_16, nth_four, nth_one, nth_zero, Nat.zero_add, Nat.reduceAdd] at  a0 a1 a7 a8 ⊢
    refine wp_ok (so := {}) mixed _ (by kernel_rfl) ?_
    obtain ⟨ab, aq⟩ := ab
    by_cases hi : i < l.length
    · rw [drop_get hi] at aq
      simp (implicitDefEqProofs := false) (dsimp := false) only [go_sem, a0, a1, a7, a8, nat_lt hi, decide_true, row1 cTraces_len hi, row1_le cTraces_len hi, hi, cTraces, hc]
      refine QuietAt.use (hF _ (List.getElem_mem hi)) ?_
      cases hp : p l[i] with
      | true =>
        simp (implicitDefEqProofs := false) (dsimp := false) only [go_sem]
        rw [show (i : Int) = idxFrom p l 0 by rw [← aq]; simp [idxFrom, hp]]
        exact quiet_fine0 hB rfl
      | false =>
        simp (implicitDefEqProofs := false) (dsimp := false) only [go_sem]
        refine ⟨i + 1, ⟨⟨by omega, ?_⟩, wrap_succ (by omega)⟩, by omega⟩
        rw [← aq]; simp [idxFrom, hp]
    · have hs : ((i : Int) < (l.length : Int)) = False := eq_false (by omega)
      simp (implicitDefEqProofs := false) (dsimp := false) only [go_sem, a0, a1, a7, a8, hs, decide_false]
      rw [List.drop_eq_nil_of_le (by omega)] at aq
      rw [← aq]
      exact quiet_fine0 hB rfl
theorem containsTraces_ok (l : List (List Trace)) (hl : l.length < 9223372036854775807) (g : FuncId) (hc : callable Tryz.prog g = True) (cap : List AV) (p : List Trace → Bool) (h : List Blk) (hF : ∀ x ∈ l, QuietAt g (sliceOf cTrace x :: cap) h (.bool (p x))) :
    QuietAt 96 [sliceOf cTraces l, .fn (.func g) [] cap] h (.bool (l.any p)) := by
  unfold QuietAt
  refine CallsA.of_wpe [] {} 7 mixed Tryz.func96 (by kernel_rfl) rfl (by kernel_rfl) fun j hB hA => ?_; simp only [junk_succ, junk_zero, List.cons_append, List.nil_append, List.length_cons, List.length_nil, Nat.reduceAdd]
  simp (implicitDefEqProofs := false) (dsimp := false) only [go_sem]
  refine QuietAt.use (indexTraces_ok l hl g hc cap p h hF) ?_
  simp (implicitDefEqProofs := false) (dsimp := false) only [go_sem, idxFrom_any]
  exact quiet_fine0 hB rfl
theorem call_seen1 : callable Tryz.prog 95 = True := eq_true ⟨_, Tryz.func95, rfl, rfl⟩
theorem call_seen2 : callable Tryz.prog 97 = True := eq_true ⟨_, Tryz.func97, rfl, rfl⟩
theorem seen1_ok (x : Trace) : PureA Tryz.prog 95 [.agg (cTrace x)] (.bool (x.seen != 0)) := by
  refine PureA.of_wpp {} 5 mixed Tryz.func95 (by kernel_rfl) rfl (by kernel_rfl) (rfl) fun h j hB => ?_
  simp only [junk_succ, junk_zero, List.cons_append, List.nil_append, List.length_cons, List.length_nil, Nat.reduceAdd]
  simp (implicitDefEqProofs := false) (dsimp := false) only [go_sem, cTrace]
def fnSeen : AV := .fn (.func 95) [] []
theorem seen2_ok (l : List Trace) (hl : l.length < 9223372036854775807) (n : Nat) (h : List Blk) (hn : h[n]? = some (.cells 0 [fnSeen])) : QuietAt 97 [sliceOf cTrace l, .ptr ⟨n, 0⟩ 0] h (.bool (rowSeen l)) := by
  unfold QuietAt
  have hlt : n < h.length := (List.getElem?_eq_some_iff.1 hn).1
  refine CallsA.of_wpe [] {} 5 mixed Tryz.func97 (by kernel_rfl) rfl (by kernel_rfl) fun j hB hA => ?_; simp only [junk_succ, junk_zero, List.cons_append, List.nil_append, List.length_cons, List.length_nil, Nat.reduceAdd]
  simp (implicitDefEqProofs := false) (dsimp := false) only [go_sem, hn, fnSeen]
  refine QuietAt.use (containsTrace_ok l hl _ call_seen1 [] (fun x => x.seen != 0) h fun x _ => QuietAt.of (seen1_ok x) h) ?_
  simp (implicitDefEqProofs := false) (dsimp := false) only [go_sem]
  exact quiet_fine0 hB rfl
def explV (b : Board) : AV :=
  if anySeen b.cells = false then .tup [.nilsl, .int .i64 0]
  else if 0 < (pagesB b).length then .tup [sliceOf cInt [(pagesB b).getD 0 0], .int .i64 0]
  else match exFind b with
    | some k => .tup [sliceOf cInt [((k / b.pages.length : Nat) : Int), ((k % b.pages.length : Nat) : Int)], .int .i64 0]
    | none => .tup [.nilsl, .int .i64 11]
theorem Explain_okE (b : Board) (e00 : boardErr b = 0) (h : List Blk) (hro : h[0]? = some (.role true)) : QuietAt 40 [.agg (brdA b)] h (explV b) := by
  unfold QuietAt
  have ok := okBoard.of e00
  have hmost := ok.most
  refine CallsA.of_wpe [] { shut := [54] } 55 mixed Tryz.func40 (by kernel_rfl) rfl (by kernel_rfl) fun j hB hA => ?_; simp only [junk_succ, junk_zero, List.cons_append, List.nil_append, List.length_cons, List.length_nil, Nat.reduceAdd]
  simp (implicitDefEqProofs := false) (dsimp := false) only [go_sem, brdA]
  refine open_use (fun e0 => ?_) (fun e1 e2 x y z t f1 f2 f3 f4 => absurd e00 e1)
  simp (implicitDefEqProofs := false) (dsimp := false) only [go_sem, bdA]
  refine QuietAt.use (containsTraces_ok b.cells (by have := ok.cells.most; omega) _ call_seen2 _ rowSeen _ fun x hx => seen2_ok x (by have := ok.cells.wide x hx; have := ok.cells.wmost; omega) (h.length + 2) _ (by simp [fnSeen])) ?_
  cases hs : b.cells.any rowSeen with
  | false =>
    simp (implicitDefEqProofs := false) (dsimp := false) only [go_sem]
    rw [explV, if_pos (show anySeen b.cells = false from hs)]
    exact quiet_fine hB rfl
  | true =>
    simp (implicitDefEqProofs := false) (dsimp := false) only [go_sem, bdA]
    (first | refine CallsA.use (pages_ok b ok) ?_ | refine QuietCalls.use (pages_ok b ok) ?_)
    simp (implicitDefEqProofs := false) (dsimp := false) only [go_sem]
    have hns : ¬ anySeen b.cells = false := by unfold anySeen; rw [hs]; simp
    refine ⟨fun hp => ?_, fun hp => ?_⟩
    · have hpp : 0 < (pagesB b).length := by simpa using hp
      refine ⟨⟨by omega, by rw [cInt_len1]; exact Nat.le_refl _⟩, ?_⟩
      have e : ((pagesB b).flatMap cInt).take 1 = [(pagesB b).getD 0 0].flatMap cInt := by
        rw [cInt_take]
        cases hq : pagesB b with
        | nil => rw [hq] at hpp; simp at hpp
        | cons x l => rfl
      rw [e, explV, if_neg hns, if_pos hpp]
      exact quiet_fine hB rfl
    · have hpp : ¬ 0 < (pagesB b).length := by simpa using hp
      have hV : explV b = match exFind b with
          | some k => .tup [sliceOf cInt [((k / b.pages.length : Nat) : Int), ((k % b.pages.length : Nat) : Int)], .int .i64 0]
          | none => .tup [.nilsl, .int .i64 11] := by rw [explV, if_neg hns, if_neg hpp]
      rw [hV]
      refine WP.loopI (fun (p : Nat) s => (p ≤ b.pages.length ∧ noEx b p 0) ∧ s.sl.length = 56 ∧ s.df = [] ∧ s.gh = {} ∧ (s.hp = h ++ [.cells 0 (brdA b), .cells 0 (bdA b (mapB b.glyphs)), .cells 0 [fnSeen]]) ∧ evA s.sl (.tmp 4) = .ptr ⟨h.length + 1, 0⟩ 0 ∧ evA s.sl (.tmp 34) = .int .i64 b.pages.length ∧ evA s.sl (.tmp 35) = .int .i64 p) (fun (p : Nat) => b.pages.length - p) (0) ?_ ?_
      · simp (implicitDefEqProofs := false) (dsimp := false) only [go_sem, Nat.zero_le, brdA, bdA, fnSeen]
        exact fun k hk => by omega
      · rintro p ⟨sl, df, hp, gh⟩ ⟨ab, al, rfl, rfl, rfl, a4, a34, a35⟩
        simp only at ab al a4 a34 a35
        obtain ⟨j, rfl⟩ := slots_lit al; clear al; simp only [junk_succ, junk_zero, evA_tmp, nth_16, nth_four, nth_one, nth_zero, Nat.zero_add, Nat.reduceAdd] at  a4 a34 a35 ⊢
        refine wp_ok (so := { shut := [54] }) mixed _ (by kernel_rfl) ?_
        obtain ⟨ap, an⟩ := ab
        by_cases hpl : p < b.pages.length
        · simp (implicitDefEqProofs := false) (dsimp := false) only [go_sem, a4, a34, a35, brdA, bdA, nat_lt hpl, decide_true]
          refine WP.loopI (fun (q : Nat) s => ((p ≤ q ∧ q ≤ b.pages.length) ∧ noEx b p q) ∧ s.sl.length = 56 ∧ s.df = [] ∧ s.gh = {} ∧ (s.hp = h ++ [.cells 0 (brdA b), .cells 0 (bdA b (mapB b.glyphs)), .cells 0 [fnSeen]]) ∧ evA s.sl (.tmp 4) = .ptr ⟨h.length + 1, 0⟩ 0 ∧ evA s.sl (.tmp 8) = .int .i64 p ∧ evA s.sl (.tmp 9) = .int .i64 q ∧ evA s.sl (.tmp 34) = .int .i64 b.pages.length ∧ evA s.sl (.tmp 35) = .int .i64 p) (fun (q : Nat) => b.pages.length - q) (p) ?_ ?_
          · simp (implicitDefEqProofs := false) (dsimp := false) only [go_sem, brdA, bdA]
            exact ⟨⟨Nat.le_refl _, by omega⟩, noEx_row hpl an⟩
          · rintro q ⟨sl, df, hp, gh⟩ ⟨cb, cl, rfl, rfl, rfl, c4, c8, c9, c34, c35⟩
            simp only at cb cl c4 c8 c9 c34 c35
            obtain ⟨j, rfl⟩ := slots_lit cl; clear cl; simp only [junk_succ, junk_zero, evA_tmp, nth_16, nth_four, nth_one, nth_zero, Nat.zero_add, Nat.reduceAdd] at  c4 c8 c9 c34 c35 ⊢
            refine wp_ok (so := { shut := [54] }) mixed _ (by kernel_rfl) ?_
            obtain ⟨⟨c1, c2⟩, cn⟩ := cb
            by_cases hql : q < b.pages.length
            · simp (implicitDefEqProofs := false) (dsimp := false) only [go_sem, c4, c8, c9, c34, c35, brdA, bdA, nat_lt hql, decide_true]
              refine QuietAt.use (double_ok b _ ok p q hpl hql _ (role_left hro)) ?_
              simp (implicitDefEqProofs := false) (dsimp := false) only [go_sem, brdA, bdA]
              refine ⟨fun hd => ?_, fun hd => ⟨q + 1, ⟨⟨⟨by omega, by omega⟩, noEx_next hql c1 cn (by simpa using hd)⟩, wrap_succ (by omega)⟩, by omega⟩⟩
              obtain ⟨e1, e2⟩ := exC_at (b := b) (p := p) hql
              rw [noEx_hit hpl hql c1 cn (by simpa using hd)]
              simp only [e1, e2]
              exact quiet_fine hB rfl
            · have hs : ((q : Int) < (b.pages.length : Int)) = False := eq_false (by omega)
              have e : q = b.pages.length := by omega
              subst e
              simp (implicitDefEqProofs := false) (dsimp := false) only [go_sem, c4, c8, c9, c34, c35, brdA, bdA, hs, decide_false]
              exact ⟨p + 1, ⟨⟨by omega, noEx_down cn⟩, wrap_succ (by omega)⟩, by omega⟩
        · have hs : ((p : Int) < (b.pages.length : Int)) = False := eq_false (by omega)
          have e : p = b.pages.length := by omega
          subst e
          simp (implicitDefEqProofs := false) (dsimp := false) only [go_sem, a4, a34, a35, hs, decide_false]
          rw [noEx_all an]
          exact quiet_fine hB rfl
end Go.Mac
namespace Go.Mac
open Go Go.Conc Go.Proofs
set_option maxRecDepth 4000
theorem overB_get {p q : List Int} {k : Nat} (hk : k < 12) : (overB p q).getD k 0 = orK .i64 (p.getD k 0) (q.getD k 0) := by
  rw [overB, overTo_get hk, if_pos hk]
theorem faceL_at4 {b : Board} (okc : okCells b.cells) (l : Lay) {r c : Nat} (hr : r < b.cells.length) (hc : c < wideB b) : (faceL b l).getD (4 * r + c) 0 = seenL b l r c := face_get hr okc.most hc okc.wmost
def togL (b : Board) (l k : Lay) : Bool := togetherB b.cells (faceL b l) (faceL b k)
def fitBoth (b : Board) (l k : Lay) (i x : Nat) : Prop := ∀ r c, r < b.cells.length → c < wideB b → (r < i ∨ r = i ∧ c < x) → fitsB (orK .i64 (seenL b l r c) (seenL b k r c)) (traceAt b.cells r c) = true
theorem togL_true {b : Board} (okc : okCells b.cells) {l k : Lay} (h : fitBoth b l k b.cells.length 0) : togL b l k = true := by
  have h3 := okc.most
  have : misB (overB (faceL b l) (faceL b k)) b.cells = [] := misB_of fun r c hr hc h4 => by
    rw [overB_get (by omega), faceL_at4 okc l hr hc, faceL_at4 okc k hr hc]
    exact h r c hr hc (.inl hr)
  rw [togL, togetherB, this]; rfl
theorem togL_false {b : Board} (okc : okCells b.cells) {l k : Lay} {r c : Nat} (hr : r < b.cells.length) (hc : c < wideB b) (h : fitsB (orK .i64 (seenL b l r c) (seenL b k r c)) (traceAt b.cells r c) = false) : togL b l k = false := by
  have h3 := okc.most
  have h4 : wideB b ≤ 4 := okc.wmost
  cases hq : togL b l k with
  | false => rfl
  | true =>
    rw [togL, togetherB, beq_iff_eq] at hq
    have := misB_nil hq hr hc (by omega)
    rw [overB_get (by omega), faceL_at4 okc l hr hc, faceL_at4 okc k hr hc, h] at this
    cases this
theorem Rtogether_ok (b : Board) (okg : okGlyphs b.glyphs) (ok : okBoard b) (l k : Lay) (p q : Nat) (hl : wayOk b l p) (hk : wayOk b k q) : PureA Tryz.prog 127 [.agg (brdA b), .agg (cLay l), .agg (cLay k)] (.bool (togL b l k)) := by
  refine PureA.of_wpp {} 39 mixed Tryz.func127 (by kernel_rfl) rfl (by kernel_rfl) (rfl) fun h j hB => ?_
  simp only [junk_succ, junk_zero, List.cons_append, List.nil_append, List.length_cons, List.length_nil, Nat.reduceAdd]
  have okc := ok.cells
  have h3 := okc.most
  have h4 : wideB b ≤ 4 := okc.wmost
  have h4' : (b.cells.headD []).length ≤ 4 := okc.wmost
  have hp := hl.lt
  have hq := hk.lt
  have ld := hl.d
  have lr := hl.r
  have kd := hk.d
  have kr := hk.r
  simp (implicitDefEqProofs := false) (dsimp := false) only [go_sem, brdA, cLay]
  refine WP.loopI (fun (i : Nat) s => (i ≤ b.cells.length ∧ fitBoth b l k i 0) ∧ s.sl.length = 42 ∧ s.df = [] ∧ s.gh = {} ∧ (s.hp = h ++ [.cells 0 (brdA b), .cells 0 (cLay l), .cells 0 (cLay k)]) ∧ evA s.sl (.tmp 3) = .ptr ⟨h.length, 0⟩ 0 ∧ evA s.sl (.tmp 4) = .ptr ⟨h.length + 1, 0⟩ 0 ∧ evA s.sl (.tmp 5) = .ptr ⟨h.length + 2, 0⟩ 0 ∧ evA s.sl (.tmp 7) = .int .i64 i) (fun (i : Nat) => b.cells.length - i) (0) ?_ ?_
  · simp (implicitDefEqProofs := false) (dsimp := false) only [go_sem, brdA, cLay, Nat.zero_le]
    exact fun r c _ _ e => by omega
  · rintro i ⟨sl, df, hp, gh⟩ ⟨ab, al, rfl, rfl, rfl, a3, a4, a5, a7⟩
    simp only at ab al a3 a4 a5 a7
    obtain ⟨j, rfl⟩ := slots_lit al; clear al; simp only [junk_succ, junk_zero, evA_tmp, nth_16, nth_four, nth_one, nth_zero, Nat.zero_add, Nat.reduceAdd] at  a3 a4 a5 a7 ⊢
    refine wp_ok (so := {}) mixed _ (by kernel_rfl) ?_
    obtain ⟨ab, ae⟩ := ab
    by_cases hi : i < b.cells.length
    · have hw := okc.row hi
      simp (implicitDefEqProofs := false) (dsimp := false) only [go_sem, a3, a4, a5, a7, brdA, cLay, nat_lt hi, decide_true]
      refine WP.loopI (fun (x : Nat) s => (x ≤ (b.cells.headD []).length ∧ fitBoth b l k i x) ∧ s.sl.length = 42 ∧ s.df = [] ∧ s.gh = {} ∧ (s.hp = h ++ [.cells 0 (brdA b), .cells 0 (cLay l), .cells 0 (cLay k)]) ∧ evA s.sl (.tmp 3) = .ptr ⟨h.length, 0⟩ 0 ∧ evA s.sl (.tmp 4) = .ptr ⟨h.length + 1, 0⟩ 0 ∧ evA s.sl (.tmp 5) = .ptr ⟨h.length + 2, 0⟩ 0 ∧ evA s.sl (.tmp 7) = .int .i64 i ∧ evA s.sl (.tmp 8) = .int .i64 x) (fun (x : Nat) => (b.cells.headD []).length - x) (0) ?_ ?_
      · simp (implicitDefEqProofs := false) (dsimp := false) only [go_sem, brdA, cLay, Nat.zero_le]
        exact ae
      · rintro x ⟨sl, df, hp, gh⟩ ⟨cb, cl, rfl, rfl, rfl, c3, c4, c5, c7, c8⟩
        simp only at cb cl c3 c4 c5 c7 c8
        obtain ⟨j, rfl⟩ := slots_lit cl; clear cl; simp only [junk_succ, junk_zero, evA_tmp, nth_16, nth_four, nth_one, nth_zero, Nat.zero_add, Nat.reduceAdd] at  c3 c4 c5 c7 c8 ⊢
        refine wp_ok (so := {}) mixed _ (by kernel_rfl) ?_
        obtain ⟨cb, ce⟩ := cb
        by_cases hx : x < (b.cells.headD []).length
        · have hx' : x < wideB b := hx
          simp (implicitDefEqProofs := false) (dsimp := false) only [go_sem, c3, c4, c5, c7, c8, brdA, cLay, nat_lt hx, nat_lt hi, decide_true, row1 cTraces_len hi, row1_le cTraces_len hi, cTraces, hw]
          (first | refine CallsA.use (Rshown_ok b okg l i x p hl.page hp (ok.page _ (List.getElem_mem hp)) (by omega) (by omega) (by omega) (by omega)) ?_ | refine QuietCalls.use (Rshown_ok b okg l i x p hl.page hp (ok.page _ (List.getElem_mem hp)) (by omega) (by omega) (by omega) (by omega)) ?_)
          simp (implicitDefEqProofs := false) (dsimp := false) only [go_sem, brdA, cLay]
          (first | refine CallsA.use (Rshown_ok b okg k i x q hk.page hq (ok.page _ (List.getElem_mem hq)) (by omega) (by omega) (by omega) (by omega)) ?_ | refine QuietCalls.use (Rshown_ok b okg k i x q hk.page hq (ok.page _ (List.getElem_mem hq)) (by omega) (by omega) (by omega) (by omega)) ?_)
          simp (implicitDefEqProofs := false) (dsimp := false) only [go_sem, brdA, cLay]
          rw [hl.seen, hk.seen]
          (first | refine CallsA.use (Rfits_ok b okc i x _ hi hx) ?_ | refine QuietCalls.use (Rfits_ok b okc i x _ hi hx) ?_)
          cases hf : fitsB (orK .i64 (seenL b l i x) (seenL b k i x)) (traceAt b.cells i x) with
          | true =>
            simp (implicitDefEqProofs := false) (dsimp := false) only [go_sem]
            refine ⟨x + 1, ⟨⟨by omega, fun r c hr hc e => ?_⟩, ⟨rfl, rfl, rfl⟩, wrap_succ (by omega)⟩, by omega⟩
            by_cases e2 : r = i ∧ c = x
            · obtain ⟨rfl, rfl⟩ := e2; exact hf
            · exact ce r c hr hc (by omega)
          | false =>
            simp (implicitDefEqProofs := false) (dsimp := false) only [go_sem]
            rw [togL_false okc hi hx' hf]
        · have hs : ((x : Int) < ((b.cells.headD []).length : Int)) = False := eq_false (by omega)
          have hxw : wideB b ≤ x := Nat.le_of_not_lt hx
          simp (implicitDefEqProofs := false) (dsimp := false) only [go_sem, c3, c4, c5, c7, c8, brdA, cLay, nat_lt hi, decide_true, row1 cTraces_len hi, row1_le cTraces_len hi, cTraces, hw, hs, decide_false]
          exact ⟨i + 1, ⟨⟨by omega, fun r c hr hc e => ce r c hr hc (by omega)⟩, wrap_succ (by omega)⟩, by omega⟩
    · have hs : ((i : Int) < (b.cells.length : Int)) = False := eq_false (by omega)
      have : i = b.cells.length := by omega
      subst this
      simp (implicitDefEqProofs := false) (dsimp := false) only [go_sem, a3, a4, a5, a7, brdA, hs, decide_false]
      rw [togL_true okc ae]
def cntQ (b : Board) (p q i k : Nat) : Nat := (bitsFrom b.cells p q (faceL b (layN p i)) i 0 ((facesOf b (mapB b.glyphs) q).take k)).count true
theorem bits_snoc (cs : List (List Trace)) (p q : Int) (x : List Int) (i : Nat) : ∀ (k : Nat) (ys : List (List Int)) (y : List Int), bitsFrom cs p q x i k (ys ++ [y]) = bitsFrom cs p q x i k ys ++ if p ≠ q ∨ i < k + ys.length then [togetherB cs x y] else []
  | k, [], y => by simp [bitsFrom]
  | k, z :: ys, y => by
    rw [List.cons_append, bitsFrom, bitsFrom, bits_snoc cs p q x i (k + 1) ys y, List.append_assoc, List.length_cons, show k + 1 + ys.length = k + (ys.length + 1) by omega]
theorem facesN {b : Board} {p k : Nat} (hk : k < 18) : (facesOf b (mapB b.glyphs) p)[k]'(by rw [facesOf_len]; exact hk) = faceL b (layN p k) := by
  rw [facesOf_get hk]; rfl
theorem cntQ_succ {b : Board} {p q i k : Nat} (hk : k < 18) : cntQ b p q i (k + 1) = cntQ b p q i k + if (p ≠ q ∨ i < k) ∧ togL b (layN p i) (layN q k) = true then 1 else 0 := by
  have hl := facesOf_len b (mapB b.glyphs) q
  rw [cntQ, List.take_succ_eq_append_getElem (by omega), bits_snoc, List.count_append, facesN hk, List.length_take, hl, Nat.zero_add, Nat.min_eq_left (by omega), cntQ]
  congr 1
  by_cases h1 : p ≠ q ∨ i < k
  · have h1' : ((p : Int) ≠ (q : Int)) ∨ i < k := h1.imp (fun e => by omega) id
    rw [if_pos h1', togL]
    cases togetherB b.cells (faceL b (layN p i)) (faceL b (layN q k)) <;> simp [h1]
  · have h1' : ¬ (((p : Int) ≠ (q : Int)) ∨ i < k) := fun e => h1 (e.imp (fun e => by omega) id)
    rw [if_neg h1', if_neg (fun e => h1 e.1)]; rfl
def sumQ (b : Board) (p q i : Nat) : Nat := countT (bitsAll b.cells p q (facesOf b (mapB b.glyphs) p) (facesOf b (mapB b.glyphs) q) i)
theorem sumQ_succ {b : Board} {p q i : Nat} (hi : i < 18) : sumQ b p q (i + 1) = sumQ b p q i + cntQ b p q i 18 := by
  have hg : (facesOf b (mapB b.glyphs) p).getD i [] = faceL b (layN p i) := by
    rw [List.getD_eq_getElem?_getD, List.getElem?_eq_getElem (by rw [facesOf_len]; exact hi), Option.getD_some, facesN hi]
  rw [sumQ, bitsAll_succ, countT, List.map_append, List.sum_append, hg, sumQ, countT, cntQ, List.take_of_length_le (by rw [facesOf_len]; exact Nat.le_refl _)]
  simp
theorem cntQ_le {b : Board} {p q i k : Nat} : cntQ b p q i k ≤ 18 := by
  unfold cntQ
  have h1 := bitsFrom_len b.cells p q (faceL b (layN p i)) i 0 ((facesOf b (mapB b.glyphs) q).take k)
  have h2 := facesOf_len b (mapB b.glyphs) q
  have h3 : ((facesOf b (mapB b.glyphs) q).take k).length ≤ 18 := by rw [List.length_take]; omega
  exact Nat.le_trans List.count_le_length (by omega)
theorem sumQ_le {b : Board} {p q : Nat} : ∀ i, i ≤ 18 → sumQ b p q i ≤ 18 * i
  | 0, _ => by simp [sumQ, bitsAll, countT]
  | i + 1, h => by
    rw [sumQ_succ (by omega)]
    have := sumQ_le (b := b) (p := p) (q := q) i (by omega)
    have := cntQ_le (b := b) (p := p) (q := q) (i := i) (k := 18)
    omega
theorem Rdouble_ok (b : Board) (okg : okGlyphs b.glyphs) (ok : okBoard b) (p q : Nat) (hp : p < b.pages.length) (hq : q < b.pages.length) : PureA Tryz.prog 94 [.agg (brdA b), .int .i64 p, .int .i64 q] (.int .i64 (doubleB b (mapB b.glyphs) p q)) := by
  refine PureA.of_wpp { cut := [31, 36] } 48 mixed Tryz.func94 (by kernel_rfl) rfl (by kernel_rfl) (rfl) fun h j hB => ?_
  simp only [junk_succ, junk_zero, List.cons_append, List.nil_append, List.length_cons, List.length_nil, Nat.reduceAdd]
  simp (implicitDefEqProofs := false) (dsimp := false) only [go_sem, brdA]
  (first | refine CallsA.use (Rways_ok p) ?_ | refine QuietCalls.use (Rways_ok p) ?_)
  simp (implicitDefEqProofs := false) (dsimp := false) only [go_sem]
  (first | refine CallsA.use (Rways_ok q) ?_ | refine QuietCalls.use (Rways_ok q) ?_)
  simp (implicitDefEqProofs := false) (dsimp := false) only [go_sem]
  refine WP.loopI (fun (i : Nat) s => (i ≤ (wayTo p 18).length) ∧ s.sl.length = 51 ∧ s.df = [] ∧ s.gh = {} ∧ (s.hp = h ++ [.cells 0 (brdA b)]) ∧ evA s.sl (.tmp 1) = .int .i64 p ∧ evA s.sl (.tmp 2) = .int .i64 q ∧ evA s.sl (.tmp 3) = .ptr ⟨h.length, 0⟩ 0 ∧ evA s.sl (.tmp 7) = sliceOf cLay (wayTo p 18) ∧ evA s.sl (.tmp 8) = sliceOf cLay (wayTo q 18) ∧ evA s.sl (.tmp 9) = .int .i64 (sumQ b p q i) ∧ evA s.sl (.tmp 10) = .int .i64 i) (fun (i : Nat) => (wayTo p 18).length - i) (0) ?_ ?_
  · simp (implicitDefEqProofs := false) (dsimp := false) only [go_sem, brdA, Nat.zero_le]
    rfl
  · rintro i ⟨sl, df, hp, gh⟩ ⟨ab, al, rfl, rfl, rfl, a1, a2, a3, a7, a8, a9, a10⟩
    simp only at ab al a1 a2 a3 a7 a8 a9 a10
    obtain ⟨j, rfl⟩ := slots_lit al; clear al; simp only [junk_succ, junk_zero, evA_tmp, nth_16, nth_four, nth_one, nth_zero, Nat.zero_add, Nat.reduceAdd] at  a1 a2 a3 a7 a8 a9 a10 ⊢
    refine wp_ok (so := { cut := [31, 36] }) mixed _ (by kernel_rfl) ?_
    by_cases hi : i < (wayTo p 18).length
    · have hi18 : i < 18 := by rw [wayTo_length] at hi; exact hi
      simp (implicitDefEqProofs := false) (dsimp := false) only [go_sem, a1, a2, a3, a7, a8, a9, a10, brdA, nat_lt hi, decide_true]
      refine WP.loopI (fun (k : Nat) s => (k ≤ (wayTo q 18).length) ∧ s.sl.length = 51 ∧ s.df = [] ∧ s.gh = {} ∧ (s.hp = h ++ [.cells 0 (brdA b)]) ∧ evA s.sl (.tmp 1) = .int .i64 p ∧ evA s.sl (.tmp 2) = .int .i64 q ∧ evA s.sl (.tmp 3) = .ptr ⟨h.length, 0⟩ 0 ∧ evA s.sl (.tmp 7) = sliceOf cLay (wayTo p 18) ∧ evA s.sl (.tmp 8) = sliceOf cLay (wayTo q 18) ∧ evA s.sl (.tmp 9) = .int .i64 ((sumQ b p q i + cntQ b p q i k : Nat) : Int) ∧ evA s.sl (.tmp 10) = .int .i64 i ∧ evA s.sl (.tmp 11) = .int .i64 k) (fun (k : Nat) => (wayTo q 18).length - k) (0) ?_ ?_
      · simp (implicitDefEqProofs := false) (dsimp := false) only [go_sem, brdA, Nat.zero_le]
        have : cntQ b p q i 0 = 0 := by simp [cntQ, bitsFrom]
        rw [this]; rfl
      · rintro k ⟨sl, df, hp, gh⟩ ⟨cb, cl, rfl, rfl, rfl, c1, c2, c3, c7, c8, c9, c10, c11⟩
        simp only at cb cl c1 c2 c3 c7 c8 c9 c10 c11
        obtain ⟨j, rfl⟩ := slots_lit cl; clear cl; simp only [junk_succ, junk_zero, evA_tmp, nth_16, nth_four, nth_one, nth_zero, Nat.zero_add, Nat.reduceAdd] at  c1 c2 c3 c7 c8 c9 c10 c11 ⊢
        refine wp_ok (so := { cut := [31, 36] }) mixed _ (by kernel_rfl) ?_
        by_cases hk : k < (wayTo q 18).length
        · have hk18 : k < 18 := by rw [wayTo_length] at hk; exact hk
          have ex : (wayTo p 18)[i] = layN p i := by simp [wayTo]
          have ey : (wayTo q 18)[k] = layN q k := by simp [wayTo]
          have hs1 := sumQ_le (b := b) (p := p) (q := q) i (by omega)
          have hc1 := cntQ_le (b := b) (p := p) (q := q) (i := i) (k := k)
          have hsucc := cntQ_succ (b := b) (p := p) (q := q) (i := i) (k := k) hk18
          by_cases hpair : p ≠ q ∨ i < k
          · have hcall : PureA Tryz.prog 127 [.agg (brdA b), .agg (cLay (wayTo p 18)[i]), .agg (cLay (wayTo q 18)[k])] (.bool (togL b (layN p i) (layN q k))) := by
              rw [ex, ey]; exact Rtogether_ok b okg ok (layN p i) (layN q k) p q (.of hp) (.of hq)
            by_cases hpq : p = q
            case' pos =>
              have e1 : ((p : Int) != (q : Int)) = false := by rw [hpq]; exact bne_self_eq_false _
              have e2 : ((i : Int) < (k : Int)) = True := eq_true (by rcases hpair with h | h; exact absurd hpq h; omega)
              simp (implicitDefEqProofs := false) (dsimp := false) only [go_sem, c1, c2, c3, c7, c8, c9, c10, c11, brdA, nat_lt hi, nat_lt hk, decide_true, rowN cLay_len hi, rowN_le cLay_len hi, rowN cLay_len hk, rowN_le cLay_len hk, cLay, e1, e2]
            case' neg =>
              have e1 : ((p : Int) != (q : Int)) = true := by rw [bne_iff_ne]; omega
              simp (implicitDefEqProofs := false) (dsimp := false) only [go_sem, c1, c2, c3, c7, c8, c9, c10, c11, brdA, nat_lt hi, nat_lt hk, decide_true, rowN cLay_len hi, rowN_le cLay_len hi, rowN cLay_len hk, rowN_le cLay_len hk, cLay, e1]
            all_goals
              (first | refine CallsA.use (hcall) ?_ | refine QuietCalls.use (hcall) ?_)
              cases hT : togL b (layN p i) (layN q k) with
              | true =>
                simp (implicitDefEqProofs := false) (dsimp := false) only [go_sem]
                refine ⟨k + 1, ⟨by omega, rfl, ?_, wrap_succ (by omega)⟩, by omega⟩
                rw [hsucc, if_pos ⟨hpair, hT⟩, wrap64 (by omega) (by omega)]; omega
              | false =>
                simp (implicitDefEqProofs := false) (dsimp := false) only [go_sem]
                refine ⟨k + 1, ⟨by omega, rfl, ?_, wrap_succ (by omega)⟩, by omega⟩
                rw [hsucc, if_neg (fun e => by rw [hT] at e; exact absurd e.2 (by decide))]; rfl
          · have hpq : p = q := Classical.byContradiction fun e => hpair (.inl e)
            have e1 : ((p : Int) != (q : Int)) = false := by rw [hpq]; exact bne_self_eq_false _
            have e2 : ((i : Int) < (k : Int)) = False := eq_false (by intro e; exact hpair (.inr (by omega)))
            simp (implicitDefEqProofs := false) (dsimp := false) only [go_sem, c1, c2, c3, c7, c8, c9, c10, c11, brdA, nat_lt hi, nat_lt hk, decide_true, decide_false, e1, e2]
            refine ⟨k + 1, ⟨by omega, ?_, wrap_succ (by omega)⟩, by omega⟩
            rw [hsucc, if_neg (fun e => hpair e.1)]; rfl
        · have hs : ((k : Int) < ((wayTo q 18).length : Int)) = False := eq_false (by omega)
          have : k = (wayTo q 18).length := by omega
          subst this
          simp (implicitDefEqProofs := false) (dsimp := false) only [go_sem, c1, c2, c3, c7, c8, c9, c10, c11, brdA, hs, decide_false]
          refine ⟨i + 1, ⟨by omega, by rw [sumQ_succ hi18, wayTo_length], wrap_succ (by omega)⟩, by omega⟩
    · have hs : ((i : Int) < ((wayTo p 18).length : Int)) = False := eq_false (by omega)
      have : i = (wayTo p 18).length := by omega
      subst this
      simp (implicitDefEqProofs := false) (dsimp := false) only [go_sem, a1, a2, a3, a7, a8, a9, a10, brdA, hs, decide_false]
      rw [wayTo_length]; rfl
theorem lay0_err {b : Board} (e0 : boardErr b = 0) (p : Int) : layErr2 b ⟨p, false, 0, 0⟩ = if 0 ≤ p ∧ p < b.pages.length then 0 else 3 := by
  rw [layErr2, if_neg (by simp [e0]), layErr]
  by_cases h : 0 ≤ p ∧ p < b.pages.length
  · rw [if_neg (by simp only; omega), if_neg (by simp only; omega), if_pos h]
  · rw [if_pos (by simpa using h), if_neg h]
theorem inPages_iff (b : Board) (p : Int) : inPages b p = true ↔ 0 ≤ p ∧ p < b.pages.length := by
  unfold inPages; simp
theorem RDouble_ok (b : Board) (p q : Int) : PureA Tryz.prog 39 [.agg (brdA b), .int .i64 p, .int .i64 q] (pairA (DoubleR b p q)) := by
  refine PureA.of_wpp {} 25 mixed Tryz.func39 (by kernel_rfl) rfl (by kernel_rfl) (rfl) fun h j hB => ?_
  simp only [junk_succ, junk_zero, List.cons_append, List.nil_append, List.length_cons, List.length_nil, Nat.reduceAdd]
  simp (implicitDefEqProofs := false) (dsimp := false) only [go_sem, brdA]
  (first | refine CallsA.use (RcheckLay_ok b ⟨p, false, 0, 0⟩) ?_ | refine QuietCalls.use (RcheckLay_ok b ⟨p, false, 0, 0⟩) ?_)
  simp (implicitDefEqProofs := false) (dsimp := false) only [go_sem, brdA]
  by_cases e0 : boardErr b = 0
  · have ok := okBoard.of e0
    have okg := okGlyphs.of (boardErr_zero e0).1
    rw [lay0_err e0]
    by_cases hp : 0 ≤ p ∧ p < b.pages.length
    · rw [if_pos hp]
      simp (implicitDefEqProofs := false) (dsimp := false) only [go_sem]
      (first | refine CallsA.use (RcheckLay_ok b ⟨q, false, 0, 0⟩) ?_ | refine QuietCalls.use (RcheckLay_ok b ⟨q, false, 0, 0⟩) ?_)
      simp (implicitDefEqProofs := false) (dsimp := false) only [go_sem, brdA]
      rw [lay0_err e0]
      by_cases hq : 0 ≤ q ∧ q < b.pages.length
      · rw [if_pos hq]
        obtain ⟨p', rfl⟩ : ∃ p' : Nat, p = p' := ⟨p.toNat, by omega⟩
        obtain ⟨q', rfl⟩ : ∃ q' : Nat, q = q' := ⟨q.toNat, by omega⟩
        have hp' : p' < b.pages.length := by omega
        have hq' : q' < b.pages.length := by omega
        simp (implicitDefEqProofs := false) (dsimp := false) only [go_sem]
        (first | refine CallsA.use (Rdouble_ok b okg ok p' q' hp' hq') ?_ | refine QuietCalls.use (Rdouble_ok b okg ok p' q' hp' hq') ?_)
        simp (implicitDefEqProofs := false) (dsimp := false) only [go_sem]
        rw [DoubleR, if_neg (by simp [e0]), if_neg (by rw [(inPages_iff b p').2 hp, (inPages_iff b q').2 hq]; simp)]; rfl
      · rw [if_neg hq]
        simp (implicitDefEqProofs := false) (dsimp := false) only [go_sem]
        rw [DoubleR, if_neg (by simp [e0]), if_pos (.inr (by cases h : inPages b q; rfl; exact absurd ((inPages_iff b q).1 h) hq))]; rfl
    · rw [if_neg hp]
      simp (implicitDefEqProofs := false) (dsimp := false) only [go_sem]
      rw [DoubleR, if_neg (by simp [e0]), if_pos (.inl (by cases h : inPages b p; rfl; exact absurd ((inPages_iff b p).1 h) hp))]; rfl
  · have e1 : layErr2 b ⟨p, false, 0, 0⟩ = boardErr b := by rw [layErr2, if_pos e0]
    have e2 : (boardErr b != 0) = true := by simpa using e0
    rw [e1]
    simp (implicitDefEqProofs := false) (dsimp := false) only [go_sem, e2]
    rw [DoubleR, if_pos e0]; rfl
def seenT (b : Board) : Nat → Bool
  | 0 => false
  | j + 1 => seenT b j || (decide (j % 4 < wideB b) && (traceAt b.cells (j / 4) (j % 4)).seen != 0)
theorem seenT_iff {b : Board} : ∀ {n}, seenT b n = true ↔ ∃ j, j < n ∧ j % 4 < wideB b ∧ (traceAt b.cells (j / 4) (j % 4)).seen ≠ 0
  | 0 => by simp [seenT]
  | n + 1 => by
    rw [seenT, Bool.or_eq_true, seenT_iff, Bool.and_eq_true, decide_eq_true_eq, bne_iff_ne]
    constructor
    · rintro (⟨c, h1, h2⟩ | h)
      · exact ⟨c, by omega, h2⟩
      · exact ⟨n, by omega, h⟩
    · rintro ⟨c, h1, h2⟩
      by_cases e : c = n
      · subst e; exact .inr h2
      · exact .inl ⟨c, by omega, h2⟩
theorem seenT_skip {b : Board} {n : Nat} : ∀ {m : Nat}, (∀ k, n ≤ k → k < n + m → ¬ k % 4 < wideB b) → seenT b (n + m) = seenT b n
  | 0, _ => rfl
  | m + 1, h => by
    rw [← Nat.add_assoc, seenT, seenT_skip (m := m) fun k h1 h2 => h k h1 (by omega)]
    simp [h (n + m) (by omega) (by omega)]
theorem seenT_any {b : Board} (okc : okCells b.cells) : seenT b (4 * b.cells.length) = anySeen b.cells := by
  have h4 : wideB b ≤ 4 := okc.wmost
  rw [Bool.eq_iff_iff, seenT_iff, anySeen, List.any_eq_true]
  constructor
  · rintro ⟨j, h1, h2, h3⟩
    have hr : j / 4 < b.cells.length := by omega
    have hc := okc.at hr h2
    refine ⟨_, List.getElem_mem hr, ?_⟩
    rw [rowSeen, List.any_eq_true]
    refine ⟨_, List.getElem_mem hc, ?_⟩
    rw [traceAt_eq hr hc] at h3
    simpa using h3
  · rintro ⟨row, hrow, h⟩
    obtain ⟨r, hr, rfl⟩ := List.getElem_of_mem hrow
    rw [rowSeen, List.any_eq_true] at h
    obtain ⟨t, ht, h⟩ := h
    obtain ⟨c, hc, rfl⟩ := List.getElem_of_mem ht
    have hw : b.cells[r].length = wideB b := okc.row hr
    have e1 : (4 * r + c) / 4 = r := by omega
    have e2 : (4 * r + c) % 4 = c := by omega
    refine ⟨4 * r + c, by omega, by rw [e2]; omega, ?_⟩
    rw [e1, e2, traceAt_eq hr hc]
    simpa using h
def explL (b : Board) : AV :=
  if boardErr b ≠ 0 then .nilsl else if anySeen b.cells = false then .nilsl else if 0 < (pagesB b).length then sliceOf cInt [(pagesB b).getD 0 0]
  else match exFind b with
    | some k => sliceOf cInt [((k / b.pages.length : Nat) : Int), ((k % b.pages.length : Nat) : Int)]
    | none => .nilsl
def explE (b : Board) : Int :=
  if boardErr b ≠ 0 then boardErr b else if anySeen b.cells = false then 0 else if 0 < (pagesB b).length then 0
  else match exFind b with
    | some _ => 0
    | none => 11
theorem explV_eq {b : Board} (e0 : boardErr b = 0) : explV b = .tup [explL b, .int .i64 (explE b)] := by
  have h0 : ¬ boardErr b ≠ 0 := by simp [e0]
  unfold explV explL explE
  simp only [h0, if_false]
  split
  · rfl
  · split
    · rfl
    · cases exFind b <;> rfl
theorem explL_cases (b : Board) : explL b = .nilsl ∨ ∃ l : List Int, l.length ≤ 2 ∧ explL b = sliceOf cInt l := by
  unfold explL
  split
  · exact .inl rfl
  · split
    · exact .inl rfl
    · split
      · exact .inr ⟨_, by simp, rfl⟩
      · cases exFind b with
        | some k => exact .inr ⟨[_, _], by simp, rfl⟩
        | none => exact .inl rfl
theorem explL_below (b : Board) : below 0 (explL b) = true := by
  rcases explL_cases b with h | ⟨l, _, h⟩
  · rw [h]; rfl
  · rw [h]; exact below_psl (f := cInt) (fun _ => rfl) _
theorem eqExpl (b : Board) : PureA Tryz.prog 42 [explL b, explL b] (.bool true) := by
  rcases explL_cases b with h | ⟨l, hl, h⟩
  · rw [h]; exact eqInts_nil
  · rw [h]
    have := eqInts_ok l l (by omega)
    rwa [beq_self_eq_true] at this
theorem right_page0 {b : Board} (h : 0 < (rightR b).length) : (rightR b)[0].page = (pagesB b).getD 0 0 ∧ 0 < (pagesB b).length := by
  obtain ⟨h1, h2⟩ := pages_head (b := b)
  have h3 : 0 < (laysB b).length := by rw [← right_len]; exact h
  refine ⟨?_, h1.2 h3⟩
  rw [h2 h3]
  have : ((laysB b).map fun x => x.1.page) = (rightR b).map fun l => l.page := by rw [← right_lays, List.map_map]; rfl
  rw [this]
  simp [List.getD, h]
theorem RExplain_ok (b : Board) : PureA Tryz.prog 41 [.agg (brdA b)] (.tup [explL b, .int .i64 (explE b)]) := by
  refine PureA.of_wpp { shut := [57, 80], cut := [34] } 80 mixed Tryz.func41 (by kernel_rfl) rfl (by kernel_rfl) (by simp only [below, belowL, explL_below, Bool.and_self]) fun h j hB => ?_
  simp only [junk_succ, junk_zero, List.cons_append, List.nil_append, List.length_cons, List.length_nil, Nat.reduceAdd]
  simp (implicitDefEqProofs := false) (dsimp := false) only [go_sem, brdA]
  (first | refine CallsA.use (RCheck_ok b) ?_ | refine QuietCalls.use (RCheck_ok b) ?_)
  simp (implicitDefEqProofs := false) (dsimp := false) only [go_sem, brdA]
  refine ⟨fun c0 => ?_, fun c0 => ?_⟩
  · have e0 : boardErr b ≠ 0 := by simpa using c0
    rw [explL, explE, if_pos e0, if_pos e0]; exact ⟨rfl, rfl⟩
  have e0 : boardErr b = 0 := by simpa using c0
  have ok := okBoard.of e0
  have okg := okGlyphs.of (boardErr_zero e0).1
  have okc := ok.cells
  have hmp := ok.most
  have h3 := okc.most
  have h4 : wideB b ≤ 4 := okc.wmost
  have h4' : (b.cells.headD []).length ≤ 4 := okc.wmost
  refine WP.loopI (fun (i : Nat) s => (i ≤ b.cells.length) ∧ s.sl.length = 81 ∧ s.df = [] ∧ s.gh = {} ∧ (s.hp = h ++ [.cells 0 (brdA b)]) ∧ evA s.sl (.tmp 1) = .ptr ⟨h.length, 0⟩ 0 ∧ evA s.sl (.tmp 5) = .bool (seenT b (4 * i)) ∧ evA s.sl (.tmp 6) = .int .i64 i) (fun (i : Nat) => b.cells.length - i) (0) ?_ ?_
  · simp (implicitDefEqProofs := false) (dsimp := false) only [go_sem, brdA, Nat.zero_le, Nat.mul_zero, seenT]
  · rintro i ⟨sl, df, hp, gh⟩ ⟨ab, al, rfl, rfl, rfl, a1, a5, a6⟩
    simp only at ab al a1 a5 a6
    obtain ⟨j, rfl⟩ := slots_lit al; clear al; simp only [junk_succ, junk_zero, evA_tmp, nth_16, nth_four, nth_one, nth_zero, Nat.zero_add, Nat.reduceAdd] at  a1 a5 a6 ⊢
    refine wp_ok (so := { shut := [57, 80], cut := [34] }) mixed _ (by kernel_rfl) ?_
    by_cases hi : i < b.cells.length
    · have hw := okc.row hi
      simp (implicitDefEqProofs := false) (dsimp := false) only [go_sem, a1, a5, a6, brdA, nat_lt hi, decide_true]
      refine WP.loopI (fun (x : Nat) s => (x ≤ (b.cells.headD []).length) ∧ s.sl.length = 81 ∧ s.df = [] ∧ s.gh = {} ∧ (s.hp = h ++ [.cells 0 (brdA b)]) ∧ evA s.sl (.tmp 1) = .ptr ⟨h.length, 0⟩ 0 ∧ evA s.sl (.tmp 5) = .bool (seenT b (4 * i + x)) ∧ evA s.sl (.tmp 6) = .int .i64 i ∧ evA s.sl (.tmp 7) = .int .i64 x) (fun (x : Nat) => (b.cells.headD []).length - x) (0) ?_ ?_
      · simp (implicitDefEqProofs := false) (dsimp := false) only [go_sem, brdA, Nat.zero_le, Nat.add_zero]
      · rintro x ⟨sl, df, hp, gh⟩ ⟨cb, cl, rfl, rfl, rfl, c1, c5, c6, c7⟩
        simp only at cb cl c1 c5 c6 c7
        obtain ⟨j, rfl⟩ := slots_lit cl; clear cl; simp only [junk_succ, junk_zero, evA_tmp, nth_16, nth_four, nth_one, nth_zero, Nat.zero_add, Nat.reduceAdd] at  c1 c5 c6 c7 ⊢
        refine wp_ok (so := { shut := [57, 80], cut := [34] }) mixed _ (by kernel_rfl) ?_
        by_cases hx : x < (b.cells.headD []).length
        · have hx' : x < wideB b := hx
          have hxr : x < b.cells[i].length := by omega
          have e1 : (4 * i + x) / 4 = i := by omega
          have e2 : (4 * i + x) % 4 = x := by omega
          have en : seenT b (4 * i + (x + 1)) = (seenT b (4 * i + x) || b.cells[i][x].seen != 0) := by
            rw [← Nat.add_assoc, seenT, e1, e2, traceAt_eq hi hxr]; simp [hx']
          simp (implicitDefEqProofs := false) (dsimp := false) only [go_sem, c1, c5, c6, c7, brdA, nat_lt hx, nat_lt hi, decide_true, row1 cTraces_len hi, row1_le cTraces_len hi, cTraces, hw, rowN cTrace_len hxr, rowN_le cTrace_len hxr, cTrace, nat_lt hxr]
          refine ⟨fun t => ⟨x + 1, ⟨by omega, by rw [en, t]; rfl, wrap_succ (by omega)⟩, by omega⟩, fun t => ⟨x + 1, ⟨by omega, by rw [en, t]; rfl, wrap_succ (by omega)⟩, by omega⟩⟩
        · have hs : ((x : Int) < ((b.cells.headD []).length : Int)) = False := eq_false (by omega)
          have hxw : wideB b ≤ x := Nat.le_of_not_lt hx
          simp (implicitDefEqProofs := false) (dsimp := false) only [go_sem, c1, c5, c6, c7, brdA, nat_lt hi, decide_true, row1 cTraces_len hi, row1_le cTraces_len hi, cTraces, hw, hs, decide_false]
          refine ⟨i + 1, ?_⟩
          rw [show 4 * (i + 1) = 4 * i + x + (4 - x) by omega, seenT_skip (n := 4 * i + x) (m := 4 - x) (by intro k _ _; omega)]
          exact ⟨⟨by omega, rfl, wrap_succ (by omega)⟩, by omega⟩
    · have hs : ((i : Int) < (b.cells.length : Int)) = False := eq_false (by omega)
      have : i = b.cells.length := by omega
      subst this
      simp (implicitDefEqProofs := false) (dsimp := false) only [go_sem, a1, a5, a6, brdA, hs, decide_false, seenT_any okc]
      refine ⟨fun e => ?_, fun e => ?_⟩
      · have e1 : anySeen b.cells = false := by simpa using e
        simp [explL, explE, e0, e1]
      have e1 : anySeen b.cells = true := by simpa using e
      have hL1 : explL b = if 0 < (pagesB b).length then sliceOf cInt [(pagesB b).getD 0 0] else match exFind b with
          | some k => sliceOf cInt [((k / b.pages.length : Nat) : Int), ((k % b.pages.length : Nat) : Int)]
          | none => .nilsl := by rw [explL, if_neg (by simp [e0]), if_neg (by simp [e1])]
      have hE1 : explE b = if 0 < (pagesB b).length then 0 else match exFind b with
          | some _ => 0
          | none => 11 := by rw [explE, if_neg (by simp [e0]), if_neg (by simp [e1])]
      (first | refine CallsA.use (Rright_ok b okg ok) ?_ | refine QuietCalls.use (Rright_ok b okg ok) ?_)
      by_cases hr0 : 0 < (rightR b).length
      · obtain ⟨g1, g2⟩ := right_page0 hr0
        rw [hL1, hE1, if_pos g2, if_pos g2, ← g1]
        have hflat : (rightR b).flatMap cLay = .int .i64 (rightR b)[0].page :: .bool (rightR b)[0].turned :: .int .i64 (rightR b)[0].down :: .int .i64 (rightR b)[0].right :: ((rightR b).drop 1).flatMap cLay := by
          have := rowN cLay_len hr0
          rw [Nat.zero_mul, List.drop_zero] at this
          rw [this]; rfl
        have e2 : (((rightR b).length : Int) > 0) = True := eq_true (by omega)
        simp (implicitDefEqProofs := false) (dsimp := false) only [go_sem, hflat, e2, nat_lt hr0]
        rfl
      · have hg : ¬ 0 < (pagesB b).length := fun hh => hr0 (by rw [right_len]; exact (pages_head (b := b)).1.1 hh)
        have e2 : (((rightR b).length : Int) > 0) = False := eq_false (by omega)
        rw [hL1, hE1, if_neg hg, if_neg hg]
        simp (implicitDefEqProofs := false) (dsimp := false) only [go_sem, e2, decide_false]
        refine WP.loopI (fun (p : Nat) s => (p ≤ b.pages.length ∧ noEx b p 0) ∧ s.sl.length = 81 ∧ s.df = [] ∧ s.gh = {} ∧ (s.hp = h ++ [.cells 0 (brdA b)]) ∧ evA s.sl (.tmp 1) = .ptr ⟨h.length, 0⟩ 0 ∧ evA s.sl (.tmp 9) = .int .i64 p) (fun (p : Nat) => b.pages.length - p) (0) ?_ ?_
        · simp (implicitDefEqProofs := false) (dsimp := false) only [go_sem, brdA, Nat.zero_le]
          exact fun k hk => by omega
        · rintro p ⟨sl, df, hp, gh⟩ ⟨db, dl, rfl, rfl, rfl, d1, d9⟩
          simp only at db dl d1 d9
          obtain ⟨j, rfl⟩ := slots_lit dl; clear dl; simp only [junk_succ, junk_zero, evA_tmp, nth_16, nth_four, nth_one, nth_zero, Nat.zero_add, Nat.reduceAdd] at  d1 d9 ⊢
          refine wp_ok (so := { shut := [57, 80], cut := [34] }) mixed _ (by kernel_rfl) ?_
          obtain ⟨dp, dn⟩ := db
          by_cases hp : p < b.pages.length
          · simp (implicitDefEqProofs := false) (dsimp := false) only [go_sem, d1, d9, brdA, nat_lt hp, decide_true]
            refine WP.loopI (fun (q : Nat) s => (p ≤ q ∧ q ≤ b.pages.length ∧ noEx b p q) ∧ s.sl.length = 81 ∧ s.df = [] ∧ s.gh = {} ∧ (s.hp = h ++ [.cells 0 (brdA b)]) ∧ evA s.sl (.tmp 1) = .ptr ⟨h.length, 0⟩ 0 ∧ evA s.sl (.tmp 9) = .int .i64 p ∧ evA s.sl (.tmp 10) = .int .i64 q) (fun (q : Nat) => b.pages.length - q) (p) ?_ ?_
            · simp (implicitDefEqProofs := false) (dsimp := false) only [go_sem, brdA, Nat.le_refl]
              exact ⟨dp, noEx_row hp dn⟩
            · rintro q ⟨sl, df, hp, gh⟩ ⟨gb, gl, rfl, rfl, rfl, g1, g9, g10⟩
              simp only at gb gl g1 g9 g10
              obtain ⟨j, rfl⟩ := slots_lit gl; clear gl; simp only [junk_succ, junk_zero, evA_tmp, nth_16, nth_four, nth_one, nth_zero, Nat.zero_add, Nat.reduceAdd] at  g1 g9 g10 ⊢
              refine wp_ok (so := { shut := [57, 80], cut := [34] }) mixed _ (by kernel_rfl) ?_
              obtain ⟨gp, gq, gn⟩ := gb
              by_cases hq : q < b.pages.length
              · simp (implicitDefEqProofs := false) (dsimp := false) only [go_sem, g1, g9, g10, brdA, nat_lt hq, decide_true]
                (first | refine CallsA.use (Rdouble_ok b okg ok p q hp hq) ?_ | refine QuietCalls.use (Rdouble_ok b okg ok p q hp hq) ?_)
                simp (implicitDefEqProofs := false) (dsimp := false) only [go_sem]
                refine ⟨fun e => ?_, fun e => ⟨q + 1, ⟨⟨by omega, by omega, noEx_next hq gp gn (by omega)⟩, rfl, wrap_succ (by omega)⟩, by omega⟩⟩
                have hh := noEx_hit hp hq gp gn (by omega)
                obtain ⟨e5, e6⟩ := exC_at (p := p) hq
                rw [hh]
                simp only
                rw [e5, e6]
                exact ⟨rfl, trivial⟩
              · have hs : ((q : Int) < (b.pages.length : Int)) = False := eq_false (by omega)
                have : q = b.pages.length := by omega
                subst this
                simp (implicitDefEqProofs := false) (dsimp := false) only [go_sem, g1, g9, g10, brdA, hs, decide_false]
                exact ⟨p + 1, ⟨⟨by omega, noEx_down gn⟩, wrap_succ (by omega)⟩, by omega⟩
          · have hs : ((p : Int) < (b.pages.length : Int)) = False := eq_false (by omega)
            have : p = b.pages.length := by omega
            subst this
            simp (implicitDefEqProofs := false) (dsimp := false) only [go_sem, d1, d9, brdA, hs, decide_false]
            rw [noEx_all dn]
            exact ⟨rfl, rfl⟩
theorem Explain_bad (b : Board) (e0 : boardErr b ≠ 0) : PureA Tryz.prog 40 [.agg (brdA b)] (.tup [.nilsl, .int .i64 (boardErr b)]) := by
  refine PureA.of_wpp { shut := [54] } 55 mixed Tryz.func40 (by kernel_rfl) rfl (by kernel_rfl) (rfl) fun h j hB => ?_
  simp only [junk_succ, junk_zero, List.cons_append, List.nil_append, List.length_cons, List.length_nil, Nat.reduceAdd]
  simp (implicitDefEqProofs := false) (dsimp := false) only [go_sem, brdA]
  refine open_use (fun e1 => absurd e1 e0) (fun e1 e2 x y z t f1 f2 f3 f4 => ?_)
  simp only [leafA] at f1 f2 f3 f4
  simp (implicitDefEqProofs := false) (dsimp := false) only [go_sem, f1, f2, f3, f4, e2]
theorem Explain_any (b : Board) (h : List Blk) (hro : h[0]? = some (.role true)) : QuietAt 40 [.agg (brdA b)] h (.tup [explL b, .int .i64 (explE b)]) := by
  by_cases e0 : boardErr b = 0
  · rw [← explV_eq e0]; exact Explain_okE b e0 h hro
  · have := QuietAt.of (Explain_bad b e0) h
    rw [explL, explE, if_pos e0, if_pos e0]; exact this
end Go.Mac
namespace Go.Mac
open Go Go.Conc Go.Proofs
set_option maxRecDepth 4000
theorem n2D (n m : Nat) : n + 2 + m = n + (m + 2) := by omega
set_option maxHeartbeats 2000000 in
theorem Doubles_walk (b : Board) (p q : Int) (r : Option (List Int)) (h : List Blk) (hro : h[0]? = some (.role true)) :
    CallsA Tryz.prog 8 [.agg (brdA b), .int .i64 p, .int .i64 q, leftA r] h fun e h' => e = .ret (.bool true) ∧ h' = h := by
  refine CallsA.of_wpe [] { shut := [46, 55], cut := [112, 117, 122, 128], hand := [5, 15] } 134 mixed Tryz.func8 (by kernel_rfl) rfl (by kernel_rfl) fun j hB hA => ?_; simp only [junk_succ, junk_zero, List.cons_append, List.nil_append, List.length_cons, List.length_nil, Nat.reduceAdd]
  simp (implicitDefEqProofs := false) (dsimp := false) only [go_sem, brdA]
  (first | refine CallsA.use (long_ok b) ?_ | refine QuietCalls.use (long_ok b) ?_)
  cases hlb : longB b with
  | true =>
    simp (implicitDefEqProofs := false) (dsimp := false) only [go_sem]
    refine QuietAt.use (pressed_ok _ (role_left hro)) ?_
    simp (implicitDefEqProofs := false) (dsimp := false) only [go_sem]
    exact quiet_fine hB rfl
  | false =>
  have sb := shortB.of hlb
  simp (implicitDefEqProofs := false) (dsimp := false) only [go_sem]
  refine CallsA.mono (NewDice_ok r _) ?_
  rintro _ _ ⟨rfl, rfl⟩
  simp only [List.append_assoc, List.cons_append, List.nil_append, List.length_append, List.length_cons, List.length_nil, Nat.zero_add, Nat.reduceAdd]
  simp (implicitDefEqProofs := false) (dsimp := false) only [go_sem, brdA]
  refine CallsA.mono (sets_ok b sb _ (h.length + 1) r 1 (by rw [hget]; rfl)) ?_
  rintro _ _ ⟨J, made, other, r, x, okN, so, rfl, rfl⟩
  simp only [hset, List.set_cons_succ, List.set_cons_zero, List.append_assoc, List.cons_append, List.nil_append, List.length_append, List.length_cons, List.length_nil, Nat.zero_add, Nat.reduceAdd]
  simp (implicitDefEqProofs := false) (dsimp := false) only [go_sem]
  have okm := okN.made
  simp only [n2D]
  have hmk := okm.pos
  have hml := okm.most
  have hw1 : IntKind.i64.wrap ((made.pages.length : Int) - 1) = (made.pages.length : Int) - 1 := wrap64 (by omega) (by omega)
  refine wp_shut [10] (so := { shut := [46, 55], cut := [112, 117, 122, 128], }) mixed _ (by kernel_rfl) ?_
  simp (implicitDefEqProofs := false) (dsimp := false) only [go_sem, hJ_get, hJ_set, setsL, brdA, List.flatMap_cons, List.flatMap_nil, hw1]
  obtain ⟨J2, hJ2⟩ : ∃ J2, J2 = J ++ [Blk.dead] := ⟨_, rfl⟩
  rw [← hJ2]
  refine Rolls.use (To_ok _ (h.length + 1) r x ((made.pages.length : Int) - 1) (by omega) (by rw [hget]; rfl)) ?_
  rintro _ r x ⟨v1, rfl, hv1⟩
  simp only [hset, List.set_cons_succ, List.set_cons_zero]
  simp (implicitDefEqProofs := false) (dsimp := false) only [go_sem]
  refine Rolls.use (To_ok _ (h.length + 1) r x ((made.pages.length : Int) - 1) (by omega) (by rw [hget]; rfl)) ?_
  rintro _ r x ⟨v2, rfl, hv2⟩
  simp only [hset, List.set_cons_succ, List.set_cons_zero]
  simp (implicitDefEqProofs := false) (dsimp := false) only [go_sem]
  refine Rolls.use (To_ok _ (h.length + 1) r x ((made.pages.length : Int) - 1) (by omega) (by rw [hget]; rfl)) ?_
  rintro _ r x ⟨v3, rfl, hv3⟩
  simp only [hset, List.set_cons_succ, List.set_cons_zero]
  simp (implicitDefEqProofs := false) (dsimp := false) only [go_sem]
  refine Rolls.use (To_ok _ (h.length + 1) r x ((made.pages.length : Int) - 1) (by omega) (by rw [hget]; rfl)) ?_
  rintro _ r x ⟨v4, rfl, hv4⟩
  simp only [hset, List.set_cons_succ, List.set_cons_zero]
  simp (implicitDefEqProofs := false) (dsimp := false) only [go_sem]
  obtain ⟨L, hL⟩ : ∃ L, L = setsL b made other := ⟨_, rfl⟩
  obtain ⟨ps, hps⟩ : ∃ ps : List Int, ps = [p, (v1 : Int), v2, p] := ⟨_, rfl⟩
  obtain ⟨qs, hqs⟩ : ∃ qs : List Int, qs = [q, (v3 : Int), v4, q] := ⟨_, rfl⟩
  have hL4 : L.length = 4 := by rw [hL]; rfl
  have hp4 : ps.length = 4 := by rw [hps]; rfl
  have hq4 : qs.length = 4 := by rw [hqs]; rfl
  have hsh : ∀ x ∈ L, shortB x := by rw [hL]; exact sets_short sb okm so
  refine WP.loopI (fun (i : Nat) s => (i ≤ 4) ∧ s.sl.length = 138 ∧ s.df = [] ∧ s.gh = {} ∧ (∃ K, s.hp = h ++ K) ∧ evA s.sl (.tmp 10) = .psl (L.flatMap brdA) 4 ∧ evA s.sl (.tmp 12) = .psl (ps.flatMap cInt) 4 ∧ evA s.sl (.tmp 13) = .psl (qs.flatMap cInt) 4 ∧ evA s.sl (.tmp 14) = .int .i64 i) (fun (i : Nat) => 4 - i) (0) ?_ ?_
  · simp (implicitDefEqProofs := false) (dsimp := false) only [go_sem, Nat.zero_le]
    subst hL; subst hps; subst hqs
    exact ⟨rfl, rfl, rfl⟩
  · rintro i ⟨sl, df, hp, gh⟩ ⟨ab, al, rfl, rfl, ah, a10, a12, a13, a14⟩
    simp only at ab al ah a10 a12 a13 a14
    obtain ⟨j, rfl⟩ := slots_lit al; clear al; simp only [junk_succ, junk_zero, evA_tmp, nth_16, nth_four, nth_one, nth_zero, Nat.zero_add, Nat.reduceAdd] at  a10 a12 a13 a14 ⊢
    refine wp_ok (so := { shut := [46, 55], cut := [112, 117, 122, 128], hand := [5, 15] }) mixed _ (by kernel_rfl) ?_
    obtain ⟨K, rfl⟩ := ah
    by_cases hi : i < 4
    · have i1 : i < L.length := by omega
      have i2 : i < ps.length := by omega
      have i3 : i < qs.length := by omega
      have hs : ((i : Int) < 4) = True := eq_true (by omega)
      have sbi := hsh _ (List.getElem_mem i1)
      simp (implicitDefEqProofs := false) (dsimp := false) only [go_sem, a10, a12, a13, a14, hs, decide_true, rowN brd_len i1, rowN_le brd_len i1, brdA]
      (first | refine CallsA.use (DupPure_ok L[i] sbi.sizes) ?_ | refine QuietCalls.use (DupPure_ok L[i] sbi.sizes) ?_)
      simp (implicitDefEqProofs := false) (dsimp := false) only [go_sem, hJ_get, hJ_set, hget0, hset0, brdA, hs, rowN brd_len i1, rowN_le brd_len i1, row1 cInt_len i2, row1_le cInt_len i2, row1 cInt_len i3, row1_le cInt_len i3, cInt]
      refine ⟨_, Double_ok L[i] ps[i] qs[i] _ (role_left hro), ?_⟩
      simp (implicitDefEqProofs := false) (dsimp := false) only [go_sem, pairA, brdA, hs, decide_true, rowN brd_len i1, rowN_le brd_len i1, row1 cInt_len i2, row1_le cInt_len i2, row1 cInt_len i3, row1_le cInt_len i3, cInt]
      (first | refine CallsA.use (RDouble_ok L[i] ps[i] qs[i]) ?_ | refine QuietCalls.use (RDouble_ok L[i] ps[i] qs[i]) ?_)
      simp (implicitDefEqProofs := false) (dsimp := false) only [go_sem, pairA, brdA, hs, decide_true, rowN brd_len i1, rowN_le brd_len i1, row1 cInt_len i2, row1_le cInt_len i2, row1 cInt_len i3, row1_le cInt_len i3, cInt]
      refine QuietAt.use (Explain_any L[i] _ (role_left hro)) ?_
      simp (implicitDefEqProofs := false) (dsimp := false) only [go_sem, brdA, hs, decide_true, rowN brd_len i1, rowN_le brd_len i1, row1 cInt_len i2, row1_le cInt_len i2, row1 cInt_len i3, row1_le cInt_len i3, cInt]
      (first | refine CallsA.use (RExplain_ok L[i]) ?_ | refine QuietCalls.use (RExplain_ok L[i]) ?_)
      simp (implicitDefEqProofs := false) (dsimp := false) only [go_sem, brdA, hs, decide_true, rowN brd_len i1, rowN_le brd_len i1, row1 cInt_len i2, row1_le cInt_len i2, row1 cInt_len i3, row1_le cInt_len i3, cInt]
      refine wp_shut [] (so := { shut := [46, 55], cut := [112, 117, 122, 128], }) mixed _ (by kernel_rfl) ?_
      simp (implicitDefEqProofs := false) (dsimp := false) only [go_sem, brdA, hs, decide_true, rowN brd_len i1, rowN_le brd_len i1, row1 cInt_len i2, row1_le cInt_len i2, row1 cInt_len i3, row1_le cInt_len i3, cInt, bne_self_eq_false, Bool.not_true]
      (first | refine CallsA.use (eqExpl L[i]) ?_ | refine QuietCalls.use (eqExpl L[i]) ?_)
      simp (implicitDefEqProofs := false) (dsimp := false) only [go_sem, brdA, hs, decide_true, rowN brd_len i1, rowN_le brd_len i1, row1 cInt_len i2, row1_le cInt_len i2, row1 cInt_len i3, row1_le cInt_len i3, cInt, Bool.not_true]
      (first | refine CallsA.use (EqBoards_ok L[i] sbi) ?_ | refine QuietCalls.use (EqBoards_ok L[i] sbi) ?_)
      simp (implicitDefEqProofs := false) (dsimp := false) only [go_sem]
      exact ⟨i + 1, ⟨by omega, wrap_succ (by omega)⟩, by omega⟩
    · have hs : ((i : Int) < 4) = False := eq_false (by omega)
      simp (implicitDefEqProofs := false) (dsimp := false) only [go_sem, a10, a12, a13, a14, hs, decide_false]
      refine QuietAt.use (pressed_ok _ (role_left hro)) ?_
      simp (implicitDefEqProofs := false) (dsimp := false) only [go_sem]
      exact quiet_fine hB rfl
end Go.Mac


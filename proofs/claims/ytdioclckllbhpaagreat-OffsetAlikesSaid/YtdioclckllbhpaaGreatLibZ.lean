/- A part of the logic and of the contracts of the functions that the statement reaches; the statement itself is proved in the last text. -/
import Derived.Deep.Slices
import Derived.Test.YtdioclckllbhpaaGreatLibD
import Derived.Test.YtdioclckllbhpaaGreatLibF

set_option linter.all false
set_option linter.unusedVariables false
set_option linter.unusedSimpArgs false
set_option linter.unnecessarySimpa false
namespace Go.Proofs.YtdioclckllbhpaaGreat
open Go.ChangeShapes Go.WideShapes Go.ChangeAt Go.RowKit Go.Conc Go.Mac
section
variable {H : Type} {enc : TypeId × Value → H} {W : World}
def ReadsAs (W : World) {H : Type} (enc : TypeId × Value → H) (t : TypeId) {α : Type} (F : α → List AV) (Q : α → Prop) : Prop :=
  ∀ (fuel : Nat) (cs : List Value) (x : DataW H × List MemPlace), DataW.trod enc Tryz.prog W 0 (fun _ => true) true fuel t cs = some x → ∃ y : α, VRL (Cx.start W) (F y) cs ∧ Q y
theorem rows_read {α : Type} {F : α → List AV} {Q : α → Prop} {sz : Nat} {L : List Value} {c : Cx} : ∀ (n o : Nat), (∀ i, i < n → ∃ vals y, vals <+: L.drop (o + i * sz) ∧ vals.length = sz ∧ VRL c (F y) vals ∧ Q y) →
    ∃ (ys : List α) (vs : List Value), ys.length = n ∧ VRL c (ys.flatMap F) vs ∧ vs <+: L.drop o ∧ ∀ y ∈ ys, Q y
  | 0, o, _ => ⟨[], [], rfl, rfl, List.nil_prefix, by simp⟩
  | n + 1, o, h => by
    obtain ⟨vals, y, h1, h2, h3, h4⟩ := h 0 (by omega)
    obtain ⟨ys, vs, g1, g2, g3, g4⟩ := rows_read (sz := sz) (L := L) n (o + sz) (fun i hi => by
      have := h (i + 1) (by omega)
      rwa [show o + (i + 1) * sz = o + sz + i * sz by rw [Nat.add_mul]; omega] at this)
    refine ⟨y :: ys, vals ++ vs, by simp [g1], ?_, ?_, ?_⟩
    · rw [List.flatMap_cons]; exact VRL.append h3 g2
    · rw [Nat.zero_mul, Nat.add_zero] at h1
      obtain ⟨t, ht⟩ := h1
      obtain ⟨t', ht'⟩ := g3
      refine ⟨t', ?_⟩
      have e : t = L.drop (o + sz) := by
        rw [← List.drop_drop, ← ht, List.drop_left' h2]
      rw [List.append_assoc, ht', ← e, ht]
    · intro z hz
      rcases List.mem_cons.1 hz with rfl | hz
      · exact h4
      · exact g4 z hz
theorem cells_prefix {w : World} {b : Nat} {arr : Array Value} {el : TypeId} {fz : Nat × Nat} {off n : Nat} {cs : List Value} (hb : w.heap[b]? = some (.cells arr el fz)) (h : w.cells? 0 ⟨b, off, none⟩ n = some cs) : cs <+: arr.toList.drop off ∧ cs.length = n := by
  obtain ⟨_, hl, hc⟩ := World.cells?_some h
  refine ⟨?_, hl⟩
  rw [List.prefix_iff_eq_take]
  apply List.ext_getElem?
  intro i
  rw [List.getElem?_take]
  by_cases hi : i < n
  · rw [if_pos (by omega), List.getElem?_drop, ← hc i hi]
    have ea : (⟨b, off, none⟩ : Addr).add i = ⟨b, off + i, none⟩ := by unfold Addr.add; split <;> simp_all
    rw [ea]
    simp [World.cell?, hb]
  · rw [if_neg (by omega), List.getElem?_eq_none (by omega)]
theorem reads_slice {t e : TypeId} {α : Type} {F : α → List AV} {Q : α → Prop} {sz : Nat} (ht : Tryz.prog.underlying t = some (.slice e)) (hsz : Tryz.prog.cellsOf e = sz + 1) (h : ReadsAs W enc e F Q) :
    ReadsAs W enc t (fun l : List α => [sliceOf F l]) (fun l => ∀ y ∈ l, Q y) := by
  intro fuel cs x hx
  rcases Deep.open_slice ht hx with ⟨rfl, _⟩ | ⟨a, len, cap, m, n, D, Pl, rfl, _, hlc, _, hm, _, hel⟩
  · exact ⟨[], ⟨_, _, rfl, .inl ⟨rfl, rfl, none, rfl⟩, rfl⟩, by simp⟩
  · simp only [if_true] at hm
    subst hm
    rw [hsz] at hel
    by_cases h0 : m = 0
    · subst h0
      obtain rfl : len = 0 := by omega
      exact ⟨[], ⟨_, _, rfl, .inl ⟨rfl, rfl, some a, rfl⟩, rfl⟩, by simp⟩
    · obtain ⟨cs0, hc0, _⟩ := hel 0 (by omega)
      obtain ⟨_, hl0, hcell⟩ := World.cells?_some hc0
      have hz := hcell 0 (by omega)
      rw [Nat.zero_mul] at hz
      have ha0 : (a.add 0).add 0 = a := by simp [Addr.add]
      rw [ha0, List.getElem?_eq_getElem (by omega)] at hz
      obtain ⟨b, off, spot⟩ := a
      unfold World.cell? at hz
      split at hz
      · rename_i arr el fz hb
        split at hz
        · cases hz
        · rename_i hs
          have hs' : spot = none := by cases spot with | none => rfl | some s => simp at hs
          subst hs'
          obtain ⟨ys, vs, g1, g2, g3, g4⟩ := rows_read (F := F) (Q := Q) (sz := sz + 1) (L := arr.toList) (c := Cx.start W) len off (fun i hi => by
            obtain ⟨cs', h1, h2⟩ := hel i (by omega)
            have ea : (⟨b, off, none⟩ : Addr).add (i * (sz + 1)) = ⟨b, off + i * (sz + 1), none⟩ := by unfold Addr.add; split <;> simp_all
            rw [ea] at h1
            obtain ⟨p1, p2⟩ := cells_prefix hb h1
            obtain ⟨y, hy, hq⟩ := h _ _ _ h2
            exact ⟨cs', y, p1, p2, hy, hq⟩)
          subst g1
          exact ⟨ys, ⟨_, _, rfl, .inr ⟨b, off, arr, el, fz, vs, m, rfl, hlc, hb, g2, g3⟩, rfl⟩, g4⟩
      · cases hz
theorem reads_int {t : TypeId} (ht : Tryz.prog.underlying t = some (.int .i64)) : ReadsAs W enc t cInt isI64 := by
  intro fuel cs x hx
  cases fuel with
  | zero => simp [DataW.trod] at hx
  | succ n =>
    unfold DataW.trod at hx
    simp only [ht] at hx
    split at hx <;> try (simp at hx; done)
    all_goals rename_i h1; try cases h1
    split at hx
    · rename_i hc
      obtain ⟨rfl, hw⟩ := hc
      simp only [Lit.wf, Bool.and_eq_true] at hw
      exact ⟨_, ⟨_, _, rfl, rfl, rfl⟩, of_decide_eq_true hw.1, of_decide_eq_true hw.2⟩
    · cases hx
theorem reads_str {t : TypeId} (ht : Tryz.prog.underlying t = some .string) : ReadsAs W enc t cStr (fun _ => True) := by
  intro fuel cs x hx
  cases fuel with
  | zero => simp [DataW.trod] at hx
  | succ n =>
    unfold DataW.trod at hx
    simp only [ht] at hx
    split at hx <;> try (simp at hx; done)
    all_goals rename_i h1; try cases h1
    rename_i sv
    exact ⟨sv.data.toList, ⟨_, _, rfl, by simp [VR], rfl⟩, trivial⟩
theorem field_read {t : TypeId} {fs : Array Field} {fuel : Nat} {cs : List Value} {x : DataW H × List MemPlace} (ht : Tryz.prog.underlying t = some (.struct fs)) (hx : DataW.trod enc Tryz.prog W 0 (fun _ => true) true fuel t cs = some x) {i : Nat} {f : Field} (hf : fs[i]? = some f)
    {α : Type} {F : α → List AV} {Q : α → Prop} (h : ReadsAs W enc f.type F Q) : ∃ y : α, VRL (Cx.start W) (F y) ((cs.drop f.offset).take (Tryz.prog.cellsOf f.type)) ∧ Q y := by
  obtain ⟨xs, n, _, _, hl, hxs, hall⟩ := DataW.trod_struct ht hx
  have := hall i f hf
  rw [List.getElem?_eq_getElem (by rw [hxs]; exact (Array.getElem?_eq_some_iff.1 hf).1)] at this
  exact h _ _ _ this
theorem struct_len {t : TypeId} {fs : Array Field} {fuel : Nat} {cs : List Value} {x : DataW H × List MemPlace} (ht : Tryz.prog.underlying t = some (.struct fs)) (hx : DataW.trod enc Tryz.prog W 0 (fun _ => true) true fuel t cs = some x) : cs.length = Tryz.prog.cellsOf t := by
  obtain ⟨xs, n, _, _, hl, hxs, hall⟩ := DataW.trod_struct ht hx
  exact hl
end
theorem trodAll_stays {H : Type} {enc : TypeId × Value → H} {W W' : World} : ∀ {ts : List TypeId} {vs : List Value} {ds : List (DataW H)} {ps : List MemPlace}, (∀ t ∈ ts, Tryz.prog.readableRec t = true ∧ t < Tryz.prog.types.size) →
    DataW.TrodAll enc Tryz.prog W 0 (fun _ => true) true ts vs ds ps → Below W.heap.size W W' → (∀ x ∈ ps, x.block < W.heap.size) → DataW.TrodAll enc Tryz.prog W' 0 (fun b => decide (b < W.heap.size)) true ts vs ds ps
  | [], [], [], _, _, h, _, _ => h
  | t :: ts, v :: vs, d :: ds, _, ht, h, hb, hlt => by
    obtain ⟨p, q, h1, h2, rfl⟩ := h
    obtain ⟨a1, a2⟩ := ht t (List.mem_cons_self ..)
    exact ⟨p, q, Below.trod laidOut a1 a2 h1 hb (fun x hx => hlt x (List.mem_append.2 (.inl hx))), trodAll_stays (fun t ht' => ht t (List.mem_cons_of_mem _ ht')) h2 hb (fun x hx => hlt x (List.mem_append.2 (.inr hx))), rfl⟩
theorem trodAll_len {H : Type} {enc : TypeId × Value → H} {W : World} : ∀ {ts : List TypeId} {vs : List Value} {ds : List (DataW H)} {ps : List MemPlace}, DataW.TrodAll enc Tryz.prog W 0 (fun _ => true) true ts vs ds ps → vs.length = ts.length ∧ ds.length = ts.length
  | [], [], [], _, _ => ⟨rfl, rfl⟩
  | t :: ts, v :: vs, d :: ds, _, h => by
    obtain ⟨p, q, h1, h2, rfl⟩ := h
    obtain ⟨a1, a2⟩ := trodAll_len h2
    exact ⟨by simp [a1], by simp [a2]⟩
set_option maxRecDepth 100000 in
theorem liftedN {f : FuncId} {fn : Func} {s : ChangeSpec} {conds : List PathCond} {ts : List TypeId} (hfn : Tryz.checked.prog.funcs[f]? = some fn) (hpar : fn.params.toList = ts) (hts : ∀ t ∈ ts, Tryz.prog.readableRec t = true ∧ t < Tryz.prog.types.size) (hres : fn.resultTypes.toList = [4]) (hinit : Tryz.prog.inits.idxOf? f = none)
    (hvars : s.vars = []) (hsp : ∀ (H : Type) (ds : List (DataW H)), ds.length = ts.length → s.fn H ds = { results := [.lit (.bool true)], args := ds })
    (hc : ∀ (H : Type) (enc : TypeId × Value → H) (W : World) (base : Nat) (vs : List Value) (ds : List (DataW H)) (ps : List MemPlace), (∀ (j : Nat) t v, ts[j]? = some t → vs[j]? = some v → Value.okWide Tryz.prog W .any base t v) →
      DataW.TrodAll enc Tryz.prog W 0 (fun _ => true) true ts vs ds ps → ∃ avs, VRL (Cx.start W) avs vs ∧ CallsA Tryz.prog f avs [.role true] fun e _ => e = .ret (.bool true))
    (os : Os) (started : os.Started) (H : Type) (enc : TypeId × Value → H)
    (hwit : ∃ (w : World) (tape : Tape) (i : Input), w.os = os ∧ (w.forCall tape i).Shaped Tryz.checked.prog ∧ i.vars = [] ∧ Input.okWide Tryz.checked.prog (w.forCall tape i) .any w.heap.size f i ∧
      s.pre6 enc Tryz.checked.prog fn conds false (w.forCall tape i).memory i.args ∧ ({} : Assume).holds Tryz.checked.prog (lone (Frame.enter Tryz.checked.prog f i.args .normal) [] (w.forCall tape i))) :
    ReturnsInLeavingWide {} Tryz.checked os f .any (s.pre6 enc Tryz.checked.prog fn conds false) (s.post enc Tryz.checked.prog fn false true false false) := by
  refine returnsInLeavingWide_of_change_sized (C := Tryz.checked) own started hfn hwit ?_
  intro W base args ds gs before hval hW _ _ _
  have hW' := hW
  obtain ⟨p, q, hA, hV, rfl, _, _⟩ := hW
  rw [hpar] at hA
  rw [hvars] at hV
  obtain ⟨rfl, rfl⟩ := trodVars_none hV
  simp only [List.append_nil] at hW'
  have hlt : ∀ x ∈ p, x.block < W.heap.size := fun x hx => by simpa using hW'.lt x hx
  obtain ⟨avs, hr, hcall⟩ := hc H enc W base args.toList ds p (fun j t v h1 h2 => hval j t v (by
    have := congrArg (fun l => l[j]?) hpar
    simp only [Array.getElem?_toList] at this
    rw [this]; exact h1) (by simpa using h2)) hA
  obtain ⟨M, last, o, w', t', h1, h2, h3, h4⟩ := runs_of_calls (W := W) (args := args) hinit hcall hr
  refine ⟨M, last, o, w', t', h1, h2, h3, h4.mono fun v hF => ?_⟩
  obtain ⟨hbel, c, _, hv⟩ := hF
  have hv' : v = .bool true := hv
  subst hv'
  have hrs : fn.resultTypes.size = 1 := by
    have := congrArg List.length hres
    simpa using this
  have hrl : Value.resultList fn.resultTypes.size (.bool true) = [.bool true] := by rw [hrs]; rfl
  have hdl := (trodAll_len hA).2
  refine ⟨ds, [], _, [], p, [], by simpa using hW', ?_, ?_, ?_, hbel.frame _, fun h => by cases h⟩
  · rw [hres, hrl, List.append_nil, hsp H ds hdl]; exact trodAll_mk1 (shut_bool under4 true)
  · rw [hpar, List.append_nil, hsp H ds hdl]; exact trodAll_stays hts hA hbel hlt
  · rw [hvars, List.append_nil, hsp H ds hdl]; rfl
section
variable {H : Type} {enc : TypeId × Value → H} {W : World}
theorem underS : Tryz.prog.underlying 9 = some .string := by kernel_rfl
theorem field_at {t : TypeId} {fs : Array Field} {fuel : Nat} {cs : List Value} {x : DataW H × List MemPlace} (ht : Tryz.prog.underlying t = some (.struct fs)) (hx : DataW.trod enc Tryz.prog W 0 (fun _ => true) true fuel t cs = some x) {i : Nat} {ft : TypeId} {off : Nat}
    (hf : (fs[i]?).map (fun f => (f.type, f.offset)) = some (ft, off)) {α : Type} {F : α → List AV} {Q : α → Prop} (h : ReadsAs W enc ft F Q) : ∃ y : α, VRL (Cx.start W) (F y) ((cs.drop off).take (Tryz.prog.cellsOf ft)) ∧ Q y := by
  obtain ⟨f, h1, h2⟩ := Option.map_eq_some_iff.1 hf
  cases h2
  exact field_read ht hx h1 h
theorem cellsS : Tryz.prog.cellsOf 9 = 1 := by kernel_rfl
theorem fs_trace : ∃ fs : Array Field, Tryz.prog.underlying 86 = some (.struct fs) ∧ (fs[0]?).map (fun f => (f.type, f.offset)) = some (3, 0) ∧ (fs[1]?).map (fun f => (f.type, f.offset)) = some (3, 1) :=
  ⟨match Tryz.prog.underlying 86 with | some (.struct fs) => fs | _ => #[], by kernel_rfl, by kernel_rfl, by kernel_rfl⟩
theorem fs_glyph : ∃ fs : Array Field, Tryz.prog.underlying 76 = some (.struct fs) ∧ (fs[0]?).map (fun f => (f.type, f.offset)) = some (9, 0) ∧ (fs[1]?).map (fun f => (f.type, f.offset)) = some (3, 1) :=
  ⟨match Tryz.prog.underlying 76 with | some (.struct fs) => fs | _ => #[], by kernel_rfl, by kernel_rfl, by kernel_rfl⟩
theorem fs_board : ∃ fs : Array Field, Tryz.prog.underlying 26 = some (.struct fs) ∧ (fs[0]?).map (fun f => (f.type, f.offset)) = some (22, 0) ∧ (fs[1]?).map (fun f => (f.type, f.offset)) = some (23, 1) ∧ (fs[2]?).map (fun f => (f.type, f.offset)) = some (24, 2) :=
  ⟨match Tryz.prog.underlying 26 with | some (.struct fs) => fs | _ => #[], by kernel_rfl, by kernel_rfl, by kernel_rfl, by kernel_rfl⟩
theorem reads_trace : ReadsAs W enc 86 cTrace (fun _ => True) := by
  intro fuel cs x hx
  obtain ⟨fs, hu, f0, f1⟩ := fs_trace
  have hl : cs.length = 2 := by rw [struct_len hu hx]; kernel_rfl
  obtain ⟨a, b, rfl⟩ : ∃ a b, cs = [a, b] := by match cs, hl with | [a, b], _ => exact ⟨a, b, rfl⟩
  obtain ⟨y0, h0, _⟩ := field_at hu hx f0 (reads_int under3)
  obtain ⟨y1, h1, _⟩ := field_at hu hx f1 (reads_int under3)
  rw [cells3] at h0 h1
  exact ⟨⟨y0, y1⟩, (VRL.append h0 h1 : VRL (Cx.start W) (cInt y0 ++ cInt y1) _), trivial⟩
theorem reads_glyph : ReadsAs W enc 76 cGlyph (fun _ => True) := by
  intro fuel cs x hx
  obtain ⟨fs, hu, f0, f1⟩ := fs_glyph
  have hl : cs.length = 2 := by rw [struct_len hu hx]; kernel_rfl
  obtain ⟨a, b, rfl⟩ : ∃ a b, cs = [a, b] := by match cs, hl with | [a, b], _ => exact ⟨a, b, rfl⟩
  obtain ⟨y0, h0, _⟩ := field_at hu hx f0 (reads_str underS)
  obtain ⟨y1, h1, _⟩ := field_at hu hx f1 (reads_int under3)
  rw [cellsS] at h0
  rw [cells3] at h1
  exact ⟨⟨y0, y1⟩, (VRL.append h0 h1 : VRL (Cx.start W) (cStr y0 ++ cInt y1) _), trivial⟩
theorem reads_glyphs : ReadsAs W enc 22 (fun l : List Glyph => [sliceOf cGlyph l]) (fun l => ∀ y ∈ l, True) := reads_slice (sz := 1) (by kernel_rfl) (by kernel_rfl) reads_glyph
theorem reads_strs : ReadsAs W enc 36 cPage (fun l => ∀ y ∈ l, True) := reads_slice (sz := 0) (by kernel_rfl) (by kernel_rfl) (reads_str underS)
theorem reads_pages : ReadsAs W enc 23 (fun l : List (List (List UInt8)) => [sliceOf cPage l]) (fun l => ∀ y ∈ l, ∀ z ∈ y, True) := reads_slice (sz := 0) (by kernel_rfl) (by kernel_rfl) reads_strs
theorem reads_row : ReadsAs W enc 56 cTraces (fun l => ∀ y ∈ l, True) := reads_slice (sz := 1) (by kernel_rfl) (by kernel_rfl) reads_trace
theorem reads_rows : ReadsAs W enc 24 (fun l : List (List Mac.Trace) => [sliceOf cTraces l]) (fun l => ∀ y ∈ l, ∀ z ∈ y, True) := reads_slice (sz := 0) (by kernel_rfl) (by kernel_rfl) reads_row
theorem reads_ints : ReadsAs W enc 27 (fun l : List Int => [leftA (some l)]) (fun l => ∀ y ∈ l, isI64 y) := reads_slice (sz := 0) (by kernel_rfl) (by kernel_rfl) (reads_int under3)
theorem reads_board : ReadsAs W enc 26 brdA (fun _ => True) := by
  intro fuel cs x hx
  obtain ⟨fs, hu, f0, f1, f2⟩ := fs_board
  have hl : cs.length = 3 := by rw [struct_len hu hx]; kernel_rfl
  obtain ⟨a, b, c, rfl⟩ : ∃ a b c, cs = [a, b, c] := by match cs, hl with | [a, b, c], _ => exact ⟨a, b, c, rfl⟩
  obtain ⟨y0, h0, _⟩ := field_at hu hx f0 reads_glyphs
  obtain ⟨y1, h1, _⟩ := field_at hu hx f1 reads_pages
  obtain ⟨y2, h2, _⟩ := field_at hu hx f2 reads_rows
  rw [show Tryz.prog.cellsOf 22 = 1 by kernel_rfl] at h0
  rw [show Tryz.prog.cellsOf 23 = 1 by kernel_rfl] at h1
  rw [show Tryz.prog.cellsOf 24 = 1 by kernel_rfl] at h2
  exact ⟨⟨y0, y1, y2⟩, (VRL.append h0 (VRL.append h1 h2) : VRL (Cx.start W) ([sliceOf cGlyph y0] ++ ([sliceOf cPage y1] ++ [sliceOf cTraces y2])) _), trivial⟩
set_option maxRecDepth 100000 in
theorem arg_cell {t : TypeId} {v : Value} {base : Nat} {d : DataW H} {p : List MemPlace} {α : Type} {F : α → AV} {Q : α → Prop} (hv : ∀ v, Value.okWide Tryz.prog W .any base t v → v.cells = #[v]) (h : ReadsAs W enc t (fun y : α => [F y]) Q)
    (hok : Value.okWide Tryz.prog W .any base t v) (hd : DataW.Trod enc Tryz.prog W 0 (fun _ => true) true t v d p) : ∃ y, VR (Cx.start W) (F y) v ∧ Q y := by
  obtain ⟨fuel, hf⟩ := hd
  rw [hv v hok] at hf
  obtain ⟨y, h1, h2⟩ := h _ _ _ hf
  obtain ⟨w, ws, e, h3, _⟩ := h1
  cases e
  exact ⟨y, h3, h2⟩
set_option maxRecDepth 100000 in
theorem arg_struct {t : TypeId} {v : Value} {base : Nat} {d : DataW H} {p : List MemPlace} {fs : Array Field} {α : Type} {F : α → List AV} {Q : α → Prop} (hu : Tryz.prog.underlying t = some (.struct fs)) (h : ReadsAs W enc t F Q)
    (hok : Value.okWide Tryz.prog W .any base t v) (hd : DataW.Trod enc Tryz.prog W 0 (fun _ => true) true t v d p) : ∃ y, VR (Cx.start W) (.agg (F y)) v ∧ Q y := by
  obtain ⟨fuel, hf⟩ := hd
  unfold Value.okWide at hok
  rw [hu] at hok
  obtain ⟨cs, rfl, _⟩ := hok
  obtain ⟨y, h1, h2⟩ := h _ _ _ hf
  exact ⟨y, ⟨cs.toList, by simp, h1⟩, h2⟩
set_option maxRecDepth 100000 in
theorem ints_cells {base : Nat} (v : Value) (hok : Value.okWide Tryz.prog W .any base 27 v) : v.cells = #[v] := by
  obtain ⟨a, b, c, rfl⟩ := okWide_slice underI hok
  rfl
end
end Go.Proofs.YtdioclckllbhpaaGreat
namespace Go.Mac
open Go Go.Conc Go.Proofs
set_option maxRecDepth 4000
theorem within_ok (n lo hi : Int) : PureA Tryz.prog 141 [.int .i64 n, .int .i64 lo, .int .i64 hi] (.bool (decide (lo ≤ n) && decide (n ≤ hi))) := by
  refine PureA.of_wpp { cut := [10] } 12 mixed Tryz.func141 (by kernel_rfl) rfl (by kernel_rfl) (rfl) fun h j hB => ?_
  simp only [junk_succ, junk_zero, List.cons_append, List.nil_append, List.length_cons, List.length_nil, Nat.reduceAdd]
  simp (implicitDefEqProofs := false) (dsimp := false) only [go_sem]
  refine ⟨fun c => ?_, fun c => ?_⟩
  · have : lo ≤ n := c
    simp [this]
  · have : ¬ lo ≤ n := by simpa using c
    simp [this]
theorem inside_ok (n lo hi : Int) : PureA Tryz.prog 81 [.int .i64 n, .int .i64 lo, .int .i64 hi] (.bool (decide (lo ≤ n) && decide (n ≤ hi))) := by
  refine PureA.of_wpp { cut := [10] } 12 mixed Tryz.func81 (by kernel_rfl) rfl (by kernel_rfl) (rfl) fun h j hB => ?_
  simp only [junk_succ, junk_zero, List.cons_append, List.nil_append, List.length_cons, List.length_nil, Nat.reduceAdd]
  simp (implicitDefEqProofs := false) (dsimp := false) only [go_sem]
  refine ⟨fun c => ?_, fun c => ?_⟩
  · have : lo ≤ n := c
    simp [this]
  · have : ¬ lo ≤ n := by simpa using c
    simp [this]
def glyI (gs : List Glyph) (s : List UInt8) : Option Nat := gs.findIdx? fun g => g.name == s
def glyN (gs : List Glyph) (s : List UInt8) : Int := match glyI gs s with | some k => k | none => -1
def glyF (gs : List Glyph) (s : List UInt8) : Bool := match glyI gs s with | some _ => true | none => s == [45]
theorem glyI_at {gs : List Glyph} {s : List UInt8} {k : Nat} (hk : k < gs.length) (hn : ∀ q (hq : q < gs.length), q < k → gs[q].name ≠ s) (he : gs[k].name = s) : glyI gs s = some k := by
  rw [glyI, List.findIdx?_eq_some_iff_getElem]
  exact ⟨hk, by simpa using he, fun q hq => by simpa using hn q (by omega) hq⟩
theorem glyI_end {gs : List Glyph} {s : List UInt8} (hn : ∀ q (hq : q < gs.length), gs[q].name ≠ s) : glyI gs s = none := by
  rw [glyI, List.findIdx?_eq_none_iff]
  intro x hx
  obtain ⟨q, hq, rfl⟩ := List.getElem_of_mem hx
  simpa using hn q hq
theorem glyF_has {gs : List Glyph} (ok : okGlyphs gs) (b : UInt8) : glyF gs [b] = hasB (mapB gs) b.toNat := by
  have h1 : glyF gs [b] = (gs.any (fun g => g.name == [b]) || b == 45) := by
    unfold glyF glyI
    cases hi : gs.findIdx? fun g => g.name == [b] with
    | none =>
      rw [List.findIdx?_eq_none_iff] at hi
      have : gs.any (fun g => g.name == [b]) = false := by rw [List.any_eq_false]; intro x hx; rw [hi x hx]; decide
      rw [this]; simp
    | some k =>
      rw [List.findIdx?_eq_some_iff_getElem] at hi
      obtain ⟨hk, he, _⟩ := hi
      have : gs.any (fun g => g.name == [b]) = true := List.any_eq_true.2 ⟨_, List.getElem_mem hk, he⟩
      rw [this]; rfl
  rw [h1, hasB, mapB, List.any_cons, List.any_map, Bool.or_comm]
  congr 1
  · rw [Bool.eq_iff_iff]
    simp only [beq_iff_eq]
    constructor
    · rintro rfl; rfl
    · intro h; apply UInt8.toNat.inj; have h2 : (b.toNat : Int) = 45 := by simpa using h
      have : b.toNat = 45 := by omega
      exact this
  · rw [Bool.eq_iff_iff, List.any_eq_true, List.any_eq_true]
    constructor
    · rintro ⟨g, hg, he⟩
      refine ⟨g, hg, ?_⟩
      have he' : g.name = [b] := by simpa using he
      simp [gkey, he']
    · rintro ⟨g, hg, he⟩
      refine ⟨g, hg, ?_⟩
      obtain ⟨c, hc, hk⟩ := one_name (ok.one g hg).1
      have e2 : (b.toNat : Int) = (gkey g : Int) := by simpa using he
      rw [hk] at e2
      have : b = c := UInt8.toNat.inj (by omega)
      rw [hc, this]; simp
theorem Rglyph_ok (gs : List Glyph) (nm : List UInt8) (hl : gs.length ≤ 1000) (hn : nm.length ≤ 1000) (hg : ∀ g ∈ gs, g.name.length ≤ 1000) : PureA Tryz.prog 118 [sliceOf cGlyph gs, .str nm] (.tup [.int .i64 (glyN gs nm), .bool (glyF gs nm)]) := by
  refine PureA.of_wpp {} 21 mixed Tryz.func118 (by kernel_rfl) rfl (by kernel_rfl) (rfl) fun h j hB => ?_
  simp only [junk_succ, junk_zero, List.cons_append, List.nil_append, List.length_cons, List.length_nil, Nat.reduceAdd]
  simp (implicitDefEqProofs := false) (dsimp := false) only [go_sem]
  refine WP.loopI (fun (k : Nat) s => (k ≤ gs.length ∧ ∀ q (hq : q < gs.length), q < k → gs[q].name ≠ nm) ∧ s.sl.length = 23 ∧ s.df = [] ∧ s.gh = {} ∧ (s.hp = h) ∧ evA s.sl (.tmp 0) = sliceOf cGlyph gs ∧ evA s.sl (.tmp 1) = .str nm ∧ evA s.sl (.tmp 6) = .int .i64 k) (fun (k : Nat) => gs.length - k) (0) ?_ ?_
  · simp (implicitDefEqProofs := false) (dsimp := false) only [go_sem, Nat.zero_le]
    exact fun q hq hk => by omega
  · rintro k ⟨sl, df, hp, gh⟩ ⟨ab, al, rfl, rfl, rfl, a0, a1, a6⟩
    simp only at ab al a0 a1 a6
    obtain ⟨j, rfl⟩ := slots_lit al; clear al; simp only [junk_succ, junk_zero, evA_tmp, nth_16, nth_four, nth_one, nth_zero, Nat.zero_add, Nat.reduceAdd] at  a0 a1 a6 ⊢
    refine wp_ok (so := {}) mixed _ (by kernel_rfl) ?_
    obtain ⟨ak, an⟩ := ab
    by_cases hk : k < gs.length
    · simp (implicitDefEqProofs := false) (dsimp := false) only [go_sem, a0, a1, a6, nat_lt hk, decide_true, rowN cGlyph_len hk, rowN_le cGlyph_len hk, cGlyph]
      have h1 := hg _ (List.getElem_mem hk)
      refine ⟨by omega, fun e => ?_, fun e => ⟨k + 1, ⟨⟨by omega, fun q hq h3 => ?_⟩, wrap_succ (by omega)⟩, by omega⟩⟩
      · have := glyI_at hk an (by simpa using e)
        simp [glyN, glyF, this]
      · by_cases e3 : q = k
        · subst e3; exact by simpa using e
        · exact an q hq (by omega)
    · have hs : ((k : Int) < (gs.length : Int)) = False := eq_false (by omega)
      have := glyI_end fun q hq => an q hq (by omega)
      simp (implicitDefEqProofs := false) (dsimp := false) only [go_sem, a0, a1, a6, hs, decide_false, glyN, glyF, this]
      omega
theorem str_get00 {p : List (List UInt8)} (h : 0 < p.length) : (p.flatMap cStr).drop 0 = .str (p.headD []) :: (p.drop 1).flatMap cStr := by
  rw [headD_get h]
  have := row1 cStr_len h
  rw [this]; rfl
theorem RcheckPage_ok (gs : List Glyph) (ok : okGlyphs gs) (p : List (List UInt8)) : PureA Tryz.prog 84 [sliceOf cGlyph gs, sliceOf cStr p] (.int .i64 (pageErr (mapB gs) p)) := by
  refine PureA.of_wpp {} 65 mixed Tryz.func84 (by kernel_rfl) rfl (by kernel_rfl) (rfl) fun h j hB => ?_
  simp only [junk_succ, junk_zero, List.cons_append, List.nil_append, List.length_cons, List.length_nil, Nat.reduceAdd]
  have hm := ok.most
  simp (implicitDefEqProofs := false) (dsimp := false) only [go_sem]
  refine ⟨fun c0 => ?_, fun c0 => ⟨fun c1 => ?_, fun c1 => ?_⟩⟩
  · have : p.length = 0 := by simpa using c0
    simp [pageErr, sizedB, this]
  · have h1 : ¬ ((p.length : Int) < 1) := by intro e; have : p.length = 0 := by omega
                                             rw [this] at c0; simp at c0
    have h2 : (3 : Int) < p.length := by simpa using c1
    simp [pageErr, sizedB, h1, h2]
  have hne : p.length ≠ 0 := by intro e; rw [e] at c0; simp at c0
  have h3 : ¬ (3 : Int) < p.length := by simpa using c1
  have hz : sizedB p.length 3 = 0 := by rw [sizedB, if_neg (by omega), if_neg h3]
  have eg : rowsErr (mapB gs) (p.headD []).length p = pageErr (mapB gs) p := by simp only [pageErr, hz, ne_eq, not_true_eq_false, if_false]
  have hp0 : 0 < p.length := by omega
  refine WP.loopI (fun (i : Nat) s => (i ≤ p.length ∧ rowsErr (mapB gs) (p.headD []).length (p.drop i) = pageErr (mapB gs) p) ∧ s.sl.length = 67 ∧ s.df = [] ∧ s.gh = {} ∧ (s.hp = h) ∧ evA s.sl (.tmp 0) = sliceOf cGlyph gs ∧ evA s.sl (.tmp 1) = sliceOf cStr p ∧ evA s.sl (.tmp 5) = .int .i64 i) (fun (i : Nat) => p.length - i) (0) ?_ ?_
  · simp (implicitDefEqProofs := false) (dsimp := false) only [go_sem, Nat.zero_le, List.drop_zero]
    exact eg
  · rintro i ⟨sl, df, hp, gh⟩ ⟨ab, al, rfl, rfl, rfl, a0, a1, a5⟩
    simp only at ab al a0 a1 a5
    obtain ⟨j, rfl⟩ := slots_lit al; clear al; simp only [junk_succ, junk_zero, evA_tmp, nth_16, nth_four, nth_one, nth_zero, Nat.zero_add, Nat.reduceAdd] at  a0 a1 a5 ⊢
    refine wp_ok (so := {}) mixed _ (by kernel_rfl) ?_
    obtain ⟨ab, aq⟩ := ab
    by_cases hi : i < p.length
    · rw [drop_get hi] at aq
      simp (implicitDefEqProofs := false) (dsimp := false) only [go_sem, a0, a1, a5, nat_lt hi, decide_true, row1 cStr_len hi, row1_le cStr_len hi, cStr, str_get00 hp0, str_len1, nat_lt hp0]
      have hg := fun g hg => Nat.le_trans (Nat.le_of_eq (ok.one g hg).1) (by decide : 1 ≤ 1000)
      refine ⟨by omega, fun d1 => ?_, fun d1 => ⟨by omega, fun d2 => ?_, fun d2 => ⟨by omega, ⟨by omega, by omega⟩, fun d3 => ?_, fun d3 => ?_⟩⟩⟩
      · have : p[i].length = 0 := by omega
        rw [← aq, rowsErr, if_pos (by simp [sizedB, this])]; simp [sizedB, this]
      · have n1 : ¬ ((p[i].length : Int) < 1) := by omega
        have n2 : (4 : Int) < p[i].length := d2
        have : sizedB p[i].length 4 = 6 := by rw [sizedB, if_neg n1, if_pos n2]
        rw [← aq, rowsErr, if_pos (by rw [this]; decide), this]
      · have n1 : p[i].length ≠ 0 := by intro e; rw [e] at d1; simp at d1
        have hz : sizedB p[i].length 4 = 0 := by rw [sizedB, if_neg (by omega), if_neg (by omega)]
        have n3 : p[i].length ≠ (p.headD []).length := by intro e; rw [e] at d3; simp at d3
        rw [← aq, rowsErr, if_neg (by rw [hz]; decide), if_pos n3]
      have n1 : p[i].length ≠ 0 := by intro e; rw [e] at d1; simp at d1
      have hz : sizedB p[i].length 4 = 0 := by rw [sizedB, if_neg (by omega), if_neg (by omega)]
      have n3 : p[i].length = (p.headD []).length := by
        have : (p[i].length : Int) = (p.headD []).length := by simpa using d3
        omega
      refine WP.loopI (fun (x : Nat) s => (x ≤ p[i].length ∧ charsErr (mapB gs) (p[i].drop x) = charsErr (mapB gs) p[i]) ∧ s.sl.length = 67 ∧ s.df = [] ∧ s.gh = {} ∧ (s.hp = hp) ∧ evA s.sl (.tmp 0) = sliceOf cGlyph gs ∧ evA s.sl (.tmp 1) = sliceOf cStr p ∧ evA s.sl (.tmp 5) = .int .i64 i ∧ evA s.sl (.tmp 6) = .int .i64 x) (fun (x : Nat) => p[i].length - x) (0) ?_ ?_
      · simp (implicitDefEqProofs := false) (dsimp := false) only [go_sem, Nat.zero_le, List.drop_zero]
      · rintro x ⟨sl, df, hp, gh⟩ ⟨cb, cl, rfl, rfl, rfl, c0, c1, c5, c6⟩
        simp only at cb cl c0 c1 c5 c6
        obtain ⟨j, rfl⟩ := slots_lit cl; clear cl; simp only [junk_succ, junk_zero, evA_tmp, nth_16, nth_four, nth_one, nth_zero, Nat.zero_add, Nat.reduceAdd] at  c0 c1 c5 c6 ⊢
        refine wp_ok (so := {}) mixed _ (by kernel_rfl) ?_
        obtain ⟨cb, cq⟩ := cb
        by_cases hx : x < p[i].length
        · have hw := wrap_succ (i := x) (by omega)
          have ht : (p[i].drop x).take (x + 1 - x) = [p[i][x]] := by
            rw [List.drop_eq_getElem_cons hx, Nat.add_sub_cancel_left]; rfl
          rw [drop_get hx] at cq
          simp (implicitDefEqProofs := false) (dsimp := false) only [go_sem, c0, c1, c5, c6, nat_lt hx, nat_lt hi, decide_true, row1 cStr_len hi, row1_le cStr_len hi, cStr, hw, ht]
          refine ⟨by omega, ?_⟩
          (first | refine CallsA.use (Rglyph_ok gs [p[i][x]] (by omega) (by simp) hg) ?_ | refine QuietCalls.use (Rglyph_ok gs [p[i][x]] (by omega) (by simp) hg) ?_)
          cases hf : glyF gs [p[i][x]] with
          | true =>
            simp (implicitDefEqProofs := false) (dsimp := false) only [go_sem]
            refine ⟨x + 1, ⟨⟨by omega, ?_⟩, wrap_succ (by omega)⟩, by omega⟩
            rw [← cq, charsErr, ← glyF_has ok, hf, if_pos rfl]
          | false =>
            simp (implicitDefEqProofs := false) (dsimp := false) only [go_sem]
            have hc2 : charsErr (mapB gs) p[i] = 2 := by rw [← cq]; exact charsErr_no (by rw [← glyF_has ok, hf])
            rw [← aq, rowsErr_char hz n3 (by rw [hc2]; decide)]
        · have hs : ((x : Int) < (p[i].length : Int)) = False := eq_false (by omega)
          rw [List.drop_eq_nil_of_le (by omega)] at cq
          simp (implicitDefEqProofs := false) (dsimp := false) only [go_sem, c0, c1, c5, c6, nat_lt hi, row1 cStr_len hi, row1_le cStr_len hi, cStr, hs, decide_false]
          refine ⟨i + 1, ⟨⟨by omega, ?_⟩, wrap_succ (by omega)⟩, by omega⟩
          rw [← aq, rowsErr_fine hz n3 (by rw [← cq]; rfl)]
    · have hs : ((i : Int) < (p.length : Int)) = False := eq_false (by omega)
      simp (implicitDefEqProofs := false) (dsimp := false) only [go_sem, a0, a1, a5, hs, decide_false]
      rw [List.drop_eq_nil_of_le (by omega)] at aq
      exact aq
end Go.Mac
namespace Go.Mac
open Go Go.Conc Go.Proofs
set_option maxRecDepth 4000
def bitAt : Nat → Int
  | 0 => 1 | 1 => 2 | 2 => 4 | 3 => 8 | 4 => 16 | _ => 32
def halfAcc (n : Int) : Nat → Int
  | 0 => 0
  | i + 1 => if andK .i64 n (bitAt i) = 0 then halfAcc n i else orK .i64 (halfAcc n i) (turnAt i)
def halfR (n : Int) : Int := halfAcc n 6
def mirTo : Nat → Int
  | 0 => 2 | 1 => 1 | 2 => 8 | _ => 4
def mirAcc (n : Int) : Nat → Int
  | 0 => andK .i64 n 48
  | i + 1 => if andK .i64 n (bitAt i) = 0 then mirAcc n i else IntKind.i64.wrap (mirAcc n i + mirTo i)
def mirR (n : Int) : Int := mirAcc n 4
theorem half_all : (List.range 64).all (fun n => halfR n == turnB n && mirR n == mirroredB n) = true := by kernel_rfl
theorem half64 {n : Int} (h : is64 n) : halfR n = turnB n ∧ mirR n = mirroredB n := by
  obtain ⟨x, rfl⟩ : ∃ x : Nat, n = x := ⟨n.toNat, by have := h.1; omega⟩
  have := List.all_eq_true.1 half_all x (List.mem_range.2 (by have := h.2; omega))
  simp only [Bool.and_eq_true, beq_iff_eq] at this
  exact this
theorem Rhalf_ok (n : Int) : PureA Tryz.prog 82 [.int .i64 n] (.int .i64 (halfR n)) := by
  refine PureA.of_wpp { shut := [7, 8] } 28 mixed Tryz.func82 (by kernel_rfl) rfl (by kernel_rfl) (rfl) fun h j hB => ?_
  simp only [junk_succ, junk_zero, List.cons_append, List.nil_append, List.length_cons, List.length_nil, Nat.reduceAdd]
  simp (implicitDefEqProofs := false) (dsimp := false) only [go_sem]
  refine WP.loopI (fun (i : Nat) s => (i ≤ 6) ∧ s.sl.length = 29 ∧ s.df = [] ∧ s.gh = {} ∧ (s.hp = h) ∧ evA s.sl (.tmp 0) = .int .i64 n ∧ evA s.sl (.tmp 3) = .psl [.int .i64 1, .int .i64 2, .int .i64 4, .int .i64 8, .int .i64 16, .int .i64 32] 6 ∧ evA s.sl (.tmp 4) = .psl [.int .i64 8, .int .i64 4, .int .i64 2, .int .i64 1, .int .i64 32, .int .i64 16] 6 ∧ evA s.sl (.tmp 5) = .int .i64 (halfAcc n i) ∧ evA s.sl (.tmp 6) = .int .i64 i) (fun (i : Nat) => 6 - i) (0) ?_ ?_
  · simp (implicitDefEqProofs := false) (dsimp := false) only [go_sem, halfAcc]
  · rintro i ⟨sl, df, hp, gh⟩ ⟨ab, al, rfl, rfl, rfl, a0, a3, a4, a5, a6⟩
    simp only at ab al a0 a3 a4 a5 a6
    obtain ⟨j, rfl⟩ := slots_lit al; clear al; simp only [junk_succ, junk_zero, evA_tmp, nth_16, nth_four, nth_one, nth_zero, Nat.zero_add, Nat.reduceAdd] at  a0 a3 a4 a5 a6 ⊢
    refine wp_ok (so := { shut := [7, 8] }) mixed _ (by kernel_rfl) ?_
    by_cases hi : i < 6
    · have hx : [AV.int IntKind.i64 8, AV.int IntKind.i64 4, AV.int IntKind.i64 2, AV.int IntKind.i64 1, AV.int IntKind.i64 32, AV.int IntKind.i64 16].drop i = .int .i64 (turnAt i) :: [AV.int IntKind.i64 8, AV.int IntKind.i64 4, AV.int IntKind.i64 2, AV.int IntKind.i64 1, AV.int IntKind.i64 32, AV.int IntKind.i64 16].drop (i + 1) := by
        match i, hi with
        | 0, _ => rfl | 1, _ => rfl | 2, _ => rfl | 3, _ => rfl | 4, _ => rfl | 5, _ => rfl
      have hy : [AV.int IntKind.i64 1, AV.int IntKind.i64 2, AV.int IntKind.i64 4, AV.int IntKind.i64 8, AV.int IntKind.i64 16, AV.int IntKind.i64 32].drop i = .int .i64 (bitAt i) :: [AV.int IntKind.i64 1, AV.int IntKind.i64 2, AV.int IntKind.i64 4, AV.int IntKind.i64 8, AV.int IntKind.i64 16, AV.int IntKind.i64 32].drop (i + 1) := by
        match i, hi with
        | 0, _ => rfl | 1, _ => rfl | 2, _ => rfl | 3, _ => rfl | 4, _ => rfl | 5, _ => rfl
      have hs : ((i : Int) < 6) = True := eq_true (by omega)
      have hle : (i ≤ 6) = True := eq_true (by omega)
      have hw := wrap_succ (i := i) (by omega)
      simp (implicitDefEqProofs := false) (dsimp := false) only [go_sem, a0, a3, a4, a5, a6, hs, hle, hx, hy, decide_true, hi]
      refine ⟨fun e => ⟨i + 1, ⟨by omega, ?_, hw⟩, by omega⟩, fun e => ⟨i + 1, ⟨by omega, ?_, hw⟩, by omega⟩⟩
      · have : ¬ andK .i64 n (bitAt i) = 0 := by simpa using e
        simp [halfAcc, this]
      · have : andK .i64 n (bitAt i) = 0 := by simpa using e
        simp [halfAcc, this]
    · have : i = 6 := by omega
      subst this
      simp (implicitDefEqProofs := false) (dsimp := false) only [go_sem, a0, a3, a4, a5, a6]
      rfl
theorem RMirrored_ok (n : Int) : PureA Tryz.prog 138 [.int .i64 n] (.int .i64 (mirR n)) := by
  refine PureA.of_wpp { shut := [9, 10] } 30 mixed Tryz.func138 (by kernel_rfl) rfl (by kernel_rfl) (rfl) fun h j hB => ?_
  simp only [junk_succ, junk_zero, List.cons_append, List.nil_append, List.length_cons, List.length_nil, Nat.reduceAdd]
  simp (implicitDefEqProofs := false) (dsimp := false) only [go_sem]
  refine WP.loopI (fun (i : Nat) s => (i ≤ 4) ∧ s.sl.length = 31 ∧ s.df = [] ∧ s.gh = {} ∧ (s.hp = h) ∧ evA s.sl (.tmp 0) = .int .i64 n ∧ evA s.sl (.tmp 4) = .psl [.int .i64 1, .int .i64 2, .int .i64 4, .int .i64 8] 4 ∧ evA s.sl (.tmp 5) = .psl [.int .i64 2, .int .i64 1, .int .i64 8, .int .i64 4] 4 ∧ evA s.sl (.tmp 3) = .int .i64 (mirAcc n i) ∧ evA s.sl (.tmp 6) = .int .i64 i) (fun (i : Nat) => 4 - i) (0) ?_ ?_
  · simp (implicitDefEqProofs := false) (dsimp := false) only [go_sem, mirAcc]
  · rintro i ⟨sl, df, hp, gh⟩ ⟨ab, al, rfl, rfl, rfl, a0, a4, a5, a3, a6⟩
    simp only at ab al a0 a4 a5 a3 a6
    obtain ⟨j, rfl⟩ := slots_lit al; clear al; simp only [junk_succ, junk_zero, evA_tmp, nth_16, nth_four, nth_one, nth_zero, Nat.zero_add, Nat.reduceAdd] at  a0 a4 a5 a3 a6 ⊢
    refine wp_ok (so := { shut := [9, 10] }) mixed _ (by kernel_rfl) ?_
    by_cases hi : i < 4
    · have hx : [AV.int IntKind.i64 2, AV.int IntKind.i64 1, AV.int IntKind.i64 8, AV.int IntKind.i64 4].drop i = .int .i64 (mirTo i) :: [AV.int IntKind.i64 2, AV.int IntKind.i64 1, AV.int IntKind.i64 8, AV.int IntKind.i64 4].drop (i + 1) := by
        match i, hi with
        | 0, _ => rfl | 1, _ => rfl | 2, _ => rfl | 3, _ => rfl
      have hy : [AV.int IntKind.i64 1, AV.int IntKind.i64 2, AV.int IntKind.i64 4, AV.int IntKind.i64 8].drop i = .int .i64 (bitAt i) :: [AV.int IntKind.i64 1, AV.int IntKind.i64 2, AV.int IntKind.i64 4, AV.int IntKind.i64 8].drop (i + 1) := by
        match i, hi with
        | 0, _ => rfl | 1, _ => rfl | 2, _ => rfl | 3, _ => rfl
      have hs : ((i : Int) < 4) = True := eq_true (by omega)
      have hle : (i ≤ 4) = True := eq_true (by omega)
      have hw := wrap_succ (i := i) (by omega)
      simp (implicitDefEqProofs := false) (dsimp := false) only [go_sem, a0, a4, a5, a3, a6, hs, hle, hx, hy, decide_true, hi]
      refine ⟨fun e => ⟨i + 1, ⟨by omega, ?_, hw⟩, by omega⟩, fun e => ⟨i + 1, ⟨by omega, ?_, hw⟩, by omega⟩⟩
      · have : ¬ andK .i64 n (bitAt i) = 0 := by simpa using e
        simp [mirAcc, this]
      · have : andK .i64 n (bitAt i) = 0 := by simpa using e
        simp [mirAcc, this]
    · have : i = 4 := by omega
      subst this
      simp (implicitDefEqProofs := false) (dsimp := false) only [go_sem, a0, a4, a5, a3, a6]
      rfl
theorem Rletter_ok (b : Board) (l : Lay) (row col : Int) (p : Nat) (hp : l.page = p) (hpl : p < b.pages.length) (h0 : 0 < b.pages[p].length) (hl : b.pages[p].length ≤ 1000) (hr : -1000 ≤ row ∧ row ≤ 1000) (hc : -1000 ≤ col ∧ col ≤ 1000) (hd : -1000 ≤ l.down ∧ l.down ≤ 1000) (hrt : -1000 ≤ l.right ∧ l.right ≤ 1000) (hw : (b.pages[p].headD []).length ≤ 1000) : PureA Tryz.prog 115 [.agg (brdA b), .agg (cLay l), .int .i64 row, .int .i64 col] (tup3 (letterB b.pages[p] l row col)) := by
  refine PureA.of_wpp { cut := [34] } 56 mixed Tryz.func115 (by kernel_rfl) rfl (by kernel_rfl) (rfl) fun h j hB => ?_
  simp only [junk_succ, junk_zero, List.cons_append, List.nil_append, List.length_cons, List.length_nil, Nat.reduceAdd]
  obtain ⟨pg, tu, dn, rt⟩ := l
  simp only at hp hd hrt
  subst hp
  have hw1 : IntKind.i64.wrap (row - dn) = row - dn := wrap64 (by omega) (by omega)
  have hw2 : IntKind.i64.wrap (col - rt) = col - rt := wrap64 (by omega) (by omega)
  have hw3 : IntKind.i64.wrap ((b.pages[p].length : Int) - 1) = (b.pages[p].length : Int) - 1 := wrap64 (by omega) (by omega)
  have hw4 : IntKind.i64.wrap (((b.pages[p].headD []).length : Int) - 1) = ((b.pages[p].headD []).length : Int) - 1 := wrap64 (by omega) (by omega)
  simp (implicitDefEqProofs := false) (dsimp := false) only [go_sem, brdA, cLay, row1 cPage_len hpl, row1_le cPage_len hpl, nat_lt hpl, cPage, hw1, hw2, str_get00 h0, str_len1, nat_lt h0, hw3, hw4]
  (first | refine CallsA.use (inside_ok (row - dn) 0 ((b.pages[p].length : Int) - 1)) ?_ | refine QuietCalls.use (inside_ok (row - dn) 0 ((b.pages[p].length : Int) - 1)) ?_)
  cases q1 : (decide ((0 : Int) ≤ row - dn) && decide (row - dn ≤ (b.pages[p].length : Int) - 1)) with
  | false =>
    simp (implicitDefEqProofs := false) (dsimp := false) only [go_sem]
    rw [letterB_out (by simp only [Bool.and_eq_false_iff, decide_eq_false_iff_not] at q1; simp only; omega)]; rfl
  | true =>
    simp only [Bool.and_eq_true, decide_eq_true_eq] at q1
    simp (implicitDefEqProofs := false) (dsimp := false) only [go_sem, str_get0 h0, str_len1, nat_lt h0, hw4, str_get00 h0]
    refine ⟨⟨by omega, by omega⟩, ?_⟩
    (first | refine CallsA.use (inside_ok (col - rt) 0 (((b.pages[p].headD []).length : Int) - 1)) ?_ | refine QuietCalls.use (inside_ok (col - rt) 0 (((b.pages[p].headD []).length : Int) - 1)) ?_)
    cases q2 : (decide ((0 : Int) ≤ col - rt) && decide (col - rt ≤ ((b.pages[p].headD []).length : Int) - 1)) with
    | false =>
      simp (implicitDefEqProofs := false) (dsimp := false) only [go_sem]
      rw [letterB_out (by simp only [Bool.and_eq_false_iff, decide_eq_false_iff_not] at q2; simp only; omega)]; rfl
    | true =>
      simp only [Bool.and_eq_true, decide_eq_true_eq] at q2
      have hin := letterB_in (p := b.pages[p]) (l := ⟨p, tu, dn, rt⟩) (row := row) (col := col) (by simp only; omega)
      have hw5 : IntKind.i64.wrap ((b.pages[p].length : Int) - 1 - (row - dn)) = (b.pages[p].length : Int) - 1 - (row - dn) := wrap64 (by omega) (by omega)
      have hw6 : IntKind.i64.wrap (((b.pages[p].headD []).length : Int) - 1 - (col - rt)) = ((b.pages[p].headD []).length : Int) - 1 - (col - rt) := wrap64 (by omega) (by omega)
      simp (implicitDefEqProofs := false) (dsimp := false) only [go_sem, hw3, hw4, hw5, hw6, str_get00 h0, str_len1, nat_lt h0, str_get0 h0]
      refine ⟨fun e => ?_, fun e => ?_⟩
      · subst e; rw [hin]; rfl
      · subst e; refine ⟨⟨by omega, by omega⟩, ?_⟩; rw [hin]; rfl
theorem strokesB_at {gs : List Glyph} {nm : List UInt8} {k : Nat} (h : glyI gs nm = some k) : ∃ hk : k < gs.length, strokesB gs nm = gs[k].strokes := by
  induction gs generalizing k with
  | nil => simp [glyI] at h
  | cons g l ih =>
    rw [glyI, List.findIdx?_cons] at h
    by_cases e : g.name = nm
    · rw [if_pos (by simpa using e)] at h
      cases h
      exact ⟨by simp, by rw [strokesB, if_pos e]; rfl⟩
    · rw [if_neg (by simpa using e)] at h
      obtain ⟨k', hk', rfl⟩ := Option.map_eq_some_iff.1 h
      obtain ⟨h1, h2⟩ := ih hk'
      exact ⟨by simpa using h1, by rw [strokesB, if_neg e, h2]; rfl⟩
theorem strokesB_none {gs : List Glyph} {nm : List UInt8} (h : glyI gs nm = none) : strokesB gs nm = 0 := by
  induction gs with
  | nil => rfl
  | cons g l ih =>
    rw [glyI, List.findIdx?_cons] at h
    by_cases e : g.name = nm
    · rw [if_pos (by simpa using e)] at h; cases h
    · rw [if_neg (by simpa using e)] at h
      rw [strokesB, if_neg e]
      exact ih (Option.map_eq_none_iff.1 h)
def glyS (gs : List Glyph) (n : Int) : Int := if n < 0 then 0 else (gs.getD n.toNat ⟨[], 0⟩).strokes
theorem glyS_N (gs : List Glyph) (nm : List UInt8) : glyS gs (glyN gs nm) = strokesB gs nm := by
  unfold glyN
  cases h : glyI gs nm with
  | none => rw [strokesB_none h]; rfl
  | some k =>
    obtain ⟨h1, h2⟩ := strokesB_at h
    rw [h2, glyS, if_neg (by simp only; omega)]
    simp [List.getD, h1]
theorem glyN_lt (gs : List Glyph) (nm : List UInt8) : -1 ≤ glyN gs nm ∧ glyN gs nm < gs.length := by
  unfold glyN
  cases h : glyI gs nm with
  | none => exact ⟨by simp, by simp only; omega⟩
  | some k =>
    obtain ⟨h1, _⟩ := strokesB_at h
    exact ⟨by simp only; omega, by simp only; omega⟩
theorem asB0 (l : Lay) : asB l 0 = 0 := by unfold asB; cases l.turned <;> decide
theorem Rseen_ok (b : Board) (okg : okGlyphs b.glyphs) (l : Lay) (n : Int) (h1 : -1 ≤ n) (h2 : n < b.glyphs.length) : PureA Tryz.prog 117 [.agg (brdA b), .agg (cLay l), .int .i64 n] (.int .i64 (asB l (glyS b.glyphs n))) := by
  refine PureA.of_wpp {} 19 mixed Tryz.func117 (by kernel_rfl) rfl (by kernel_rfl) (rfl) fun h j hB => ?_
  simp only [junk_succ, junk_zero, List.cons_append, List.nil_append, List.length_cons, List.length_nil, Nat.reduceAdd]
  obtain ⟨pg, tu, dn, rt⟩ := l
  simp (implicitDefEqProofs := false) (dsimp := false) only [go_sem, brdA, cLay]
  refine ⟨fun c => ?_, fun c => ?_⟩
  · rw [glyS, if_pos c, asB0]
  · obtain ⟨k, rfl⟩ : ∃ k : Nat, n = k := ⟨n.toNat, by omega⟩
    have hk : k < b.glyphs.length := by omega
    have hst := okg.one _ (List.getElem_mem hk)
    have h64 : is64 b.glyphs[k].strokes := ⟨by omega, by omega⟩
    have hg : glyS b.glyphs k = b.glyphs[k].strokes := by rw [glyS, if_neg c]; simp [List.getD, hk]
    simp (implicitDefEqProofs := false) (dsimp := false) only [go_sem, brdA, cLay, nat_lt hk, rowN cGlyph_len hk, rowN_le cGlyph_len hk, cGlyph]
    refine ⟨fun e => ?_, fun e => ?_⟩
    · subst e
      (first | refine CallsA.use (Rhalf_ok _) ?_ | refine QuietCalls.use (Rhalf_ok _) ?_)
      simp (implicitDefEqProofs := false) (dsimp := false) only [go_sem]
      (first | refine CallsA.use (RMirrored_ok _) ?_ | refine QuietCalls.use (RMirrored_ok _) ?_)
      simp (implicitDefEqProofs := false) (dsimp := false) only [go_sem]
      have h64' : is64 (turnB b.glyphs[k].strokes) := (mirB64 h64).2
      rw [hg, (half64 h64).1, (half64 h64').2]; rfl
    · subst e
      (first | refine CallsA.use (RMirrored_ok _) ?_ | refine QuietCalls.use (RMirrored_ok _) ?_)
      simp (implicitDefEqProofs := false) (dsimp := false) only [go_sem]
      rw [hg, (half64 h64).2]; rfl
theorem ch_eq {p : List (List UInt8)} {x y : Nat} (hx : x < p.length) (hy : y < p[x].length) : charAt p x y = p[x][y].toNat := by simp [charAt, List.getD, hx, hy]
theorem Rshown_ok (b : Board) (okg : okGlyphs b.glyphs) (l : Lay) (row col : Int) (p : Nat) (hlp : l.page = p) (hp : p < b.pages.length) (ok : okPage b.pages[p]) (hr : -1000 ≤ row ∧ row ≤ 1000) (hc : -1000 ≤ col ∧ col ≤ 1000) (hd : -1000 ≤ l.down ∧ l.down ≤ 1000) (hrt : -1000 ≤ l.right ∧ l.right ≤ 1000) : PureA Tryz.prog 72 [.agg (brdA b), .agg (cLay l), .int .i64 row, .int .i64 col] (.int .i64 (shownB (mapB b.glyphs) b.pages[p] l row col)) := by
  refine PureA.of_wpp {} 44 mixed Tryz.func72 (by kernel_rfl) rfl (by kernel_rfl) (rfl) fun h j hB => ?_
  simp only [junk_succ, junk_zero, List.cons_append, List.nil_append, List.length_cons, List.length_nil, Nat.reduceAdd]
  obtain ⟨pg, tu, dn, rt⟩ := l
  simp only at hlp hd hrt
  subst hlp
  have h1 := ok.pos
  have h2 := ok.most
  have h3 := ok.wmost
  have hm := okg.most
  have hg := fun g hg => Nat.le_trans (Nat.le_of_eq (okg.one g hg).1) (by decide : 1 ≤ 1000)
  simp (implicitDefEqProofs := false) (dsimp := false) only [go_sem, brdA, cLay]
  (first | refine CallsA.use (Rletter_ok b ⟨p, tu, dn, rt⟩ row col p rfl hp h1 (by omega) hr hc hd hrt (by omega)) ?_ | refine QuietCalls.use (Rletter_ok b ⟨p, tu, dn, rt⟩ row col p rfl hp h1 (by omega) hr hc hd hrt (by omega)) ?_)
  rcases letterB_cases (p := b.pages[p]) ⟨p, tu, dn, rt⟩ row col with e | ⟨r, c, e, hx, hy0⟩
  · rw [e]
    simp (implicitDefEqProofs := false) (dsimp := false) only [go_sem, tup3]
    simp only [shownB, e]; rfl
  · have hy : c < b.pages[p][r].length := by rw [ok.row hx]; omega
    have hw := wrap_succ (i := c) (by omega)
    have ht : (b.pages[p][r].drop c).take (c + 1 - c) = [b.pages[p][r][c]] := by
      rw [List.drop_eq_getElem_cons hy, Nat.add_sub_cancel_left]; rfl
    rw [e]
    simp (implicitDefEqProofs := false) (dsimp := false) only [go_sem, tup3, brdA, cLay, row1 cPage_len hp, row1_le cPage_len hp, nat_lt hp, cPage, row1 cStr_len hx, row1_le cStr_len hx, nat_lt hx, cStr, hw, ht]
    refine ⟨⟨by omega, by omega⟩, ?_⟩
    (first | refine CallsA.use (Rglyph_ok b.glyphs [b.pages[p][r][c]] (by omega) (by simp) hg) ?_ | refine QuietCalls.use (Rglyph_ok b.glyphs [b.pages[p][r][c]] (by omega) (by simp) hg) ?_)
    simp (implicitDefEqProofs := false) (dsimp := false) only [go_sem]
    have hN := glyN_lt b.glyphs [b.pages[p][r][c]]
    (first | refine CallsA.use (Rseen_ok b okg ⟨p, tu, dn, rt⟩ _ hN.1 hN.2) ?_ | refine QuietCalls.use (Rseen_ok b okg ⟨p, tu, dn, rt⟩ _ hN.1 hN.2) ?_)
    simp (implicitDefEqProofs := false) (dsimp := false) only [go_sem]
    simp only [shownB, e, if_true, glyS_N, strokesB_eq okg]
    rw [ch_eq (x := r) (y := c) hx hy]
end Go.Mac
namespace Go.Mac
open Go Go.Conc Go.Proofs
set_option maxRecDepth 4000
end Go.Mac
namespace Go.Mac
open Go Go.Conc Go.Proofs
section
variable {xs : List (Lay × List Int)} {i : Nat} (h64 : ∀ x ∈ xs, is64 (x.2.getD i 0))
include h64
end
end Go.Mac
namespace Go.Mac
open Go Go.Conc Go.Proofs
set_option maxRecDepth 4000
end Go.Mac
namespace Go.Mac
open Go Go.Conc Go.Proofs
set_option maxRecDepth 4000
theorem RcheckGlyphs_ok (gs : List Glyph) : PureA Tryz.prog 120 [sliceOf cGlyph gs] (.int .i64 (glyphsErr gs)) := by
  refine PureA.of_wpp { cut := [24, 32, 42] } 78 mixed Tryz.func120 (by kernel_rfl) rfl (by kernel_rfl) (rfl) fun h j hB => ?_
  simp only [junk_succ, junk_zero, List.cons_append, List.nil_append, List.length_cons, List.length_nil, Nat.reduceAdd]
  simp (implicitDefEqProofs := false) (dsimp := false) only [go_sem]
  refine ⟨fun c0 => ?_, fun c0 => ⟨fun c1 => ?_, fun c1 => ?_⟩⟩
  · have : gs.length = 0 := by simpa using c0
    simp [glyphsErr, this]
  · have h0 : gs.length ≠ 0 := by intro e; rw [e] at c0; simp at c0
    simp only [glyphsErr, h0, if_false]; rw [if_pos (by omega)]
  have hne : gs.length ≠ 0 := by intro e; rw [e] at c0; simp at c0
  have eg : gliErr [] gs = glyphsErr gs := by simp only [glyphsErr, hne, if_false]; rw [if_neg (by omega)]
  refine WP.loopI (fun (i : Nat) s => (i ≤ gs.length ∧ gliErr (gs.take i) (gs.drop i) = glyphsErr gs ∧ (lastName (gs.take i)).length ≤ 1) ∧ s.sl.length = 79 ∧ s.df = [] ∧ s.gh = {} ∧ (s.hp = h) ∧ evA s.sl (.tmp 0) = sliceOf cGlyph gs ∧ evA s.sl (.tmp 3) = .int .i64 i) (fun (i : Nat) => gs.length - i) (0) ?_ ?_
  · simp (implicitDefEqProofs := false) (dsimp := false) only [go_sem, Nat.zero_le]
    exact ⟨eg, by simp [lastName]⟩
  · rintro i ⟨sl, df, hp, gh⟩ ⟨ab, al, rfl, rfl, rfl, a0, a3⟩
    simp only at ab al a0 a3
    obtain ⟨j, rfl⟩ := slots_lit al; clear al; simp only [junk_succ, junk_zero, evA_tmp, nth_16, nth_four, nth_one, nth_zero, Nat.zero_add, Nat.reduceAdd] at  a0 a3 ⊢
    refine wp_ok (so := { cut := [24, 32, 42] }) mixed _ (by kernel_rfl) ?_
    obtain ⟨ab, aq, hlen⟩ := ab
    by_cases hi : i < gs.length
    · rw [drop_get hi] at aq
      have htl : (gs.take i).length = i := by simp; omega
      have hne : gs.take i = [] ↔ i = 0 := by rw [← List.length_eq_zero_iff, htl]
      have hnil : i = 0 → gs.take i = [] := fun e => by rw [e]; rfl
      have w : i ≠ 0 → IntKind.i64.wrap ((i : Int) - 1) = ((i - 1 : Nat) : Int) := fun e => by rw [wrap64 (by omega) (by omega)]; omega
      by_cases h0 : i = 0
      case' pos =>
        have e1 : ((i : Int) > 0) = False := eq_false (by omega)
        simp (implicitDefEqProofs := false) (dsimp := false) only [go_sem, a0, a3, nat_lt hi, decide_true, decide_false, rowN cGlyph_len hi, rowN_le cGlyph_len hi, hi, cGlyph, e1]
        refine ⟨fun d1 => by rw [← aq, gliErr, if_pos (.inl (by intro e; rw [e] at d1; simp at d1))], fun d1 => ?_⟩
        have hl1 : gs[i].name.length = 1 := by have := eq_of_beq (by simpa [bne] using d1 : ((gs[i].name.length : Int) == 1) = true); omega
        refine ⟨by omega, fun d2 => by rw [← aq, gliErr, if_pos (.inr (.inl d2))], fun d2 => ⟨by omega, fun d3 => by rw [← aq, gliErr, if_pos (.inr (.inr (by simpa using d3)))], fun d3 => ?_⟩⟩
        have Q5 : ¬ (gs.take i ≠ [] ∧ (Op.bytesLess gs[i].name (lastName (gs.take i)) || gs[i].name == lastName (gs.take i)) = true) := fun e => e.1 (hnil h0)
      case' neg =>
        have e1 : ((i : Int) > 0) = True := eq_true (by omega)
        have hi1 : i - 1 < gs.length := by omega
        have hlast : gs[i - 1].name = lastName (gs.take i) := by
          unfold lastName
          rw [List.getLastD_eq_getLast?, List.getLast?_eq_getElem?, htl, List.getElem?_eq_getElem (by omega)]; simp
        simp (implicitDefEqProofs := false) (dsimp := false) only [go_sem, a0, a3, nat_lt hi, decide_true, decide_false, rowN cGlyph_len hi, rowN_le cGlyph_len hi, hi, cGlyph, e1, w h0, nat_lt hi1, rowN cGlyph_len hi1, rowN_le cGlyph_len hi1]
        refine ⟨fun d1 => by rw [← aq, gliErr, if_pos (.inl (by intro e; rw [e] at d1; simp at d1))], fun d1 => ?_⟩
        have hl1 : gs[i].name.length = 1 := by have := eq_of_beq (by simpa [bne] using d1 : ((gs[i].name.length : Int) == 1) = true); omega
        refine ⟨by omega, fun d2 => by rw [← aq, gliErr, if_pos (.inr (.inl d2))], fun d2 => ⟨by omega, fun d3 => by rw [← aq, gliErr, if_pos (.inr (.inr (by simpa using d3)))], fun d3 => ?_⟩⟩
        have p2' : ¬ (gs[i].name.length ≠ 1 ∨ Op.bytesLess gs[i].name [97] = true ∨ (Op.bytesLess gs[i].name [122] || gs[i].name == [122]) = false) := by
          rintro (e | e | e)
          · exact e hl1
          · rw [d2] at e; cases e
          · rw [e] at d3; cases d3
        rw [hlast]
        refine ⟨by omega, fun d4 => by rw [← aq, gliErr, if_neg p2', if_pos ⟨by rw [ne_eq, hne]; exact h0, d4⟩], fun d4 => ?_⟩
        have Q5 : ¬ (gs.take i ≠ [] ∧ (Op.bytesLess gs[i].name (lastName (gs.take i)) || gs[i].name == lastName (gs.take i)) = true) := by
          rintro ⟨_, e⟩
          rw [d4] at e; cases e
      all_goals
        have p2 : ¬ (gs[i].name.length ≠ 1 ∨ Op.bytesLess gs[i].name [97] = true ∨ (Op.bytesLess gs[i].name [122] || gs[i].name == [122]) = false) := by
          rintro (e | e | e)
          · exact e hl1
          · rw [d2] at e; cases e
          · rw [e] at d3; cases d3
        (first | refine CallsA.use (within_ok gs[i].strokes 1 63) ?_ | refine QuietCalls.use (within_ok gs[i].strokes 1 63) ?_)
        cases q6 : (decide ((1 : Int) ≤ gs[i].strokes) && decide (gs[i].strokes ≤ 63)) with
        | false =>
          simp (implicitDefEqProofs := false) (dsimp := false) only [go_sem]
          rw [← aq, gliErr, if_neg p2, if_neg Q5, if_pos (by simp only [Bool.and_eq_false_iff, decide_eq_false_iff_not] at q6; omega)]
        | true =>
          simp only [Bool.and_eq_true, decide_eq_true_eq] at q6
          simp (implicitDefEqProofs := false) (dsimp := false) only [go_sem]
          refine WP.loopI (fun (x : Nat) s => (x ≤ i ∧ ∀ q (hq : q < gs.length), q < x → gs[q].strokes ≠ gs[i].strokes) ∧ s.sl.length = 79 ∧ s.df = [] ∧ s.gh = {} ∧ (s.hp = hp) ∧ evA s.sl (.tmp 0) = sliceOf cGlyph gs ∧ evA s.sl (.tmp 3) = .int .i64 i ∧ evA s.sl (.tmp 4) = .int .i64 x) (fun (x : Nat) => i - x) (0) ?_ ?_
          · simp (implicitDefEqProofs := false) (dsimp := false) only [go_sem, Nat.zero_le]
            exact fun q hq e => by omega
          · rintro x ⟨sl, df, hp, gh⟩ ⟨cb, cl, rfl, rfl, rfl, c0, c3, c4⟩
            simp only at cb cl c0 c3 c4
            obtain ⟨j, rfl⟩ := slots_lit cl; clear cl; simp only [junk_succ, junk_zero, evA_tmp, nth_16, nth_four, nth_one, nth_zero, Nat.zero_add, Nat.reduceAdd] at  c0 c3 c4 ⊢
            refine wp_ok (so := { cut := [24, 32, 42] }) mixed _ (by kernel_rfl) ?_
            obtain ⟨cb, cq⟩ := cb
            by_cases hx : x < i
            · have hx' : x < gs.length := by omega
              simp (implicitDefEqProofs := false) (dsimp := false) only [go_sem, c0, c3, c4, nat_lt hx, nat_lt hx', nat_lt hi, decide_true, rowN cGlyph_len hi, rowN_le cGlyph_len hi, rowN cGlyph_len hx', rowN_le cGlyph_len hx', cGlyph]
              refine ⟨fun e => ?_, fun e => ⟨x + 1, ⟨⟨by omega, fun q hq h3 => ?_⟩, wrap_succ (by omega)⟩, by omega⟩⟩
              · have : (gs.take i).any (fun x => x.strokes == gs[i].strokes) = true := by
                  rw [List.any_eq_true]
                  refine ⟨gs[x], List.mem_take_iff_getElem.2 ⟨x, by omega, rfl⟩, by simpa using e⟩
                rw [← aq, gliErr, if_neg p2, if_neg Q5, if_neg (by omega), if_pos this]
              · by_cases e3 : q = x
                · subst e3; exact by simpa using e
                · exact cq q hq (by omega)
            · have hs : ((x : Int) < (i : Int)) = False := eq_false (by omega)
              simp (implicitDefEqProofs := false) (dsimp := false) only [go_sem, c0, c3, c4, hs, decide_false]
              have d8 : (gs.take i).any (fun x => x.strokes == gs[i].strokes) = false := by
                rw [List.any_eq_false]
                intro y hy
                obtain ⟨q, hq, rfl⟩ := List.mem_take_iff_getElem.1 hy
                have := cq q (by omega) (by omega)
                simpa using this
              refine ⟨i + 1, ⟨⟨by omega, ?_, ?_⟩, wrap_succ (by omega)⟩, by omega⟩
              · rw [← aq]
                conv => rhs; rw [gliErr, if_neg p2, if_neg Q5, if_neg (by omega), if_neg (by rw [d8]; decide)]
                rw [List.take_add_one, List.getElem?_eq_getElem hi]; rfl
              · rw [List.take_add_one, List.getElem?_eq_getElem hi]
                simp only [lastName, Option.toList_some, List.getLastD_concat]; omega
    · have hs : ((i : Int) < (gs.length : Int)) = False := eq_false (by omega)
      simp (implicitDefEqProofs := false) (dsimp := false) only [go_sem, a0, a3, hs, decide_false]
      rw [List.drop_eq_nil_of_le (by omega)] at aq
      exact aq
theorem RcheckLights_ok : PureA Tryz.prog 121 [.psl [.nilsl] 1] (.int .i64 0) := by
  refine PureA.of_wpp { cut := [37] } 54 mixed Tryz.func121 (by kernel_rfl) rfl (by kernel_rfl) (rfl) fun h j hB => ?_
  simp only [junk_succ, junk_zero, List.cons_append, List.nil_append, List.length_cons, List.length_nil, Nat.reduceAdd]
  simp (implicitDefEqProofs := false) (dsimp := false) only [go_sem]
  refine WP.loopI (fun (i : Nat) s => (i ≤ 1) ∧ s.sl.length = 55 ∧ s.df = [] ∧ s.gh = {} ∧ (s.hp = h) ∧ evA s.sl (.tmp 0) = .psl [.nilsl] 1 ∧ evA s.sl (.tmp 3) = .int .i64 i) (fun (i : Nat) => 1 - i) (0) ?_ ?_
  · simp (implicitDefEqProofs := false) (dsimp := false) only [go_sem, Nat.zero_le]
  · rintro i ⟨sl, df, hp, gh⟩ ⟨ab, al, rfl, rfl, rfl, a0, a3⟩
    simp only at ab al a0 a3
    obtain ⟨j, rfl⟩ := slots_lit al; clear al; simp only [junk_succ, junk_zero, evA_tmp, nth_16, nth_four, nth_one, nth_zero, Nat.zero_add, Nat.reduceAdd] at  a0 a3 ⊢
    refine wp_ok (so := { cut := [37] }) mixed _ (by kernel_rfl) ?_
    by_cases hi : i = 0
    · subst hi
      simp (implicitDefEqProofs := false) (dsimp := false) only [go_sem, a0, a3]
      refine WP.loopI (fun (x : Nat) s => (x = 0) ∧ s.sl.length = 55 ∧ s.df = [] ∧ s.gh = {} ∧ (s.hp = hp) ∧ evA s.sl (.tmp 0) = .psl [.nilsl] 1 ∧ evA s.sl (.tmp 3) = .int .i64 0 ∧ evA s.sl (.tmp 4) = .int .i64 0) (fun (x : Nat) => 0) (0) ?_ ?_
      · simp (implicitDefEqProofs := false) (dsimp := false) only [go_sem, a0, a3]
      · rintro x ⟨sl, df, hp, gh⟩ ⟨cb, cl, rfl, rfl, rfl, c0, c3, c4⟩
        simp only at cb cl c0 c3 c4
        obtain ⟨j, rfl⟩ := slots_lit cl; clear cl; simp only [junk_succ, junk_zero, evA_tmp, nth_16, nth_four, nth_one, nth_zero, Nat.zero_add, Nat.reduceAdd] at  c0 c3 c4 ⊢
        refine wp_ok (so := { cut := [37] }) mixed _ (by kernel_rfl) ?_
        simp (implicitDefEqProofs := false) (dsimp := false) only [go_sem, c0, c3, c4]
        exact ⟨1, by decide⟩
    · have : i = 1 := by omega
      subst this
      simp (implicitDefEqProofs := false) (dsimp := false) only [go_sem, a0, a3]
theorem R3Check_ok (gs : List Glyph) : PureA Tryz.prog 83 [sheetA gs] (.int .i64 (glyphsErr gs)) := by
  refine PureA.of_wpp {} 67 mixed Tryz.func83 (by kernel_rfl) rfl (by kernel_rfl) (rfl) fun h j hB => ?_
  simp only [junk_succ, junk_zero, List.cons_append, List.nil_append, List.length_cons, List.length_nil, Nat.reduceAdd]
  simp (implicitDefEqProofs := false) (dsimp := false) only [go_sem, sheetA]
  (first | refine CallsA.use (RcheckGlyphs_ok gs) ?_ | refine QuietCalls.use (RcheckGlyphs_ok gs) ?_)
  simp (implicitDefEqProofs := false) (dsimp := false) only [go_sem, sheetA]
  intro e0
  have e0' : glyphsErr gs = 0 := by simpa using e0
  (first | refine CallsA.use (RcheckLights_ok) ?_ | refine QuietCalls.use (RcheckLights_ok) ?_)
  simp (implicitDefEqProofs := false) (dsimp := false) only [go_sem, sheetA]
  refine WP.loopI (fun (i : Nat) s => (i = 0) ∧ s.sl.length = 68 ∧ s.df = [] ∧ s.gh = {} ∧ (s.hp = h ++ [.cells 0 [sliceOf cGlyph gs, .psl [.nilsl] 1, .nilsl]]) ∧ evA s.sl (.tmp 1) = .ptr ⟨h.length, 0⟩ 0 ∧ evA s.sl (.tmp 5) = .int .i64 0) (fun (i : Nat) => 0) (0) ?_ ?_
  · simp (implicitDefEqProofs := false) (dsimp := false) only [go_sem]
  · rintro i ⟨sl, df, hp, gh⟩ ⟨ab, al, rfl, rfl, rfl, a1, a5⟩
    simp only at ab al a1 a5
    obtain ⟨j, rfl⟩ := slots_lit al; clear al; simp only [junk_succ, junk_zero, evA_tmp, nth_16, nth_four, nth_one, nth_zero, Nat.zero_add, Nat.reduceAdd] at  a1 a5 ⊢
    refine wp_ok (so := {}) mixed _ (by kernel_rfl) ?_
    simp (implicitDefEqProofs := false) (dsimp := false) only [go_sem, a1, a5]
    exact e0'.symm
theorem tr_get00 {p : List (List Trace)} (h : 0 < p.length) : (p.flatMap cTraces).drop 0 = sliceOf cTrace (p.headD []) :: (p.drop 1).flatMap cTraces := by
  rw [headD_get h]
  have := row1 cTraces_len h
  rw [this]; rfl
theorem tr_len1 (p : List (List Trace)) : (p.flatMap cTraces).length = p.length := rows_length (fun _ => rfl) p
theorem RcheckCells_ok (cs : List (List Trace)) : PureA Tryz.prog 85 [sliceOf cTraces cs] (.int .i64 (cellsErr cs)) := by
  refine PureA.of_wpp { cut := [60] } 71 mixed Tryz.func85 (by kernel_rfl) rfl (by kernel_rfl) (rfl) fun h j hB => ?_
  simp only [junk_succ, junk_zero, List.cons_append, List.nil_append, List.length_cons, List.length_nil, Nat.reduceAdd]
  simp (implicitDefEqProofs := false) (dsimp := false) only [go_sem]
  refine ⟨fun c0 => ?_, fun c0 => ⟨fun c1 => ?_, fun c1 => ?_⟩⟩
  · have : cs.length = 0 := by omega
    simp [cellsErr, sizedB, this]
  · have h1 : ¬ ((cs.length : Int) < 1) := by omega
    have h2 : (3 : Int) < cs.length := c1
    simp [cellsErr, sizedB, h1, h2]
  have hne : cs.length ≠ 0 := by intro e; rw [e] at c0; simp at c0
  have h3 : ¬ (3 : Int) < cs.length := c1
  have hz : sizedB cs.length 3 = 0 := by rw [sizedB, if_neg (by omega), if_neg h3]
  have eg : cellRowsErr (cs.headD []).length cs = cellsErr cs := by simp only [cellsErr, hz, ne_eq, not_true_eq_false, if_false]
  have hp0 : 0 < cs.length := by omega
  refine WP.loopI (fun (i : Nat) s => (i ≤ cs.length ∧ cellRowsErr (cs.headD []).length (cs.drop i) = cellsErr cs) ∧ s.sl.length = 72 ∧ s.df = [] ∧ s.gh = {} ∧ (∃ J, s.hp = h ++ J) ∧ evA s.sl (.tmp 0) = sliceOf cTraces cs ∧ evA s.sl (.tmp 3) = .int .i64 i) (fun (i : Nat) => cs.length - i) (0) ?_ ?_
  · simp (implicitDefEqProofs := false) (dsimp := false) only [go_sem, Nat.zero_le, List.drop_zero]
    exact eg
  · rintro i ⟨sl, df, hp, gh⟩ ⟨ab, al, rfl, rfl, ah, a0, a3⟩
    simp only at ab al ah a0 a3
    obtain ⟨j, rfl⟩ := slots_lit al; clear al; simp only [junk_succ, junk_zero, evA_tmp, nth_16, nth_four, nth_one, nth_zero, Nat.zero_add, Nat.reduceAdd] at  a0 a3 ⊢
    refine wp_ok (so := { cut := [60] }) mixed _ (by kernel_rfl) ?_
    obtain ⟨J, rfl⟩ := ah
    obtain ⟨ab, aq⟩ := ab
    by_cases hi : i < cs.length
    · rw [drop_get hi] at aq
      simp (implicitDefEqProofs := false) (dsimp := false) only [go_sem, a0, a3, nat_lt hi, decide_true, row1 cTraces_len hi, row1_le cTraces_len hi, cTraces, tr_get00 hp0, tr_len1, nat_lt hp0]
      refine ⟨by omega, fun d1 => ?_, fun d1 => ⟨by omega, fun d2 => ?_, fun d2 => ⟨by omega, ⟨by omega, by omega⟩, fun d3 => ?_, fun d3 => ?_⟩⟩⟩
      · have : cs[i].length = 0 := by omega
        rw [← aq, cellRowsErr, if_pos (by simp [sizedB, this])]; simp [sizedB, this]
      · have n1 : ¬ ((cs[i].length : Int) < 1) := by omega
        have n2 : (4 : Int) < cs[i].length := d2
        have : sizedB cs[i].length 4 = 6 := by rw [sizedB, if_neg n1, if_pos n2]
        rw [← aq, cellRowsErr, if_pos (by rw [this]; decide), this]
      · have n1 : cs[i].length ≠ 0 := by intro e; rw [e] at d1; simp at d1
        have hz : sizedB cs[i].length 4 = 0 := by rw [sizedB, if_neg (by omega), if_neg (by omega)]
        have n3 : cs[i].length ≠ (cs.headD []).length := by intro e; rw [e] at d3; simp at d3
        rw [← aq, cellRowsErr, if_neg (by rw [hz]; decide), if_pos n3]
      have n1 : cs[i].length ≠ 0 := by intro e; rw [e] at d1; simp at d1
      have hz : sizedB cs[i].length 4 = 0 := by rw [sizedB, if_neg (by omega), if_neg (by omega)]
      have n3 : cs[i].length = (cs.headD []).length := by
        have : (cs[i].length : Int) = (cs.headD []).length := by simpa using d3
        omega
      refine WP.loopI (fun (x : Nat) s => (x ≤ cs[i].length ∧ tracesErr (cs[i].drop x) = tracesErr cs[i]) ∧ s.sl.length = 72 ∧ s.df = [] ∧ s.gh = {} ∧ (∃ J, s.hp = h ++ J) ∧ evA s.sl (.tmp 0) = sliceOf cTraces cs ∧ evA s.sl (.tmp 3) = .int .i64 i ∧ evA s.sl (.tmp 4) = .int .i64 x) (fun (x : Nat) => cs[i].length - x) (0) ?_ ?_
      · simp (implicitDefEqProofs := false) (dsimp := false) only [go_sem, Nat.zero_le, List.drop_zero]
      · rintro x ⟨sl, df, hp, gh⟩ ⟨cb, cl, rfl, rfl, ch, c0, c3, c4⟩
        simp only at cb cl ch c0 c3 c4
        obtain ⟨j, rfl⟩ := slots_lit cl; clear cl; simp only [junk_succ, junk_zero, evA_tmp, nth_16, nth_four, nth_one, nth_zero, Nat.zero_add, Nat.reduceAdd] at  c0 c3 c4 ⊢
        refine wp_ok (so := { cut := [60] }) mixed _ (by kernel_rfl) ?_
        obtain ⟨J, rfl⟩ := ch
        obtain ⟨cb, cq⟩ := cb
        by_cases hx : x < cs[i].length
        · rw [drop_get hx] at cq
          simp (implicitDefEqProofs := false) (dsimp := false) only [go_sem, c0, c3, c4, nat_lt hx, nat_lt hi, decide_true, row1 cTraces_len hi, row1_le cTraces_len hi, cTraces, rowN cTrace_len hx, rowN_le cTrace_len hx, cTrace]
          (first | refine CallsA.use (inside_ok cs[i][x].seen 0 63) ?_ | refine QuietCalls.use (inside_ok cs[i][x].seen 0 63) ?_)
          cases q1 : (decide ((0 : Int) ≤ cs[i][x].seen) && decide (cs[i][x].seen ≤ 63)) with
          | false =>
            simp (implicitDefEqProofs := false) (dsimp := false) only [go_sem]
            have t1 : traceErr cs[i][x] = 1 := by rw [traceErr, if_pos (by simp only [Bool.and_eq_false_iff, decide_eq_false_iff_not] at q1; omega)]
            rw [← aq, cellRowsErr_trace hz n3 (by rw [← cq, tracesErr_no (by rw [t1]; decide), t1]; decide), ← cq, tracesErr_no (by rw [t1]; decide), t1]
          | true =>
            simp only [Bool.and_eq_true, decide_eq_true_eq] at q1
            simp (implicitDefEqProofs := false) (dsimp := false) only [go_sem]
            (first | refine CallsA.use (inside_ok cs[i][x].bare 0 63) ?_ | refine QuietCalls.use (inside_ok cs[i][x].bare 0 63) ?_)
            cases q2 : (decide ((0 : Int) ≤ cs[i][x].bare) && decide (cs[i][x].bare ≤ 63)) with
            | false =>
              simp (implicitDefEqProofs := false) (dsimp := false) only [go_sem]
              have t1 : traceErr cs[i][x] = 1 := by rw [traceErr, if_pos (by simp only [Bool.and_eq_false_iff, decide_eq_false_iff_not] at q2; omega)]
              rw [← aq, cellRowsErr_trace hz n3 (by rw [← cq, tracesErr_no (by rw [t1]; decide), t1]; decide), ← cq, tracesErr_no (by rw [t1]; decide), t1]
            | true =>
              simp only [Bool.and_eq_true, decide_eq_true_eq] at q2
              simp (implicitDefEqProofs := false) (dsimp := false) only [go_sem]
              refine ⟨fun e => ?_, fun e => ⟨x + 1, ⟨⟨by omega, ?_⟩, wrap_succ (by omega)⟩, by omega⟩⟩
              · have t1 : traceErr cs[i][x] = 9 := by rw [traceErr, if_neg (by omega), if_pos (by simpa using e)]
                rw [← aq, cellRowsErr_trace hz n3 (by rw [← cq, tracesErr_no (by rw [t1]; decide), t1]; decide), ← cq, tracesErr_no (by rw [t1]; decide), t1]
              · have t1 : traceErr cs[i][x] = 0 := by rw [traceErr, if_neg (by omega), if_neg (by simpa using e)]
                rw [← cq, tracesErr_fine t1]
        · have hs : ((x : Int) < (cs[i].length : Int)) = False := eq_false (by omega)
          rw [List.drop_eq_nil_of_le (by omega)] at cq
          simp (implicitDefEqProofs := false) (dsimp := false) only [go_sem, c0, c3, c4, nat_lt hi, row1 cTraces_len hi, row1_le cTraces_len hi, cTraces, hs, decide_false]
          refine ⟨i + 1, ⟨⟨by omega, ?_⟩, wrap_succ (by omega)⟩, by omega⟩
          rw [← aq, cellRowsErr_fine hz n3 (by rw [← cq]; rfl)]
    · have hs : ((i : Int) < (cs.length : Int)) = False := eq_false (by omega)
      simp (implicitDefEqProofs := false) (dsimp := false) only [go_sem, a0, a3, hs, decide_false]
      rw [List.drop_eq_nil_of_le (by omega)] at aq
      exact aq
theorem RCheck_ok (b : Board) : PureA Tryz.prog 33 [.agg (brdA b)] (.int .i64 (boardErr b)) := by
  refine PureA.of_wpp { shut := [8] } 42 mixed Tryz.func33 (by kernel_rfl) rfl (by kernel_rfl) (rfl) fun h j hB => ?_
  simp only [junk_succ, junk_zero, List.cons_append, List.nil_append, List.length_cons, List.length_nil, Nat.reduceAdd]
  simp (implicitDefEqProofs := false) (dsimp := false) only [go_sem, brdA]
  (first | refine CallsA.use (R3Check_ok b.glyphs) ?_ | refine QuietCalls.use (R3Check_ok b.glyphs) ?_)
  simp (implicitDefEqProofs := false) (dsimp := false) only [go_sem, brdA]
  refine ⟨fun c0 => ?_, fun c0 => ⟨fun c1 => ?_, fun c1 => ⟨fun c2 => ?_, fun c2 => ?_⟩⟩⟩
  · rw [boardErr, if_pos (by simpa using c0)]
  · have e0 : glyphsErr b.glyphs = 0 := by simpa using c0
    have : sizedB b.pages.length 4 = 7 := by rw [sizedB, if_pos (by omega)]
    rw [boardErr, if_neg (by rw [e0]; decide), if_pos (by rw [this]; decide), this]
  · have e0 : glyphsErr b.glyphs = 0 := by simpa using c0
    have hne : b.pages.length ≠ 0 := by intro e; rw [e] at c1; simp at c1
    have : sizedB b.pages.length 4 = 6 := by rw [sizedB, if_neg (by omega), if_pos (by omega)]
    rw [boardErr, if_neg (by rw [e0]; decide), if_pos (by rw [this]; decide), this]
  have e0 : glyphsErr b.glyphs = 0 := by simpa using c0
  have okg := okGlyphs.of e0
  have hne : b.pages.length ≠ 0 := by intro e; rw [e] at c1; simp at c1
  have hz : sizedB b.pages.length 4 = 0 := by rw [sizedB, if_neg (by omega), if_neg (by omega)]
  have eb : boardErr b = if pagesErr (mapB b.glyphs) b.pages ≠ 0 then pagesErr (mapB b.glyphs) b.pages else cellsErr b.cells := by
    rw [boardErr, if_neg (by rw [e0]; decide), if_neg (by rw [hz]; decide)]
  refine WP.loopI (fun (i : Nat) s => (i ≤ b.pages.length ∧ pagesErr (mapB b.glyphs) (b.pages.drop i) = pagesErr (mapB b.glyphs) b.pages) ∧ s.sl.length = 43 ∧ s.df = [] ∧ s.gh = {} ∧ (s.hp = h ++ [.cells 0 (brdA b)]) ∧ evA s.sl (.tmp 1) = .ptr ⟨h.length, 0⟩ 0 ∧ evA s.sl (.tmp 4) = .int .i64 i) (fun (i : Nat) => b.pages.length - i) (0) ?_ ?_
  · simp (implicitDefEqProofs := false) (dsimp := false) only [go_sem, brdA, Nat.zero_le, List.drop_zero]
  · rintro i ⟨sl, df, hp, gh⟩ ⟨ab, al, rfl, rfl, rfl, a1, a4⟩
    simp only at ab al a1 a4
    obtain ⟨j, rfl⟩ := slots_lit al; clear al; simp only [junk_succ, junk_zero, evA_tmp, nth_16, nth_four, nth_one, nth_zero, Nat.zero_add, Nat.reduceAdd] at  a1 a4 ⊢
    refine wp_ok (so := { shut := [8] }) mixed _ (by kernel_rfl) ?_
    obtain ⟨ab, aq⟩ := ab
    by_cases hi : i < b.pages.length
    · rw [drop_get hi, pagesErr] at aq
      simp (implicitDefEqProofs := false) (dsimp := false) only [go_sem, a1, a4, brdA, nat_lt hi, decide_true, row1 cPage_len hi, row1_le cPage_len hi, cPage]
      (first | refine CallsA.use (RcheckPage_ok b.glyphs okg b.pages[i]) ?_ | refine QuietCalls.use (RcheckPage_ok b.glyphs okg b.pages[i]) ?_)
      simp (implicitDefEqProofs := false) (dsimp := false) only [go_sem]
      refine ⟨fun e => ?_, fun e => ⟨i + 1, ⟨⟨by omega, ?_⟩, rfl, wrap_succ (by omega)⟩, by omega⟩⟩
      · have e' : pageErr (mapB b.glyphs) b.pages[i] ≠ 0 := by simpa using e
        rw [if_pos e'] at aq
        rw [eb, ← aq, if_pos e']
      · have e' : pageErr (mapB b.glyphs) b.pages[i] = 0 := by simpa using e
        rw [if_neg (by rw [e']; decide)] at aq
        exact aq
    · have hs : ((i : Int) < (b.pages.length : Int)) = False := eq_false (by omega)
      rw [List.drop_eq_nil_of_le (by omega)] at aq
      simp (implicitDefEqProofs := false) (dsimp := false) only [go_sem, a1, a4, brdA, hs, decide_false]
      (first | refine CallsA.use (RcheckCells_ok b.cells) ?_ | refine QuietCalls.use (RcheckCells_ok b.cells) ?_)
      simp (implicitDefEqProofs := false) (dsimp := false) only [go_sem]
      rw [eb, ← aq]; rfl
end Go.Mac
namespace Go.Mac
open Go Go.Conc Go.Proofs
set_option maxRecDepth 4000
theorem lay_at (p : Int) (t d r : Nat) (ht : t < 2) (hd : d < 3) (hr : r < 3) : layN p (9 * t + 3 * d + r) = ⟨p, decide (t = 1), (d : Int) - 1, (r : Int) - 1⟩ := by
  unfold layN
  have e1 : (9 * t + 3 * d + r) % 9 / 3 = d := by omega
  have e2 : (9 * t + 3 * d + r) % 3 = r := by omega
  rw [e1, e2]
  congr 1
  by_cases h : t = 1
  · subst h; simp; omega
  · have : t = 0 := by omega
    subst this; simp; omega
def wayTo (p : Int) (n : Nat) : List Lay := (List.range n).map (layN p)
theorem wayTo_succ (p : Int) (n : Nat) : wayTo p (n + 1) = wayTo p n ++ [layN p n] := by simp [wayTo, List.range_succ]
theorem wayTo_length (p : Int) (n : Nat) : (wayTo p n).length = n := by simp [wayTo]
theorem Rways_ok (p : Int) : PureA Tryz.prog 65 [.int .i64 p] (sliceOf cLay (wayTo p 18)) := by
  refine PureA.of_wps [2] { shut := [26] } 28 mixed Tryz.func65 (by kernel_rfl) rfl (by kernel_rfl) (below_psl (fun _ => rfl) _) fun h j hB => ?_
  simp only [junk_succ, junk_zero, List.cons_append, List.nil_append, List.length_cons, List.length_nil, Nat.reduceAdd]
  simp (implicitDefEqProofs := false) (dsimp := false) only [go_sem]
  refine WPI.turn (Turns.nilSlot (d := 3) (sz := 4) ?_) ?_
  · simp (implicitDefEqProofs := false) (dsimp := false) only [go_sem]
  simp (implicitDefEqProofs := false) (dsimp := false) only [go_sem]
  refine WP.loopI (fun (t : Nat) s => (t ≤ 2) ∧ s.sl.length = 29 ∧ s.df = [] ∧ s.gh = {} ∧ (s.hp = h ++ [.cells (9 * t) ((wayTo p (9 * t)).flatMap cLay)]) ∧ evA s.sl (.tmp 0) = .int .i64 p ∧ evA s.sl (.tmp 3) = .sl ⟨h.length, 9 * t⟩ 4 0 (9 * t) ∧ evA s.sl (.tmp 4) = .int .i64 t) (fun (t : Nat) => 2 - t) (0) ?_ ?_
  · simp (implicitDefEqProofs := false) (dsimp := false) only [go_sem]
    simp [wayTo]
  · rintro t ⟨sl, df, hp, gh⟩ ⟨ab, al, rfl, rfl, rfl, a0, a3, a4⟩
    simp only at ab al a0 a3 a4
    obtain ⟨j, rfl⟩ := slots_lit al; clear al; simp only [junk_succ, junk_zero, evA_tmp, nth_16, nth_four, nth_one, nth_zero, Nat.zero_add, Nat.reduceAdd] at  a0 a3 a4 ⊢
    refine wp_ok (so := { shut := [26] }) mixed _ (by kernel_rfl) ?_
    by_cases ht : t < 2
    · have hs : ((t : Int) ≤ 1) = True := eq_true (by omega)
      simp (implicitDefEqProofs := false) (dsimp := false) only [go_sem, a0, a3, a4, hs, decide_true]
      refine WP.loopI (fun (d : Nat) s => (d ≤ 3) ∧ s.sl.length = 29 ∧ s.df = [] ∧ s.gh = {} ∧ (s.hp = h ++ [.cells (9 * t + 3 * d) ((wayTo p (9 * t + 3 * d)).flatMap cLay)]) ∧ evA s.sl (.tmp 0) = .int .i64 p ∧ evA s.sl (.tmp 3) = .sl ⟨h.length, 9 * t + 3 * d⟩ 4 0 (9 * t + 3 * d) ∧ evA s.sl (.tmp 4) = .int .i64 t ∧ evA s.sl (.tmp 5) = .int .i64 ((d : Int) - 1)) (fun (d : Nat) => 3 - d) (0) ?_ ?_
      · simp (implicitDefEqProofs := false) (dsimp := false) only [go_sem, Nat.mul_zero, Nat.add_zero]
        simp
      · rintro d ⟨sl, df, hp, gh⟩ ⟨cb, cl, rfl, rfl, rfl, c0, c3, c4, c5⟩
        simp only at cb cl c0 c3 c4 c5
        obtain ⟨j, rfl⟩ := slots_lit cl; clear cl; simp only [junk_succ, junk_zero, evA_tmp, nth_16, nth_four, nth_one, nth_zero, Nat.zero_add, Nat.reduceAdd] at  c0 c3 c4 c5 ⊢
        refine wp_ok (so := { shut := [26] }) mixed _ (by kernel_rfl) ?_
        by_cases hd : d < 3
        · have hs : ((d : Int) - 1 ≤ 1) = True := eq_true (by omega)
          simp (implicitDefEqProofs := false) (dsimp := false) only [go_sem, c0, c3, c4, c5, hs, decide_true]
          refine WP.loopI (fun (r : Nat) s => (r ≤ 3) ∧ s.sl.length = 29 ∧ s.df = [] ∧ s.gh = {} ∧ (s.hp = h ++ [.cells (9 * t + 3 * d + r) ((wayTo p (9 * t + 3 * d + r)).flatMap cLay)]) ∧ evA s.sl (.tmp 0) = .int .i64 p ∧ evA s.sl (.tmp 3) = .sl ⟨h.length, 9 * t + 3 * d + r⟩ 4 0 (9 * t + 3 * d + r) ∧ evA s.sl (.tmp 4) = .int .i64 t ∧ evA s.sl (.tmp 5) = .int .i64 ((d : Int) - 1) ∧ evA s.sl (.tmp 6) = .int .i64 ((r : Int) - 1)) (fun (r : Nat) => 3 - r) (0) ?_ ?_
          · simp (implicitDefEqProofs := false) (dsimp := false) only [go_sem, Nat.add_zero]
            simp
          · rintro r ⟨sl, df, hp, gh⟩ ⟨gb, gl, rfl, rfl, rfl, g0, g3, g4, g5, g6⟩
            simp only at gb gl g0 g3 g4 g5 g6
            obtain ⟨j, rfl⟩ := slots_lit gl; clear gl; simp only [junk_succ, junk_zero, evA_tmp, nth_16, nth_four, nth_one, nth_zero, Nat.zero_add, Nat.reduceAdd] at  g0 g3 g4 g5 g6 ⊢
            refine wp_ok (so := { shut := [26] }) mixed _ (by kernel_rfl) ?_
            by_cases hr : r < 3
            · have hs : ((r : Int) - 1 ≤ 1) = True := eq_true (by omega)
              simp (implicitDefEqProofs := false) (dsimp := false) only [go_sem, g0, g3, g4, g5, g6, hs, decide_true]
              have hn : ((wayTo p (9 * t + 3 * d + r)).flatMap cLay).length = (9 * t + 3 * d + r) * 4 := by rw [length_rows cLay_len, wayTo_length]
              refine ⟨⟨hn, by omega⟩, r + 1, ⟨⟨by omega, ⟨by omega, ?_⟩, by rw [Nat.add_assoc], by rw [wrap64 (by omega) (by omega)]; omega⟩, by omega⟩⟩
              have e1 : ((t : Int) == 1) = decide (t = 1) := by rw [Bool.eq_iff_iff]; simp; omega
              rw [← Nat.add_assoc, wayTo_succ, lay_at p t d r ht hd hr, e1]
              simp [cLay]
            · have hs : ((r : Int) - 1 ≤ 1) = False := eq_false (by omega)
              simp (implicitDefEqProofs := false) (dsimp := false) only [go_sem, g0, g3, g4, g5, g6, hs, decide_false]
              have : r = 3 := by omega
              subst this
              refine ⟨d + 1, ?_⟩
              rw [show 9 * t + 3 * (d + 1) = 9 * t + 3 * d + 3 by omega]
              refine ⟨⟨by omega, ⟨rfl, rfl⟩, rfl, by rw [wrap64 (by omega) (by omega)]; omega⟩, by omega⟩
        · have hs : ((d : Int) - 1 ≤ 1) = False := eq_false (by omega)
          simp (implicitDefEqProofs := false) (dsimp := false) only [go_sem, c0, c3, c4, c5, hs, decide_false]
          have : d = 3 := by omega
          subst this
          refine ⟨t + 1, ?_⟩
          rw [show 9 * (t + 1) = 9 * t + 3 * 3 by omega]
          refine ⟨⟨by omega, ⟨rfl, rfl⟩, rfl, wrap_succ (by omega)⟩, by omega⟩
    · have hs : ((t : Int) ≤ 1) = False := eq_false (by omega)
      have : t = 2 := by omega
      subst this
      simp (implicitDefEqProofs := false) (dsimp := false) only [go_sem, a0, a3, a4]
      rw [List.take_of_length_le (by rw [length_rows cLay_len, wayTo_length]; omega), wayTo_length]
end Go.Mac
namespace Go.Mac
open Go Go.Conc Go.Proofs
set_option maxRecDepth 4000
def wideB (b : Board) : Nat := (b.cells.headD []).length
end Go.Mac
namespace Go.Mac
open Go Go.Conc Go.Proofs
end Go.Mac
namespace Go.Mac
open Go Go.Conc Go.Proofs
set_option maxRecDepth 4000
end Go.Mac
namespace Go.Mac
open Go Go.Conc Go.Proofs
set_option maxRecDepth 4000
end Go.Mac
namespace Go.Mac
open Go Go.Conc Go.Proofs
def seenL (b : Board) (l : Lay) (r c : Nat) : Int := shownB (mapB b.glyphs) (b.pages.getD l.page.toNat []) l r c
end Go.Mac
namespace Go.Mac
open Go Go.Conc Go.Proofs
end Go.Mac
namespace Go.Mac
open Go Go.Conc Go.Proofs
def faceL (b : Board) (l : Lay) : List Int := faceB (mapB b.glyphs) (b.pages.getD l.page.toNat []) b.cells l
theorem faceL_get {b : Board} {l : Lay} {k : Nat} (hk : k < 12) : (faceL b l)[k]? = some (if k / 4 < b.cells.length ∧ k % 4 < wideB b then seenL b l (k / 4) (k % 4) else 0) := by
  unfold faceL faceB part12
  rw [List.getElem?_map, List.getElem?_range hk]
  simp only [Option.map_some, hk, if_true, faceAt]
  rfl
theorem faceL_len (b : Board) (l : Lay) : (faceL b l).length = 12 := by simp [faceL, faceB, part12]
theorem faces_mem {b : Board} {p : Nat} {y : List Int} : y ∈ facesOf b (mapB b.glyphs) p ↔ ∃ i, i < 18 ∧ y = faceL b (layK (18 * p + i)) := by
  have e : ∀ i, i < 18 → faceL b (layK (18 * p + i)) = (wayN b (mapB b.glyphs) p i).2 := fun i hi => by
    rw [layK, show (18 * p + i) / 18 = p by omega, show (18 * p + i) % 18 = i by omega]; rfl
  unfold facesOf ways
  rw [List.mem_map]
  constructor
  · rintro ⟨x, hx, rfl⟩
    obtain ⟨i, hi, rfl⟩ := List.mem_map.1 hx
    have hi := List.mem_range.1 hi
    exact ⟨i, hi, (e i hi).symm⟩
  · rintro ⟨i, hi, rfl⟩
    exact ⟨_, List.mem_map.2 ⟨i, List.mem_range.2 hi, rfl⟩, (e i hi).symm⟩
end Go.Mac
namespace Go.Mac
open Go Go.Conc Go.Proofs
set_option maxRecDepth 4000
def eqTo (b : Board) (l k : Lay) (n : Nat) : Prop := ∀ j, j < n → j % 4 < wideB b → seenL b l (j / 4) (j % 4) = seenL b k (j / 4) (j % 4)
def nzT (b : Board) (l : Lay) : Nat → Bool
  | 0 => false
  | j + 1 => nzT b l j || (decide (j % 4 < wideB b) && seenL b l (j / 4) (j % 4) != 0)
theorem nzT_iff {b : Board} {l : Lay} : ∀ {n}, nzT b l n = true ↔ ∃ j, j < n ∧ j % 4 < wideB b ∧ seenL b l (j / 4) (j % 4) ≠ 0
  | 0 => by simp [nzT]
  | n + 1 => by
    rw [nzT, Bool.or_eq_true, nzT_iff, Bool.and_eq_true, decide_eq_true_eq, bne_iff_ne]
    constructor
    · rintro (⟨c, h1, h2⟩ | h)
      · exact ⟨c, by omega, h2⟩
      · exact ⟨n, by omega, h⟩
    · rintro ⟨c, h1, h2⟩
      by_cases e : c = n
      · subst e; exact .inr h2
      · exact .inl ⟨c, by omega, h2⟩
theorem nzT_skip {b : Board} {l : Lay} {n : Nat} : ∀ {m : Nat}, (∀ k, n ≤ k → k < n + m → ¬ k % 4 < wideB b) → nzT b l (n + m) = nzT b l n
  | 0, _ => rfl
  | m + 1, h => by
    rw [← Nat.add_assoc, nzT, nzT_skip (m := m) fun k h1 h2 => h k h1 (by omega)]
    simp [h (n + m) (by omega) (by omega)]
def alikeL (b : Board) (l k : Lay) : Bool := faceL b l == faceL b k && faceL b l != z12
theorem faceL_of {b : Board} (okc : okCells b.cells) {l k : Lay} (h : eqTo b l k (4 * b.cells.length)) : faceL b l = faceL b k := by
  apply List.ext_getElem?
  intro j
  by_cases hj : j < 12
  · rw [faceL_get hj, faceL_get hj]
    by_cases hin : j / 4 < b.cells.length ∧ j % 4 < wideB b
    · rw [if_pos hin, if_pos hin, h j (by omega) hin.2]
    · rw [if_neg hin, if_neg hin]
  · rw [List.getElem?_eq_none (by rw [faceL_len]; omega), List.getElem?_eq_none (by rw [faceL_len]; omega)]
theorem faceL_at {b : Board} (okc : okCells b.cells) {l k : Lay} (h : faceL b l = faceL b k) {j : Nat} (h1 : j < 4 * b.cells.length) (h2 : j % 4 < wideB b) : seenL b l (j / 4) (j % 4) = seenL b k (j / 4) (j % 4) := by
  have h3 := okc.most
  have := congrArg (fun f => f[j]?) h
  rw [faceL_get (by omega), faceL_get (by omega), if_pos ⟨by omega, h2⟩, if_pos ⟨by omega, h2⟩] at this
  exact Option.some.inj this
theorem faceL_z {b : Board} (okc : okCells b.cells) {l : Lay} : nzT b l (4 * b.cells.length) = (faceL b l != z12) := by
  have h3 := okc.most
  have hz : ∀ k, k < 12 → z12[k]? = some 0 := by decide
  rw [Bool.eq_iff_iff, nzT_iff, bne_iff_ne]
  constructor
  · rintro ⟨j, h1, h2, h4⟩ e
    have := congrArg (fun f => f[j]?) e
    rw [faceL_get (by omega), hz _ (by omega), if_pos ⟨by omega, h2⟩] at this
    exact h4 (Option.some.inj this)
  · intro h
    refine Classical.byContradiction fun hn => h ?_
    apply List.ext_getElem?
    intro j
    by_cases hj : j < 12
    · rw [faceL_get hj, hz j hj]
      by_cases hin : j / 4 < b.cells.length ∧ j % 4 < wideB b
      · rw [if_pos hin]
        have : seenL b l (j / 4) (j % 4) = 0 := Classical.byContradiction fun q => hn ⟨j, by omega, hin.2, q⟩
        rw [this]
      · rw [if_neg hin]
    · rw [List.getElem?_eq_none (by rw [faceL_len]; omega), List.getElem?_eq_none (by simp [z12]; omega)]
structure wayOk (b : Board) (l : Lay) (p : Nat) : Prop where
  page : l.page = p
  lt : p < b.pages.length
  d : -1 ≤ l.down ∧ l.down ≤ 1
  r : -1 ≤ l.right ∧ l.right ≤ 1
theorem wayOk.seen {b : Board} {l : Lay} {p : Nat} (h : wayOk b l p) (r c : Nat) : shownB (mapB b.glyphs) (b.pages[p]'h.lt) l r c = seenL b l r c := by
  have := h.lt
  simp [seenL, h.page, List.getD, this]
theorem wayOk.of {b : Board} {p n : Nat} (hp : p < b.pages.length) : wayOk b (layN p n) p := ⟨rfl, hp, by simp only [layN]; omega, by simp only [layN]; omega⟩
theorem Ralike_ok (b : Board) (okg : okGlyphs b.glyphs) (ok : okBoard b) (l k : Lay) (p q : Nat) (hl : wayOk b l p) (hk : wayOk b k q) : PureA Tryz.prog 67 [.agg (brdA b), .agg (cLay l), .agg (cLay k)] (.bool (alikeL b l k)) := by
  refine PureA.of_wpp { cut := [41] } 43 mixed Tryz.func67 (by kernel_rfl) rfl (by kernel_rfl) (rfl) fun h j hB => ?_
  simp only [junk_succ, junk_zero, List.cons_append, List.nil_append, List.length_cons, List.length_nil, Nat.reduceAdd]
  have okc := ok.cells
  have h3 := okc.most
  have h4 : wideB b ≤ 4 := okc.wmost
  have h4' : (b.cells.headD []).length ≤ 4 := okc.wmost
  have hp := hl.lt
  have hq := hk.lt
  have ld := hl.d
  have lr := hl.r
  have kd := hk.d
  have kr := hk.r
  simp (implicitDefEqProofs := false) (dsimp := false) only [go_sem, brdA, cLay]
  refine WP.loopI (fun (i : Nat) s => (i ≤ b.cells.length ∧ eqTo b l k (4 * i)) ∧ s.sl.length = 46 ∧ s.df = [] ∧ s.gh = {} ∧ (s.hp = h ++ [.cells 0 (brdA b), .cells 0 (cLay l), .cells 0 (cLay k)]) ∧ evA s.sl (.tmp 3) = .ptr ⟨h.length, 0⟩ 0 ∧ evA s.sl (.tmp 4) = .ptr ⟨h.length + 1, 0⟩ 0 ∧ evA s.sl (.tmp 5) = .ptr ⟨h.length + 2, 0⟩ 0 ∧ evA s.sl (.tmp 7) = .bool (nzT b l (4 * i)) ∧ evA s.sl (.tmp 8) = .int .i64 i) (fun (i : Nat) => b.cells.length - i) (0) ?_ ?_
  · simp (implicitDefEqProofs := false) (dsimp := false) only [go_sem, brdA, cLay, Nat.mul_zero, Nat.zero_le, nzT]
    exact fun j hj => by omega
  · rintro i ⟨sl, df, hp, gh⟩ ⟨ab, al, rfl, rfl, rfl, a3, a4, a5, a7, a8⟩
    simp only at ab al a3 a4 a5 a7 a8
    obtain ⟨j, rfl⟩ := slots_lit al; clear al; simp only [junk_succ, junk_zero, evA_tmp, nth_16, nth_four, nth_one, nth_zero, Nat.zero_add, Nat.reduceAdd] at  a3 a4 a5 a7 a8 ⊢
    refine wp_ok (so := { cut := [41] }) mixed _ (by kernel_rfl) ?_
    obtain ⟨ab, ae⟩ := ab
    by_cases hi : i < b.cells.length
    · have hw := okc.row hi
      simp (implicitDefEqProofs := false) (dsimp := false) only [go_sem, a3, a4, a5, a7, a8, brdA, cLay, nat_lt hi, decide_true]
      refine WP.loopI (fun (x : Nat) s => (x ≤ (b.cells.headD []).length ∧ eqTo b l k (4 * i + x)) ∧ s.sl.length = 46 ∧ s.df = [] ∧ s.gh = {} ∧ (s.hp = h ++ [.cells 0 (brdA b), .cells 0 (cLay l), .cells 0 (cLay k)]) ∧ evA s.sl (.tmp 3) = .ptr ⟨h.length, 0⟩ 0 ∧ evA s.sl (.tmp 4) = .ptr ⟨h.length + 1, 0⟩ 0 ∧ evA s.sl (.tmp 5) = .ptr ⟨h.length + 2, 0⟩ 0 ∧ evA s.sl (.tmp 7) = .bool (nzT b l (4 * i + x)) ∧ evA s.sl (.tmp 8) = .int .i64 i ∧ evA s.sl (.tmp 9) = .int .i64 x) (fun (x : Nat) => (b.cells.headD []).length - x) (0) ?_ ?_
      · simp (implicitDefEqProofs := false) (dsimp := false) only [go_sem, brdA, cLay, Nat.zero_le, Nat.add_zero]
        exact ae
      · rintro x ⟨sl, df, hp, gh⟩ ⟨cb, cl, rfl, rfl, rfl, c3, c4, c5, c7, c8, c9⟩
        simp only at cb cl c3 c4 c5 c7 c8 c9
        obtain ⟨j, rfl⟩ := slots_lit cl; clear cl; simp only [junk_succ, junk_zero, evA_tmp, nth_16, nth_four, nth_one, nth_zero, Nat.zero_add, Nat.reduceAdd] at  c3 c4 c5 c7 c8 c9 ⊢
        refine wp_ok (so := { cut := [41] }) mixed _ (by kernel_rfl) ?_
        obtain ⟨cb, ce⟩ := cb
        by_cases hx : x < (b.cells.headD []).length
        · have hx' : x < wideB b := hx
          have e1 : (4 * i + x) / 4 = i := by omega
          have e2 : (4 * i + x) % 4 = x := by omega
          have en : nzT b l (4 * i + (x + 1)) = (nzT b l (4 * i + x) || seenL b l i x != 0) := by
            rw [← Nat.add_assoc, nzT, e1, e2]; simp [hx']
          simp (implicitDefEqProofs := false) (dsimp := false) only [go_sem, c3, c4, c5, c7, c8, c9, brdA, cLay, nat_lt hx, nat_lt hi, decide_true, row1 cTraces_len hi, row1_le cTraces_len hi, cTraces, hw]
          (first | refine CallsA.use (Rshown_ok b okg l i x p hl.page hp (ok.page _ (List.getElem_mem hp)) (by omega) (by omega) (by omega) (by omega)) ?_ | refine QuietCalls.use (Rshown_ok b okg l i x p hl.page hp (ok.page _ (List.getElem_mem hp)) (by omega) (by omega) (by omega) (by omega)) ?_)
          simp (implicitDefEqProofs := false) (dsimp := false) only [go_sem, brdA, cLay]
          (first | refine CallsA.use (Rshown_ok b okg k i x q hk.page hq (ok.page _ (List.getElem_mem hq)) (by omega) (by omega) (by omega) (by omega)) ?_ | refine QuietCalls.use (Rshown_ok b okg k i x q hk.page hq (ok.page _ (List.getElem_mem hq)) (by omega) (by omega) (by omega) (by omega)) ?_)
          simp (implicitDefEqProofs := false) (dsimp := false) only [go_sem]
          rw [hl.seen, hk.seen]
          have step : (seenL b l i x != seenL b k i x) = false → eqTo b l k (4 * i + (x + 1)) := fun e j hj hm => by
            by_cases ej : j = 4 * i + x
            · subst ej; rw [e1, e2]; simpa using e
            · exact ce j (by omega) hm
          refine ⟨fun e => ?_, fun e => ⟨fun t => ⟨x + 1, ⟨⟨by omega, step e⟩, ⟨rfl, rfl, rfl⟩, ?_, wrap_succ (by omega)⟩, by omega⟩, fun t => ⟨x + 1, ⟨⟨by omega, step e⟩, ⟨rfl, rfl, rfl⟩, ?_, wrap_succ (by omega)⟩, by omega⟩⟩⟩
          · have : faceL b l ≠ faceL b k := fun he => by
              have := faceL_at okc he (j := 4 * i + x) (by omega) (by rw [e2]; exact hx')
              rw [e1, e2] at this
              simp [this] at e
            rw [alikeL, beq_false_of_ne this]; rfl
          · rw [en, t]; rfl
          · rw [en, t]; rfl
        · have hs : ((x : Int) < ((b.cells.headD []).length : Int)) = False := eq_false (by omega)
          simp (implicitDefEqProofs := false) (dsimp := false) only [go_sem, c3, c4, c5, c7, c8, c9, brdA, cLay, nat_lt hi, decide_true, row1 cTraces_len hi, row1_le cTraces_len hi, cTraces, hw, hs, decide_false]
          have he : 4 * (i + 1) = 4 * i + x + (4 - x) := by omega
          refine ⟨i + 1, ⟨⟨by omega, fun j hj hm => ?_⟩, ?_, wrap_succ (by omega)⟩, by omega⟩
          · have hxw : wideB b ≤ x := Nat.le_of_not_lt hx
            exact ce j (by omega) hm
          · rw [he]; exact (nzT_skip (n := 4 * i + x) (m := 4 - x) (by have hxw : wideB b ≤ x := Nat.le_of_not_lt hx; intro k _ _; omega)).symm
    · have hs : ((i : Int) < (b.cells.length : Int)) = False := eq_false (by omega)
      have : i = b.cells.length := by omega
      subst this
      simp (implicitDefEqProofs := false) (dsimp := false) only [go_sem, a3, a4, a5, a7, a8, brdA, hs, decide_false]
      rw [alikeL, faceL_of okc ae, faceL_z okc, faceL_of okc ae]
      simp
def sameK (b : Board) (p q i : Nat) : Nat → Bool
  | 0 => false
  | k + 1 => sameK b p q i k || alikeL b (layN p i) (layN q k)
def sameI (b : Board) (p q : Nat) : Nat → Bool
  | 0 => false
  | i + 1 => sameI b p q i || sameK b p q i 18
theorem sameK_iff {b : Board} {p q i : Nat} : ∀ {n}, sameK b p q i n = true ↔ ∃ k, k < n ∧ alikeL b (layN p i) (layN q k) = true
  | 0 => by simp [sameK]
  | n + 1 => by
    rw [sameK, Bool.or_eq_true, sameK_iff]
    constructor
    · rintro (⟨c, h1, h2⟩ | h)
      · exact ⟨c, by omega, h2⟩
      · exact ⟨n, by omega, h⟩
    · rintro ⟨c, h1, h2⟩
      by_cases e : c = n
      · subst e; exact .inr h2
      · exact .inl ⟨c, by omega, h2⟩
theorem sameI_iff {b : Board} {p q : Nat} : ∀ {n}, sameI b p q n = true ↔ ∃ i, i < n ∧ sameK b p q i 18 = true
  | 0 => by simp [sameI]
  | n + 1 => by
    rw [sameI, Bool.or_eq_true, sameI_iff]
    constructor
    · rintro (⟨c, h1, h2⟩ | h)
      · exact ⟨c, by omega, h2⟩
      · exact ⟨n, by omega, h⟩
    · rintro ⟨c, h1, h2⟩
      by_cases e : c = n
      · subst e; exact .inr h2
      · exact .inl ⟨c, by omega, h2⟩
theorem faces_memN {b : Board} {p : Nat} {y : List Int} : y ∈ facesOf b (mapB b.glyphs) p ↔ ∃ i, i < 18 ∧ y = faceL b (layN p i) := by
  have e : ∀ i, i < 18 → layN p i = layK (18 * p + i) := fun i hi => by
    rw [layK, show (18 * p + i) / 18 = p by omega, show (18 * p + i) % 18 = i by omega]
  rw [faces_mem]
  constructor
  · rintro ⟨i, hi, rfl⟩; exact ⟨i, hi, by rw [e i hi]⟩
  · rintro ⟨i, hi, rfl⟩; exact ⟨i, hi, by rw [e i hi]⟩
theorem same_alike {b : Board} {p q : Nat} : sameI b p q 18 = alikeP b (mapB b.glyphs) p q := by
  rw [Bool.eq_iff_iff, sameI_iff, alikeP, List.any_eq_true]
  constructor
  · rintro ⟨i, hi, h⟩
    obtain ⟨k, hk, h⟩ := sameK_iff.1 h
    simp only [alikeL, Bool.and_eq_true, beq_iff_eq, bne_iff_ne] at h
    refine ⟨faceL b (layN q k), faces_memN.2 ⟨k, hk, rfl⟩, ?_⟩
    rw [Bool.and_eq_true, bne_iff_ne, ← h.1, List.contains_iff_mem]
    exact ⟨h.2, faces_memN.2 ⟨i, hi, rfl⟩⟩
  · rintro ⟨y, hy, h⟩
    rw [Bool.and_eq_true, bne_iff_ne, List.contains_iff_mem] at h
    obtain ⟨k, hk, e1⟩ := faces_memN.1 hy
    obtain ⟨i, hi, e2⟩ := faces_memN.1 h.2
    refine ⟨i, hi, sameK_iff.2 ⟨k, hk, ?_⟩⟩
    simp only [alikeL, Bool.and_eq_true, beq_iff_eq, bne_iff_ne]
    exact ⟨by rw [← e1, ← e2], by rw [← e2]; exact h.1⟩
def pairsTo (b : Board) (p q : Nat) : List (Int × Int) := alikeTo b (mapB b.glyphs) p ++ alikeRow b (mapB b.glyphs) p (q - (p + 1))
theorem RAlike_ok (b : Board) : PureA Tryz.prog 21 [.agg (brdA b)] (.tup [sliceOf cPair (alikeR b), .int .i64 (boardErr b)]) := by
  refine PureA.of_wps [2] { shut := [67, 68], cut := [51] } 70 mixed Tryz.func21 (by kernel_rfl) rfl (by kernel_rfl) (by simp only [below, belowL, below_psl (f := cPair) (fun _ => rfl) _, Bool.and_self]) fun h j hB => ?_
  simp only [junk_succ, junk_zero, List.cons_append, List.nil_append, List.length_cons, List.length_nil, Nat.reduceAdd]
  simp (implicitDefEqProofs := false) (dsimp := false) only [go_sem, brdA]
  (first | refine CallsA.use (RCheck_ok b) ?_ | refine QuietCalls.use (RCheck_ok b) ?_)
  simp (implicitDefEqProofs := false) (dsimp := false) only [go_sem, brdA]
  refine ⟨fun c0 => ?_, fun c0 => ?_⟩
  · have e0 : boardErr b ≠ 0 := by simpa using c0
    rw [alikeR, if_neg e0]; rfl
  have e0 : boardErr b = 0 := by simpa using c0
  have ok := okBoard.of e0
  have okg := okGlyphs.of (boardErr_zero e0).1
  refine WPI.turn (Turns.nilSlot (d := 5) (sz := 1) ?_) ?_
  · simp (implicitDefEqProofs := false) (dsimp := false) only [go_sem]
  simp (implicitDefEqProofs := false) (dsimp := false) only [go_sem]
  refine WP.loopI (fun (p : Nat) s => (p ≤ b.pages.length) ∧ s.sl.length = 71 ∧ s.df = [] ∧ s.gh = {} ∧ (s.hp = h ++ [.cells 0 (brdA b), .cells (pairsTo b p (p + 1)).length ((pairsTo b p (p + 1)).flatMap cPair)]) ∧ evA s.sl (.tmp 1) = .ptr ⟨h.length, 0⟩ 0 ∧ evA s.sl (.tmp 5) = .sl ⟨h.length + 1, (pairsTo b p (p + 1)).length⟩ 1 0 (pairsTo b p (p + 1)).length ∧ evA s.sl (.tmp 6) = .int .i64 p) (fun (p : Nat) => b.pages.length - p) (0) ?_ ?_
  · simp (implicitDefEqProofs := false) (dsimp := false) only [go_sem, brdA, Nat.zero_le]
    simp [pairsTo, alikeTo, alikeRow]
  · rintro p ⟨sl, df, hp, gh⟩ ⟨ab, al, rfl, rfl, rfl, a1, a5, a6⟩
    simp only at ab al a1 a5 a6
    obtain ⟨j, rfl⟩ := slots_lit al; clear al; simp only [junk_succ, junk_zero, evA_tmp, nth_16, nth_four, nth_one, nth_zero, Nat.zero_add, Nat.reduceAdd] at  a1 a5 a6 ⊢
    refine wp_ok (so := { shut := [67, 68], cut := [51] }) mixed _ (by kernel_rfl) ?_
    by_cases hp : p < b.pages.length
    · simp (implicitDefEqProofs := false) (dsimp := false) only [go_sem, a1, a5, a6, brdA, nat_lt hp, decide_true]
      refine WP.loopI (fun (q : Nat) s => (p < q ∧ q ≤ b.pages.length) ∧ s.sl.length = 71 ∧ s.df = [] ∧ s.gh = {} ∧ (s.hp = h ++ [.cells 0 (brdA b), .cells (pairsTo b p q).length ((pairsTo b p q).flatMap cPair)]) ∧ evA s.sl (.tmp 1) = .ptr ⟨h.length, 0⟩ 0 ∧ evA s.sl (.tmp 5) = .sl ⟨h.length + 1, (pairsTo b p q).length⟩ 1 0 (pairsTo b p q).length ∧ evA s.sl (.tmp 6) = .int .i64 p ∧ evA s.sl (.tmp 7) = .int .i64 q) (fun (q : Nat) => b.pages.length - q) ((p + 1)) ?_ ?_
      · simp (implicitDefEqProofs := false) (dsimp := false) only [go_sem, brdA, wrap_succ (show p < 9223372036854775807 by have := ok.most; omega)]
        exact ⟨by omega, by omega⟩
      · rintro q ⟨sl, df, hp, gh⟩ ⟨cb, cl, rfl, rfl, rfl, c1, c5, c6, c7⟩
        simp only at cb cl c1 c5 c6 c7
        obtain ⟨j, rfl⟩ := slots_lit cl; clear cl; simp only [junk_succ, junk_zero, evA_tmp, nth_16, nth_four, nth_one, nth_zero, Nat.zero_add, Nat.reduceAdd] at  c1 c5 c6 c7 ⊢
        refine wp_ok (so := { shut := [67, 68], cut := [51] }) mixed _ (by kernel_rfl) ?_
        obtain ⟨cpq, cb⟩ := cb
        by_cases hq : q < b.pages.length
        · simp (implicitDefEqProofs := false) (dsimp := false) only [go_sem, c1, c5, c6, c7, brdA, nat_lt hq, decide_true]
          (first | refine CallsA.use (Rways_ok p) ?_ | refine QuietCalls.use (Rways_ok p) ?_)
          simp (implicitDefEqProofs := false) (dsimp := false) only [go_sem]
          (first | refine CallsA.use (Rways_ok q) ?_ | refine QuietCalls.use (Rways_ok q) ?_)
          simp (implicitDefEqProofs := false) (dsimp := false) only [go_sem]
          refine WP.loopI (fun (i : Nat) s => (i ≤ (wayTo p 18).length) ∧ s.sl.length = 71 ∧ s.df = [] ∧ s.gh = {} ∧ (s.hp = h ++ [.cells 0 (brdA b), .cells (pairsTo b p q).length ((pairsTo b p q).flatMap cPair)]) ∧ evA s.sl (.tmp 1) = .ptr ⟨h.length, 0⟩ 0 ∧ evA s.sl (.tmp 5) = .sl ⟨h.length + 1, (pairsTo b p q).length⟩ 1 0 (pairsTo b p q).length ∧ evA s.sl (.tmp 6) = .int .i64 p ∧ evA s.sl (.tmp 7) = .int .i64 q ∧ evA s.sl (.tmp 8) = sliceOf cLay (wayTo p 18) ∧ evA s.sl (.tmp 9) = sliceOf cLay (wayTo q 18) ∧ evA s.sl (.tmp 10) = .bool (sameI b p q i) ∧ evA s.sl (.tmp 11) = .int .i64 i) (fun (i : Nat) => (wayTo p 18).length - i) (0) ?_ ?_
          · simp (implicitDefEqProofs := false) (dsimp := false) only [go_sem, brdA, Nat.zero_le, sameI]
          · rintro i ⟨sl, df, hp, gh⟩ ⟨db, dl, rfl, rfl, rfl, d1, d5, d6, d7, d8, d9, d10, d11⟩
            simp only at db dl d1 d5 d6 d7 d8 d9 d10 d11
            obtain ⟨j, rfl⟩ := slots_lit dl; clear dl; simp only [junk_succ, junk_zero, evA_tmp, nth_16, nth_four, nth_one, nth_zero, Nat.zero_add, Nat.reduceAdd] at  d1 d5 d6 d7 d8 d9 d10 d11 ⊢
            refine wp_ok (so := { shut := [67, 68], cut := [51] }) mixed _ (by kernel_rfl) ?_
            by_cases hi : i < (wayTo p 18).length
            · simp (implicitDefEqProofs := false) (dsimp := false) only [go_sem, d1, d5, d6, d7, d8, d9, d10, d11, brdA, nat_lt hi, decide_true]
              refine WP.loopI (fun (k : Nat) s => (k ≤ (wayTo q 18).length) ∧ s.sl.length = 71 ∧ s.df = [] ∧ s.gh = {} ∧ (s.hp = h ++ [.cells 0 (brdA b), .cells (pairsTo b p q).length ((pairsTo b p q).flatMap cPair)]) ∧ evA s.sl (.tmp 1) = .ptr ⟨h.length, 0⟩ 0 ∧ evA s.sl (.tmp 5) = .sl ⟨h.length + 1, (pairsTo b p q).length⟩ 1 0 (pairsTo b p q).length ∧ evA s.sl (.tmp 6) = .int .i64 p ∧ evA s.sl (.tmp 7) = .int .i64 q ∧ evA s.sl (.tmp 8) = sliceOf cLay (wayTo p 18) ∧ evA s.sl (.tmp 9) = sliceOf cLay (wayTo q 18) ∧ evA s.sl (.tmp 10) = .bool (sameI b p q i || sameK b p q i k) ∧ evA s.sl (.tmp 11) = .int .i64 i ∧ evA s.sl (.tmp 12) = .int .i64 k) (fun (k : Nat) => (wayTo q 18).length - k) (0) ?_ ?_
              · simp (implicitDefEqProofs := false) (dsimp := false) only [go_sem, brdA, Nat.zero_le, sameK, Bool.or_false]
              · rintro k ⟨sl, df, hp, gh⟩ ⟨eb, el, rfl, rfl, rfl, e1, e5, e6, e7, e8, e9, e10, e11, e12⟩
                simp only at eb el e1 e5 e6 e7 e8 e9 e10 e11 e12
                obtain ⟨j, rfl⟩ := slots_lit el; clear el; simp only [junk_succ, junk_zero, evA_tmp, nth_16, nth_four, nth_one, nth_zero, Nat.zero_add, Nat.reduceAdd] at  e1 e5 e6 e7 e8 e9 e10 e11 e12 ⊢
                refine wp_ok (so := { shut := [67, 68], cut := [51] }) mixed _ (by kernel_rfl) ?_
                by_cases hk : k < (wayTo q 18).length
                · have ex : (wayTo p 18)[i] = layN p i := by simp [wayTo]
                  have ey : (wayTo q 18)[k] = layN q k := by simp [wayTo]
                  simp (implicitDefEqProofs := false) (dsimp := false) only [go_sem, e1, e5, e6, e7, e8, e9, e10, e11, e12, brdA, nat_lt hi, nat_lt hk, decide_true, rowN cLay_len hi, rowN_le cLay_len hi, rowN cLay_len hk, rowN_le cLay_len hk, cLay]
                  rw [show AV.agg [.int .i64 (wayTo p 18)[i].page, .bool (wayTo p 18)[i].turned, .int .i64 (wayTo p 18)[i].down, .int .i64 (wayTo p 18)[i].right] = .agg (cLay (wayTo p 18)[i]) from rfl, show AV.agg [.int .i64 (wayTo q 18)[k].page, .bool (wayTo q 18)[k].turned, .int .i64 (wayTo q 18)[k].down, .int .i64 (wayTo q 18)[k].right] = .agg (cLay (wayTo q 18)[k]) from rfl, ex, ey]
                  have hkk : k < 18 := by rw [wayTo_length] at hk; exact hk
                  refine ⟨fun t => ⟨k + 1, ⟨by omega, ?_, wrap_succ (by omega)⟩, by omega⟩, fun t => ?_⟩
                  · rw [sameK, ← Bool.or_assoc, t]; rfl
                  · (first | refine CallsA.use (Ralike_ok b okg ok (layN p i) (layN q k) p q (.of hp) (.of hq)) ?_ | refine QuietCalls.use (Ralike_ok b okg ok (layN p i) (layN q k) p q (.of hp) (.of hq)) ?_)
                    simp (implicitDefEqProofs := false) (dsimp := false) only [go_sem]
                    refine ⟨k + 1, ⟨by omega, rfl, ?_, wrap_succ (by omega)⟩, by omega⟩
                    rw [sameK, ← Bool.or_assoc, t]; rfl
                · have hs : ((k : Int) < ((wayTo q 18).length : Int)) = False := eq_false (by omega)
                  have : k = (wayTo q 18).length := by omega
                  subst this
                  simp (implicitDefEqProofs := false) (dsimp := false) only [go_sem, e1, e5, e6, e7, e8, e9, e10, e11, e12, brdA, hs, decide_false]
                  refine ⟨i + 1, ⟨by omega, by rw [sameI, wayTo_length], wrap_succ (by rw [wayTo_length] at hi; omega)⟩, by omega⟩
            · have hs : ((i : Int) < ((wayTo p 18).length : Int)) = False := eq_false (by omega)
              have : i = (wayTo p 18).length := by omega
              subst this
              have eS : sameI b p q (wayTo p 18).length = alikeP b (mapB b.glyphs) p q := by rw [wayTo_length]; exact same_alike
              have eP : pairsTo b p (q + 1) = pairsTo b p q ++ if alikeP b (mapB b.glyphs) p q then [((p : Int), (q : Int))] else [] := by
                unfold pairsTo
                rw [show q + 1 - (p + 1) = (q - (p + 1)) + 1 by omega, alikeRow_succ, show p + 1 + (q - (p + 1)) = q by omega, List.append_assoc]
              cases hA : alikeP b (mapB b.glyphs) p q with
              | true =>
                simp (implicitDefEqProofs := false) (dsimp := false) only [go_sem, d1, d5, d6, d7, d8, d9, d10, d11, brdA, hs, decide_false, eS, hA]
                have hn1 := alikeTo_len b (mapB b.glyphs) p
                have hn2 := alikeRow_len b (mapB b.glyphs) p (q - (p + 1))
                have hmp := ok.most
                have hn3 : p * b.pages.length ≤ 4 * 4 := Nat.mul_le_mul (by omega) (by omega)
                have hpl : (pairsTo b p q).length = (alikeTo b (mapB b.glyphs) p).length + (alikeRow b (mapB b.glyphs) p (q - (p + 1))).length := by simp [pairsTo]
                refine ⟨⟨rows_length cPair_len _, by omega⟩, q + 1, ?_⟩
                rw [eP, hA, wrap_succ (by omega)]
                refine ⟨⟨⟨by omega, by omega⟩, ?_⟩, by omega⟩
                simp [cPair]
              | false =>
                simp (implicitDefEqProofs := false) (dsimp := false) only [go_sem, d1, d5, d6, d7, d8, d9, d10, d11, brdA, hs, decide_false, eS, hA]
                have hmp := ok.most
                refine ⟨q + 1, ?_⟩
                rw [eP, hA, wrap_succ (by omega)]
                refine ⟨⟨⟨by omega, by omega⟩, ?_⟩, by omega⟩
                simp
        · have hs : ((q : Int) < (b.pages.length : Int)) = False := eq_false (by omega)
          have : q = b.pages.length := by omega
          subst this
          simp (implicitDefEqProofs := false) (dsimp := false) only [go_sem, c1, c5, c6, c7, brdA, hs, decide_false]
          have hmp := ok.most
          have eQ : pairsTo b (p + 1) (p + 1 + 1) = pairsTo b p b.pages.length := by
            unfold pairsTo
            rw [show p + 1 + 1 - (p + 1 + 1) = 0 by omega, alikeTo_succ]
            simp [alikeRow]
          refine ⟨p + 1, ?_⟩
          rw [eQ, wrap_succ (by omega)]
          refine ⟨⟨by omega, ⟨rfl, rfl⟩, rfl, rfl⟩, by omega⟩
    · have hs : ((p : Int) < (b.pages.length : Int)) = False := eq_false (by omega)
      have : p = b.pages.length := by omega
      subst this
      simp (implicitDefEqProofs := false) (dsimp := false) only [go_sem, a1, a5, a6, brdA, hs, decide_false, rows_all cPair_len]
      have eQ : pairsTo b b.pages.length (b.pages.length + 1) = alikeR b := by
        rw [alikeR, if_pos e0, pairsTo, alikeB, Nat.sub_self]
        simp [alikeRow]
      rw [eQ, e0]
      exact ⟨rfl, rfl⟩
end Go.Mac
namespace Go.Mac
open Go Go.Conc Go.Proofs
set_option maxRecDepth 4000
theorem cells_len1' (b : Board) : (b.cells.flatMap cTraces).length = b.cells.length := rows_length (fun _ => rfl) _
theorem DupPure_ok (b : Board) (ok : okSizes b) : PureA Tryz.prog 15 [.agg (brdA b)] (.agg (brdA b)) := fun h => by
  have hgt : (b.glyphs.flatMap cGlyph).take (b.glyphs.length * 2) = b.glyphs.flatMap cGlyph := List.take_of_length_le (by rw [length_rows cGlyph_len]; exact Nat.le_refl _)
  have hgl : (b.glyphs.flatMap cGlyph).length = b.glyphs.length * 2 := length_rows cGlyph_len _
  refine CallsA.of_wpe [] { shut := [26, 45], hand := [9, 10], tail := [(5, 9)] } 48 mixed Tryz.func15 (by kernel_rfl) rfl (by kernel_rfl) fun j hB hA => ?_; simp only [junk_succ, junk_zero, List.cons_append, List.nil_append, List.length_cons, List.length_nil, Nat.reduceAdd]
  simp (implicitDefEqProofs := false) (dsimp := false) only [go_sem, brdA, hgt, hgl]
  refine ⟨⟨flat_leaf (fun _ => rfl) _, by have := ok.g; omega⟩, ?_⟩
  refine WPI.turn (Turns.seal_cell (i := h.length + 3) (g := 0) (j := 0) (a := .sl ⟨h.length + 2, 1⟩ 2 0 b.glyphs.length) (a' := sliceOf cGlyph b.glyphs) (by simp only; rw [hget]; rfl) rfl (by simp only [sealV]; rw [hget]; simp [sliceOf, hgt]) (by simp [nmOf])) ?_
  simp only [nmOf, hset, List.set_cons_succ, List.set_cons_zero]
  refine WPI.turn (Turns.nilCell (i := h.length + 3) (j := 1) (sz := 1) (by simp only; rw [hget]; rfl) rfl) ?_
  refine WPI.turn (Turns.nilCell (i := h.length + 3) (j := 2) (sz := 1) (by simp only [List.append_assoc]; rw [hset, List.append_assoc, hget]; rfl) rfl) ?_
  simp only [hset, List.append_assoc, List.set_cons_succ, List.set_cons_zero, List.cons_append, List.nil_append, List.length_append, List.length_cons, List.length_nil, Nat.zero_add, Nat.reduceAdd]
  refine WP.loopI (fun (k : Nat) s => (k ≤ b.pages.length) ∧ s.sl.length = 49 ∧ s.df = [] ∧ s.gh = {} ∧ (s.hp = h ++ [.cells 0 (brdA b), .cells 0 z3, .dead, .cells 0 [sliceOf cGlyph b.glyphs, .sl ⟨h.length + 4, k⟩ 1 0 k, .sl ⟨h.length + 5, 0⟩ 1 0 0], .cells k ((b.pages.take k).flatMap cPage), .cells 0 []]) ∧ evA s.sl (.tmp 1) = .ptr ⟨h.length, 0⟩ 0 ∧ evA s.sl (.tmp 2) = .ptr ⟨h.length + 1, 0⟩ 0 ∧ evA s.sl (.tmp 3) = .ptr ⟨h.length + 3, 0⟩ 0 ∧ evA s.sl (.tmp 4) = .int .i64 k) (fun (k : Nat) => b.pages.length - k) (0) ?_ ?_
  · simp (implicitDefEqProofs := false) (dsimp := false) only [go_sem, brdA, Nat.zero_le]
    exact ⟨rfl, rfl⟩
  · rintro k ⟨sl, df, hp, gh⟩ ⟨ab, al, rfl, rfl, rfl, a1, a2, a3, a4⟩
    simp only at ab al a1 a2 a3 a4
    obtain ⟨j, rfl⟩ := slots_lit al; clear al; simp only [junk_succ, junk_zero, evA_tmp, nth_16, nth_four, nth_one, nth_zero, Nat.zero_add, Nat.reduceAdd] at  a1 a2 a3 a4 ⊢
    refine wp_ok (so := { shut := [26, 45], hand := [9, 10], tail := [(5, 9)] }) mixed _ (by kernel_rfl) ?_
    by_cases hk : k < b.pages.length
    · have hkl : ((b.pages.take k).flatMap cPage).length = k := by rw [cPage_len1, List.length_take]; omega
      simp (implicitDefEqProofs := false) (dsimp := false) only [go_sem, a1, a2, a3, a4, brdA, nat_lt hk, decide_true, row1 cPage_len hk, row1_le cPage_len hk, cPage]
      (first | refine CallsA.use (DupStrings_ok b.pages[k] (ok.pr _ (List.getElem_mem hk))) ?_ | refine QuietCalls.use (DupStrings_ok b.pages[k] (ok.pr _ (List.getElem_mem hk))) ?_)
      simp (implicitDefEqProofs := false) (dsimp := false) only [go_sem, hkl, brdA]
      refine ⟨below_strs _ _, by have := ok.p; omega, k + 1, ⟨by omega, ⟨rfl, rfl, ?_⟩, wrap_succ (by have := ok.p; omega)⟩, by omega⟩
      rw [List.take_succ_eq_append_getElem hk, List.flatMap_append]
      simp [cPage, sliceOf]
    · have hs : ((k : Int) < (b.pages.length : Int)) = False := eq_false (by omega)
      have e : k = b.pages.length := by omega
      subst e
      rw [List.take_length]
      simp (implicitDefEqProofs := false) (dsimp := false) only [go_sem, a1, a2, a3, a4, brdA, hs, decide_false]
      refine WP.loopI (fun (k : Nat) s => (k ≤ b.cells.length) ∧ s.sl.length = 49 ∧ s.df = [] ∧ s.gh = {} ∧ (s.hp = h ++ .cells 0 (brdA b) :: .cells 0 z3 :: .dead :: .cells 0 [sliceOf cGlyph b.glyphs, .sl ⟨h.length + 4, b.pages.length⟩ 1 0 b.pages.length, .sl ⟨h.length + 5, k⟩ 1 0 k] :: .cells b.pages.length (b.pages.flatMap cPage) :: .cells k (slsFrom 1 (h.length + 6) (b.cells.take k)) :: (b.cells.take k).map rowB) ∧ evA s.sl (.tmp 1) = .ptr ⟨h.length, 0⟩ 0 ∧ evA s.sl (.tmp 2) = .ptr ⟨h.length + 1, 0⟩ 0 ∧ evA s.sl (.tmp 3) = .ptr ⟨h.length + 3, 0⟩ 0 ∧ evA s.sl (.tmp 5) = .int .i64 k) (fun (k : Nat) => b.cells.length - k) (0) ?_ ?_
      · simp (implicitDefEqProofs := false) (dsimp := false) only [go_sem, brdA, Nat.zero_le, List.take_zero, List.map_nil, slsFrom]
      · rintro k ⟨sl, df, hp, gh⟩ ⟨cb, cl, rfl, rfl, rfl, c1, c2, c3, c5⟩
        simp only at cb cl c1 c2 c3 c5
        obtain ⟨j, rfl⟩ := slots_lit cl; clear cl; simp only [junk_succ, junk_zero, evA_tmp, nth_16, nth_four, nth_one, nth_zero, Nat.zero_add, Nat.reduceAdd] at  c1 c2 c3 c5 ⊢
        refine wp_ok (so := { shut := [26, 45], hand := [9, 10], tail := [(5, 9)] }) mixed _ (by kernel_rfl) ?_
        by_cases hk : k < b.cells.length
        · simp (implicitDefEqProofs := false) (dsimp := false) only [go_sem, c1, c2, c3, c5, brdA, nat_lt hk, decide_true]
          refine WP.noisy (so := { shut := [26, 45], tail := [(5, 9)] }) 10 [2, 8] [0, 0, 0, 0, 0, 0, 0, 0, 0, 2] [2, 2, 0, 1, 1, 1, 1, 1, 0, 2] ((fun T => [h ++ T, h ++ (T ++ [.cells 0 []]), h ++ (T ++ [rowB b.cells[k]])]) _) rfl mixed (by kernel_rfl) (by kernel_rfl) (by decide) (by kernel_rfl) rfl ?_
          have hrt : (b.cells[k].flatMap cTrace).take (b.cells[k].length * 2) = b.cells[k].flatMap cTrace := List.take_of_length_le (by rw [length_rows cTrace_len]; exact Nat.le_refl _)
          have hrl : (b.cells[k].flatMap cTrace).length = b.cells[k].length * 2 := length_rows cTrace_len _
          have hsl : (slsFrom 1 (h.length + 6) (b.cells.take k)).length = k := by rw [slsFrom_len, List.length_take]; omega
          simp (implicitDefEqProofs := false) (dsimp := false) only [go_sem, brdA, row1 cTraces_len hk, row1_le cTraces_len hk, cTraces, nat_lt hk, hrt, hrl, hsl]
          have hcr := ok.cr _ (List.getElem_mem hk)
          have hcl := ok.c
          refine ⟨⟨flat_leaf (fun _ => rfl) _, by omega⟩, rfl, by omega, by omega, k + 1, ⟨by omega, ⟨rfl, ⟨rfl, ?_⟩, ?_⟩, wrap_succ (by omega)⟩, by omega⟩
          · rw [List.take_succ_eq_append_getElem hk, slsFrom_snoc, List.length_map, show h.length + 6 + (b.cells.take k).length = h.length + ((b.cells.take k).length + 1 + 1 + 1 + 1 + 1 + 1) by omega]
          · rw [List.take_succ_eq_append_getElem hk, List.map_append]; rfl
        · have hs : ((k : Int) < (b.cells.length : Int)) = False := eq_false (by omega)
          have e : k = b.cells.length := by omega
          subst e
          rw [List.take_length]
          simp (implicitDefEqProofs := false) (dsimp := false) only [go_sem, c1, c2, c3, c5, brdA, hs, decide_false]
          have hct : (b.cells.flatMap cTraces).take b.cells.length = b.cells.flatMap cTraces := List.take_of_length_le (by rw [cells_len1']; exact Nat.le_refl _)
          have hpt : (b.pages.flatMap cPage).take b.pages.length = b.pages.flatMap cPage := List.take_of_length_le (by rw [cPage_len1]; exact Nat.le_refl _)
          have hh : ∀ (a b c d e f : Blk) (R : List Blk), h ++ a :: b :: c :: d :: e :: f :: R = (h ++ [a, b, c, d, e]) ++ f :: (R ++ []) := fun _ _ _ _ _ _ _ => by simp
          rw [hh]
          refine WPI.rows (by simp) ?_
          simp only [List.append_assoc, List.cons_append, List.nil_append]
          refine WPI.turn (Turns.seal_cell (i := h.length + 3) (g := 0) (j := 2) (a := .sl ⟨h.length + 5, b.cells.length⟩ 1 0 b.cells.length) (a' := sliceOf cTraces b.cells) (by simp only; rw [hget]; rfl) rfl (by simp only [sealV]; rw [hget]; simp [sliceOf, hct]) (by simp [nmOf])) ?_
          simp only [nmOf, hset, List.set_cons_succ, List.set_cons_zero]
          refine WPI.turn (Turns.seal_cell (i := h.length + 3) (g := 0) (j := 1) (a := .sl ⟨h.length + 4, b.pages.length⟩ 1 0 b.pages.length) (a' := sliceOf cPage b.pages) (by simp only; rw [hget]; rfl) rfl (by simp only [sealV]; rw [hget]; simp [sliceOf, hpt]) (by simp [nmOf])) ?_
          simp only [nmOf, hset, List.set_cons_succ, List.set_cons_zero]
          refine wp_shut [] (so := { shut := [26, 45], tail := [(5, 9)] }) mixed _ (by kernel_rfl) ?_
          simp (implicitDefEqProofs := false) (dsimp := false) only [go_sem, z3]
          refine quiet_fine hB ?_
          have hbl := belowL_mono (Nat.zero_le h.length) _ (slices_below b)
          simpa [below, sliceOf] using hbl
def longB (b : Board) : Bool := (decide (20 < b.glyphs.length) || decide (20 < b.pages.length) || decide (20 < b.cells.length)) || b.glyphs.any (fun g => decide (40 < g.name.length)) || b.pages.any (fun p => decide (20 < p.length) || p.any fun r => decide (40 < r.length)) || b.cells.any fun r => decide (20 < r.length)
structure shortB (b : Board) : Prop where
  g : b.glyphs.length ≤ 20
  p : b.pages.length ≤ 20
  c : b.cells.length ≤ 20
  gn : ∀ g ∈ b.glyphs, g.name.length ≤ 40
  pr : ∀ p ∈ b.pages, p.length ≤ 20
  pc : ∀ p ∈ b.pages, ∀ r ∈ p, r.length ≤ 40
  cr : ∀ r ∈ b.cells, r.length ≤ 20
theorem shortB.of {b : Board} (h : longB b = false) : shortB b := by
  simp only [longB, Bool.or_eq_false_iff, decide_eq_false_iff_not, List.any_eq_false, Bool.or_eq_true, decide_eq_true_eq, List.any_eq_true, not_or, not_exists, not_and] at h
  obtain ⟨⟨⟨⟨⟨h1, h2⟩, h3⟩, h4⟩, h5⟩, h6⟩ := h
  exact ⟨by omega, by omega, by omega, fun g hg => by have := h4 g hg; omega, fun p hp => by have := (h5 p hp).1; omega, fun p hp r hr => by have := (h5 p hp).2 r hr; omega, fun r hr => by have := h6 r hr; omega⟩
theorem shortB.sizes {b : Board} (h : shortB b) : okSizes b := ⟨by have := h.g; omega, by have := h.p; omega, fun p hp => by have := h.pr p hp; omega, by have := h.c; omega, fun r hr => by have := h.cr r hr; omega⟩
theorem okMade.short {b : Board} (h : okMade b) : shortB b := ⟨by have := h.gl.most; omega, by have := h.most; omega, by have := h.cells.most; omega, fun g hg => by have := (h.gl.one g hg).1; omega, fun p hp => by have := (h.page p hp).1.most; omega, fun p hp r hr => by have := (h.page p hp).1.wide r hr; have := (h.page p hp).1.wmost; omega, fun r hr => by have := h.cells.wide r hr; have := h.cells.wmost; omega⟩
theorem eqGlyphS {d : Nat} {a0 : List UInt8} {a1 : Int} : eqA Tryz.prog (d + 2) 76 (.agg [.str a0, .int .i64 a1]) (.agg [.str a0, .int .i64 a1]) = some true := by
  have hu := under_ty ty76
  have e : ∀ a b : Int, eqA Tryz.prog (d + 1) 3 (.int .i64 a) (.int .i64 b) = some (a == b) := fun a b => eqA_int ty3 rfl
  have eb : ∀ a b : List UInt8, eqA Tryz.prog (d + 1) 9 (.str a) (.str b) = some (a == b) := fun a b => by
    simp only [eqA, under_ty ty9, ty9]
  have hs : (Tryz.prog.stoodInHeld 76) = false := by kernel_rfl
  have hq := eqAll_some [a0 == a0, a1 == a1]
  simp only [List.map_cons, List.map_nil] at hq
  unfold eqA
  simp only [hu, ty76, hs, ty3, ty9, List.map_cons, List.map_nil, Bool.false_eq_true, if_false, partA, aggD, List.getD_cons_zero, List.getD_cons_succ, e, eb]
  rw [if_neg (by decide), if_neg (by decide), hq]
  simp
theorem eqTraceS {d : Nat} {a0 a1 : Int} : eqA Tryz.prog (d + 2) 86 (.agg [.int .i64 a0, .int .i64 a1]) (.agg [.int .i64 a0, .int .i64 a1]) = some true := by
  have hu := under_ty ty86
  have e : ∀ a b : Int, eqA Tryz.prog (d + 1) 3 (.int .i64 a) (.int .i64 b) = some (a == b) := fun a b => eqA_int ty3 rfl
  have hs : (Tryz.prog.stoodInHeld 86) = false := by kernel_rfl
  have hq := eqAll_some [a0 == a0, a1 == a1]
  simp only [List.map_cons, List.map_nil] at hq
  unfold eqA
  simp only [hu, ty86, hs, ty3, List.map_cons, List.map_nil, Bool.false_eq_true, if_false, partA, aggD, List.getD_cons_zero, List.getD_cons_succ, e]
  rw [if_neg (by decide), if_neg (by decide), hq]
  simp
theorem eqGuardG : (Tryz.prog.eqGuardType Tryz.prog.depth 76 = false) = True := eq_true (by kernel_rfl)
theorem eqGuardT : (Tryz.prog.eqGuardType Tryz.prog.depth 86 = false) = True := eq_true (by kernel_rfl)
theorem EqBoards_ok (b : Board) (ok : shortB b) : PureA Tryz.prog 19 [.agg (brdA b), .agg (brdA b)] (.bool true) := by
  refine PureA.of_wpp { cut := [16, 25] } 116 mixed Tryz.func19 (by kernel_rfl) rfl (by kernel_rfl) (rfl) fun h j hB => ?_
  simp only [junk_succ, junk_zero, List.cons_append, List.nil_append, List.length_cons, List.length_nil, Nat.reduceAdd]
  have hg := ok.g
  have hp := ok.p
  have hc := ok.c
  simp (implicitDefEqProofs := false) (dsimp := false) only [go_sem, brdA, bne_self_eq_false]
  refine WP.loopI (fun (k : Nat) s => (k ≤ b.glyphs.length) ∧ s.sl.length = 118 ∧ s.df = [] ∧ s.gh = {} ∧ (s.hp = h ++ [.cells 0 (brdA b), .cells 0 (brdA b)]) ∧ evA s.sl (.tmp 2) = .ptr ⟨h.length, 0⟩ 0 ∧ evA s.sl (.tmp 3) = .ptr ⟨h.length + 1, 0⟩ 0 ∧ evA s.sl (.tmp 5) = .int .i64 k) (fun (k : Nat) => b.glyphs.length - k) (0) ?_ ?_
  · simp (implicitDefEqProofs := false) (dsimp := false) only [go_sem, brdA, Nat.zero_le]
  · rintro k ⟨sl, df, hp, gh⟩ ⟨ab, al, rfl, rfl, rfl, a2, a3, a5⟩
    simp only at ab al a2 a3 a5
    obtain ⟨j, rfl⟩ := slots_lit al; clear al; simp only [junk_succ, junk_zero, evA_tmp, nth_16, nth_four, nth_one, nth_zero, Nat.zero_add, Nat.reduceAdd] at  a2 a3 a5 ⊢
    refine wp_ok (so := { cut := [16, 25] }) mixed _ (by kernel_rfl) ?_
    by_cases hk : k < b.glyphs.length
    · have hn := ok.gn _ (List.getElem_mem hk)
      simp (implicitDefEqProofs := false) (dsimp := false) only [go_sem, a2, a3, a5, brdA, nat_lt hk, decide_true, rowN cGlyph_len hk, rowN_le cGlyph_len hk, cGlyph, eqGlyphS, eqGuardG, Bool.not_true]
      exact ⟨k + 1, ⟨by omega, wrap_succ (by omega)⟩, by omega⟩
    · have hs : ((k : Int) < (b.glyphs.length : Int)) = False := eq_false (by omega)
      simp (implicitDefEqProofs := false) (dsimp := false) only [go_sem, a2, a3, a5, brdA, hs, decide_false]
      refine WP.loopI (fun (k : Nat) s => (k ≤ b.pages.length) ∧ s.sl.length = 118 ∧ s.df = [] ∧ s.gh = {} ∧ (s.hp = h ++ [.cells 0 (brdA b), .cells 0 (brdA b)]) ∧ evA s.sl (.tmp 2) = .ptr ⟨h.length, 0⟩ 0 ∧ evA s.sl (.tmp 3) = .ptr ⟨h.length + 1, 0⟩ 0 ∧ evA s.sl (.tmp 6) = .int .i64 k) (fun (k : Nat) => b.pages.length - k) (0) ?_ ?_
      · simp (implicitDefEqProofs := false) (dsimp := false) only [go_sem, brdA, Nat.zero_le]
      · rintro k ⟨sl, df, hp, gh⟩ ⟨cb, cl, rfl, rfl, rfl, c2, c3, c6⟩
        simp only at cb cl c2 c3 c6
        obtain ⟨j, rfl⟩ := slots_lit cl; clear cl; simp only [junk_succ, junk_zero, evA_tmp, nth_16, nth_four, nth_one, nth_zero, Nat.zero_add, Nat.reduceAdd] at  c2 c3 c6 ⊢
        refine wp_ok (so := { cut := [16, 25] }) mixed _ (by kernel_rfl) ?_
        by_cases hk : k < b.pages.length
        · have h1 := ok.pr _ (List.getElem_mem hk)
          have h2 := ok.pc _ (List.getElem_mem hk)
          simp (implicitDefEqProofs := false) (dsimp := false) only [go_sem, c2, c3, c6, brdA, nat_lt hk, decide_true, row1 cPage_len hk, row1_le cPage_len hk, cPage]
          (first | refine CallsA.use (eqStrings_ok b.pages[k] b.pages[k] (by omega) (fun s hs => by have := h2 s hs; omega) (fun s hs => by have := h2 s hs; omega)) ?_ | refine QuietCalls.use (eqStrings_ok b.pages[k] b.pages[k] (by omega) (fun s hs => by have := h2 s hs; omega) (fun s hs => by have := h2 s hs; omega)) ?_)
          simp (implicitDefEqProofs := false) (dsimp := false) only [go_sem, beq_self_eq_true]
          exact ⟨k + 1, ⟨by omega, rfl, wrap_succ (by omega)⟩, by omega⟩
        · have hs : ((k : Int) < (b.pages.length : Int)) = False := eq_false (by omega)
          simp (implicitDefEqProofs := false) (dsimp := false) only [go_sem, c2, c3, c6, brdA, hs, decide_false]
          refine WP.loopI (fun (k : Nat) s => (k ≤ b.cells.length) ∧ s.sl.length = 118 ∧ s.df = [] ∧ s.gh = {} ∧ (s.hp = h ++ [.cells 0 (brdA b), .cells 0 (brdA b)]) ∧ evA s.sl (.tmp 2) = .ptr ⟨h.length, 0⟩ 0 ∧ evA s.sl (.tmp 3) = .ptr ⟨h.length + 1, 0⟩ 0 ∧ evA s.sl (.tmp 7) = .int .i64 k) (fun (k : Nat) => b.cells.length - k) (0) ?_ ?_
          · simp (implicitDefEqProofs := false) (dsimp := false) only [go_sem, brdA, Nat.zero_le]
          · rintro k ⟨sl, df, hp, gh⟩ ⟨eb, el, rfl, rfl, rfl, e2, e3, e7⟩
            simp only at eb el e2 e3 e7
            obtain ⟨j, rfl⟩ := slots_lit el; clear el; simp only [junk_succ, junk_zero, evA_tmp, nth_16, nth_four, nth_one, nth_zero, Nat.zero_add, Nat.reduceAdd] at  e2 e3 e7 ⊢
            refine wp_ok (so := { cut := [16, 25] }) mixed _ (by kernel_rfl) ?_
            by_cases hk : k < b.cells.length
            · have h1 := ok.cr _ (List.getElem_mem hk)
              simp (implicitDefEqProofs := false) (dsimp := false) only [go_sem, e2, e3, e7, brdA, nat_lt hk, decide_true, row1 cTraces_len hk, row1_le cTraces_len hk, cTraces, bne_self_eq_false]
              refine WP.loopI (fun (x : Nat) s => (x ≤ b.cells[k].length) ∧ s.sl.length = 118 ∧ s.df = [] ∧ s.gh = {} ∧ (s.hp = h ++ [.cells 0 (brdA b), .cells 0 (brdA b)]) ∧ evA s.sl (.tmp 2) = .ptr ⟨h.length, 0⟩ 0 ∧ evA s.sl (.tmp 3) = .ptr ⟨h.length + 1, 0⟩ 0 ∧ evA s.sl (.tmp 7) = .int .i64 k ∧ evA s.sl (.tmp 8) = .int .i64 x) (fun (x : Nat) => b.cells[k].length - x) (0) ?_ ?_
              · simp (implicitDefEqProofs := false) (dsimp := false) only [go_sem, brdA, Nat.zero_le]
              · rintro x ⟨sl, df, hp, gh⟩ ⟨fb, fl, rfl, rfl, rfl, f2, f3, f7, f8⟩
                simp only at fb fl f2 f3 f7 f8
                obtain ⟨j, rfl⟩ := slots_lit fl; clear fl; simp only [junk_succ, junk_zero, evA_tmp, nth_16, nth_four, nth_one, nth_zero, Nat.zero_add, Nat.reduceAdd] at  f2 f3 f7 f8 ⊢
                refine wp_ok (so := { cut := [16, 25] }) mixed _ (by kernel_rfl) ?_
                by_cases hx : x < b.cells[k].length
                · simp (implicitDefEqProofs := false) (dsimp := false) only [go_sem, f2, f3, f7, f8, brdA, nat_lt hk, nat_lt hx, decide_true, row1 cTraces_len hk, row1_le cTraces_len hk, cTraces, rowN cTrace_len hx, rowN_le cTrace_len hx, cTrace, eqTraceS, eqGuardT, Bool.not_true]
                  exact ⟨x + 1, ⟨by omega, wrap_succ (by omega)⟩, by omega⟩
                · have hs : ((x : Int) < (b.cells[k].length : Int)) = False := eq_false (by omega)
                  simp (implicitDefEqProofs := false) (dsimp := false) only [go_sem, f2, f3, f7, f8, brdA, nat_lt hk, row1 cTraces_len hk, row1_le cTraces_len hk, cTraces, hs, decide_false]
                  exact ⟨k + 1, ⟨by omega, wrap_succ (by omega)⟩, by omega⟩
            · have hs : ((k : Int) < (b.cells.length : Int)) = False := eq_false (by omega)
              simp (implicitDefEqProofs := false) (dsimp := false) only [go_sem, e2, e3, e7, brdA, hs, decide_false]
theorem any_false {α : Type} {f : α → Bool} {l : List α} (h : ∀ q (hq : q < l.length), f l[q] = false) : l.any f = false := by
  rw [List.any_eq_false]
  intro x hx
  obtain ⟨q, hq, rfl⟩ := List.getElem_of_mem hx
  rw [h q hq]; decide
theorem long_ok (b : Board) : PureA Tryz.prog 10 [.agg (brdA b)] (.bool (longB b)) := by
  refine PureA.of_wpp { cut := [11, 17] } 85 mixed Tryz.func10 (by kernel_rfl) rfl (by kernel_rfl) (rfl) fun h j hB => ?_
  simp only [junk_succ, junk_zero, List.cons_append, List.nil_append, List.length_cons, List.length_nil, Nat.reduceAdd]
  simp (implicitDefEqProofs := false) (dsimp := false) only [go_sem, brdA]
  refine ⟨fun c0 => ?_, fun c0 => ⟨fun c1 => ?_, fun c1 => ⟨fun c2 => ?_, fun c2 => ?_⟩⟩⟩
  · have : 20 < b.glyphs.length := by omega
    simp [longB, this]
  · have : 20 < b.pages.length := by omega
    simp [longB, this]
  · have : 20 < b.cells.length := by omega
    simp [longB, this]
  have q0 : decide (20 < b.glyphs.length) = false := decide_eq_false (by omega)
  have q1 : decide (20 < b.pages.length) = false := decide_eq_false (by omega)
  have q2 : decide (20 < b.cells.length) = false := decide_eq_false (by omega)
  refine WP.loopI (fun (k : Nat) s => (k ≤ b.glyphs.length ∧ ∀ q (hq : q < b.glyphs.length), q < k → b.glyphs[q].name.length ≤ 40) ∧ s.sl.length = 86 ∧ s.df = [] ∧ s.gh = {} ∧ (s.hp = h ++ [.cells 0 (brdA b)]) ∧ evA s.sl (.tmp 1) = .ptr ⟨h.length, 0⟩ 0 ∧ evA s.sl (.tmp 3) = .int .i64 k) (fun (k : Nat) => b.glyphs.length - k) (0) ?_ ?_
  · simp (implicitDefEqProofs := false) (dsimp := false) only [go_sem, brdA, Nat.zero_le]
    exact fun q hq e => by omega
  · rintro k ⟨sl, df, hp, gh⟩ ⟨ab, al, rfl, rfl, rfl, a1, a3⟩
    simp only at ab al a1 a3
    obtain ⟨j, rfl⟩ := slots_lit al; clear al; simp only [junk_succ, junk_zero, evA_tmp, nth_16, nth_four, nth_one, nth_zero, Nat.zero_add, Nat.reduceAdd] at  a1 a3 ⊢
    refine wp_ok (so := { cut := [11, 17] }) mixed _ (by kernel_rfl) ?_
    obtain ⟨ab, an⟩ := ab
    by_cases hk : k < b.glyphs.length
    · simp (implicitDefEqProofs := false) (dsimp := false) only [go_sem, a1, a3, brdA, nat_lt hk, decide_true, rowN cGlyph_len hk, rowN_le cGlyph_len hk, cGlyph]
      refine ⟨fun e => ?_, fun e => ⟨k + 1, ⟨⟨by omega, fun q hq h3 => ?_⟩, wrap_succ (by omega)⟩, by omega⟩⟩
      · have : b.glyphs.any (fun g => decide (40 < g.name.length)) = true := List.any_eq_true.2 ⟨_, List.getElem_mem hk, decide_eq_true (by omega)⟩
        simp [longB, this]
      · by_cases e3 : q = k
        · subst e3; omega
        · exact an q hq (by omega)
    · have hs : ((k : Int) < (b.glyphs.length : Int)) = False := eq_false (by omega)
      have q3 := any_false (f := fun g : Glyph => decide (40 < g.name.length)) fun q hq => decide_eq_false (by have := an q hq (by omega); omega)
      simp (implicitDefEqProofs := false) (dsimp := false) only [go_sem, a1, a3, brdA, hs, decide_false]
      refine WP.loopI (fun (k : Nat) s => (k ≤ b.pages.length ∧ ∀ q (hq : q < b.pages.length), q < k → b.pages[q].length ≤ 20 ∧ ∀ r ∈ b.pages[q], r.length ≤ 40) ∧ s.sl.length = 86 ∧ s.df = [] ∧ s.gh = {} ∧ (s.hp = h ++ [.cells 0 (brdA b)]) ∧ evA s.sl (.tmp 1) = .ptr ⟨h.length, 0⟩ 0 ∧ evA s.sl (.tmp 4) = .int .i64 k) (fun (k : Nat) => b.pages.length - k) (0) ?_ ?_
      · simp (implicitDefEqProofs := false) (dsimp := false) only [go_sem, brdA, Nat.zero_le]
        exact fun q hq e => by omega
      · rintro k ⟨sl, df, hp, gh⟩ ⟨cb, cl, rfl, rfl, rfl, c1, c4⟩
        simp only at cb cl c1 c4
        obtain ⟨j, rfl⟩ := slots_lit cl; clear cl; simp only [junk_succ, junk_zero, evA_tmp, nth_16, nth_four, nth_one, nth_zero, Nat.zero_add, Nat.reduceAdd] at  c1 c4 ⊢
        refine wp_ok (so := { cut := [11, 17] }) mixed _ (by kernel_rfl) ?_
        obtain ⟨ab, an⟩ := cb
        by_cases hk : k < b.pages.length
        · simp (implicitDefEqProofs := false) (dsimp := false) only [go_sem, c1, c4, brdA, nat_lt hk, decide_true, row1 cPage_len hk, row1_le cPage_len hk, cPage]
          refine ⟨fun e => ?_, fun e => ?_⟩
          · have : b.pages.any (fun p => decide (20 < p.length) || p.any fun r => decide (40 < r.length)) = true := List.any_eq_true.2 ⟨_, List.getElem_mem hk, by rw [decide_eq_true (show 20 < b.pages[k].length by omega)]; rfl⟩
            simp only [longB, this, Bool.or_true, Bool.true_or]
          refine WP.loopI (fun (x : Nat) s => (x ≤ b.pages[k].length ∧ ∀ q (hq : q < b.pages[k].length), q < x → b.pages[k][q].length ≤ 40) ∧ s.sl.length = 86 ∧ s.df = [] ∧ s.gh = {} ∧ (s.hp = h ++ [.cells 0 (brdA b)]) ∧ evA s.sl (.tmp 1) = .ptr ⟨h.length, 0⟩ 0 ∧ evA s.sl (.tmp 4) = .int .i64 k ∧ evA s.sl (.tmp 5) = .int .i64 x) (fun (x : Nat) => b.pages[k].length - x) (0) ?_ ?_
          · simp (implicitDefEqProofs := false) (dsimp := false) only [go_sem, brdA, Nat.zero_le]
            exact fun q hq e => by omega
          · rintro x ⟨sl, df, hp, gh⟩ ⟨db, dl, rfl, rfl, rfl, d1, d4, d5⟩
            simp only at db dl d1 d4 d5
            obtain ⟨j, rfl⟩ := slots_lit dl; clear dl; simp only [junk_succ, junk_zero, evA_tmp, nth_16, nth_four, nth_one, nth_zero, Nat.zero_add, Nat.reduceAdd] at  d1 d4 d5 ⊢
            refine wp_ok (so := { cut := [11, 17] }) mixed _ (by kernel_rfl) ?_
            obtain ⟨db, dn⟩ := db
            by_cases hx : x < b.pages[k].length
            · simp (implicitDefEqProofs := false) (dsimp := false) only [go_sem, d1, d4, d5, brdA, nat_lt hk, nat_lt hx, decide_true, row1 cPage_len hk, row1_le cPage_len hk, cPage, row1 cStr_len hx, row1_le cStr_len hx, cStr]
              refine ⟨fun e => ?_, fun e => ⟨x + 1, ⟨⟨by omega, fun q hq h3 => ?_⟩, wrap_succ (by omega)⟩, by omega⟩⟩
              · have : b.pages.any (fun p => decide (20 < p.length) || p.any fun r => decide (40 < r.length)) = true := List.any_eq_true.2 ⟨_, List.getElem_mem hk, by
                  rw [Bool.or_eq_true]; exact .inr (List.any_eq_true.2 ⟨_, List.getElem_mem hx, decide_eq_true (by omega)⟩)⟩
                simp only [longB, this, Bool.or_true, Bool.true_or]
              · by_cases e3 : q = x
                · subst e3; omega
                · exact dn q hq (by omega)
            · have hs : ((x : Int) < (b.pages[k].length : Int)) = False := eq_false (by omega)
              have q4 := any_false (f := fun r : List UInt8 => decide (40 < r.length)) fun q hq => decide_eq_false (by have := dn q hq (by omega); omega)
              simp (implicitDefEqProofs := false) (dsimp := false) only [go_sem, d1, d4, d5, brdA, nat_lt hk, row1 cPage_len hk, row1_le cPage_len hk, cPage, hs, decide_false]
              refine ⟨k + 1, ⟨⟨by omega, fun q hq h3 => ?_⟩, wrap_succ (by omega)⟩, by omega⟩
              by_cases e3 : q = k
              · subst e3; refine ⟨by omega, fun r hr => ?_⟩; have := List.any_eq_false.1 q4 r hr; simp only [decide_eq_true_eq] at this; omega
              · exact an q hq (by omega)
        · have hs : ((k : Int) < (b.pages.length : Int)) = False := eq_false (by omega)
          have q4 := any_false (f := fun p : List (List UInt8) => decide (20 < p.length) || p.any fun r => decide (40 < r.length)) fun q hq => by
            obtain ⟨a1, a2⟩ := an q hq (by omega)
            rw [decide_eq_false (by omega), Bool.false_or, List.any_eq_false]
            intro r hr
            have := a2 r hr
            simp only [decide_eq_true_eq]; omega
          simp (implicitDefEqProofs := false) (dsimp := false) only [go_sem, c1, c4, brdA, hs, decide_false]
          refine WP.loopI (fun (k : Nat) s => (k ≤ b.cells.length ∧ ∀ q (hq : q < b.cells.length), q < k → b.cells[q].length ≤ 20) ∧ s.sl.length = 86 ∧ s.df = [] ∧ s.gh = {} ∧ (s.hp = h ++ [.cells 0 (brdA b)]) ∧ evA s.sl (.tmp 1) = .ptr ⟨h.length, 0⟩ 0 ∧ evA s.sl (.tmp 6) = .int .i64 k) (fun (k : Nat) => b.cells.length - k) (0) ?_ ?_
          · simp (implicitDefEqProofs := false) (dsimp := false) only [go_sem, brdA, Nat.zero_le]
            exact fun q hq e => by omega
          · rintro k ⟨sl, df, hp, gh⟩ ⟨eb, el, rfl, rfl, rfl, e1, e6⟩
            simp only at eb el e1 e6
            obtain ⟨j, rfl⟩ := slots_lit el; clear el; simp only [junk_succ, junk_zero, evA_tmp, nth_16, nth_four, nth_one, nth_zero, Nat.zero_add, Nat.reduceAdd] at  e1 e6 ⊢
            refine wp_ok (so := { cut := [11, 17] }) mixed _ (by kernel_rfl) ?_
            obtain ⟨eb, en⟩ := eb
            by_cases hk : k < b.cells.length
            · simp (implicitDefEqProofs := false) (dsimp := false) only [go_sem, e1, e6, brdA, nat_lt hk, decide_true, row1 cTraces_len hk, row1_le cTraces_len hk, cTraces]
              refine ⟨fun e => ?_, fun e => ⟨k + 1, ⟨⟨by omega, fun q hq h3 => ?_⟩, wrap_succ (by omega)⟩, by omega⟩⟩
              · have : b.cells.any (fun r => decide (20 < r.length)) = true := List.any_eq_true.2 ⟨_, List.getElem_mem hk, decide_eq_true (by omega)⟩
                simp only [longB, this, Bool.or_true]
              · by_cases e3 : q = k
                · subst e3; omega
                · exact en q hq (by omega)
            · have hs : ((k : Int) < (b.cells.length : Int)) = False := eq_false (by omega)
              have q5 := any_false (f := fun r : List Trace => decide (20 < r.length)) fun q hq => decide_eq_false (by have := en q hq (by omega); omega)
              simp (implicitDefEqProofs := false) (dsimp := false) only [go_sem, e1, e6, brdA, hs, decide_false]
              rw [longB, q0, q1, q2, q3, q4, q5]; rfl
end Go.Mac
namespace Go.Mac
open Go Go.Conc Go.Proofs
set_option maxRecDepth 4000
theorem role_left {h k : List Blk} (hro : h[0]? = some (.role true)) : (h ++ k)[0]? = some (.role true) := by
  rw [List.getElem?_append_left (List.getElem?_eq_some_iff.1 hro).1]; exact hro
end Go.Mac
namespace Go.Mac
open Go Go.Conc Go.Proofs
set_option maxRecDepth 4000
theorem WPI.dup {P : Program} {fk : FK} {its : List Item} {Q : AExit → AS → Prop} {sl : List AV} {df : List ADef} {gh : Gst} {A : List Blk} {b : Board} {gl pg : AV} {m : Nat} (hA : A.length = m)
    (hk : WPI P fk its Q ⟨sl, df, A ++ .dead :: (List.replicate b.cells.length .dead ++ [.cells 0 [gl, pg, sliceOf cTraces b.cells]]), gh⟩) :
    WPI P fk its Q ⟨sl, df, A ++ .cells b.cells.length (slsFrom 1 (m + 1) b.cells) :: (b.cells.map rowB ++ [.cells 0 [gl, pg, .sl ⟨m, b.cells.length⟩ 1 0 b.cells.length]]), gh⟩ := by
  refine WPI.rows (by rw [hA]) ?_
  have hct : (b.cells.flatMap cTraces).take b.cells.length = b.cells.flatMap cTraces := List.take_of_length_le (by rw [cells_len1]; exact Nat.le_refl _)
  have g1 : ∀ x : Blk, (A ++ x :: (List.replicate b.cells.length Blk.dead ++ [.cells 0 [gl, pg, .sl ⟨m, b.cells.length⟩ 1 0 b.cells.length]]))[m + (1 + b.cells.length)]? = some (.cells 0 [gl, pg, .sl ⟨m, b.cells.length⟩ 1 0 b.cells.length]) := fun x => by
    rw [← hA, List.getElem?_append_right (by omega), Nat.add_sub_cancel_left, Nat.add_comm 1, List.getElem?_cons_succ, List.getElem?_append_right (by simp), List.length_replicate, Nat.sub_self]; rfl
  have g2 : ∀ (x : Blk) (l : List Blk), (A ++ x :: l)[m]? = some x := fun x l => by rw [← hA, List.getElem?_append_right (Nat.le_refl _), Nat.sub_self]; rfl
  have s2 : ∀ (x y : Blk) (l : List Blk), (A ++ x :: l).set m y = A ++ y :: l := fun x y l => by rw [← hA, List.set_append_right _ _ (Nat.le_refl _), Nat.sub_self]; rfl
  have s1 : ∀ (x y : Blk), (A ++ x :: (List.replicate b.cells.length Blk.dead ++ [.cells 0 [gl, pg, .sl ⟨m, b.cells.length⟩ 1 0 b.cells.length]])).set (m + (1 + b.cells.length)) y = A ++ x :: (List.replicate b.cells.length Blk.dead ++ [y]) := fun x y => by
    rw [← hA, List.set_append_right _ _ (by omega), Nat.add_sub_cancel_left, Nat.add_comm 1, List.set_cons_succ, List.set_append_right _ _ (by simp), List.length_replicate, Nat.sub_self]; rfl
  refine WPI.turn (Turns.seal_cell (i := m + (1 + b.cells.length)) (g := 0) (j := 2) (a := .sl ⟨m, b.cells.length⟩ 1 0 b.cells.length) (a' := sliceOf cTraces b.cells) (g1 _) rfl (by simp only [sealV]; rw [g2]; simp [sliceOf, hct]) (by simp [nmOf])) ?_
  simp only [nmOf, s2, s1, List.set_cons_succ, List.set_cons_zero]
  exact hk
theorem cPage_set (l : List (List (List UInt8))) (k : Nat) (p : List (List UInt8)) : (l.flatMap cPage).set k (sliceOf cStr p) = (l.set k p).flatMap cPage := by
  induction l generalizing k with
  | nil => rfl
  | cons x l ih =>
    cases k with
    | zero => rfl
    | succ k =>
      have := ih k
      simp only [List.flatMap_cons, cPage, List.cons_append, List.nil_append, List.set_cons_succ] at this ⊢
      rw [this]
set_option maxHeartbeats 4000000 in
theorem WPI.dupS {P : Program} {fk : FK} {its : List Item} {Q : AExit → AS → Prop} {sl : List AV} {df : List ADef} {gh : Gst} {A : List Blk} {b : Board} {gl : AV} {m gp : Nat} (hA : A.length = m)
    (hk : WPI P fk its Q ⟨sl, df, A ++ .dead :: .dead :: (List.replicate b.cells.length .dead ++ [.cells 0 [gl, sliceOf cPage b.pages, sliceOf cTraces b.cells]]), gh⟩) :
    WPI P fk its Q ⟨sl, df, A ++ .cells gp (b.pages.flatMap cPage) :: .cells b.cells.length (slsFrom 1 (m + 2) b.cells) :: (b.cells.map rowB ++ [.cells 0 [gl, .sl ⟨m, gp⟩ 1 0 b.pages.length, .sl ⟨m + 1, b.cells.length⟩ 1 0 b.cells.length]]), gh⟩ := by
  have hh : ∀ (x y : Blk) (l : List Blk), A ++ x :: y :: l = (A ++ [x]) ++ y :: l := fun _ _ _ => by simp
  rw [hh]
  refine WPI.dup (m := m + 1) (by simp [hA]) ?_
  have hpt : (b.pages.flatMap cPage).take b.pages.length = b.pages.flatMap cPage := List.take_of_length_le (by rw [cPage_len1]; exact Nat.le_refl _)
  have g1 : ∀ x y z : Blk, (A ++ x :: y :: (List.replicate b.cells.length Blk.dead ++ [z]))[m + (2 + b.cells.length)]? = some z := fun x y z => by
    rw [← hA, List.getElem?_append_right (by omega), Nat.add_sub_cancel_left, Nat.add_comm 2, List.getElem?_cons_succ, List.getElem?_cons_succ, List.getElem?_append_right (by simp), List.length_replicate, Nat.sub_self]; rfl
  have g2 : ∀ (x : Blk) (l : List Blk), (A ++ x :: l)[m]? = some x := fun x l => by rw [← hA, List.getElem?_append_right (Nat.le_refl _), Nat.sub_self]; rfl
  have s2 : ∀ (x y : Blk) (l : List Blk), (A ++ x :: l).set m y = A ++ y :: l := fun x y l => by rw [← hA, List.set_append_right _ _ (Nat.le_refl _), Nat.sub_self]; rfl
  have s1 : ∀ (x y z w : Blk), (A ++ x :: y :: (List.replicate b.cells.length Blk.dead ++ [z])).set (m + (2 + b.cells.length)) w = A ++ x :: y :: (List.replicate b.cells.length Blk.dead ++ [w]) := fun x y z w => by
    rw [← hA, List.set_append_right _ _ (by omega), Nat.add_sub_cancel_left, Nat.add_comm 2, List.set_cons_succ, List.set_cons_succ, List.set_append_right _ _ (by simp), List.length_replicate, Nat.sub_self]; rfl
  simp only [List.append_assoc, List.cons_append, List.nil_append]
  refine WPI.turn (Turns.seal_cell (i := m + (2 + b.cells.length)) (g := 0) (j := 1) (a := .sl ⟨m, gp⟩ 1 0 b.pages.length) (a' := sliceOf cPage b.pages) (g1 _ _ _) rfl (by simp only [sealV]; rw [g2]; simp [sliceOf, hpt]) (by simp [nmOf])) ?_
  simp only [nmOf, s2, s1, List.set_cons_succ, List.set_cons_zero]
  exact hk
theorem cut6 {l T : List Blk} {b1 b2 b3 b4 b5 b6 x : Blk} : l ++ b1 :: b2 :: b3 :: b4 :: b5 :: b6 :: x :: T = (l ++ [b1, b2, b3, b4, b5, b6]) ++ x :: T := by simp
theorem n61 (n : Nat) : n + 6 + 1 = n + 7 := rfl
theorem n62 (n : Nat) : n + 6 + 2 = n + 8 := rfl
theorem get_mapB {cs : List (List Trace)} {y : Blk} : (cs.map rowB ++ [y])[cs.length]? = some y := by rw [List.getElem?_append_right (by simp), List.length_map, Nat.sub_self]; rfl
def setsL (b made other : Board) : List Board := [b, made, other, made]
theorem short_setP {b o : Board} (hb : shortB b) (ho : shortB o) {k : Nat} (h0 : 0 < b.pages.length) : shortB { o with pages := o.pages.set k b.pages[0] } := by
  have hm : ∀ p ∈ o.pages.set k b.pages[0], p ∈ o.pages ∨ p = b.pages[0] := fun p hp => List.mem_or_eq_of_mem_set hp
  refine ⟨ho.g, by simp only [List.length_set]; exact ho.p, ho.c, ho.gn, fun p hp => ?_, fun p hp r hr => ?_, ho.cr⟩
  · rcases hm p hp with h | rfl
    · exact ho.pr p h
    · exact hb.pr _ (List.getElem_mem h0)
  · rcases hm p hp with h | rfl
    · exact ho.pc p h r hr
    · exact hb.pc _ (List.getElem_mem h0) r hr
theorem short_setC {o : Board} (ho : shortB o) {row row' : List Trace} {rest : List (List Trace)} (hc : o.cells = row :: rest) (hl : row'.length = row.length) : shortB { o with cells := row' :: rest } := by
  have h1 := ho.c
  have h2 := ho.cr
  rw [hc] at h1 h2
  refine ⟨ho.g, ho.p, by simpa using h1, ho.gn, ho.pr, ho.pc, fun r hr => ?_⟩
  rcases List.mem_cons.1 hr with rfl | hr
  · rw [hl]; exact h2 _ (List.mem_cons_self ..)
  · exact h2 _ (List.mem_cons_of_mem _ hr)
def SetsP (b : Board) (h : List Blk) (i : Nat) (e : AEnd) (h' : List Blk) : Prop :=
  ∃ J made other r x, okMadeN made 4 3 2 3 ∧ shortB other ∧ e = .ret (.sl ⟨h.length + J.length, 0⟩ 3 0 4) ∧ h' = h.set i (diceB r x) ++ (J ++ [.cells 0 ((setsL b made other).flatMap brdA)])
theorem turn_use3 {f : FuncId} {args : List AV} {r r' : Option (List Int)} {x x' : Int} {v : AV} {h T : List Blk} {i : Nat} {K : AV → Prop}
    (hi : h[i]? = some (diceB r x)) (c : ∀ h, h[i]? = some (diceB r x) → CallsA Tryz.prog f args h fun e h' => e = .ret v ∧ h' = h.set i (diceB r' x')) (hk : K v) : TurnCalls Tryz.prog f args (h ++ T) (h.set i (diceB r' x') ++ T) K := by
  refine TurnCalls.use ?_ hk
  have := c _ (get_left (k := T) hi)
  rwa [set_left (List.getElem?_eq_some_iff.1 hi).1] at this
theorem pg_get00 {p : List (List (List UInt8))} (h : 0 < p.length) : (p.flatMap cPage).drop 0 = sliceOf cStr p[0] :: (p.drop 1).flatMap cPage := by
  have := row1 cPage_len h
  rw [this]; rfl
theorem pg_get0 {p : List (List (List UInt8))} (h : 0 < p.length) : (p.flatMap cPage).getD 0 .any = sliceOf cStr p[0] := by
  have := pg_get00 h
  rw [List.drop_zero] at this
  rw [this]; rfl
theorem sets_end {b made other : Board} {h h3 Kk H : List Blk} {i n1 : Nat} {r : Option (List Int)} {x : Int} (hB : h.all (belowBlk h.length) = true) (hl : i < h.length) (hs : h3 = h.set i (diceB r x)) (okN : okMadeN made 4 3 2 3) (ho : shortB other)
    (hn : n1 = Kk.length) (hH : H = h3 ++ (Kk ++ [.cells 0 ((setsL b made other).flatMap brdA)])) (hbk : Kk.all (belowBlk (h3.length + Kk.length + 1)) = true) :
    ∃ v n, AV.sl ⟨h3.length + n1, 0⟩ 3 0 4 = v ∧ h3.length ≤ n ∧ below n v = true ∧ (H.take n).all (belowBlk n) = true ∧ SetsP b h i (.ret v) (H.take n) := by
  subst hn; subst hH
  have hlen : h3.length = h.length := by rw [hs, List.length_set]
  have tk : (h3 ++ (Kk ++ [Blk.cells 0 ((setsL b made other).flatMap brdA)])).take (h3.length + Kk.length + 1) = h3 ++ (Kk ++ [Blk.cells 0 ((setsL b made other).flatMap brdA)]) := List.take_of_length_le (by simp; omega)
  refine ⟨_, h3.length + Kk.length + 1, rfl, by omega, by simp [below], ?_, Kk, made, other, r, x, okN, ho, by rw [hlen], by rw [tk, hs]⟩
  rw [tk, List.all_append, List.all_append, hbk]
  have h1 : h3.all (belowBlk (h3.length + Kk.length + 1)) = true := by
    rw [hs]
    rw [List.all_eq_true]
    intro y hy
    rcases List.mem_or_eq_of_mem_set hy with hy | rfl
    · have := List.all_eq_true.1 (allBelow_mono (show h.length ≤ (h.set i (diceB r x)).length + Kk.length + 1 by rw [List.length_set]; omega) hB) y hy
      exact this
    · cases r <;> simp [diceB, leftA, belowBlk, belowL, below, ints]
      exact belowL_flat (f := cInt) (fun _ => rfl) _
  rw [h1]
  have h2 : belowL (h3.length + Kk.length + 1) ((setsL b made other).flatMap brdA) = true := belowL_flat (f := brdA) (fun y => slices_below y) _
  simp [belowBlk, h2]
theorem sets_ok (b : Board) (sb : shortB b) (h : List Blk) (i : Nat) (r : Option (List Int)) (x : Int) (hi : h[i]? = some (diceB r x)) :
    CallsA Tryz.prog 13 [.agg (brdA b), .ptr ⟨i, 0⟩ 0] h (SetsP b h i) := by
  have hl : i < h.length := (List.getElem?_eq_some_iff.1 hi).1
  refine CallsA.of_wpe [] { cut := [15, 37], hand := [3, 4, 5, 7], tail := [(6, 10)] } 59 mixed Tryz.func13 (by kernel_rfl) rfl (by kernel_rfl) fun j hB hA => ?_; simp only [junk_succ, junk_zero, List.cons_append, List.nil_append, List.length_cons, List.length_nil, Nat.reduceAdd]
  simp (implicitDefEqProofs := false) (dsimp := false) only [go_sem, brdA]
  refine Rolls.use (BoardOf_ok _ i r x 4 3 2 3 (by omega) (by omega) (by omega) (by omega) (get_left hi)) ?_
  rintro _ r x ⟨made, rfl, okN⟩
  rw [set_left hl]
  obtain ⟨h2, e2⟩ : ∃ h2, h2 = h.set i (diceB r x) := ⟨_, rfl⟩
  have hl2 : h.length = h2.length := by rw [e2, List.length_set]
  have hi2 : h2[i]? = some (diceB r x) := by rw [e2, List.getElem?_set_self hl]
  rw [← e2]
  have okm := okN.made
  simp only [hl2]
  simp (implicitDefEqProofs := false) (dsimp := false) only [go_sem, brdA]
  refine CallsA.mono (DupBoard_ok made okm.sizes _) ?_
  rintro _ _ ⟨u0, u1, u2, u3, rfl, rfl⟩
  simp only [List.append_assoc, List.cons_append, List.nil_append, List.length_append, List.length_cons, List.length_nil, Nat.zero_add, Nat.add_assoc, Nat.reduceAdd]
  simp (implicitDefEqProofs := false) (dsimp := false) only [go_sem, dupA, dupH, n61, n62]
  simp only [hl2, List.length_map, Nat.add_assoc, Nat.reduceAdd]
  have hi2l : i < h2.length := by omega
  by_cases hp0 : 0 < b.pages.length
  case' pos =>
    have e1 : ((b.pages.length : Int) > 0) = True := eq_true (by omega)
    refine wp_shut [] (so := { cut := [15, 37], tail := [(6, 10)] }) mixed _ (by kernel_rfl) ?_
    simp (implicitDefEqProofs := false) (dsimp := false) only [go_sem, e1, decide_true]
    refine Rolls.use (Once_ok _ i r x 2 (by omega) (by omega) (get_left hi2)) ?_
    rintro _ r' x' ⟨v, rfl⟩
    rw [set_left hi2l]
    obtain ⟨h3, e3⟩ : ∃ h3, h3 = h2.set i (diceB r' x') := ⟨_, rfl⟩
    have hl3 : h2.length = h3.length := by rw [e3, List.length_set]
    have hi3 : h3[i]? = some (diceB r' x') := by rw [e3, List.getElem?_set_self hi2l]
    have hs3 : h3 = h.set i (diceB r' x') := by rw [e3, e2, List.set_set]
    rw [← e3]
    clear e3
    simp only [hl3]
    cases v
  case' neg =>
    have e1 : ((b.pages.length : Int) > 0) = False := eq_false (by omega)
    refine wp_shut [] (so := { cut := [15, 37], tail := [(6, 10)] }) mixed _ (by kernel_rfl) ?_
    simp (implicitDefEqProofs := false) (dsimp := false) only [go_sem, e1, decide_false]
    obtain ⟨h3, hs3⟩ : ∃ h3, h3 = h2 := ⟨_, rfl⟩
    obtain ⟨r', x', hrx⟩ : ∃ r' x', (r' = r ∧ x' = x) := ⟨r, x, rfl, rfl⟩
    obtain ⟨rfl, rfl⟩ := hrx
    subst hs3
    have hs3 := e2
    have hl3 : h3.length = h3.length := rfl
    have hi3 := hi2
  case' pos.true =>
    have hmk := okm.pos
    have hml := okm.most
    have hw1 : IntKind.i64.wrap ((made.pages.length : Int) - 1) = (made.pages.length : Int) - 1 := wrap64 (by omega) (by omega)
    simp (implicitDefEqProofs := false) (dsimp := false) only [go_sem, hl3]
    obtain ⟨_, d1, x1, ⟨v1, rfl, hv1⟩, q1⟩ := To_det r' x' ((made.pages.length : Int) - 1) (by omega)
    refine WP.noisy (so := { cut := [15, 37], tail := [(6, 10)] }) 13 [7] [0, 0, 0, 0, 0, 0, 0, 0, 0, 0, 0, 0, 1] [1, 1, 0, 0, 0, 0, 0, 0, 1, 1, 1, 1, 1] ((fun T => [h3 ++ T, h3.set i (diceB d1 x1) ++ T]) _) rfl mixed (by kernel_rfl) (by kernel_rfl) (by decide) (by kernel_rfl) rfl ?_
    simp (implicitDefEqProofs := false) (dsimp := false) only [go_sem, hw1, get_mapB, get_past0, get_past]
    refine turn_use3 hi3 (fun h hi => q1 h i hi) ?_
    have hpl1 : (b.pages.flatMap cPage).length = b.pages.length := cPage_len1 _
    simp (implicitDefEqProofs := false) (dsimp := false) only [go_sem, get_past0, get_past, set_past0, set_past, get_mapB, pg_get00 hp0, pg_get0 hp0, hpl1, nat_lt hp0]
    refine ⟨⟨by omega, by omega⟩, ⟨by omega, by omega⟩, ?_⟩
    have hv1l : v1 < made.pages.length := by omega
    have hmpl : (made.pages.flatMap cPage).length = made.pages.length := cPage_len1 _
    (first | refine CallsA.use (DupStrings_ok b.pages[0] (by have := sb.pr _ (List.getElem_mem hp0); omega)) ?_ | refine QuietCalls.use (DupStrings_ok b.pages[0] (by have := sb.pr _ (List.getElem_mem hp0); omega)) ?_)
    simp (implicitDefEqProofs := false) (dsimp := false) only [go_sem, get_past0, get_past, set_past0, set_past, get_mapB, nat_lt hv1l, hmpl]
    refine ⟨by omega, ?_⟩
    obtain ⟨ob, hob⟩ : ∃ ob : Board, ob = { made with pages := made.pages.set v1 b.pages[0] } := ⟨_, rfl⟩
    have hos : shortB ob := by rw [hob]; exact short_setP sb okm.short hp0
    have hoc : ob.cells = made.cells := by rw [hob]
    have hog : ob.glyphs = made.glyphs := by rw [hob]
    have hop : (made.pages.flatMap cPage).set v1 (.psl (b.pages[0].flatMap cStr) b.pages[0].length) = ob.pages.flatMap cPage := by rw [hob]; exact cPage_set _ _ _
    have hol : made.pages.length = ob.pages.length := by rw [hob]; simp
    obtain ⟨h4, e4⟩ : ∃ h4, h4 = h3.set i (diceB d1 x1) := ⟨_, rfl⟩
    have hl4 : h3.length = h4.length := by rw [e4, List.length_set]
    have hs4 : h4 = h.set i (diceB d1 x1) := by rw [e4, hs3, List.set_set]
    rw [← e4, hop, cut6]
    have hT : ∀ (y : Blk), (List.replicate made.cells.length Blk.dead ++ [y])[made.cells.length]? = some y := fun y => by rw [List.getElem?_append_right (by simp), List.length_replicate, Nat.sub_self]; rfl
    rw [← hoc] at hT ⊢
    clear e4 hs3 hi3
    simp only [hl4]
    rw [hol]
    refine WPI.dupS (b := ob) (gp := ob.pages.length) (m := h4.length + 6) (by simp) ?_
    simp only [List.append_assoc, List.cons_append, List.nil_append]
    refine WPI.of_below fun hb _ => ?_
    refine wp_shut [] (so := { cut := [15, 37], tail := [(6, 10)] }) mixed _ (by kernel_rfl) ?_
    simp (implicitDefEqProofs := false) (dsimp := false) only [go_sem, hT]
    refine sets_end (b := b) (made := made) (other := ob) (Kk := .cells 0 (brdA b) :: .cells 0 (brdA made) :: u0 :: u1 :: u2 :: u3 :: .dead :: .dead :: (List.replicate ob.cells.length .dead ++ [.cells 0 (brdA ob)])) hB hl hs4 okN hos ?_ ?_ ?_
    · simp
    · simp [setsL, brdA, sliceOf, hoc, hog, hol]
    · simp only at hb
      rw [List.all_append, Bool.and_eq_true] at hb
      have hb2 := allBelow_mono (m := h4.length + (ob.cells.length + 9) + 1) (by simp) hb.2
      simpa [brdA, sliceOf, hoc, hog, hol, Nat.add_assoc] using hb2
  case' pos.false =>
    simp (implicitDefEqProofs := false) (dsimp := false) only [go_sem, hl3]
  all_goals
    have hT : ∀ (y : Blk), (List.replicate made.cells.length Blk.dead ++ [y])[made.cells.length]? = some y := fun y => by rw [List.getElem?_append_right (by simp), List.length_replicate, Nat.sub_self]; rfl
    rcases hcs : b.cells with _ | ⟨_ | ⟨t, ts⟩, rest⟩
    · refine wp_shut [] (so := { cut := [15, 37], tail := [(6, 10)] }) mixed _ (by kernel_rfl) ?_
      simp (implicitDefEqProofs := false) (dsimp := false) only [go_sem, hcs, List.flatMap_nil, List.flatMap_cons, cTraces, cTrace]
      rw [cut6]
      refine WPI.dupS (b := made) (m := h3.length + 6) (by simp) ?_
      simp only [List.append_assoc, List.cons_append, List.nil_append]
      refine WPI.of_below fun hb _ => ?_
      refine wp_shut [] (so := { cut := [15, 37], tail := [(6, 10)] }) mixed _ (by kernel_rfl) ?_
      simp (implicitDefEqProofs := false) (dsimp := false) only [go_sem, hT]
      refine sets_end (b := b) (made := made) (other := made) (Kk := .cells 0 (brdA b) :: .cells 0 (brdA made) :: u0 :: u1 :: u2 :: u3 :: .dead :: .dead :: (List.replicate made.cells.length .dead ++ [.cells 0 (brdA made)])) hB hl hs3 okN okm.short ?_ ?_ ?_
      · simp
      · simp [setsL, brdA, hcs, sliceOf, cTraces, cTrace]
      · simp only at hb
        rw [List.all_append, Bool.and_eq_true] at hb
        have hb2 := allBelow_mono (m := h3.length + (made.cells.length + 9) + 1) (by simp) hb.2
        simpa [brdA, hcs, sliceOf, cTraces, cTrace, Nat.add_assoc] using hb2
    · have p1 : (((rest.length + 1 : Nat) : Int) > 0) = True := eq_true (by omega)
      refine wp_shut [] (so := { cut := [15, 37], tail := [(6, 10)] }) mixed _ (by kernel_rfl) ?_
      simp (implicitDefEqProofs := false) (dsimp := false) only [go_sem, hcs, List.flatMap_nil, List.flatMap_cons, cTraces, cTrace, p1, nat_lt (Nat.succ_pos rest.length)]
      rw [cut6]
      refine WPI.dupS (b := made) (m := h3.length + 6) (by simp) ?_
      simp only [List.append_assoc, List.cons_append, List.nil_append]
      refine WPI.of_below fun hb _ => ?_
      refine wp_shut [] (so := { cut := [15, 37], tail := [(6, 10)] }) mixed _ (by kernel_rfl) ?_
      simp (implicitDefEqProofs := false) (dsimp := false) only [go_sem, hT]
      refine sets_end (b := b) (made := made) (other := made) (Kk := .cells 0 (brdA b) :: .cells 0 (brdA made) :: u0 :: u1 :: u2 :: u3 :: .dead :: .dead :: (List.replicate made.cells.length .dead ++ [.cells 0 (brdA made)])) hB hl hs3 okN okm.short ?_ ?_ ?_
      · simp
      · simp [setsL, brdA, hcs, sliceOf, cTraces, cTrace]
      · simp only at hb
        rw [List.all_append, Bool.and_eq_true] at hb
        have hb2 := allBelow_mono (m := h3.length + (made.cells.length + 9) + 1) (by simp) hb.2
        simpa [brdA, hcs, sliceOf, cTraces, cTrace, Nat.add_assoc] using hb2
    · have p1 : (((rest.length + 1 : Nat) : Int) > 0) = True := eq_true (by omega)
      have p2 : (((ts.length + 1 : Nat) : Int) > 0) = True := eq_true (by omega)
      obtain ⟨mt, mts, mrest, hmc⟩ : ∃ mt mts mrest, made.cells = (mt :: mts) :: mrest := by
        have hml := okm.cells.wpos
        cases hq : made.cells with
        | nil => have := okm.cells.pos; rw [hq] at this; simp at this
        | cons a l =>
          rw [hq] at hml
          cases a with
          | nil => simp at hml
          | cons x y => exact ⟨x, y, l, rfl⟩
      obtain ⟨ob, hob⟩ : ∃ ob : Board, ob = { made with cells := (t :: mts) :: mrest } := ⟨_, rfl⟩
      have hos : shortB ob := by rw [hob]; exact short_setC okm.short hmc rfl
      refine wp_shut [] (so := { cut := [15, 37], tail := [(6, 10)] }) mixed _ (by kernel_rfl) ?_
      simp (implicitDefEqProofs := false) (dsimp := false) only [go_sem, hcs, hmc, List.flatMap_nil, List.flatMap_cons, cTraces, cTrace, p1, p2, nat_lt (Nat.succ_pos rest.length), nat_lt (Nat.succ_pos ts.length), nat_lt (Nat.succ_pos mrest.length), nat_lt (Nat.succ_pos mts.length), slsFrom, get_mapB, List.map_cons, rowB]
      refine ⟨by omega, by omega, ?_⟩
      have hT : ∀ (y : Blk), (List.replicate mrest.length Blk.dead ++ [y])[mrest.length]? = some y := fun y => by rw [List.getElem?_append_right (by simp), List.length_replicate, Nat.sub_self]; rfl
      rw [cut6]
      simp only [Nat.add_assoc, Nat.reduceAdd]
      refine WPI.dupS (b := { made with cells := (t :: mts) :: mrest }) (gp := made.pages.length) (m := h3.length + 6) (by simp) ?_
      simp only [List.length_cons, List.replicate_succ, List.append_assoc, List.cons_append, List.nil_append, sliceOf, List.flatMap_cons, cTraces, cTrace]
      refine WPI.of_below fun hb _ => ?_
      refine wp_shut [] (so := { cut := [15, 37], tail := [(6, 10)] }) mixed _ (by kernel_rfl) ?_
      simp (implicitDefEqProofs := false) (dsimp := false) only [go_sem, hT]
      refine sets_end (b := b) (made := made) (other := ob) (Kk := .cells 0 (brdA b) :: .cells 0 (brdA made) :: u0 :: u1 :: u2 :: u3 :: .dead :: .dead :: .dead :: (List.replicate mrest.length .dead ++ [.cells 0 (brdA ob)])) hB hl hs3 okN hos ?_ ?_ ?_
      · simp
      · simp [setsL, brdA, sliceOf, hob, hcs, hmc, cTraces, cTrace]
      · simp only at hb
        rw [List.all_append, Bool.and_eq_true] at hb
        have hb2 := allBelow_mono (m := h3.length + (mrest.length + 10) + 1) (by simp) hb.2
        simpa [brdA, sliceOf, hob, hcs, hmc, cTraces, cTrace, Nat.add_assoc] using hb2
end Go.Mac
namespace Go.Mac
open Go Go.Conc Go.Proofs
set_option maxRecDepth 4000
end Go.Mac
namespace Go.Mac
open Go Go.Conc Go.Proofs
set_option maxRecDepth 4000
end Go.Mac
namespace Go.Mac
open Go Go.Conc Go.Proofs
set_option maxRecDepth 4000
theorem eqLists_nil : PureA Tryz.prog 22 [.nilsl, .nilsl] (.bool true) := by
  refine PureA.of_wpp { cut := [13] } 29 mixed Tryz.func22 (by kernel_rfl) rfl (by kernel_rfl) (rfl) fun h j hB => ?_
  simp only [junk_succ, junk_zero, List.cons_append, List.nil_append, List.length_cons, List.length_nil, Nat.reduceAdd]
  simp (implicitDefEqProofs := false) (dsimp := false) only [go_sem]
  refine WP.loopI (fun (k : Nat) s => (k = 0) ∧ s.sl.length = 31 ∧ s.df = [] ∧ s.gh = {} ∧ (s.hp = h) ∧ evA s.sl (.tmp 0) = .nilsl ∧ evA s.sl (.tmp 1) = .nilsl ∧ evA s.sl (.tmp 5) = .bool true ∧ evA s.sl (.tmp 6) = .int .i64 0) (fun (k : Nat) => 0) (0) ?_ ?_
  · simp (implicitDefEqProofs := false) (dsimp := false) only [go_sem]
  · rintro k ⟨sl, df, hp, gh⟩ ⟨ab, al, rfl, rfl, rfl, a0, a1, a5, a6⟩
    simp only at ab al a0 a1 a5 a6
    obtain ⟨j, rfl⟩ := slots_lit al; clear al; simp only [junk_succ, junk_zero, evA_tmp, nth_16, nth_four, nth_one, nth_zero, Nat.zero_add, Nat.reduceAdd] at  a0 a1 a5 a6 ⊢
    refine wp_ok (so := { cut := [13] }) mixed _ (by kernel_rfl) ?_
    simp (implicitDefEqProofs := false) (dsimp := false) only [go_sem, a0, a1, a5, a6]
theorem pairs_lists (l : List (Int × Int)) : sliceOf cPair l = sliceOf cList (l.map fun p => [p.1, p.2]) := by
  rw [sliceOf, sliceOf, List.length_map, List.flatMap_map]
  rfl
theorem eqPairsU {e : Int} {l : List (Int × Int)} (hl : l.length ≤ 100000) : PureA Tryz.prog 22 [unlessErr e (sliceOf cPair l), unlessErr e (sliceOf cPair l)] (.bool true) := by
  by_cases h : e = 0
  · rw [unless_ok h, pairs_lists]
    have := eqLists_ok (l.map fun p => [p.1, p.2]) (l.map fun p => [p.1, p.2]) (by rw [List.length_map]; omega) (fun s hs => by
      obtain ⟨p, _, rfl⟩ := List.mem_map.1 hs
      simp)
    rwa [beq_self_eq_true] at this
  · rw [unless_bad h]; exact eqLists_nil
theorem eqPairsS {l : List (Int × Int)} (hl : l.length ≤ 100000) : PureA Tryz.prog 22 [sliceOf cPair l, sliceOf cPair l] (.bool true) := eqPairsU (e := 0) hl
theorem brd_len (b : Board) : (brdA b).length = 3 := rfl
theorem hJ_get {J : List Blk} (y : Blk) : (J ++ [y])[J.length]? = some y := by simp
theorem hJ_set {J : List Blk} (y z : Blk) : (J ++ [y]).set J.length z = J ++ [z] := by simp
end Go.Mac
namespace Go.Mac
open Go Go.Conc Go.Proofs
set_option maxRecDepth 4000
def dupC (b : Board) (L : Nat) : List AV := [sliceOf cGlyph b.glyphs, .sl ⟨L, b.pages.length⟩ 1 0 b.pages.length, .sl ⟨L + 1, b.cells.length⟩ 1 0 b.cells.length]
def dupX (b : Board) (n : Nat) (P : Blk) : List Blk := .cells 0 (brdA b) :: .cells 0 (dupC b (n + 4)) :: .dead :: .cells 0 (dupC b (n + 4)) :: P :: .cells b.cells.length (slsFrom 1 (n + 4 + 2) b.cells) :: b.cells.map rowB
theorem DupExact_ok (b : Board) (ok : okSizes b) (h : List Blk) : CallsA Tryz.prog 15 [.agg (brdA b)] h fun e h' => e = .ret (dupA b (h.length + 4)) ∧ h' = h ++ dupX b h.length (.cells b.pages.length (b.pages.flatMap cPage)) := by
  have hgt : (b.glyphs.flatMap cGlyph).take (b.glyphs.length * 2) = b.glyphs.flatMap cGlyph := List.take_of_length_le (by rw [length_rows cGlyph_len]; exact Nat.le_refl _)
  have hgl : (b.glyphs.flatMap cGlyph).length = b.glyphs.length * 2 := length_rows cGlyph_len _
  refine CallsA.of_wpe [] { shut := [26, 45], hand := [9], tail := [(5, 9)] } 48 mixed Tryz.func15 (by kernel_rfl) rfl (by kernel_rfl) fun j hB hA => ?_; simp only [junk_succ, junk_zero, List.cons_append, List.nil_append, List.length_cons, List.length_nil, Nat.reduceAdd]
  simp (implicitDefEqProofs := false) (dsimp := false) only [go_sem, brdA, hgt, hgl]
  refine ⟨⟨flat_leaf (fun _ => rfl) _, by have := ok.g; omega⟩, ?_⟩
  refine WPI.turn (Turns.seal_cell (i := h.length + 3) (g := 0) (j := 0) (a := .sl ⟨h.length + 2, 1⟩ 2 0 b.glyphs.length) (a' := sliceOf cGlyph b.glyphs) (by simp only; rw [hget]; rfl) rfl (by simp only [sealV]; rw [hget]; simp [sliceOf, hgt]) (by simp [nmOf])) ?_
  simp only [nmOf, hset, List.set_cons_succ, List.set_cons_zero]
  refine WPI.turn (Turns.nilCell (i := h.length + 3) (j := 1) (sz := 1) (by simp only; rw [hget]; rfl) rfl) ?_
  refine WPI.turn (Turns.nilCell (i := h.length + 3) (j := 2) (sz := 1) (by simp only [List.append_assoc]; rw [hset, List.append_assoc, hget]; rfl) rfl) ?_
  simp only [hset, List.append_assoc, List.set_cons_succ, List.set_cons_zero, List.cons_append, List.nil_append, List.length_append, List.length_cons, List.length_nil, Nat.zero_add, Nat.reduceAdd]
  refine WP.loopI (fun (k : Nat) s => (k ≤ b.pages.length) ∧ s.sl.length = 49 ∧ s.df = [] ∧ s.gh = {} ∧ (s.hp = h ++ [.cells 0 (brdA b), .cells 0 z3, .dead, .cells 0 [sliceOf cGlyph b.glyphs, .sl ⟨h.length + 4, k⟩ 1 0 k, .sl ⟨h.length + 5, 0⟩ 1 0 0], .cells k ((b.pages.take k).flatMap cPage), .cells 0 []]) ∧ evA s.sl (.tmp 1) = .ptr ⟨h.length, 0⟩ 0 ∧ evA s.sl (.tmp 2) = .ptr ⟨h.length + 1, 0⟩ 0 ∧ evA s.sl (.tmp 3) = .ptr ⟨h.length + 3, 0⟩ 0 ∧ evA s.sl (.tmp 4) = .int .i64 k) (fun (k : Nat) => b.pages.length - k) (0) ?_ ?_
  · simp (implicitDefEqProofs := false) (dsimp := false) only [go_sem, brdA, Nat.zero_le]
    exact ⟨rfl, rfl⟩
  · rintro k ⟨sl, df, hp, gh⟩ ⟨ab, al, rfl, rfl, rfl, a1, a2, a3, a4⟩
    simp only at ab al a1 a2 a3 a4
    obtain ⟨j, rfl⟩ := slots_lit al; clear al; simp only [junk_succ, junk_zero, evA_tmp, nth_16, nth_four, nth_one, nth_zero, Nat.zero_add, Nat.reduceAdd] at  a1 a2 a3 a4 ⊢
    refine wp_ok (so := { shut := [26, 45], hand := [9], tail := [(5, 9)] }) mixed _ (by kernel_rfl) ?_
    by_cases hk : k < b.pages.length
    · have hkl : ((b.pages.take k).flatMap cPage).length = k := by rw [cPage_len1, List.length_take]; omega
      simp (implicitDefEqProofs := false) (dsimp := false) only [go_sem, a1, a2, a3, a4, brdA, nat_lt hk, decide_true, row1 cPage_len hk, row1_le cPage_len hk, cPage]
      (first | refine CallsA.use (DupStrings_ok b.pages[k] (ok.pr _ (List.getElem_mem hk))) ?_ | refine QuietCalls.use (DupStrings_ok b.pages[k] (ok.pr _ (List.getElem_mem hk))) ?_)
      simp (implicitDefEqProofs := false) (dsimp := false) only [go_sem, hkl, brdA]
      refine ⟨below_strs _ _, by have := ok.p; omega, k + 1, ⟨by omega, ⟨rfl, rfl, ?_⟩, wrap_succ (by have := ok.p; omega)⟩, by omega⟩
      rw [List.take_succ_eq_append_getElem hk, List.flatMap_append]
      simp [cPage, sliceOf]
    · have hs : ((k : Int) < (b.pages.length : Int)) = False := eq_false (by omega)
      have e : k = b.pages.length := by omega
      subst e
      rw [List.take_length]
      simp (implicitDefEqProofs := false) (dsimp := false) only [go_sem, a1, a2, a3, a4, brdA, hs, decide_false]
      refine WP.loopI (fun (k : Nat) s => (k ≤ b.cells.length) ∧ s.sl.length = 49 ∧ s.df = [] ∧ s.gh = {} ∧ (s.hp = h ++ .cells 0 (brdA b) :: .cells 0 z3 :: .dead :: .cells 0 [sliceOf cGlyph b.glyphs, .sl ⟨h.length + 4, b.pages.length⟩ 1 0 b.pages.length, .sl ⟨h.length + 5, k⟩ 1 0 k] :: .cells b.pages.length (b.pages.flatMap cPage) :: .cells k (slsFrom 1 (h.length + 6) (b.cells.take k)) :: (b.cells.take k).map rowB) ∧ evA s.sl (.tmp 1) = .ptr ⟨h.length, 0⟩ 0 ∧ evA s.sl (.tmp 2) = .ptr ⟨h.length + 1, 0⟩ 0 ∧ evA s.sl (.tmp 3) = .ptr ⟨h.length + 3, 0⟩ 0 ∧ evA s.sl (.tmp 5) = .int .i64 k) (fun (k : Nat) => b.cells.length - k) (0) ?_ ?_
      · simp (implicitDefEqProofs := false) (dsimp := false) only [go_sem, brdA, Nat.zero_le, List.take_zero, List.map_nil, slsFrom]
      · rintro k ⟨sl, df, hp, gh⟩ ⟨cb, cl, rfl, rfl, rfl, c1, c2, c3, c5⟩
        simp only at cb cl c1 c2 c3 c5
        obtain ⟨j, rfl⟩ := slots_lit cl; clear cl; simp only [junk_succ, junk_zero, evA_tmp, nth_16, nth_four, nth_one, nth_zero, Nat.zero_add, Nat.reduceAdd] at  c1 c2 c3 c5 ⊢
        refine wp_ok (so := { shut := [26, 45], hand := [9], tail := [(5, 9)] }) mixed _ (by kernel_rfl) ?_
        by_cases hk : k < b.cells.length
        · simp (implicitDefEqProofs := false) (dsimp := false) only [go_sem, c1, c2, c3, c5, brdA, nat_lt hk, decide_true]
          refine WP.noisy (so := { shut := [26, 45], tail := [(5, 9)] }) 10 [2, 8] [0, 0, 0, 0, 0, 0, 0, 0, 0, 2] [2, 2, 0, 1, 1, 1, 1, 1, 0, 2] ((fun T => [h ++ T, h ++ (T ++ [.cells 0 []]), h ++ (T ++ [rowB b.cells[k]])]) _) rfl mixed (by kernel_rfl) (by kernel_rfl) (by decide) (by kernel_rfl) rfl ?_
          have hrt : (b.cells[k].flatMap cTrace).take (b.cells[k].length * 2) = b.cells[k].flatMap cTrace := List.take_of_length_le (by rw [length_rows cTrace_len]; exact Nat.le_refl _)
          have hrl : (b.cells[k].flatMap cTrace).length = b.cells[k].length * 2 := length_rows cTrace_len _
          have hsl : (slsFrom 1 (h.length + 6) (b.cells.take k)).length = k := by rw [slsFrom_len, List.length_take]; omega
          simp (implicitDefEqProofs := false) (dsimp := false) only [go_sem, brdA, row1 cTraces_len hk, row1_le cTraces_len hk, cTraces, nat_lt hk, hrt, hrl, hsl]
          have hcr := ok.cr _ (List.getElem_mem hk)
          have hcl := ok.c
          refine ⟨⟨flat_leaf (fun _ => rfl) _, by omega⟩, rfl, by omega, by omega, k + 1, ⟨by omega, ⟨rfl, ⟨rfl, ?_⟩, ?_⟩, wrap_succ (by omega)⟩, by omega⟩
          · rw [List.take_succ_eq_append_getElem hk, slsFrom_snoc, List.length_map, show h.length + 6 + (b.cells.take k).length = h.length + ((b.cells.take k).length + 1 + 1 + 1 + 1 + 1 + 1) by omega]
          · rw [List.take_succ_eq_append_getElem hk, List.map_append]; rfl
        · have hs : ((k : Int) < (b.cells.length : Int)) = False := eq_false (by omega)
          have e : k = b.cells.length := by omega
          subst e
          rw [List.take_length]
          simp (implicitDefEqProofs := false) (dsimp := false) only [go_sem, c1, c2, c3, c5, brdA, hs, decide_false, z3]
          have tk : ∀ (A B C D E F : Blk), List.take (h.length + (b.cells.length + 6)) (h ++ A :: B :: C :: D :: E :: F :: b.cells.map rowB) = h ++ A :: B :: C :: D :: E :: F :: b.cells.map rowB := fun A B C D E F => List.take_of_length_le (by simp)
          refine ⟨_, h.length + (b.cells.length + 6), rfl, by omega, ?_, ?_, rfl, tk _ _ _ _ _ _⟩
          · have hbl := belowL_mono (Nat.zero_le (h.length + (b.cells.length + 6))) _ (slices_below b)
            simp only [belowL, sliceOf, below, Bool.and_eq_true] at hbl
            simp [below, belowL, hbl]
          · have hbl := belowL_mono (Nat.zero_le (h.length + (b.cells.length + 6))) _ (slices_below b)
            simp only [belowL, sliceOf, below, Bool.and_eq_true] at hbl
            have hsb := slsFrom_below 1 (n := h.length + (b.cells.length + 6)) (h.length + 6) b.cells (by omega)
            rw [tk, List.all_append, allBelow_mono (by omega) hB]
            simp [belowBlk, belowL, below, hbl, hsb]
            exact fun x _ => rowB_below _ x
theorem short_more {o : Board} (ho : okMade o) (h0 : 0 < o.pages.length) : shortB { o with pages := o.pages ++ [o.pages[0]] } := by
  have hs := ho.short
  have hm := ho.most
  have hp : ∀ p ∈ o.pages ++ [o.pages[0]], p ∈ o.pages := fun p hp => by
    rcases List.mem_append.1 hp with h | h
    · exact h
    · rw [List.mem_singleton.1 h]; exact List.getElem_mem h0
  exact ⟨hs.g, by simp only [List.length_append, List.length_singleton]; omega, hs.c, hs.gn, fun p h => hs.pr p (hp p h), fun p h => hs.pc p (hp p h), hs.cr⟩
theorem turn_new1 {f : FuncId} {args : List AV} {v : AV} {h T : List Blk} {y : Blk} {K : AV → Prop}
    (c : CallsA Tryz.prog f args (h ++ T) fun e h' => e = .ret v ∧ h' = (h ++ T) ++ [y]) (hk : K v) : TurnCalls Tryz.prog f args (h ++ T) (h ++ (T ++ [y])) K := by
  refine TurnCalls.use ?_ hk
  rwa [List.append_assoc] at c
theorem n2J (n m : Nat) : n + 2 + m = n + (m + 2) := by omega
set_option maxHeartbeats 2000000 in
theorem Alikes_walk (b : Board) (r : Option (List Int)) (h : List Blk) (hro : h[0]? = some (.role true)) :
    CallsA Tryz.prog 4 [.agg (brdA b), leftA r] h fun e h' => e = .ret (.bool true) ∧ h' = h := by
  refine CallsA.of_wpe [] { shut := [31], cut := [62, 68], hand := [3, 4, 5, 11] } 76 mixed Tryz.func4 (by kernel_rfl) rfl (by kernel_rfl) fun j hB hA => ?_; simp only [junk_succ, junk_zero, List.cons_append, List.nil_append, List.length_cons, List.length_nil, Nat.reduceAdd]
  simp (implicitDefEqProofs := false) (dsimp := false) only [go_sem, brdA]
  (first | refine CallsA.use (long_ok b) ?_ | refine QuietCalls.use (long_ok b) ?_)
  cases hlb : longB b with
  | true =>
    simp (implicitDefEqProofs := false) (dsimp := false) only [go_sem]
    refine QuietAt.use (pressed_ok _ (role_left hro)) ?_
    simp (implicitDefEqProofs := false) (dsimp := false) only [go_sem]
    exact quiet_fine hB rfl
  | false =>
  have sb := shortB.of hlb
  simp (implicitDefEqProofs := false) (dsimp := false) only [go_sem]
  refine WP.noisy (so := { shut := [31], cut := [62, 68], }) 3 [2] [0, 0, 0] [1, 0, 0] ((fun T => [h ++ T, h ++ (T ++ [diceB r 1])]) _) rfl mixed (by kernel_rfl) (by kernel_rfl) (by decide) (by kernel_rfl) rfl ?_
  simp (implicitDefEqProofs := false) (dsimp := false) only [go_sem, brdA]
  refine turn_new1 (CallsA.mono (NewDice_ok r _) fun e h' q => q) ?_
  simp (implicitDefEqProofs := false) (dsimp := false) only [go_sem, brdA]
  refine CallsA.mono (sets_ok b sb _ (h.length + 1) r 1 (by rw [hget]; rfl)) ?_
  rintro _ _ ⟨J, made, other, r, x, okN, so, rfl, rfl⟩
  simp only [hset, List.set_cons_succ, List.set_cons_zero, List.append_assoc, List.cons_append, List.nil_append, List.length_append, List.length_cons, List.length_nil, Nat.zero_add, Nat.reduceAdd]
  simp (implicitDefEqProofs := false) (dsimp := false) only [go_sem]
  have okm := okN.made
  simp only [n2J, setsL, brdA, List.flatMap_cons, List.flatMap_nil, List.cons_append, List.nil_append, List.append_nil]
  have hp0 := okm.pos
  have hml := okm.most
  obtain ⟨n, hn⟩ : ∃ n, n = h.length + (J.length + 3) := ⟨_, rfl⟩
  refine WP.noisy (so := { shut := [31], cut := [62, 68], }) 14 [4, 13] [0, 0, 0, 0, 0, 1, 0, 0, 0, 0, 0, 0, 0, 0] [2, 0, 0, 0, 0, 1, 1, 1, 1, 1, 1, 1, 1, 0] ((fun T => [h ++ T, h ++ (T ++ dupX made n (.cells made.pages.length (made.pages.flatMap cPage))), h ++ (T ++ dupX made n (.cells (made.pages.length + 1) (made.pages.flatMap cPage ++ [sliceOf cStr made.pages[0]])))]) _) rfl mixed (by kernel_rfl) (by kernel_rfl) (by decide) (by kernel_rfl) rfl ?_
  simp (implicitDefEqProofs := false) (dsimp := false) only [go_sem, hJ_get, hJ_set, hget0, hset0]
  refine TurnCalls.use (v := .agg [sliceOf cGlyph made.glyphs, .sl ⟨h.length + (J.length + 7), made.pages.length⟩ 1 0 made.pages.length, .sl ⟨h.length + (J.length + 8), made.cells.length⟩ 1 0 made.cells.length]) ?_ ?_
  · refine CallsA.mono (DupExact_ok made okm.sizes _) ?_
    rintro _ _ ⟨rfl, rfl⟩
    have e : ∀ a b c : Blk, (h ++ a :: b :: (J ++ [c])).length = n := fun a b c => by rw [hn]; simp
    rw [e]
    refine ⟨?_, by simp⟩
    rw [hn, dupA]
    simp [Nat.add_assoc]
  have hpl1 : (made.pages.flatMap cPage).length = made.pages.length := cPage_len1 _
  simp (implicitDefEqProofs := false) (dsimp := false) only [go_sem, hJ_get, hJ_set, hget0, hset0, dupX, pg_get00 hp0, pg_get0 hp0, nat_lt hp0, hpl1]
  refine ⟨⟨by omega, by omega⟩, ⟨by omega, by omega⟩, below_strs _ _, below_strs _ _, by omega, ?_⟩
  have hplen : (made.pages ++ [made.pages[0]]).length = made.pages.length + 1 := by simp
  have hpm : ((made.pages ++ [made.pages[0]]).flatMap cPage) = made.pages.flatMap cPage ++ [sliceOf cStr made.pages[0]] := by simp [cPage]
  have gJ : ∀ (l : List Blk) (a b : Blk) (k : Nat), (h ++ a :: b :: (J ++ l))[h.length + (J.length + (k + 2))]? = l[k]? := fun l a b k => by
    rw [hget, ← Nat.add_assoc, List.getElem?_cons_succ, List.getElem?_cons_succ, hget]
  have sJ : ∀ (l : List Blk) (a b y : Blk) (k : Nat), (h ++ a :: b :: (J ++ l)).set (h.length + (J.length + (k + 2))) y = h ++ a :: b :: (J ++ l.set k y) := fun l a b y k => by
    rw [hset, ← Nat.add_assoc, List.set_cons_succ, List.set_cons_succ, hset]
  refine WPI.turn (Turns.seal_cell (i := h.length + (J.length + (0 + 2))) (g := 0) (j := 10) (a := .sl ⟨h.length + (J.length + (5 + 2)), made.pages.length + 1⟩ 1 0 (made.pages.length + 1)) (a' := sliceOf cPage (made.pages ++ [made.pages[0]])) (by simp only; rw [gJ]; rfl) rfl (by
    simp only [sealV]; rw [gJ]; simp only [List.getElem?_cons_succ, List.getElem?_cons_zero]; rw [sliceOf, hplen, hpm]; simp [sliceOf]; exact List.take_of_length_le (by rw [List.length_append, hpl1]; simp)) (by simp [nmOf])) ?_
  simp only [nmOf]
  rw [sJ, sJ]
  simp only [List.set_cons_succ, List.set_cons_zero]
  refine wpi_shut [5] ?_
  simp (implicitDefEqProofs := false) (dsimp := false) only [go_sem, hJ_get, hJ_set, hget0, hset0]
  refine wp_shut [] (so := { shut := [31], cut := [62, 68], }) mixed _ (by kernel_rfl) ?_
  simp (implicitDefEqProofs := false) (dsimp := false) only [go_sem]
  obtain ⟨ob, hob⟩ : ∃ ob : Board, ob = { made with pages := made.pages ++ [made.pages[0]] } := ⟨_, rfl⟩
  obtain ⟨L, hL⟩ : ∃ L : List Board, L = [b, made, other, ob] := ⟨_, rfl⟩
  have hL4 : L.length = 4 := by rw [hL]; rfl
  have hsh : ∀ x ∈ L, shortB x := by
    intro x hx
    rw [hL] at hx
    simp only [List.mem_cons, List.mem_nil_iff, or_false] at hx
    rcases hx with rfl | rfl | rfl | rfl
    · exact sb
    · exact okm.short
    · exact so
    · rw [hob]; exact short_more okm hp0
  refine WP.loopI (fun (i : Nat) s => (i ≤ 4) ∧ s.sl.length = 78 ∧ s.df = [] ∧ s.gh = {} ∧ (∃ K, s.hp = h ++ K) ∧ evA s.sl (.tmp 5) = .psl (L.flatMap brdA) 4 ∧ evA s.sl (.tmp 6) = .int .i64 i) (fun (i : Nat) => 4 - i) (0) ?_ ?_
  · simp (implicitDefEqProofs := false) (dsimp := false) only [go_sem, Nat.zero_le]
    subst hL; subst hob
    simp [brdA, sliceOf]
  · rintro i ⟨sl, df, hp, gh⟩ ⟨ab, al, rfl, rfl, ah, a5, a6⟩
    simp only at ab al ah a5 a6
    obtain ⟨j, rfl⟩ := slots_lit al; clear al; simp only [junk_succ, junk_zero, evA_tmp, nth_16, nth_four, nth_one, nth_zero, Nat.zero_add, Nat.reduceAdd] at  a5 a6 ⊢
    refine wp_ok (so := { shut := [31], cut := [62, 68], hand := [3, 4, 5, 11] }) mixed _ (by kernel_rfl) ?_
    obtain ⟨K, rfl⟩ := ah
    by_cases hi : i < 4
    · have i1 : i < L.length := by omega
      have hs : ((i : Int) < 4) = True := eq_true (by omega)
      have sbi := hsh _ (List.getElem_mem i1)
      have hp20 := sbi.p
      simp (implicitDefEqProofs := false) (dsimp := false) only [go_sem, a5, a6, hs, decide_true, rowN brd_len i1, rowN_le brd_len i1, brdA]
      (first | refine CallsA.use (DupPure_ok L[i] sbi.sizes) ?_ | refine QuietCalls.use (DupPure_ok L[i] sbi.sizes) ?_)
      simp (implicitDefEqProofs := false) (dsimp := false) only [go_sem, hJ_get, hJ_set, hget0, hset0, brdA, hs, rowN brd_len i1, rowN_le brd_len i1]
      (first | refine CallsA.use (Alike_ok L[i]) ?_ | refine QuietCalls.use (Alike_ok L[i]) ?_)
      simp (implicitDefEqProofs := false) (dsimp := false) only [go_sem, hJ_get, hJ_set, hget0, hset0, brdA, hs, rowN brd_len i1, rowN_le brd_len i1]
      (first | refine CallsA.use (RAlike_ok L[i]) ?_ | refine QuietCalls.use (RAlike_ok L[i]) ?_)
      simp (implicitDefEqProofs := false) (dsimp := false) only [go_sem, hJ_get, hJ_set, hget0, hset0, brdA, hs, rowN brd_len i1, rowN_le brd_len i1]
      refine wp_shut [] (so := { shut := [31], cut := [62, 68], }) mixed _ (by kernel_rfl) ?_
      simp (implicitDefEqProofs := false) (dsimp := false) only [go_sem, hJ_get, hJ_set, hget0, hset0, brdA, hs, rowN brd_len i1, rowN_le brd_len i1, bne_self_eq_false, Bool.not_true]
      have hal : (alikeR L[i]).length ≤ 100000 := by
        unfold alikeR
        split
        · have h1 := alikeTo_len L[i] (mapB L[i].glyphs) L[i].pages.length
          have h2 : L[i].pages.length * L[i].pages.length ≤ 20 * 20 := Nat.mul_le_mul hp20 hp20
          unfold alikeB; omega
        · simp
      (first | refine CallsA.use (eqPairsS (l := alikeR L[i]) hal) ?_ | refine QuietCalls.use (eqPairsS (l := alikeR L[i]) hal) ?_)
      simp (implicitDefEqProofs := false) (dsimp := false) only [go_sem, hJ_get, hJ_set, hget0, hset0, brdA, hs, rowN brd_len i1, rowN_le brd_len i1, Bool.not_true]
      (first | refine CallsA.use (EqBoards_ok L[i] sbi) ?_ | refine QuietCalls.use (EqBoards_ok L[i] sbi) ?_)
      simp (implicitDefEqProofs := false) (dsimp := false) only [go_sem]
      exact ⟨i + 1, ⟨by omega, wrap_succ (by omega)⟩, by omega⟩
    · have hs : ((i : Int) < 4) = False := eq_false (by omega)
      simp (implicitDefEqProofs := false) (dsimp := false) only [go_sem, a5, a6, hs, decide_false]
      refine QuietAt.use (pressed_ok _ (role_left hro)) ?_
      simp (implicitDefEqProofs := false) (dsimp := false) only [go_sem]
      exact quiet_fine hB rfl
end Go.Mac


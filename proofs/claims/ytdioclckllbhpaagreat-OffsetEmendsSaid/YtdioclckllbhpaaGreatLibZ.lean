/- A part of the logic and of the contracts of the functions that the statement reaches; the statement itself is proved in the last text. -/
import Derived.Deep.Slices
import Derived.Test.YtdioclckllbhpaaGreatLibC
import Derived.Test.YtdioclckllbhpaaGreatLibD
import Derived.Test.YtdioclckllbhpaaGreatLibF

set_option linter.all false
set_option linter.unusedVariables false
set_option linter.unusedSimpArgs false
set_option linter.unnecessarySimpa false
namespace Go.Proofs.YtdioclckllbhpaaGreat
open Go.ChangeShapes Go.WideShapes Go.ChangeAt Go.RowKit Go.Conc Go.Mac
section
variable {H : Type} {enc : TypeId × Value → H} {W : World}
def ReadsAs (W : World) {H : Type} (enc : TypeId × Value → H) (t : TypeId) {α : Type} (F : α → List AV) (Q : α → Prop) : Prop :=
  ∀ (fuel : Nat) (cs : List Value) (x : DataW H × List MemPlace), DataW.trod enc Tryz.prog W 0 (fun _ => true) true fuel t cs = some x → ∃ y : α, VRL (Cx.start W) (F y) cs ∧ Q y
theorem rows_read {α : Type} {F : α → List AV} {Q : α → Prop} {sz : Nat} {L : List Value} {c : Cx} : ∀ (n o : Nat), (∀ i, i < n → ∃ vals y, vals <+: L.drop (o + i * sz) ∧ vals.length = sz ∧ VRL c (F y) vals ∧ Q y) →
    ∃ (ys : List α) (vs : List Value), ys.length = n ∧ VRL c (ys.flatMap F) vs ∧ vs <+: L.drop o ∧ ∀ y ∈ ys, Q y
  | 0, o, _ => ⟨[], [], rfl, rfl, List.nil_prefix, by simp⟩
  | n + 1, o, h => by
    obtain ⟨vals, y, h1, h2, h3, h4⟩ := h 0 (by omega)
    obtain ⟨ys, vs, g1, g2, g3, g4⟩ := rows_read (sz := sz) (L := L) n (o + sz) (fun i hi => by
      have := h (i + 1) (by omega)
      rwa [show o + (i + 1) * sz = o + sz + i * sz by rw [Nat.add_mul]; omega] at this)
    refine ⟨y :: ys, vals ++ vs, by simp [g1], ?_, ?_, ?_⟩
    · rw [List.flatMap_cons]; exact VRL.append h3 g2
    · rw [Nat.zero_mul, Nat.add_zero] at h1
      obtain ⟨t, ht⟩ := h1
      obtain ⟨t', ht'⟩ := g3
      refine ⟨t', ?_⟩
      have e : t = L.drop (o + sz) := by
        rw [← List.drop_drop, ← ht, List.drop_left' h2]
      rw [List.append_assoc, ht', ← e, ht]
    · intro z hz
      rcases List.mem_cons.1 hz with rfl | hz
      · exact h4
      · exact g4 z hz
theorem cells_prefix {w : World} {b : Nat} {arr : Array Value} {el : TypeId} {fz : Nat × Nat} {off n : Nat} {cs : List Value} (hb : w.heap[b]? = some (.cells arr el fz)) (h : w.cells? 0 ⟨b, off, none⟩ n = some cs) : cs <+: arr.toList.drop off ∧ cs.length = n := by
  obtain ⟨_, hl, hc⟩ := World.cells?_some h
  refine ⟨?_, hl⟩
  rw [List.prefix_iff_eq_take]
  apply List.ext_getElem?
  intro i
  rw [List.getElem?_take]
  by_cases hi : i < n
  · rw [if_pos (by omega), List.getElem?_drop, ← hc i hi]
    have ea : (⟨b, off, none⟩ : Addr).add i = ⟨b, off + i, none⟩ := by unfold Addr.add; split <;> simp_all
    rw [ea]
    simp [World.cell?, hb]
  · rw [if_neg (by omega), List.getElem?_eq_none (by omega)]
theorem reads_slice {t e : TypeId} {α : Type} {F : α → List AV} {Q : α → Prop} {sz : Nat} (ht : Tryz.prog.underlying t = some (.slice e)) (hsz : Tryz.prog.cellsOf e = sz + 1) (h : ReadsAs W enc e F Q) :
    ReadsAs W enc t (fun l : List α => [sliceOf F l]) (fun l => ∀ y ∈ l, Q y) := by
  intro fuel cs x hx
  rcases Deep.open_slice ht hx with ⟨rfl, _⟩ | ⟨a, len, cap, m, n, D, Pl, rfl, _, hlc, _, hm, _, hel⟩
  · exact ⟨[], ⟨_, _, rfl, .inl ⟨rfl, rfl, none, rfl⟩, rfl⟩, by simp⟩
  · simp only [if_true] at hm
    subst hm
    rw [hsz] at hel
    by_cases h0 : m = 0
    · subst h0
      obtain rfl : len = 0 := by omega
      exact ⟨[], ⟨_, _, rfl, .inl ⟨rfl, rfl, some a, rfl⟩, rfl⟩, by simp⟩
    · obtain ⟨cs0, hc0, _⟩ := hel 0 (by omega)
      obtain ⟨_, hl0, hcell⟩ := World.cells?_some hc0
      have hz := hcell 0 (by omega)
      rw [Nat.zero_mul] at hz
      have ha0 : (a.add 0).add 0 = a := by simp [Addr.add]
      rw [ha0, List.getElem?_eq_getElem (by omega)] at hz
      obtain ⟨b, off, spot⟩ := a
      unfold World.cell? at hz
      split at hz
      · rename_i arr el fz hb
        split at hz
        · cases hz
        · rename_i hs
          have hs' : spot = none := by cases spot with | none => rfl | some s => simp at hs
          subst hs'
          obtain ⟨ys, vs, g1, g2, g3, g4⟩ := rows_read (F := F) (Q := Q) (sz := sz + 1) (L := arr.toList) (c := Cx.start W) len off (fun i hi => by
            obtain ⟨cs', h1, h2⟩ := hel i (by omega)
            have ea : (⟨b, off, none⟩ : Addr).add (i * (sz + 1)) = ⟨b, off + i * (sz + 1), none⟩ := by unfold Addr.add; split <;> simp_all
            rw [ea] at h1
            obtain ⟨p1, p2⟩ := cells_prefix hb h1
            obtain ⟨y, hy, hq⟩ := h _ _ _ h2
            exact ⟨cs', y, p1, p2, hy, hq⟩)
          subst g1
          exact ⟨ys, ⟨_, _, rfl, .inr ⟨b, off, arr, el, fz, vs, m, rfl, hlc, hb, g2, g3⟩, rfl⟩, g4⟩
      · cases hz
theorem reads_int {t : TypeId} (ht : Tryz.prog.underlying t = some (.int .i64)) : ReadsAs W enc t cInt isI64 := by
  intro fuel cs x hx
  cases fuel with
  | zero => simp [DataW.trod] at hx
  | succ n =>
    unfold DataW.trod at hx
    simp only [ht] at hx
    split at hx <;> try (simp at hx; done)
    all_goals rename_i h1; try cases h1
    split at hx
    · rename_i hc
      obtain ⟨rfl, hw⟩ := hc
      simp only [Lit.wf, Bool.and_eq_true] at hw
      exact ⟨_, ⟨_, _, rfl, rfl, rfl⟩, of_decide_eq_true hw.1, of_decide_eq_true hw.2⟩
    · cases hx
theorem reads_str {t : TypeId} (ht : Tryz.prog.underlying t = some .string) : ReadsAs W enc t cStr (fun _ => True) := by
  intro fuel cs x hx
  cases fuel with
  | zero => simp [DataW.trod] at hx
  | succ n =>
    unfold DataW.trod at hx
    simp only [ht] at hx
    split at hx <;> try (simp at hx; done)
    all_goals rename_i h1; try cases h1
    rename_i sv
    exact ⟨sv.data.toList, ⟨_, _, rfl, by simp [VR], rfl⟩, trivial⟩
theorem field_read {t : TypeId} {fs : Array Field} {fuel : Nat} {cs : List Value} {x : DataW H × List MemPlace} (ht : Tryz.prog.underlying t = some (.struct fs)) (hx : DataW.trod enc Tryz.prog W 0 (fun _ => true) true fuel t cs = some x) {i : Nat} {f : Field} (hf : fs[i]? = some f)
    {α : Type} {F : α → List AV} {Q : α → Prop} (h : ReadsAs W enc f.type F Q) : ∃ y : α, VRL (Cx.start W) (F y) ((cs.drop f.offset).take (Tryz.prog.cellsOf f.type)) ∧ Q y := by
  obtain ⟨xs, n, _, _, hl, hxs, hall⟩ := DataW.trod_struct ht hx
  have := hall i f hf
  rw [List.getElem?_eq_getElem (by rw [hxs]; exact (Array.getElem?_eq_some_iff.1 hf).1)] at this
  exact h _ _ _ this
theorem struct_len {t : TypeId} {fs : Array Field} {fuel : Nat} {cs : List Value} {x : DataW H × List MemPlace} (ht : Tryz.prog.underlying t = some (.struct fs)) (hx : DataW.trod enc Tryz.prog W 0 (fun _ => true) true fuel t cs = some x) : cs.length = Tryz.prog.cellsOf t := by
  obtain ⟨xs, n, _, _, hl, hxs, hall⟩ := DataW.trod_struct ht hx
  exact hl
end
theorem trodAll_stays {H : Type} {enc : TypeId × Value → H} {W W' : World} : ∀ {ts : List TypeId} {vs : List Value} {ds : List (DataW H)} {ps : List MemPlace}, (∀ t ∈ ts, Tryz.prog.readableRec t = true ∧ t < Tryz.prog.types.size) →
    DataW.TrodAll enc Tryz.prog W 0 (fun _ => true) true ts vs ds ps → Below W.heap.size W W' → (∀ x ∈ ps, x.block < W.heap.size) → DataW.TrodAll enc Tryz.prog W' 0 (fun b => decide (b < W.heap.size)) true ts vs ds ps
  | [], [], [], _, _, h, _, _ => h
  | t :: ts, v :: vs, d :: ds, _, ht, h, hb, hlt => by
    obtain ⟨p, q, h1, h2, rfl⟩ := h
    obtain ⟨a1, a2⟩ := ht t (List.mem_cons_self ..)
    exact ⟨p, q, Below.trod laidOut a1 a2 h1 hb (fun x hx => hlt x (List.mem_append.2 (.inl hx))), trodAll_stays (fun t ht' => ht t (List.mem_cons_of_mem _ ht')) h2 hb (fun x hx => hlt x (List.mem_append.2 (.inr hx))), rfl⟩
theorem trodAll_len {H : Type} {enc : TypeId × Value → H} {W : World} : ∀ {ts : List TypeId} {vs : List Value} {ds : List (DataW H)} {ps : List MemPlace}, DataW.TrodAll enc Tryz.prog W 0 (fun _ => true) true ts vs ds ps → vs.length = ts.length ∧ ds.length = ts.length
  | [], [], [], _, _ => ⟨rfl, rfl⟩
  | t :: ts, v :: vs, d :: ds, _, h => by
    obtain ⟨p, q, h1, h2, rfl⟩ := h
    obtain ⟨a1, a2⟩ := trodAll_len h2
    exact ⟨by simp [a1], by simp [a2]⟩
set_option maxRecDepth 100000 in
theorem liftedN {f : FuncId} {fn : Func} {s : ChangeSpec} {conds : List PathCond} {ts : List TypeId} (hfn : Tryz.checked.prog.funcs[f]? = some fn) (hpar : fn.params.toList = ts) (hts : ∀ t ∈ ts, Tryz.prog.readableRec t = true ∧ t < Tryz.prog.types.size) (hres : fn.resultTypes.toList = [4]) (hinit : Tryz.prog.inits.idxOf? f = none)
    (hvars : s.vars = []) (hsp : ∀ (H : Type) (ds : List (DataW H)), ds.length = ts.length → s.fn H ds = { results := [.lit (.bool true)], args := ds })
    (hc : ∀ (H : Type) (enc : TypeId × Value → H) (W : World) (base : Nat) (vs : List Value) (ds : List (DataW H)) (ps : List MemPlace), (∀ (j : Nat) t v, ts[j]? = some t → vs[j]? = some v → Value.okWide Tryz.prog W .any base t v) →
      DataW.TrodAll enc Tryz.prog W 0 (fun _ => true) true ts vs ds ps → ∃ avs, VRL (Cx.start W) avs vs ∧ CallsA Tryz.prog f avs [.role true] fun e _ => e = .ret (.bool true))
    (os : Os) (started : os.Started) (H : Type) (enc : TypeId × Value → H)
    (hwit : ∃ (w : World) (tape : Tape) (i : Input), w.os = os ∧ (w.forCall tape i).Shaped Tryz.checked.prog ∧ i.vars = [] ∧ Input.okWide Tryz.checked.prog (w.forCall tape i) .any w.heap.size f i ∧
      s.pre6 enc Tryz.checked.prog fn conds false (w.forCall tape i).memory i.args ∧ ({} : Assume).holds Tryz.checked.prog (lone (Frame.enter Tryz.checked.prog f i.args .normal) [] (w.forCall tape i))) :
    ReturnsInLeavingWide {} Tryz.checked os f .any (s.pre6 enc Tryz.checked.prog fn conds false) (s.post enc Tryz.checked.prog fn false true false false) := by
  refine returnsInLeavingWide_of_change_sized (C := Tryz.checked) own started hfn hwit ?_
  intro W base args ds gs before hval hW _ _ _
  have hW' := hW
  obtain ⟨p, q, hA, hV, rfl, _, _⟩ := hW
  rw [hpar] at hA
  rw [hvars] at hV
  obtain ⟨rfl, rfl⟩ := trodVars_none hV
  simp only [List.append_nil] at hW'
  have hlt : ∀ x ∈ p, x.block < W.heap.size := fun x hx => by simpa using hW'.lt x hx
  obtain ⟨avs, hr, hcall⟩ := hc H enc W base args.toList ds p (fun j t v h1 h2 => hval j t v (by
    have := congrArg (fun l => l[j]?) hpar
    simp only [Array.getElem?_toList] at this
    rw [this]; exact h1) (by simpa using h2)) hA
  obtain ⟨M, last, o, w', t', h1, h2, h3, h4⟩ := runs_of_calls (W := W) (args := args) hinit hcall hr
  refine ⟨M, last, o, w', t', h1, h2, h3, h4.mono fun v hF => ?_⟩
  obtain ⟨hbel, c, _, hv⟩ := hF
  have hv' : v = .bool true := hv
  subst hv'
  have hrs : fn.resultTypes.size = 1 := by
    have := congrArg List.length hres
    simpa using this
  have hrl : Value.resultList fn.resultTypes.size (.bool true) = [.bool true] := by rw [hrs]; rfl
  have hdl := (trodAll_len hA).2
  refine ⟨ds, [], _, [], p, [], by simpa using hW', ?_, ?_, ?_, hbel.frame _, fun h => by cases h⟩
  · rw [hres, hrl, List.append_nil, hsp H ds hdl]; exact trodAll_mk1 (shut_bool under4 true)
  · rw [hpar, List.append_nil, hsp H ds hdl]; exact trodAll_stays hts hA hbel hlt
  · rw [hvars, List.append_nil, hsp H ds hdl]; rfl
section
variable {H : Type} {enc : TypeId × Value → H} {W : World}
theorem underS : Tryz.prog.underlying 9 = some .string := by kernel_rfl
theorem field_at {t : TypeId} {fs : Array Field} {fuel : Nat} {cs : List Value} {x : DataW H × List MemPlace} (ht : Tryz.prog.underlying t = some (.struct fs)) (hx : DataW.trod enc Tryz.prog W 0 (fun _ => true) true fuel t cs = some x) {i : Nat} {ft : TypeId} {off : Nat}
    (hf : (fs[i]?).map (fun f => (f.type, f.offset)) = some (ft, off)) {α : Type} {F : α → List AV} {Q : α → Prop} (h : ReadsAs W enc ft F Q) : ∃ y : α, VRL (Cx.start W) (F y) ((cs.drop off).take (Tryz.prog.cellsOf ft)) ∧ Q y := by
  obtain ⟨f, h1, h2⟩ := Option.map_eq_some_iff.1 hf
  cases h2
  exact field_read ht hx h1 h
theorem cellsS : Tryz.prog.cellsOf 9 = 1 := by kernel_rfl
theorem fs_trace : ∃ fs : Array Field, Tryz.prog.underlying 86 = some (.struct fs) ∧ (fs[0]?).map (fun f => (f.type, f.offset)) = some (3, 0) ∧ (fs[1]?).map (fun f => (f.type, f.offset)) = some (3, 1) :=
  ⟨match Tryz.prog.underlying 86 with | some (.struct fs) => fs | _ => #[], by kernel_rfl, by kernel_rfl, by kernel_rfl⟩
theorem fs_glyph : ∃ fs : Array Field, Tryz.prog.underlying 76 = some (.struct fs) ∧ (fs[0]?).map (fun f => (f.type, f.offset)) = some (9, 0) ∧ (fs[1]?).map (fun f => (f.type, f.offset)) = some (3, 1) :=
  ⟨match Tryz.prog.underlying 76 with | some (.struct fs) => fs | _ => #[], by kernel_rfl, by kernel_rfl, by kernel_rfl⟩
theorem fs_board : ∃ fs : Array Field, Tryz.prog.underlying 26 = some (.struct fs) ∧ (fs[0]?).map (fun f => (f.type, f.offset)) = some (22, 0) ∧ (fs[1]?).map (fun f => (f.type, f.offset)) = some (23, 1) ∧ (fs[2]?).map (fun f => (f.type, f.offset)) = some (24, 2) :=
  ⟨match Tryz.prog.underlying 26 with | some (.struct fs) => fs | _ => #[], by kernel_rfl, by kernel_rfl, by kernel_rfl, by kernel_rfl⟩
theorem reads_trace : ReadsAs W enc 86 cTrace (fun _ => True) := by
  intro fuel cs x hx
  obtain ⟨fs, hu, f0, f1⟩ := fs_trace
  have hl : cs.length = 2 := by rw [struct_len hu hx]; kernel_rfl
  obtain ⟨a, b, rfl⟩ : ∃ a b, cs = [a, b] := by match cs, hl with | [a, b], _ => exact ⟨a, b, rfl⟩
  obtain ⟨y0, h0, _⟩ := field_at hu hx f0 (reads_int under3)
  obtain ⟨y1, h1, _⟩ := field_at hu hx f1 (reads_int under3)
  rw [cells3] at h0 h1
  exact ⟨⟨y0, y1⟩, (VRL.append h0 h1 : VRL (Cx.start W) (cInt y0 ++ cInt y1) _), trivial⟩
theorem reads_glyph : ReadsAs W enc 76 cGlyph (fun _ => True) := by
  intro fuel cs x hx
  obtain ⟨fs, hu, f0, f1⟩ := fs_glyph
  have hl : cs.length = 2 := by rw [struct_len hu hx]; kernel_rfl
  obtain ⟨a, b, rfl⟩ : ∃ a b, cs = [a, b] := by match cs, hl with | [a, b], _ => exact ⟨a, b, rfl⟩
  obtain ⟨y0, h0, _⟩ := field_at hu hx f0 (reads_str underS)
  obtain ⟨y1, h1, _⟩ := field_at hu hx f1 (reads_int under3)
  rw [cellsS] at h0
  rw [cells3] at h1
  exact ⟨⟨y0, y1⟩, (VRL.append h0 h1 : VRL (Cx.start W) (cStr y0 ++ cInt y1) _), trivial⟩
theorem reads_glyphs : ReadsAs W enc 22 (fun l : List Glyph => [sliceOf cGlyph l]) (fun l => ∀ y ∈ l, True) := reads_slice (sz := 1) (by kernel_rfl) (by kernel_rfl) reads_glyph
theorem reads_strs : ReadsAs W enc 36 cPage (fun l => ∀ y ∈ l, True) := reads_slice (sz := 0) (by kernel_rfl) (by kernel_rfl) (reads_str underS)
theorem reads_pages : ReadsAs W enc 23 (fun l : List (List (List UInt8)) => [sliceOf cPage l]) (fun l => ∀ y ∈ l, ∀ z ∈ y, True) := reads_slice (sz := 0) (by kernel_rfl) (by kernel_rfl) reads_strs
theorem reads_row : ReadsAs W enc 56 cTraces (fun l => ∀ y ∈ l, True) := reads_slice (sz := 1) (by kernel_rfl) (by kernel_rfl) reads_trace
theorem reads_rows : ReadsAs W enc 24 (fun l : List (List Mac.Trace) => [sliceOf cTraces l]) (fun l => ∀ y ∈ l, ∀ z ∈ y, True) := reads_slice (sz := 0) (by kernel_rfl) (by kernel_rfl) reads_row
theorem reads_ints : ReadsAs W enc 27 (fun l : List Int => [leftA (some l)]) (fun l => ∀ y ∈ l, isI64 y) := reads_slice (sz := 0) (by kernel_rfl) (by kernel_rfl) (reads_int under3)
theorem reads_board : ReadsAs W enc 26 brdA (fun _ => True) := by
  intro fuel cs x hx
  obtain ⟨fs, hu, f0, f1, f2⟩ := fs_board
  have hl : cs.length = 3 := by rw [struct_len hu hx]; kernel_rfl
  obtain ⟨a, b, c, rfl⟩ : ∃ a b c, cs = [a, b, c] := by match cs, hl with | [a, b, c], _ => exact ⟨a, b, c, rfl⟩
  obtain ⟨y0, h0, _⟩ := field_at hu hx f0 reads_glyphs
  obtain ⟨y1, h1, _⟩ := field_at hu hx f1 reads_pages
  obtain ⟨y2, h2, _⟩ := field_at hu hx f2 reads_rows
  rw [show Tryz.prog.cellsOf 22 = 1 by kernel_rfl] at h0
  rw [show Tryz.prog.cellsOf 23 = 1 by kernel_rfl] at h1
  rw [show Tryz.prog.cellsOf 24 = 1 by kernel_rfl] at h2
  exact ⟨⟨y0, y1, y2⟩, (VRL.append h0 (VRL.append h1 h2) : VRL (Cx.start W) ([sliceOf cGlyph y0] ++ ([sliceOf cPage y1] ++ [sliceOf cTraces y2])) _), trivial⟩
set_option maxRecDepth 100000 in
theorem arg_cell {t : TypeId} {v : Value} {base : Nat} {d : DataW H} {p : List MemPlace} {α : Type} {F : α → AV} {Q : α → Prop} (hv : ∀ v, Value.okWide Tryz.prog W .any base t v → v.cells = #[v]) (h : ReadsAs W enc t (fun y : α => [F y]) Q)
    (hok : Value.okWide Tryz.prog W .any base t v) (hd : DataW.Trod enc Tryz.prog W 0 (fun _ => true) true t v d p) : ∃ y, VR (Cx.start W) (F y) v ∧ Q y := by
  obtain ⟨fuel, hf⟩ := hd
  rw [hv v hok] at hf
  obtain ⟨y, h1, h2⟩ := h _ _ _ hf
  obtain ⟨w, ws, e, h3, _⟩ := h1
  cases e
  exact ⟨y, h3, h2⟩
set_option maxRecDepth 100000 in
theorem arg_struct {t : TypeId} {v : Value} {base : Nat} {d : DataW H} {p : List MemPlace} {fs : Array Field} {α : Type} {F : α → List AV} {Q : α → Prop} (hu : Tryz.prog.underlying t = some (.struct fs)) (h : ReadsAs W enc t F Q)
    (hok : Value.okWide Tryz.prog W .any base t v) (hd : DataW.Trod enc Tryz.prog W 0 (fun _ => true) true t v d p) : ∃ y, VR (Cx.start W) (.agg (F y)) v ∧ Q y := by
  obtain ⟨fuel, hf⟩ := hd
  unfold Value.okWide at hok
  rw [hu] at hok
  obtain ⟨cs, rfl, _⟩ := hok
  obtain ⟨y, h1, h2⟩ := h _ _ _ hf
  exact ⟨y, ⟨cs.toList, by simp, h1⟩, h2⟩
set_option maxRecDepth 100000 in
theorem int_cells {base : Nat} (v : Value) (hok : Value.okWide Tryz.prog W .any base 3 v) : v.cells = #[v] := by
  simp only [Value.okWide, under3, Cell.okWide, Cell.ok] at hok
  split at hok
  all_goals first | exact hok.elim | rfl | skip
set_option maxRecDepth 100000 in
theorem ints_cells {base : Nat} (v : Value) (hok : Value.okWide Tryz.prog W .any base 27 v) : v.cells = #[v] := by
  obtain ⟨a, b, c, rfl⟩ := okWide_slice underI hok
  rfl
end
end Go.Proofs.YtdioclckllbhpaaGreat
namespace Go.Mac
open Go Go.Conc Go.Proofs
set_option maxRecDepth 4000
theorem within_ok (n lo hi : Int) : PureA Tryz.prog 141 [.int .i64 n, .int .i64 lo, .int .i64 hi] (.bool (decide (lo ≤ n) && decide (n ≤ hi))) := by
  refine PureA.of_wpp { cut := [10] } 12 mixed Tryz.func141 (by kernel_rfl) rfl (by kernel_rfl) (rfl) fun h j hB => ?_
  simp only [junk_succ, junk_zero, List.cons_append, List.nil_append, List.length_cons, List.length_nil, Nat.reduceAdd]
  simp (implicitDefEqProofs := false) (dsimp := false) only [go_sem]
  refine ⟨fun c => ?_, fun c => ?_⟩
  · have : lo ≤ n := c
    simp [this]
  · have : ¬ lo ≤ n := by simpa using c
    simp [this]
theorem inside_ok (n lo hi : Int) : PureA Tryz.prog 81 [.int .i64 n, .int .i64 lo, .int .i64 hi] (.bool (decide (lo ≤ n) && decide (n ≤ hi))) := by
  refine PureA.of_wpp { cut := [10] } 12 mixed Tryz.func81 (by kernel_rfl) rfl (by kernel_rfl) (rfl) fun h j hB => ?_
  simp only [junk_succ, junk_zero, List.cons_append, List.nil_append, List.length_cons, List.length_nil, Nat.reduceAdd]
  simp (implicitDefEqProofs := false) (dsimp := false) only [go_sem]
  refine ⟨fun c => ?_, fun c => ?_⟩
  · have : lo ≤ n := c
    simp [this]
  · have : ¬ lo ≤ n := by simpa using c
    simp [this]
def glyI (gs : List Glyph) (s : List UInt8) : Option Nat := gs.findIdx? fun g => g.name == s
def glyN (gs : List Glyph) (s : List UInt8) : Int := match glyI gs s with | some k => k | none => -1
def glyF (gs : List Glyph) (s : List UInt8) : Bool := match glyI gs s with | some _ => true | none => s == [45]
theorem glyI_at {gs : List Glyph} {s : List UInt8} {k : Nat} (hk : k < gs.length) (hn : ∀ q (hq : q < gs.length), q < k → gs[q].name ≠ s) (he : gs[k].name = s) : glyI gs s = some k := by
  rw [glyI, List.findIdx?_eq_some_iff_getElem]
  exact ⟨hk, by simpa using he, fun q hq => by simpa using hn q (by omega) hq⟩
theorem glyI_end {gs : List Glyph} {s : List UInt8} (hn : ∀ q (hq : q < gs.length), gs[q].name ≠ s) : glyI gs s = none := by
  rw [glyI, List.findIdx?_eq_none_iff]
  intro x hx
  obtain ⟨q, hq, rfl⟩ := List.getElem_of_mem hx
  simpa using hn q hq
theorem glyF_has {gs : List Glyph} (ok : okGlyphs gs) (b : UInt8) : glyF gs [b] = hasB (mapB gs) b.toNat := by
  have h1 : glyF gs [b] = (gs.any (fun g => g.name == [b]) || b == 45) := by
    unfold glyF glyI
    cases hi : gs.findIdx? fun g => g.name == [b] with
    | none =>
      rw [List.findIdx?_eq_none_iff] at hi
      have : gs.any (fun g => g.name == [b]) = false := by rw [List.any_eq_false]; intro x hx; rw [hi x hx]; decide
      rw [this]; simp
    | some k =>
      rw [List.findIdx?_eq_some_iff_getElem] at hi
      obtain ⟨hk, he, _⟩ := hi
      have : gs.any (fun g => g.name == [b]) = true := List.any_eq_true.2 ⟨_, List.getElem_mem hk, he⟩
      rw [this]; rfl
  rw [h1, hasB, mapB, List.any_cons, List.any_map, Bool.or_comm]
  congr 1
  · rw [Bool.eq_iff_iff]
    simp only [beq_iff_eq]
    constructor
    · rintro rfl; rfl
    · intro h; apply UInt8.toNat.inj; have h2 : (b.toNat : Int) = 45 := by simpa using h
      have : b.toNat = 45 := by omega
      exact this
  · rw [Bool.eq_iff_iff, List.any_eq_true, List.any_eq_true]
    constructor
    · rintro ⟨g, hg, he⟩
      refine ⟨g, hg, ?_⟩
      have he' : g.name = [b] := by simpa using he
      simp [gkey, he']
    · rintro ⟨g, hg, he⟩
      refine ⟨g, hg, ?_⟩
      obtain ⟨c, hc, hk⟩ := one_name (ok.one g hg).1
      have e2 : (b.toNat : Int) = (gkey g : Int) := by simpa using he
      rw [hk] at e2
      have : b = c := UInt8.toNat.inj (by omega)
      rw [hc, this]; simp
theorem Rglyph_ok (gs : List Glyph) (nm : List UInt8) (hl : gs.length ≤ 1000) (hn : nm.length ≤ 1000) (hg : ∀ g ∈ gs, g.name.length ≤ 1000) : PureA Tryz.prog 118 [sliceOf cGlyph gs, .str nm] (.tup [.int .i64 (glyN gs nm), .bool (glyF gs nm)]) := by
  refine PureA.of_wpp {} 21 mixed Tryz.func118 (by kernel_rfl) rfl (by kernel_rfl) (rfl) fun h j hB => ?_
  simp only [junk_succ, junk_zero, List.cons_append, List.nil_append, List.length_cons, List.length_nil, Nat.reduceAdd]
  simp (implicitDefEqProofs := false) (dsimp := false) only [go_sem]
  refine WP.loopI (fun (k : Nat) s => (k ≤ gs.length ∧ ∀ q (hq : q < gs.length), q < k → gs[q].name ≠ nm) ∧ s.sl.length = 23 ∧ s.df = [] ∧ s.gh = {} ∧ (s.hp = h) ∧ evA s.sl (.tmp 0) = sliceOf cGlyph gs ∧ evA s.sl (.tmp 1) = .str nm ∧ evA s.sl (.tmp 6) = .int .i64 k) (fun (k : Nat) => gs.length - k) (0) ?_ ?_
  · simp (implicitDefEqProofs := false) (dsimp := false) only [go_sem, Nat.zero_le]
    exact fun q hq hk => by omega
  · rintro k ⟨sl, df, hp, gh⟩ ⟨ab, al, rfl, rfl, rfl, a0, a1, a6⟩
    simp only at ab al a0 a1 a6
    obtain ⟨j, rfl⟩ := slots_lit al; clear al; simp only [junk_succ, junk_zero, evA_tmp, nth_16, nth_four, nth_one, nth_zero, Nat.zero_add, Nat.reduceAdd] at  a0 a1 a6 ⊢
    refine wp_ok (so := {}) mixed _ (by kernel_rfl) ?_
    obtain ⟨ak, an⟩ := ab
    by_cases hk : k < gs.length
    · simp (implicitDefEqProofs := false) (dsimp := false) only [go_sem, a0, a1, a6, nat_lt hk, decide_true, rowN cGlyph_len hk, rowN_le cGlyph_len hk, cGlyph]
      have h1 := hg _ (List.getElem_mem hk)
      refine ⟨by omega, fun e => ?_, fun e => ⟨k + 1, ⟨⟨by omega, fun q hq h3 => ?_⟩, wrap_succ (by omega)⟩, by omega⟩⟩
      · have := glyI_at hk an (by simpa using e)
        simp [glyN, glyF, this]
      · by_cases e3 : q = k
        · subst e3; exact by simpa using e
        · exact an q hq (by omega)
    · have hs : ((k : Int) < (gs.length : Int)) = False := eq_false (by omega)
      have := glyI_end fun q hq => an q hq (by omega)
      simp (implicitDefEqProofs := false) (dsimp := false) only [go_sem, a0, a1, a6, hs, decide_false, glyN, glyF, this]
      omega
theorem str_get00 {p : List (List UInt8)} (h : 0 < p.length) : (p.flatMap cStr).drop 0 = .str (p.headD []) :: (p.drop 1).flatMap cStr := by
  rw [headD_get h]
  have := row1 cStr_len h
  rw [this]; rfl
theorem RcheckPage_ok (gs : List Glyph) (ok : okGlyphs gs) (p : List (List UInt8)) : PureA Tryz.prog 84 [sliceOf cGlyph gs, sliceOf cStr p] (.int .i64 (pageErr (mapB gs) p)) := by
  refine PureA.of_wpp {} 65 mixed Tryz.func84 (by kernel_rfl) rfl (by kernel_rfl) (rfl) fun h j hB => ?_
  simp only [junk_succ, junk_zero, List.cons_append, List.nil_append, List.length_cons, List.length_nil, Nat.reduceAdd]
  have hm := ok.most
  simp (implicitDefEqProofs := false) (dsimp := false) only [go_sem]
  refine ⟨fun c0 => ?_, fun c0 => ⟨fun c1 => ?_, fun c1 => ?_⟩⟩
  · have : p.length = 0 := by simpa using c0
    simp [pageErr, sizedB, this]
  · have h1 : ¬ ((p.length : Int) < 1) := by intro e; have : p.length = 0 := by omega
                                             rw [this] at c0; simp at c0
    have h2 : (3 : Int) < p.length := by simpa using c1
    simp [pageErr, sizedB, h1, h2]
  have hne : p.length ≠ 0 := by intro e; rw [e] at c0; simp at c0
  have h3 : ¬ (3 : Int) < p.length := by simpa using c1
  have hz : sizedB p.length 3 = 0 := by rw [sizedB, if_neg (by omega), if_neg h3]
  have eg : rowsErr (mapB gs) (p.headD []).length p = pageErr (mapB gs) p := by simp only [pageErr, hz, ne_eq, not_true_eq_false, if_false]
  have hp0 : 0 < p.length := by omega
  refine WP.loopI (fun (i : Nat) s => (i ≤ p.length ∧ rowsErr (mapB gs) (p.headD []).length (p.drop i) = pageErr (mapB gs) p) ∧ s.sl.length = 67 ∧ s.df = [] ∧ s.gh = {} ∧ (s.hp = h) ∧ evA s.sl (.tmp 0) = sliceOf cGlyph gs ∧ evA s.sl (.tmp 1) = sliceOf cStr p ∧ evA s.sl (.tmp 5) = .int .i64 i) (fun (i : Nat) => p.length - i) (0) ?_ ?_
  · simp (implicitDefEqProofs := false) (dsimp := false) only [go_sem, Nat.zero_le, List.drop_zero]
    exact eg
  · rintro i ⟨sl, df, hp, gh⟩ ⟨ab, al, rfl, rfl, rfl, a0, a1, a5⟩
    simp only at ab al a0 a1 a5
    obtain ⟨j, rfl⟩ := slots_lit al; clear al; simp only [junk_succ, junk_zero, evA_tmp, nth_16, nth_four, nth_one, nth_zero, Nat.zero_add, Nat.reduceAdd] at  a0 a1 a5 ⊢
    refine wp_ok (so := {}) mixed _ (by kernel_rfl) ?_
    obtain ⟨ab, aq⟩ := ab
    by_cases hi : i < p.length
    · rw [drop_get hi] at aq
      simp (implicitDefEqProofs := false) (dsimp := false) only [go_sem, a0, a1, a5, nat_lt hi, decide_true, row1 cStr_len hi, row1_le cStr_len hi, cStr, str_get00 hp0, str_len1, nat_lt hp0]
      have hg := fun g hg => Nat.le_trans (Nat.le_of_eq (ok.one g hg).1) (by decide : 1 ≤ 1000)
      refine ⟨by omega, fun d1 => ?_, fun d1 => ⟨by omega, fun d2 => ?_, fun d2 => ⟨by omega, ⟨by omega, by omega⟩, fun d3 => ?_, fun d3 => ?_⟩⟩⟩
      · have : p[i].length = 0 := by omega
        rw [← aq, rowsErr, if_pos (by simp [sizedB, this])]; simp [sizedB, this]
      · have n1 : ¬ ((p[i].length : Int) < 1) := by omega
        have n2 : (4 : Int) < p[i].length := d2
        have : sizedB p[i].length 4 = 6 := by rw [sizedB, if_neg n1, if_pos n2]
        rw [← aq, rowsErr, if_pos (by rw [this]; decide), this]
      · have n1 : p[i].length ≠ 0 := by intro e; rw [e] at d1; simp at d1
        have hz : sizedB p[i].length 4 = 0 := by rw [sizedB, if_neg (by omega), if_neg (by omega)]
        have n3 : p[i].length ≠ (p.headD []).length := by intro e; rw [e] at d3; simp at d3
        rw [← aq, rowsErr, if_neg (by rw [hz]; decide), if_pos n3]
      have n1 : p[i].length ≠ 0 := by intro e; rw [e] at d1; simp at d1
      have hz : sizedB p[i].length 4 = 0 := by rw [sizedB, if_neg (by omega), if_neg (by omega)]
      have n3 : p[i].length = (p.headD []).length := by
        have : (p[i].length : Int) = (p.headD []).length := by simpa using d3
        omega
      refine WP.loopI (fun (x : Nat) s => (x ≤ p[i].length ∧ charsErr (mapB gs) (p[i].drop x) = charsErr (mapB gs) p[i]) ∧ s.sl.length = 67 ∧ s.df = [] ∧ s.gh = {} ∧ (s.hp = hp) ∧ evA s.sl (.tmp 0) = sliceOf cGlyph gs ∧ evA s.sl (.tmp 1) = sliceOf cStr p ∧ evA s.sl (.tmp 5) = .int .i64 i ∧ evA s.sl (.tmp 6) = .int .i64 x) (fun (x : Nat) => p[i].length - x) (0) ?_ ?_
      · simp (implicitDefEqProofs := false) (dsimp := false) only [go_sem, Nat.zero_le, List.drop_zero]
      · rintro x ⟨sl, df, hp, gh⟩ ⟨cb, cl, rfl, rfl, rfl, c0, c1, c5, c6⟩
        simp only at cb cl c0 c1 c5 c6
        obtain ⟨j, rfl⟩ := slots_lit cl; clear cl; simp only [junk_succ, junk_zero, evA_tmp, nth_16, nth_four, nth_one, nth_zero, Nat.zero_add, Nat.reduceAdd] at  c0 c1 c5 c6 ⊢
        refine wp_ok (so := {}) mixed _ (by kernel_rfl) ?_
        obtain ⟨cb, cq⟩ := cb
        by_cases hx : x < p[i].length
        · have hw := wrap_succ (i := x) (by omega)
          have ht : (p[i].drop x).take (x + 1 - x) = [p[i][x]] := by
            rw [List.drop_eq_getElem_cons hx, Nat.add_sub_cancel_left]; rfl
          rw [drop_get hx] at cq
          simp (implicitDefEqProofs := false) (dsimp := false) only [go_sem, c0, c1, c5, c6, nat_lt hx, nat_lt hi, decide_true, row1 cStr_len hi, row1_le cStr_len hi, cStr, hw, ht]
          refine ⟨by omega, ?_⟩
          (first | refine CallsA.use (Rglyph_ok gs [p[i][x]] (by omega) (by simp) hg) ?_ | refine QuietCalls.use (Rglyph_ok gs [p[i][x]] (by omega) (by simp) hg) ?_)
          cases hf : glyF gs [p[i][x]] with
          | true =>
            simp (implicitDefEqProofs := false) (dsimp := false) only [go_sem]
            refine ⟨x + 1, ⟨⟨by omega, ?_⟩, wrap_succ (by omega)⟩, by omega⟩
            rw [← cq, charsErr, ← glyF_has ok, hf, if_pos rfl]
          | false =>
            simp (implicitDefEqProofs := false) (dsimp := false) only [go_sem]
            have hc2 : charsErr (mapB gs) p[i] = 2 := by rw [← cq]; exact charsErr_no (by rw [← glyF_has ok, hf])
            rw [← aq, rowsErr_char hz n3 (by rw [hc2]; decide)]
        · have hs : ((x : Int) < (p[i].length : Int)) = False := eq_false (by omega)
          rw [List.drop_eq_nil_of_le (by omega)] at cq
          simp (implicitDefEqProofs := false) (dsimp := false) only [go_sem, c0, c1, c5, c6, nat_lt hi, row1 cStr_len hi, row1_le cStr_len hi, cStr, hs, decide_false]
          refine ⟨i + 1, ⟨⟨by omega, ?_⟩, wrap_succ (by omega)⟩, by omega⟩
          rw [← aq, rowsErr_fine hz n3 (by rw [← cq]; rfl)]
    · have hs : ((i : Int) < (p.length : Int)) = False := eq_false (by omega)
      simp (implicitDefEqProofs := false) (dsimp := false) only [go_sem, a0, a1, a5, hs, decide_false]
      rw [List.drop_eq_nil_of_le (by omega)] at aq
      exact aq
end Go.Mac
namespace Go.Mac
open Go Go.Conc Go.Proofs
set_option maxRecDepth 4000
theorem andK_comm (a b : Int) : andK .i64 a b = andK .i64 b a := by simp only [andK, BitVec.and_comm]
def bitAt : Nat → Int
  | 0 => 1 | 1 => 2 | 2 => 4 | 3 => 8 | 4 => 16 | _ => 32
def halfAcc (n : Int) : Nat → Int
  | 0 => 0
  | i + 1 => if andK .i64 n (bitAt i) = 0 then halfAcc n i else orK .i64 (halfAcc n i) (turnAt i)
def halfR (n : Int) : Int := halfAcc n 6
def mirTo : Nat → Int
  | 0 => 2 | 1 => 1 | 2 => 8 | _ => 4
def mirAcc (n : Int) : Nat → Int
  | 0 => andK .i64 n 48
  | i + 1 => if andK .i64 n (bitAt i) = 0 then mirAcc n i else IntKind.i64.wrap (mirAcc n i + mirTo i)
def mirR (n : Int) : Int := mirAcc n 4
theorem half_all : (List.range 64).all (fun n => halfR n == turnB n && mirR n == mirroredB n) = true := by kernel_rfl
theorem half64 {n : Int} (h : is64 n) : halfR n = turnB n ∧ mirR n = mirroredB n := by
  obtain ⟨x, rfl⟩ : ∃ x : Nat, n = x := ⟨n.toNat, by have := h.1; omega⟩
  have := List.all_eq_true.1 half_all x (List.mem_range.2 (by have := h.2; omega))
  simp only [Bool.and_eq_true, beq_iff_eq] at this
  exact this
theorem Rhalf_ok (n : Int) : PureA Tryz.prog 82 [.int .i64 n] (.int .i64 (halfR n)) := by
  refine PureA.of_wpp { shut := [7, 8] } 28 mixed Tryz.func82 (by kernel_rfl) rfl (by kernel_rfl) (rfl) fun h j hB => ?_
  simp only [junk_succ, junk_zero, List.cons_append, List.nil_append, List.length_cons, List.length_nil, Nat.reduceAdd]
  simp (implicitDefEqProofs := false) (dsimp := false) only [go_sem]
  refine WP.loopI (fun (i : Nat) s => (i ≤ 6) ∧ s.sl.length = 29 ∧ s.df = [] ∧ s.gh = {} ∧ (s.hp = h) ∧ evA s.sl (.tmp 0) = .int .i64 n ∧ evA s.sl (.tmp 3) = .psl [.int .i64 1, .int .i64 2, .int .i64 4, .int .i64 8, .int .i64 16, .int .i64 32] 6 ∧ evA s.sl (.tmp 4) = .psl [.int .i64 8, .int .i64 4, .int .i64 2, .int .i64 1, .int .i64 32, .int .i64 16] 6 ∧ evA s.sl (.tmp 5) = .int .i64 (halfAcc n i) ∧ evA s.sl (.tmp 6) = .int .i64 i) (fun (i : Nat) => 6 - i) (0) ?_ ?_
  · simp (implicitDefEqProofs := false) (dsimp := false) only [go_sem, halfAcc]
  · rintro i ⟨sl, df, hp, gh⟩ ⟨ab, al, rfl, rfl, rfl, a0, a3, a4, a5, a6⟩
    simp only at ab al a0 a3 a4 a5 a6
    obtain ⟨j, rfl⟩ := slots_lit al; clear al; simp only [junk_succ, junk_zero, evA_tmp, nth_16, nth_four, nth_one, nth_zero, Nat.zero_add, Nat.reduceAdd] at  a0 a3 a4 a5 a6 ⊢
    refine wp_ok (so := { shut := [7, 8] }) mixed _ (by kernel_rfl) ?_
    by_cases hi : i < 6
    · have hx : [AV.int IntKind.i64 8, AV.int IntKind.i64 4, AV.int IntKind.i64 2, AV.int IntKind.i64 1, AV.int IntKind.i64 32, AV.int IntKind.i64 16].drop i = .int .i64 (turnAt i) :: [AV.int IntKind.i64 8, AV.int IntKind.i64 4, AV.int IntKind.i64 2, AV.int IntKind.i64 1, AV.int IntKind.i64 32, AV.int IntKind.i64 16].drop (i + 1) := by
        match i, hi with
        | 0, _ => rfl | 1, _ => rfl | 2, _ => rfl | 3, _ => rfl | 4, _ => rfl | 5, _ => rfl
      have hy : [AV.int IntKind.i64 1, AV.int IntKind.i64 2, AV.int IntKind.i64 4, AV.int IntKind.i64 8, AV.int IntKind.i64 16, AV.int IntKind.i64 32].drop i = .int .i64 (bitAt i) :: [AV.int IntKind.i64 1, AV.int IntKind.i64 2, AV.int IntKind.i64 4, AV.int IntKind.i64 8, AV.int IntKind.i64 16, AV.int IntKind.i64 32].drop (i + 1) := by
        match i, hi with
        | 0, _ => rfl | 1, _ => rfl | 2, _ => rfl | 3, _ => rfl | 4, _ => rfl | 5, _ => rfl
      have hs : ((i : Int) < 6) = True := eq_true (by omega)
      have hle : (i ≤ 6) = True := eq_true (by omega)
      have hw := wrap_succ (i := i) (by omega)
      simp (implicitDefEqProofs := false) (dsimp := false) only [go_sem, a0, a3, a4, a5, a6, hs, hle, hx, hy, decide_true, hi]
      refine ⟨fun e => ⟨i + 1, ⟨by omega, ?_, hw⟩, by omega⟩, fun e => ⟨i + 1, ⟨by omega, ?_, hw⟩, by omega⟩⟩
      · have : ¬ andK .i64 n (bitAt i) = 0 := by simpa using e
        simp [halfAcc, this]
      · have : andK .i64 n (bitAt i) = 0 := by simpa using e
        simp [halfAcc, this]
    · have : i = 6 := by omega
      subst this
      simp (implicitDefEqProofs := false) (dsimp := false) only [go_sem, a0, a3, a4, a5, a6]
      rfl
theorem RMirrored_ok (n : Int) : PureA Tryz.prog 138 [.int .i64 n] (.int .i64 (mirR n)) := by
  refine PureA.of_wpp { shut := [9, 10] } 30 mixed Tryz.func138 (by kernel_rfl) rfl (by kernel_rfl) (rfl) fun h j hB => ?_
  simp only [junk_succ, junk_zero, List.cons_append, List.nil_append, List.length_cons, List.length_nil, Nat.reduceAdd]
  simp (implicitDefEqProofs := false) (dsimp := false) only [go_sem]
  refine WP.loopI (fun (i : Nat) s => (i ≤ 4) ∧ s.sl.length = 31 ∧ s.df = [] ∧ s.gh = {} ∧ (s.hp = h) ∧ evA s.sl (.tmp 0) = .int .i64 n ∧ evA s.sl (.tmp 4) = .psl [.int .i64 1, .int .i64 2, .int .i64 4, .int .i64 8] 4 ∧ evA s.sl (.tmp 5) = .psl [.int .i64 2, .int .i64 1, .int .i64 8, .int .i64 4] 4 ∧ evA s.sl (.tmp 3) = .int .i64 (mirAcc n i) ∧ evA s.sl (.tmp 6) = .int .i64 i) (fun (i : Nat) => 4 - i) (0) ?_ ?_
  · simp (implicitDefEqProofs := false) (dsimp := false) only [go_sem, mirAcc]
  · rintro i ⟨sl, df, hp, gh⟩ ⟨ab, al, rfl, rfl, rfl, a0, a4, a5, a3, a6⟩
    simp only at ab al a0 a4 a5 a3 a6
    obtain ⟨j, rfl⟩ := slots_lit al; clear al; simp only [junk_succ, junk_zero, evA_tmp, nth_16, nth_four, nth_one, nth_zero, Nat.zero_add, Nat.reduceAdd] at  a0 a4 a5 a3 a6 ⊢
    refine wp_ok (so := { shut := [9, 10] }) mixed _ (by kernel_rfl) ?_
    by_cases hi : i < 4
    · have hx : [AV.int IntKind.i64 2, AV.int IntKind.i64 1, AV.int IntKind.i64 8, AV.int IntKind.i64 4].drop i = .int .i64 (mirTo i) :: [AV.int IntKind.i64 2, AV.int IntKind.i64 1, AV.int IntKind.i64 8, AV.int IntKind.i64 4].drop (i + 1) := by
        match i, hi with
        | 0, _ => rfl | 1, _ => rfl | 2, _ => rfl | 3, _ => rfl
      have hy : [AV.int IntKind.i64 1, AV.int IntKind.i64 2, AV.int IntKind.i64 4, AV.int IntKind.i64 8].drop i = .int .i64 (bitAt i) :: [AV.int IntKind.i64 1, AV.int IntKind.i64 2, AV.int IntKind.i64 4, AV.int IntKind.i64 8].drop (i + 1) := by
        match i, hi with
        | 0, _ => rfl | 1, _ => rfl | 2, _ => rfl | 3, _ => rfl
      have hs : ((i : Int) < 4) = True := eq_true (by omega)
      have hle : (i ≤ 4) = True := eq_true (by omega)
      have hw := wrap_succ (i := i) (by omega)
      simp (implicitDefEqProofs := false) (dsimp := false) only [go_sem, a0, a4, a5, a3, a6, hs, hle, hx, hy, decide_true, hi]
      refine ⟨fun e => ⟨i + 1, ⟨by omega, ?_, hw⟩, by omega⟩, fun e => ⟨i + 1, ⟨by omega, ?_, hw⟩, by omega⟩⟩
      · have : ¬ andK .i64 n (bitAt i) = 0 := by simpa using e
        simp [mirAcc, this]
      · have : andK .i64 n (bitAt i) = 0 := by simpa using e
        simp [mirAcc, this]
    · have : i = 4 := by omega
      subst this
      simp (implicitDefEqProofs := false) (dsimp := false) only [go_sem, a0, a4, a5, a3, a6]
      rfl
theorem Rfits_ok (b : Board) (okc : okCells b.cells) (r c : Nat) (n : Int) (hr : r < b.cells.length) (hc : c < (b.cells.headD []).length) : PureA Tryz.prog 116 [.agg (brdA b), .int .i64 r, .int .i64 c, .int .i64 n] (.bool (fitsB n (traceAt b.cells r c))) := by
  refine PureA.of_wpp { cut := [25] } 28 mixed Tryz.func116 (by kernel_rfl) rfl (by kernel_rfl) (rfl) fun h j hB => ?_
  simp only [junk_succ, junk_zero, List.cons_append, List.nil_append, List.length_cons, List.length_nil, Nat.reduceAdd]
  have hc' := okc.at hr hc
  simp (implicitDefEqProofs := false) (dsimp := false) only [go_sem, brdA, nat_lt hr, row1 cTraces_len hr, row1_le cTraces_len hr, cTraces, nat_lt hc', rowN cTrace_len hc', rowN_le cTrace_len hc', cTrace]
  have h1 : andK .i64 b.cells[r][c].seen n = andK .i64 n b.cells[r][c].seen := andK_comm _ _
  have h2 : andK .i64 b.cells[r][c].bare n = andK .i64 n b.cells[r][c].bare := andK_comm _ _
  rw [fitsB, traceAt_eq hr hc', h1, h2]
  refine ⟨fun e => ?_, fun e => ?_⟩
  · rw [e]; simp
  · rw [e]; simp
theorem Rletter_ok (b : Board) (l : Lay) (row col : Int) (p : Nat) (hp : l.page = p) (hpl : p < b.pages.length) (h0 : 0 < b.pages[p].length) (hl : b.pages[p].length ≤ 1000) (hr : -1000 ≤ row ∧ row ≤ 1000) (hc : -1000 ≤ col ∧ col ≤ 1000) (hd : -1000 ≤ l.down ∧ l.down ≤ 1000) (hrt : -1000 ≤ l.right ∧ l.right ≤ 1000) (hw : (b.pages[p].headD []).length ≤ 1000) : PureA Tryz.prog 115 [.agg (brdA b), .agg (cLay l), .int .i64 row, .int .i64 col] (tup3 (letterB b.pages[p] l row col)) := by
  refine PureA.of_wpp { cut := [34] } 56 mixed Tryz.func115 (by kernel_rfl) rfl (by kernel_rfl) (rfl) fun h j hB => ?_
  simp only [junk_succ, junk_zero, List.cons_append, List.nil_append, List.length_cons, List.length_nil, Nat.reduceAdd]
  obtain ⟨pg, tu, dn, rt⟩ := l
  simp only at hp hd hrt
  subst hp
  have hw1 : IntKind.i64.wrap (row - dn) = row - dn := wrap64 (by omega) (by omega)
  have hw2 : IntKind.i64.wrap (col - rt) = col - rt := wrap64 (by omega) (by omega)
  have hw3 : IntKind.i64.wrap ((b.pages[p].length : Int) - 1) = (b.pages[p].length : Int) - 1 := wrap64 (by omega) (by omega)
  have hw4 : IntKind.i64.wrap (((b.pages[p].headD []).length : Int) - 1) = ((b.pages[p].headD []).length : Int) - 1 := wrap64 (by omega) (by omega)
  simp (implicitDefEqProofs := false) (dsimp := false) only [go_sem, brdA, cLay, row1 cPage_len hpl, row1_le cPage_len hpl, nat_lt hpl, cPage, hw1, hw2, str_get00 h0, str_len1, nat_lt h0, hw3, hw4]
  (first | refine CallsA.use (inside_ok (row - dn) 0 ((b.pages[p].length : Int) - 1)) ?_ | refine QuietCalls.use (inside_ok (row - dn) 0 ((b.pages[p].length : Int) - 1)) ?_)
  cases q1 : (decide ((0 : Int) ≤ row - dn) && decide (row - dn ≤ (b.pages[p].length : Int) - 1)) with
  | false =>
    simp (implicitDefEqProofs := false) (dsimp := false) only [go_sem]
    rw [letterB_out (by simp only [Bool.and_eq_false_iff, decide_eq_false_iff_not] at q1; simp only; omega)]; rfl
  | true =>
    simp only [Bool.and_eq_true, decide_eq_true_eq] at q1
    simp (implicitDefEqProofs := false) (dsimp := false) only [go_sem, str_get0 h0, str_len1, nat_lt h0, hw4, str_get00 h0]
    refine ⟨⟨by omega, by omega⟩, ?_⟩
    (first | refine CallsA.use (inside_ok (col - rt) 0 (((b.pages[p].headD []).length : Int) - 1)) ?_ | refine QuietCalls.use (inside_ok (col - rt) 0 (((b.pages[p].headD []).length : Int) - 1)) ?_)
    cases q2 : (decide ((0 : Int) ≤ col - rt) && decide (col - rt ≤ ((b.pages[p].headD []).length : Int) - 1)) with
    | false =>
      simp (implicitDefEqProofs := false) (dsimp := false) only [go_sem]
      rw [letterB_out (by simp only [Bool.and_eq_false_iff, decide_eq_false_iff_not] at q2; simp only; omega)]; rfl
    | true =>
      simp only [Bool.and_eq_true, decide_eq_true_eq] at q2
      have hin := letterB_in (p := b.pages[p]) (l := ⟨p, tu, dn, rt⟩) (row := row) (col := col) (by simp only; omega)
      have hw5 : IntKind.i64.wrap ((b.pages[p].length : Int) - 1 - (row - dn)) = (b.pages[p].length : Int) - 1 - (row - dn) := wrap64 (by omega) (by omega)
      have hw6 : IntKind.i64.wrap (((b.pages[p].headD []).length : Int) - 1 - (col - rt)) = ((b.pages[p].headD []).length : Int) - 1 - (col - rt) := wrap64 (by omega) (by omega)
      simp (implicitDefEqProofs := false) (dsimp := false) only [go_sem, hw3, hw4, hw5, hw6, str_get00 h0, str_len1, nat_lt h0, str_get0 h0]
      refine ⟨fun e => ?_, fun e => ?_⟩
      · subst e; rw [hin]; rfl
      · subst e; refine ⟨⟨by omega, by omega⟩, ?_⟩; rw [hin]; rfl
theorem strokesB_at {gs : List Glyph} {nm : List UInt8} {k : Nat} (h : glyI gs nm = some k) : ∃ hk : k < gs.length, strokesB gs nm = gs[k].strokes := by
  induction gs generalizing k with
  | nil => simp [glyI] at h
  | cons g l ih =>
    rw [glyI, List.findIdx?_cons] at h
    by_cases e : g.name = nm
    · rw [if_pos (by simpa using e)] at h
      cases h
      exact ⟨by simp, by rw [strokesB, if_pos e]; rfl⟩
    · rw [if_neg (by simpa using e)] at h
      obtain ⟨k', hk', rfl⟩ := Option.map_eq_some_iff.1 h
      obtain ⟨h1, h2⟩ := ih hk'
      exact ⟨by simpa using h1, by rw [strokesB, if_neg e, h2]; rfl⟩
theorem strokesB_none {gs : List Glyph} {nm : List UInt8} (h : glyI gs nm = none) : strokesB gs nm = 0 := by
  induction gs with
  | nil => rfl
  | cons g l ih =>
    rw [glyI, List.findIdx?_cons] at h
    by_cases e : g.name = nm
    · rw [if_pos (by simpa using e)] at h; cases h
    · rw [if_neg (by simpa using e)] at h
      rw [strokesB, if_neg e]
      exact ih (Option.map_eq_none_iff.1 h)
def glyS (gs : List Glyph) (n : Int) : Int := if n < 0 then 0 else (gs.getD n.toNat ⟨[], 0⟩).strokes
theorem glyS_N (gs : List Glyph) (nm : List UInt8) : glyS gs (glyN gs nm) = strokesB gs nm := by
  unfold glyN
  cases h : glyI gs nm with
  | none => rw [strokesB_none h]; rfl
  | some k =>
    obtain ⟨h1, h2⟩ := strokesB_at h
    rw [h2, glyS, if_neg (by simp only; omega)]
    simp [List.getD, h1]
theorem glyN_lt (gs : List Glyph) (nm : List UInt8) : -1 ≤ glyN gs nm ∧ glyN gs nm < gs.length := by
  unfold glyN
  cases h : glyI gs nm with
  | none => exact ⟨by simp, by simp only; omega⟩
  | some k =>
    obtain ⟨h1, _⟩ := strokesB_at h
    exact ⟨by simp only; omega, by simp only; omega⟩
theorem asB0 (l : Lay) : asB l 0 = 0 := by unfold asB; cases l.turned <;> decide
theorem Rseen_ok (b : Board) (okg : okGlyphs b.glyphs) (l : Lay) (n : Int) (h1 : -1 ≤ n) (h2 : n < b.glyphs.length) : PureA Tryz.prog 117 [.agg (brdA b), .agg (cLay l), .int .i64 n] (.int .i64 (asB l (glyS b.glyphs n))) := by
  refine PureA.of_wpp {} 19 mixed Tryz.func117 (by kernel_rfl) rfl (by kernel_rfl) (rfl) fun h j hB => ?_
  simp only [junk_succ, junk_zero, List.cons_append, List.nil_append, List.length_cons, List.length_nil, Nat.reduceAdd]
  obtain ⟨pg, tu, dn, rt⟩ := l
  simp (implicitDefEqProofs := false) (dsimp := false) only [go_sem, brdA, cLay]
  refine ⟨fun c => ?_, fun c => ?_⟩
  · rw [glyS, if_pos c, asB0]
  · obtain ⟨k, rfl⟩ : ∃ k : Nat, n = k := ⟨n.toNat, by omega⟩
    have hk : k < b.glyphs.length := by omega
    have hst := okg.one _ (List.getElem_mem hk)
    have h64 : is64 b.glyphs[k].strokes := ⟨by omega, by omega⟩
    have hg : glyS b.glyphs k = b.glyphs[k].strokes := by rw [glyS, if_neg c]; simp [List.getD, hk]
    simp (implicitDefEqProofs := false) (dsimp := false) only [go_sem, brdA, cLay, nat_lt hk, rowN cGlyph_len hk, rowN_le cGlyph_len hk, cGlyph]
    refine ⟨fun e => ?_, fun e => ?_⟩
    · subst e
      (first | refine CallsA.use (Rhalf_ok _) ?_ | refine QuietCalls.use (Rhalf_ok _) ?_)
      simp (implicitDefEqProofs := false) (dsimp := false) only [go_sem]
      (first | refine CallsA.use (RMirrored_ok _) ?_ | refine QuietCalls.use (RMirrored_ok _) ?_)
      simp (implicitDefEqProofs := false) (dsimp := false) only [go_sem]
      have h64' : is64 (turnB b.glyphs[k].strokes) := (mirB64 h64).2
      rw [hg, (half64 h64).1, (half64 h64').2]; rfl
    · subst e
      (first | refine CallsA.use (RMirrored_ok _) ?_ | refine QuietCalls.use (RMirrored_ok _) ?_)
      simp (implicitDefEqProofs := false) (dsimp := false) only [go_sem]
      rw [hg, (half64 h64).2]; rfl
theorem ch_eq {p : List (List UInt8)} {x y : Nat} (hx : x < p.length) (hy : y < p[x].length) : charAt p x y = p[x][y].toNat := by simp [charAt, List.getD, hx, hy]
theorem Rshown_ok (b : Board) (okg : okGlyphs b.glyphs) (l : Lay) (row col : Int) (p : Nat) (hlp : l.page = p) (hp : p < b.pages.length) (ok : okPage b.pages[p]) (hr : -1000 ≤ row ∧ row ≤ 1000) (hc : -1000 ≤ col ∧ col ≤ 1000) (hd : -1000 ≤ l.down ∧ l.down ≤ 1000) (hrt : -1000 ≤ l.right ∧ l.right ≤ 1000) : PureA Tryz.prog 72 [.agg (brdA b), .agg (cLay l), .int .i64 row, .int .i64 col] (.int .i64 (shownB (mapB b.glyphs) b.pages[p] l row col)) := by
  refine PureA.of_wpp {} 44 mixed Tryz.func72 (by kernel_rfl) rfl (by kernel_rfl) (rfl) fun h j hB => ?_
  simp only [junk_succ, junk_zero, List.cons_append, List.nil_append, List.length_cons, List.length_nil, Nat.reduceAdd]
  obtain ⟨pg, tu, dn, rt⟩ := l
  simp only at hlp hd hrt
  subst hlp
  have h1 := ok.pos
  have h2 := ok.most
  have h3 := ok.wmost
  have hm := okg.most
  have hg := fun g hg => Nat.le_trans (Nat.le_of_eq (okg.one g hg).1) (by decide : 1 ≤ 1000)
  simp (implicitDefEqProofs := false) (dsimp := false) only [go_sem, brdA, cLay]
  (first | refine CallsA.use (Rletter_ok b ⟨p, tu, dn, rt⟩ row col p rfl hp h1 (by omega) hr hc hd hrt (by omega)) ?_ | refine QuietCalls.use (Rletter_ok b ⟨p, tu, dn, rt⟩ row col p rfl hp h1 (by omega) hr hc hd hrt (by omega)) ?_)
  rcases letterB_cases (p := b.pages[p]) ⟨p, tu, dn, rt⟩ row col with e | ⟨r, c, e, hx, hy0⟩
  · rw [e]
    simp (implicitDefEqProofs := false) (dsimp := false) only [go_sem, tup3]
    simp only [shownB, e]; rfl
  · have hy : c < b.pages[p][r].length := by rw [ok.row hx]; omega
    have hw := wrap_succ (i := c) (by omega)
    have ht : (b.pages[p][r].drop c).take (c + 1 - c) = [b.pages[p][r][c]] := by
      rw [List.drop_eq_getElem_cons hy, Nat.add_sub_cancel_left]; rfl
    rw [e]
    simp (implicitDefEqProofs := false) (dsimp := false) only [go_sem, tup3, brdA, cLay, row1 cPage_len hp, row1_le cPage_len hp, nat_lt hp, cPage, row1 cStr_len hx, row1_le cStr_len hx, nat_lt hx, cStr, hw, ht]
    refine ⟨⟨by omega, by omega⟩, ?_⟩
    (first | refine CallsA.use (Rglyph_ok b.glyphs [b.pages[p][r][c]] (by omega) (by simp) hg) ?_ | refine QuietCalls.use (Rglyph_ok b.glyphs [b.pages[p][r][c]] (by omega) (by simp) hg) ?_)
    simp (implicitDefEqProofs := false) (dsimp := false) only [go_sem]
    have hN := glyN_lt b.glyphs [b.pages[p][r][c]]
    (first | refine CallsA.use (Rseen_ok b okg ⟨p, tu, dn, rt⟩ _ hN.1 hN.2) ?_ | refine QuietCalls.use (Rseen_ok b okg ⟨p, tu, dn, rt⟩ _ hN.1 hN.2) ?_)
    simp (implicitDefEqProofs := false) (dsimp := false) only [go_sem]
    simp only [shownB, e, if_true, glyS_N, strokesB_eq okg]
    rw [ch_eq (x := r) (y := c) hx hy]
end Go.Mac
namespace Go.Mac
open Go Go.Conc Go.Proofs
set_option maxRecDepth 4000
end Go.Mac
namespace Go.Mac
open Go Go.Conc Go.Proofs
theorem face_get {m : List (Int × Int)} {p : List (List UInt8)} {cs : List (List Trace)} {l : Lay} {r c : Nat} (hr : r < cs.length) (hr3 : cs.length ≤ 3) (hc : c < (cs.headD []).length) (hc4 : (cs.headD []).length ≤ 4) : (faceB m p cs l).getD (4 * r + c) 0 = shownB m p l r c := by
  unfold faceB part12
  have : 4 * r + c < 12 := by omega
  rw [List.getD_eq_getElem?_getD, List.getElem?_map, List.getElem?_range this]
  simp only [Option.map_some, Option.getD_some, this, if_true, faceAt]
  rw [show (4 * r + c) / 4 = r by omega, show (4 * r + c) % 4 = c by omega, if_pos ⟨hr, hc⟩]
section
variable {xs : List (Lay × List Int)} {i : Nat} (h64 : ∀ x ∈ xs, is64 (x.2.getD i 0))
include h64
end
end Go.Mac
namespace Go.Mac
open Go Go.Conc Go.Proofs
set_option maxRecDepth 4000
def layErr2 (b : Board) (l : Lay) : Int := if boardErr b ≠ 0 then boardErr b else layErr b l
end Go.Mac
namespace Go.Mac
open Go Go.Conc Go.Proofs
set_option maxRecDepth 4000
theorem RcheckGlyphs_ok (gs : List Glyph) : PureA Tryz.prog 120 [sliceOf cGlyph gs] (.int .i64 (glyphsErr gs)) := by
  refine PureA.of_wpp { cut := [24, 32, 42] } 78 mixed Tryz.func120 (by kernel_rfl) rfl (by kernel_rfl) (rfl) fun h j hB => ?_
  simp only [junk_succ, junk_zero, List.cons_append, List.nil_append, List.length_cons, List.length_nil, Nat.reduceAdd]
  simp (implicitDefEqProofs := false) (dsimp := false) only [go_sem]
  refine ⟨fun c0 => ?_, fun c0 => ⟨fun c1 => ?_, fun c1 => ?_⟩⟩
  · have : gs.length = 0 := by simpa using c0
    simp [glyphsErr, this]
  · have h0 : gs.length ≠ 0 := by intro e; rw [e] at c0; simp at c0
    simp only [glyphsErr, h0, if_false]; rw [if_pos (by omega)]
  have hne : gs.length ≠ 0 := by intro e; rw [e] at c0; simp at c0
  have eg : gliErr [] gs = glyphsErr gs := by simp only [glyphsErr, hne, if_false]; rw [if_neg (by omega)]
  refine WP.loopI (fun (i : Nat) s => (i ≤ gs.length ∧ gliErr (gs.take i) (gs.drop i) = glyphsErr gs ∧ (lastName (gs.take i)).length ≤ 1) ∧ s.sl.length = 79 ∧ s.df = [] ∧ s.gh = {} ∧ (s.hp = h) ∧ evA s.sl (.tmp 0) = sliceOf cGlyph gs ∧ evA s.sl (.tmp 3) = .int .i64 i) (fun (i : Nat) => gs.length - i) (0) ?_ ?_
  · simp (implicitDefEqProofs := false) (dsimp := false) only [go_sem, Nat.zero_le]
    exact ⟨eg, by simp [lastName]⟩
  · rintro i ⟨sl, df, hp, gh⟩ ⟨ab, al, rfl, rfl, rfl, a0, a3⟩
    simp only at ab al a0 a3
    obtain ⟨j, rfl⟩ := slots_lit al; clear al; simp only [junk_succ, junk_zero, evA_tmp, nth_16, nth_four, nth_one, nth_zero, Nat.zero_add, Nat.reduceAdd] at  a0 a3 ⊢
    refine wp_ok (so := { cut := [24, 32, 42] }) mixed _ (by kernel_rfl) ?_
    obtain ⟨ab, aq, hlen⟩ := ab
    by_cases hi : i < gs.length
    · rw [drop_get hi] at aq
      have htl : (gs.take i).length = i := by simp; omega
      have hne : gs.take i = [] ↔ i = 0 := by rw [← List.length_eq_zero_iff, htl]
      have hnil : i = 0 → gs.take i = [] := fun e => by rw [e]; rfl
      have w : i ≠ 0 → IntKind.i64.wrap ((i : Int) - 1) = ((i - 1 : Nat) : Int) := fun e => by rw [wrap64 (by omega) (by omega)]; omega
      by_cases h0 : i = 0
      case' pos =>
        have e1 : ((i : Int) > 0) = False := eq_false (by omega)
        simp (implicitDefEqProofs := false) (dsimp := false) only [go_sem, a0, a3, nat_lt hi, decide_true, decide_false, rowN cGlyph_len hi, rowN_le cGlyph_len hi, hi, cGlyph, e1]
        refine ⟨fun d1 => by rw [← aq, gliErr, if_pos (.inl (by intro e; rw [e] at d1; simp at d1))], fun d1 => ?_⟩
        have hl1 : gs[i].name.length = 1 := by have := eq_of_beq (by simpa [bne] using d1 : ((gs[i].name.length : Int) == 1) = true); omega
        refine ⟨by omega, fun d2 => by rw [← aq, gliErr, if_pos (.inr (.inl d2))], fun d2 => ⟨by omega, fun d3 => by rw [← aq, gliErr, if_pos (.inr (.inr (by simpa using d3)))], fun d3 => ?_⟩⟩
        have Q5 : ¬ (gs.take i ≠ [] ∧ (Op.bytesLess gs[i].name (lastName (gs.take i)) || gs[i].name == lastName (gs.take i)) = true) := fun e => e.1 (hnil h0)
      case' neg =>
        have e1 : ((i : Int) > 0) = True := eq_true (by omega)
        have hi1 : i - 1 < gs.length := by omega
        have hlast : gs[i - 1].name = lastName (gs.take i) := by
          unfold lastName
          rw [List.getLastD_eq_getLast?, List.getLast?_eq_getElem?, htl, List.getElem?_eq_getElem (by omega)]; simp
        simp (implicitDefEqProofs := false) (dsimp := false) only [go_sem, a0, a3, nat_lt hi, decide_true, decide_false, rowN cGlyph_len hi, rowN_le cGlyph_len hi, hi, cGlyph, e1, w h0, nat_lt hi1, rowN cGlyph_len hi1, rowN_le cGlyph_len hi1]
        refine ⟨fun d1 => by rw [← aq, gliErr, if_pos (.inl (by intro e; rw [e] at d1; simp at d1))], fun d1 => ?_⟩
        have hl1 : gs[i].name.length = 1 := by have := eq_of_beq (by simpa [bne] using d1 : ((gs[i].name.length : Int) == 1) = true); omega
        refine ⟨by omega, fun d2 => by rw [← aq, gliErr, if_pos (.inr (.inl d2))], fun d2 => ⟨by omega, fun d3 => by rw [← aq, gliErr, if_pos (.inr (.inr (by simpa using d3)))], fun d3 => ?_⟩⟩
        have p2' : ¬ (gs[i].name.length ≠ 1 ∨ Op.bytesLess gs[i].name [97] = true ∨ (Op.bytesLess gs[i].name [122] || gs[i].name == [122]) = false) := by
          rintro (e | e | e)
          · exact e hl1
          · rw [d2] at e; cases e
          · rw [e] at d3; cases d3
        rw [hlast]
        refine ⟨by omega, fun d4 => by rw [← aq, gliErr, if_neg p2', if_pos ⟨by rw [ne_eq, hne]; exact h0, d4⟩], fun d4 => ?_⟩
        have Q5 : ¬ (gs.take i ≠ [] ∧ (Op.bytesLess gs[i].name (lastName (gs.take i)) || gs[i].name == lastName (gs.take i)) = true) := by
          rintro ⟨_, e⟩
          rw [d4] at e; cases e
      all_goals
        have p2 : ¬ (gs[i].name.length ≠ 1 ∨ Op.bytesLess gs[i].name [97] = true ∨ (Op.bytesLess gs[i].name [122] || gs[i].name == [122]) = false) := by
          rintro (e | e | e)
          · exact e hl1
          · rw [d2] at e; cases e
          · rw [e] at d3; cases d3
        (first | refine CallsA.use (within_ok gs[i].strokes 1 63) ?_ | refine QuietCalls.use (within_ok gs[i].strokes 1 63) ?_)
        cases q6 : (decide ((1 : Int) ≤ gs[i].strokes) && decide (gs[i].strokes ≤ 63)) with
        | false =>
          simp (implicitDefEqProofs := false) (dsimp := false) only [go_sem]
          rw [← aq, gliErr, if_neg p2, if_neg Q5, if_pos (by simp only [Bool.and_eq_false_iff, decide_eq_false_iff_not] at q6; omega)]
        | true =>
          simp only [Bool.and_eq_true, decide_eq_true_eq] at q6
          simp (implicitDefEqProofs := false) (dsimp := false) only [go_sem]
          refine WP.loopI (fun (x : Nat) s => (x ≤ i ∧ ∀ q (hq : q < gs.length), q < x → gs[q].strokes ≠ gs[i].strokes) ∧ s.sl.length = 79 ∧ s.df = [] ∧ s.gh = {} ∧ (s.hp = hp) ∧ evA s.sl (.tmp 0) = sliceOf cGlyph gs ∧ evA s.sl (.tmp 3) = .int .i64 i ∧ evA s.sl (.tmp 4) = .int .i64 x) (fun (x : Nat) => i - x) (0) ?_ ?_
          · simp (implicitDefEqProofs := false) (dsimp := false) only [go_sem, Nat.zero_le]
            exact fun q hq e => by omega
          · rintro x ⟨sl, df, hp, gh⟩ ⟨cb, cl, rfl, rfl, rfl, c0, c3, c4⟩
            simp only at cb cl c0 c3 c4
            obtain ⟨j, rfl⟩ := slots_lit cl; clear cl; simp only [junk_succ, junk_zero, evA_tmp, nth_16, nth_four, nth_one, nth_zero, Nat.zero_add, Nat.reduceAdd] at  c0 c3 c4 ⊢
            refine wp_ok (so := { cut := [24, 32, 42] }) mixed _ (by kernel_rfl) ?_
            obtain ⟨cb, cq⟩ := cb
            by_cases hx : x < i
            · have hx' : x < gs.length := by omega
              simp (implicitDefEqProofs := false) (dsimp := false) only [go_sem, c0, c3, c4, nat_lt hx, nat_lt hx', nat_lt hi, decide_true, rowN cGlyph_len hi, rowN_le cGlyph_len hi, rowN cGlyph_len hx', rowN_le cGlyph_len hx', cGlyph]
              refine ⟨fun e => ?_, fun e => ⟨x + 1, ⟨⟨by omega, fun q hq h3 => ?_⟩, wrap_succ (by omega)⟩, by omega⟩⟩
              · have : (gs.take i).any (fun x => x.strokes == gs[i].strokes) = true := by
                  rw [List.any_eq_true]
                  refine ⟨gs[x], List.mem_take_iff_getElem.2 ⟨x, by omega, rfl⟩, by simpa using e⟩
                rw [← aq, gliErr, if_neg p2, if_neg Q5, if_neg (by omega), if_pos this]
              · by_cases e3 : q = x
                · subst e3; exact by simpa using e
                · exact cq q hq (by omega)
            · have hs : ((x : Int) < (i : Int)) = False := eq_false (by omega)
              simp (implicitDefEqProofs := false) (dsimp := false) only [go_sem, c0, c3, c4, hs, decide_false]
              have d8 : (gs.take i).any (fun x => x.strokes == gs[i].strokes) = false := by
                rw [List.any_eq_false]
                intro y hy
                obtain ⟨q, hq, rfl⟩ := List.mem_take_iff_getElem.1 hy
                have := cq q (by omega) (by omega)
                simpa using this
              refine ⟨i + 1, ⟨⟨by omega, ?_, ?_⟩, wrap_succ (by omega)⟩, by omega⟩
              · rw [← aq]
                conv => rhs; rw [gliErr, if_neg p2, if_neg Q5, if_neg (by omega), if_neg (by rw [d8]; decide)]
                rw [List.take_add_one, List.getElem?_eq_getElem hi]; rfl
              · rw [List.take_add_one, List.getElem?_eq_getElem hi]
                simp only [lastName, Option.toList_some, List.getLastD_concat]; omega
    · have hs : ((i : Int) < (gs.length : Int)) = False := eq_false (by omega)
      simp (implicitDefEqProofs := false) (dsimp := false) only [go_sem, a0, a3, hs, decide_false]
      rw [List.drop_eq_nil_of_le (by omega)] at aq
      exact aq
theorem RcheckLights_ok : PureA Tryz.prog 121 [.psl [.nilsl] 1] (.int .i64 0) := by
  refine PureA.of_wpp { cut := [37] } 54 mixed Tryz.func121 (by kernel_rfl) rfl (by kernel_rfl) (rfl) fun h j hB => ?_
  simp only [junk_succ, junk_zero, List.cons_append, List.nil_append, List.length_cons, List.length_nil, Nat.reduceAdd]
  simp (implicitDefEqProofs := false) (dsimp := false) only [go_sem]
  refine WP.loopI (fun (i : Nat) s => (i ≤ 1) ∧ s.sl.length = 55 ∧ s.df = [] ∧ s.gh = {} ∧ (s.hp = h) ∧ evA s.sl (.tmp 0) = .psl [.nilsl] 1 ∧ evA s.sl (.tmp 3) = .int .i64 i) (fun (i : Nat) => 1 - i) (0) ?_ ?_
  · simp (implicitDefEqProofs := false) (dsimp := false) only [go_sem, Nat.zero_le]
  · rintro i ⟨sl, df, hp, gh⟩ ⟨ab, al, rfl, rfl, rfl, a0, a3⟩
    simp only at ab al a0 a3
    obtain ⟨j, rfl⟩ := slots_lit al; clear al; simp only [junk_succ, junk_zero, evA_tmp, nth_16, nth_four, nth_one, nth_zero, Nat.zero_add, Nat.reduceAdd] at  a0 a3 ⊢
    refine wp_ok (so := { cut := [37] }) mixed _ (by kernel_rfl) ?_
    by_cases hi : i = 0
    · subst hi
      simp (implicitDefEqProofs := false) (dsimp := false) only [go_sem, a0, a3]
      refine WP.loopI (fun (x : Nat) s => (x = 0) ∧ s.sl.length = 55 ∧ s.df = [] ∧ s.gh = {} ∧ (s.hp = hp) ∧ evA s.sl (.tmp 0) = .psl [.nilsl] 1 ∧ evA s.sl (.tmp 3) = .int .i64 0 ∧ evA s.sl (.tmp 4) = .int .i64 0) (fun (x : Nat) => 0) (0) ?_ ?_
      · simp (implicitDefEqProofs := false) (dsimp := false) only [go_sem, a0, a3]
      · rintro x ⟨sl, df, hp, gh⟩ ⟨cb, cl, rfl, rfl, rfl, c0, c3, c4⟩
        simp only at cb cl c0 c3 c4
        obtain ⟨j, rfl⟩ := slots_lit cl; clear cl; simp only [junk_succ, junk_zero, evA_tmp, nth_16, nth_four, nth_one, nth_zero, Nat.zero_add, Nat.reduceAdd] at  c0 c3 c4 ⊢
        refine wp_ok (so := { cut := [37] }) mixed _ (by kernel_rfl) ?_
        simp (implicitDefEqProofs := false) (dsimp := false) only [go_sem, c0, c3, c4]
        exact ⟨1, by decide⟩
    · have : i = 1 := by omega
      subst this
      simp (implicitDefEqProofs := false) (dsimp := false) only [go_sem, a0, a3]
theorem R3Check_ok (gs : List Glyph) : PureA Tryz.prog 83 [sheetA gs] (.int .i64 (glyphsErr gs)) := by
  refine PureA.of_wpp {} 67 mixed Tryz.func83 (by kernel_rfl) rfl (by kernel_rfl) (rfl) fun h j hB => ?_
  simp only [junk_succ, junk_zero, List.cons_append, List.nil_append, List.length_cons, List.length_nil, Nat.reduceAdd]
  simp (implicitDefEqProofs := false) (dsimp := false) only [go_sem, sheetA]
  (first | refine CallsA.use (RcheckGlyphs_ok gs) ?_ | refine QuietCalls.use (RcheckGlyphs_ok gs) ?_)
  simp (implicitDefEqProofs := false) (dsimp := false) only [go_sem, sheetA]
  intro e0
  have e0' : glyphsErr gs = 0 := by simpa using e0
  (first | refine CallsA.use (RcheckLights_ok) ?_ | refine QuietCalls.use (RcheckLights_ok) ?_)
  simp (implicitDefEqProofs := false) (dsimp := false) only [go_sem, sheetA]
  refine WP.loopI (fun (i : Nat) s => (i = 0) ∧ s.sl.length = 68 ∧ s.df = [] ∧ s.gh = {} ∧ (s.hp = h ++ [.cells 0 [sliceOf cGlyph gs, .psl [.nilsl] 1, .nilsl]]) ∧ evA s.sl (.tmp 1) = .ptr ⟨h.length, 0⟩ 0 ∧ evA s.sl (.tmp 5) = .int .i64 0) (fun (i : Nat) => 0) (0) ?_ ?_
  · simp (implicitDefEqProofs := false) (dsimp := false) only [go_sem]
  · rintro i ⟨sl, df, hp, gh⟩ ⟨ab, al, rfl, rfl, rfl, a1, a5⟩
    simp only at ab al a1 a5
    obtain ⟨j, rfl⟩ := slots_lit al; clear al; simp only [junk_succ, junk_zero, evA_tmp, nth_16, nth_four, nth_one, nth_zero, Nat.zero_add, Nat.reduceAdd] at  a1 a5 ⊢
    refine wp_ok (so := {}) mixed _ (by kernel_rfl) ?_
    simp (implicitDefEqProofs := false) (dsimp := false) only [go_sem, a1, a5]
    exact e0'.symm
theorem tr_get00 {p : List (List Trace)} (h : 0 < p.length) : (p.flatMap cTraces).drop 0 = sliceOf cTrace (p.headD []) :: (p.drop 1).flatMap cTraces := by
  rw [headD_get h]
  have := row1 cTraces_len h
  rw [this]; rfl
theorem tr_len1 (p : List (List Trace)) : (p.flatMap cTraces).length = p.length := rows_length (fun _ => rfl) p
theorem RcheckCells_ok (cs : List (List Trace)) : PureA Tryz.prog 85 [sliceOf cTraces cs] (.int .i64 (cellsErr cs)) := by
  refine PureA.of_wpp { cut := [60] } 71 mixed Tryz.func85 (by kernel_rfl) rfl (by kernel_rfl) (rfl) fun h j hB => ?_
  simp only [junk_succ, junk_zero, List.cons_append, List.nil_append, List.length_cons, List.length_nil, Nat.reduceAdd]
  simp (implicitDefEqProofs := false) (dsimp := false) only [go_sem]
  refine ⟨fun c0 => ?_, fun c0 => ⟨fun c1 => ?_, fun c1 => ?_⟩⟩
  · have : cs.length = 0 := by omega
    simp [cellsErr, sizedB, this]
  · have h1 : ¬ ((cs.length : Int) < 1) := by omega
    have h2 : (3 : Int) < cs.length := c1
    simp [cellsErr, sizedB, h1, h2]
  have hne : cs.length ≠ 0 := by intro e; rw [e] at c0; simp at c0
  have h3 : ¬ (3 : Int) < cs.length := c1
  have hz : sizedB cs.length 3 = 0 := by rw [sizedB, if_neg (by omega), if_neg h3]
  have eg : cellRowsErr (cs.headD []).length cs = cellsErr cs := by simp only [cellsErr, hz, ne_eq, not_true_eq_false, if_false]
  have hp0 : 0 < cs.length := by omega
  refine WP.loopI (fun (i : Nat) s => (i ≤ cs.length ∧ cellRowsErr (cs.headD []).length (cs.drop i) = cellsErr cs) ∧ s.sl.length = 72 ∧ s.df = [] ∧ s.gh = {} ∧ (∃ J, s.hp = h ++ J) ∧ evA s.sl (.tmp 0) = sliceOf cTraces cs ∧ evA s.sl (.tmp 3) = .int .i64 i) (fun (i : Nat) => cs.length - i) (0) ?_ ?_
  · simp (implicitDefEqProofs := false) (dsimp := false) only [go_sem, Nat.zero_le, List.drop_zero]
    exact eg
  · rintro i ⟨sl, df, hp, gh⟩ ⟨ab, al, rfl, rfl, ah, a0, a3⟩
    simp only at ab al ah a0 a3
    obtain ⟨j, rfl⟩ := slots_lit al; clear al; simp only [junk_succ, junk_zero, evA_tmp, nth_16, nth_four, nth_one, nth_zero, Nat.zero_add, Nat.reduceAdd] at  a0 a3 ⊢
    refine wp_ok (so := { cut := [60] }) mixed _ (by kernel_rfl) ?_
    obtain ⟨J, rfl⟩ := ah
    obtain ⟨ab, aq⟩ := ab
    by_cases hi : i < cs.length
    · rw [drop_get hi] at aq
      simp (implicitDefEqProofs := false) (dsimp := false) only [go_sem, a0, a3, nat_lt hi, decide_true, row1 cTraces_len hi, row1_le cTraces_len hi, cTraces, tr_get00 hp0, tr_len1, nat_lt hp0]
      refine ⟨by omega, fun d1 => ?_, fun d1 => ⟨by omega, fun d2 => ?_, fun d2 => ⟨by omega, ⟨by omega, by omega⟩, fun d3 => ?_, fun d3 => ?_⟩⟩⟩
      · have : cs[i].length = 0 := by omega
        rw [← aq, cellRowsErr, if_pos (by simp [sizedB, this])]; simp [sizedB, this]
      · have n1 : ¬ ((cs[i].length : Int) < 1) := by omega
        have n2 : (4 : Int) < cs[i].length := d2
        have : sizedB cs[i].length 4 = 6 := by rw [sizedB, if_neg n1, if_pos n2]
        rw [← aq, cellRowsErr, if_pos (by rw [this]; decide), this]
      · have n1 : cs[i].length ≠ 0 := by intro e; rw [e] at d1; simp at d1
        have hz : sizedB cs[i].length 4 = 0 := by rw [sizedB, if_neg (by omega), if_neg (by omega)]
        have n3 : cs[i].length ≠ (cs.headD []).length := by intro e; rw [e] at d3; simp at d3
        rw [← aq, cellRowsErr, if_neg (by rw [hz]; decide), if_pos n3]
      have n1 : cs[i].length ≠ 0 := by intro e; rw [e] at d1; simp at d1
      have hz : sizedB cs[i].length 4 = 0 := by rw [sizedB, if_neg (by omega), if_neg (by omega)]
      have n3 : cs[i].length = (cs.headD []).length := by
        have : (cs[i].length : Int) = (cs.headD []).length := by simpa using d3
        omega
      refine WP.loopI (fun (x : Nat) s => (x ≤ cs[i].length ∧ tracesErr (cs[i].drop x) = tracesErr cs[i]) ∧ s.sl.length = 72 ∧ s.df = [] ∧ s.gh = {} ∧ (∃ J, s.hp = h ++ J) ∧ evA s.sl (.tmp 0) = sliceOf cTraces cs ∧ evA s.sl (.tmp 3) = .int .i64 i ∧ evA s.sl (.tmp 4) = .int .i64 x) (fun (x : Nat) => cs[i].length - x) (0) ?_ ?_
      · simp (implicitDefEqProofs := false) (dsimp := false) only [go_sem, Nat.zero_le, List.drop_zero]
      · rintro x ⟨sl, df, hp, gh⟩ ⟨cb, cl, rfl, rfl, ch, c0, c3, c4⟩
        simp only at cb cl ch c0 c3 c4
        obtain ⟨j, rfl⟩ := slots_lit cl; clear cl; simp only [junk_succ, junk_zero, evA_tmp, nth_16, nth_four, nth_one, nth_zero, Nat.zero_add, Nat.reduceAdd] at  c0 c3 c4 ⊢
        refine wp_ok (so := { cut := [60] }) mixed _ (by kernel_rfl) ?_
        obtain ⟨J, rfl⟩ := ch
        obtain ⟨cb, cq⟩ := cb
        by_cases hx : x < cs[i].length
        · rw [drop_get hx] at cq
          simp (implicitDefEqProofs := false) (dsimp := false) only [go_sem, c0, c3, c4, nat_lt hx, nat_lt hi, decide_true, row1 cTraces_len hi, row1_le cTraces_len hi, cTraces, rowN cTrace_len hx, rowN_le cTrace_len hx, cTrace]
          (first | refine CallsA.use (inside_ok cs[i][x].seen 0 63) ?_ | refine QuietCalls.use (inside_ok cs[i][x].seen 0 63) ?_)
          cases q1 : (decide ((0 : Int) ≤ cs[i][x].seen) && decide (cs[i][x].seen ≤ 63)) with
          | false =>
            simp (implicitDefEqProofs := false) (dsimp := false) only [go_sem]
            have t1 : traceErr cs[i][x] = 1 := by rw [traceErr, if_pos (by simp only [Bool.and_eq_false_iff, decide_eq_false_iff_not] at q1; omega)]
            rw [← aq, cellRowsErr_trace hz n3 (by rw [← cq, tracesErr_no (by rw [t1]; decide), t1]; decide), ← cq, tracesErr_no (by rw [t1]; decide), t1]
          | true =>
            simp only [Bool.and_eq_true, decide_eq_true_eq] at q1
            simp (implicitDefEqProofs := false) (dsimp := false) only [go_sem]
            (first | refine CallsA.use (inside_ok cs[i][x].bare 0 63) ?_ | refine QuietCalls.use (inside_ok cs[i][x].bare 0 63) ?_)
            cases q2 : (decide ((0 : Int) ≤ cs[i][x].bare) && decide (cs[i][x].bare ≤ 63)) with
            | false =>
              simp (implicitDefEqProofs := false) (dsimp := false) only [go_sem]
              have t1 : traceErr cs[i][x] = 1 := by rw [traceErr, if_pos (by simp only [Bool.and_eq_false_iff, decide_eq_false_iff_not] at q2; omega)]
              rw [← aq, cellRowsErr_trace hz n3 (by rw [← cq, tracesErr_no (by rw [t1]; decide), t1]; decide), ← cq, tracesErr_no (by rw [t1]; decide), t1]
            | true =>
              simp only [Bool.and_eq_true, decide_eq_true_eq] at q2
              simp (implicitDefEqProofs := false) (dsimp := false) only [go_sem]
              refine ⟨fun e => ?_, fun e => ⟨x + 1, ⟨⟨by omega, ?_⟩, wrap_succ (by omega)⟩, by omega⟩⟩
              · have t1 : traceErr cs[i][x] = 9 := by rw [traceErr, if_neg (by omega), if_pos (by simpa using e)]
                rw [← aq, cellRowsErr_trace hz n3 (by rw [← cq, tracesErr_no (by rw [t1]; decide), t1]; decide), ← cq, tracesErr_no (by rw [t1]; decide), t1]
              · have t1 : traceErr cs[i][x] = 0 := by rw [traceErr, if_neg (by omega), if_neg (by simpa using e)]
                rw [← cq, tracesErr_fine t1]
        · have hs : ((x : Int) < (cs[i].length : Int)) = False := eq_false (by omega)
          rw [List.drop_eq_nil_of_le (by omega)] at cq
          simp (implicitDefEqProofs := false) (dsimp := false) only [go_sem, c0, c3, c4, nat_lt hi, row1 cTraces_len hi, row1_le cTraces_len hi, cTraces, hs, decide_false]
          refine ⟨i + 1, ⟨⟨by omega, ?_⟩, wrap_succ (by omega)⟩, by omega⟩
          rw [← aq, cellRowsErr_fine hz n3 (by rw [← cq]; rfl)]
    · have hs : ((i : Int) < (cs.length : Int)) = False := eq_false (by omega)
      simp (implicitDefEqProofs := false) (dsimp := false) only [go_sem, a0, a3, hs, decide_false]
      rw [List.drop_eq_nil_of_le (by omega)] at aq
      exact aq
theorem RCheck_ok (b : Board) : PureA Tryz.prog 33 [.agg (brdA b)] (.int .i64 (boardErr b)) := by
  refine PureA.of_wpp { shut := [8] } 42 mixed Tryz.func33 (by kernel_rfl) rfl (by kernel_rfl) (rfl) fun h j hB => ?_
  simp only [junk_succ, junk_zero, List.cons_append, List.nil_append, List.length_cons, List.length_nil, Nat.reduceAdd]
  simp (implicitDefEqProofs := false) (dsimp := false) only [go_sem, brdA]
  (first | refine CallsA.use (R3Check_ok b.glyphs) ?_ | refine QuietCalls.use (R3Check_ok b.glyphs) ?_)
  simp (implicitDefEqProofs := false) (dsimp := false) only [go_sem, brdA]
  refine ⟨fun c0 => ?_, fun c0 => ⟨fun c1 => ?_, fun c1 => ⟨fun c2 => ?_, fun c2 => ?_⟩⟩⟩
  · rw [boardErr, if_pos (by simpa using c0)]
  · have e0 : glyphsErr b.glyphs = 0 := by simpa using c0
    have : sizedB b.pages.length 4 = 7 := by rw [sizedB, if_pos (by omega)]
    rw [boardErr, if_neg (by rw [e0]; decide), if_pos (by rw [this]; decide), this]
  · have e0 : glyphsErr b.glyphs = 0 := by simpa using c0
    have hne : b.pages.length ≠ 0 := by intro e; rw [e] at c1; simp at c1
    have : sizedB b.pages.length 4 = 6 := by rw [sizedB, if_neg (by omega), if_pos (by omega)]
    rw [boardErr, if_neg (by rw [e0]; decide), if_pos (by rw [this]; decide), this]
  have e0 : glyphsErr b.glyphs = 0 := by simpa using c0
  have okg := okGlyphs.of e0
  have hne : b.pages.length ≠ 0 := by intro e; rw [e] at c1; simp at c1
  have hz : sizedB b.pages.length 4 = 0 := by rw [sizedB, if_neg (by omega), if_neg (by omega)]
  have eb : boardErr b = if pagesErr (mapB b.glyphs) b.pages ≠ 0 then pagesErr (mapB b.glyphs) b.pages else cellsErr b.cells := by
    rw [boardErr, if_neg (by rw [e0]; decide), if_neg (by rw [hz]; decide)]
  refine WP.loopI (fun (i : Nat) s => (i ≤ b.pages.length ∧ pagesErr (mapB b.glyphs) (b.pages.drop i) = pagesErr (mapB b.glyphs) b.pages) ∧ s.sl.length = 43 ∧ s.df = [] ∧ s.gh = {} ∧ (s.hp = h ++ [.cells 0 (brdA b)]) ∧ evA s.sl (.tmp 1) = .ptr ⟨h.length, 0⟩ 0 ∧ evA s.sl (.tmp 4) = .int .i64 i) (fun (i : Nat) => b.pages.length - i) (0) ?_ ?_
  · simp (implicitDefEqProofs := false) (dsimp := false) only [go_sem, brdA, Nat.zero_le, List.drop_zero]
  · rintro i ⟨sl, df, hp, gh⟩ ⟨ab, al, rfl, rfl, rfl, a1, a4⟩
    simp only at ab al a1 a4
    obtain ⟨j, rfl⟩ := slots_lit al; clear al; simp only [junk_succ, junk_zero, evA_tmp, nth_16, nth_four, nth_one, nth_zero, Nat.zero_add, Nat.reduceAdd] at  a1 a4 ⊢
    refine wp_ok (so := { shut := [8] }) mixed _ (by kernel_rfl) ?_
    obtain ⟨ab, aq⟩ := ab
    by_cases hi : i < b.pages.length
    · rw [drop_get hi, pagesErr] at aq
      simp (implicitDefEqProofs := false) (dsimp := false) only [go_sem, a1, a4, brdA, nat_lt hi, decide_true, row1 cPage_len hi, row1_le cPage_len hi, cPage]
      (first | refine CallsA.use (RcheckPage_ok b.glyphs okg b.pages[i]) ?_ | refine QuietCalls.use (RcheckPage_ok b.glyphs okg b.pages[i]) ?_)
      simp (implicitDefEqProofs := false) (dsimp := false) only [go_sem]
      refine ⟨fun e => ?_, fun e => ⟨i + 1, ⟨⟨by omega, ?_⟩, rfl, wrap_succ (by omega)⟩, by omega⟩⟩
      · have e' : pageErr (mapB b.glyphs) b.pages[i] ≠ 0 := by simpa using e
        rw [if_pos e'] at aq
        rw [eb, ← aq, if_pos e']
      · have e' : pageErr (mapB b.glyphs) b.pages[i] = 0 := by simpa using e
        rw [if_neg (by rw [e']; decide)] at aq
        exact aq
    · have hs : ((i : Int) < (b.pages.length : Int)) = False := eq_false (by omega)
      rw [List.drop_eq_nil_of_le (by omega)] at aq
      simp (implicitDefEqProofs := false) (dsimp := false) only [go_sem, a1, a4, brdA, hs, decide_false]
      (first | refine CallsA.use (RcheckCells_ok b.cells) ?_ | refine QuietCalls.use (RcheckCells_ok b.cells) ?_)
      simp (implicitDefEqProofs := false) (dsimp := false) only [go_sem]
      rw [eb, ← aq]; rfl
theorem RcheckLay_ok (b : Board) (l : Lay) : PureA Tryz.prog 64 [.agg (brdA b), .agg (cLay l)] (.int .i64 (layErr2 b l)) := by
  refine PureA.of_wpp { cut := [23] } 27 mixed Tryz.func64 (by kernel_rfl) rfl (by kernel_rfl) (rfl) fun h j hB => ?_
  simp only [junk_succ, junk_zero, List.cons_append, List.nil_append, List.length_cons, List.length_nil, Nat.reduceAdd]
  obtain ⟨pg, tu, dn, rt⟩ := l
  simp (implicitDefEqProofs := false) (dsimp := false) only [go_sem, brdA, cLay]
  (first | refine CallsA.use (RCheck_ok b) ?_ | refine QuietCalls.use (RCheck_ok b) ?_)
  simp (implicitDefEqProofs := false) (dsimp := false) only [go_sem, brdA, cLay]
  refine ⟨fun c0 => ?_, fun c0 => ?_⟩
  · rw [layErr2, if_pos (by simpa using c0)]
  have e0 : boardErr b = 0 := by simpa using c0
  have ok := okBoard.of e0
  have hsz := (sizedB_zero (boardErr_zero e0).2.1)
  have hw : IntKind.i64.wrap ((b.pages.length : Int) - 1) = (b.pages.length : Int) - 1 := wrap64 (by omega) (by omega)
  have el : layErr2 b ⟨pg, tu, dn, rt⟩ = layErr b ⟨pg, tu, dn, rt⟩ := by rw [layErr2, if_neg (by rw [e0]; decide)]
  rw [hw]
  (first | refine CallsA.use (inside_ok pg 0 ((b.pages.length : Int) - 1)) ?_ | refine QuietCalls.use (inside_ok pg 0 ((b.pages.length : Int) - 1)) ?_)
  cases q1 : (decide ((0 : Int) ≤ pg) && decide (pg ≤ (b.pages.length : Int) - 1)) with
  | false =>
    simp (implicitDefEqProofs := false) (dsimp := false) only [go_sem]
    rw [el, layErr, if_pos (by simp only [Bool.and_eq_false_iff, decide_eq_false_iff_not] at q1; simp only; omega)]
  | true =>
    simp only [Bool.and_eq_true, decide_eq_true_eq] at q1
    simp (implicitDefEqProofs := false) (dsimp := false) only [go_sem]
    (first | refine CallsA.use (inside_ok dn (-1) 1) ?_ | refine QuietCalls.use (inside_ok dn (-1) 1) ?_)
    cases q2 : (decide ((-1 : Int) ≤ dn) && decide (dn ≤ 1)) with
    | false =>
      simp (implicitDefEqProofs := false) (dsimp := false) only [go_sem]
      rw [el, layErr, if_neg (by simp only; omega), if_pos (by simp only [Bool.and_eq_false_iff, decide_eq_false_iff_not] at q2; simp only; omega)]
    | true =>
      simp only [Bool.and_eq_true, decide_eq_true_eq] at q2
      simp (implicitDefEqProofs := false) (dsimp := false) only [go_sem]
      (first | refine CallsA.use (inside_ok rt (-1) 1) ?_ | refine QuietCalls.use (inside_ok rt (-1) 1) ?_)
      cases q3 : (decide ((-1 : Int) ≤ rt) && decide (rt ≤ 1)) with
      | false =>
        simp (implicitDefEqProofs := false) (dsimp := false) only [go_sem]
        rw [el, layErr, if_neg (by simp only; omega), if_pos (by simp only [Bool.and_eq_false_iff, decide_eq_false_iff_not] at q3; simp only; omega)]
      | true =>
        simp only [Bool.and_eq_true, decide_eq_true_eq] at q3
        simp (implicitDefEqProofs := false) (dsimp := false) only [go_sem]
        rw [el, layErr, if_neg (by simp only; omega), if_neg (by simp only; omega)]
end Go.Mac
namespace Go.Mac
open Go Go.Conc Go.Proofs
set_option maxRecDepth 4000
theorem Rmisfits_ok (b : Board) (okg : okGlyphs b.glyphs) (okc : okCells b.cells) (l : Lay) (p : Nat) (hlp : l.page = p) (hp : p < b.pages.length) (ok : okPage b.pages[p]) (hd : -1000 ≤ l.down ∧ l.down ≤ 1000) (hrt : -1000 ≤ l.right ∧ l.right ≤ 1000) : PureA Tryz.prog 88 [.agg (brdA b), .agg (cLay l)] (sliceOf cPair (misB (faceB (mapB b.glyphs) b.pages[p] b.cells l) b.cells)) := by
  refine PureA.of_wps [4] { shut := [38, 39] } 40 mixed Tryz.func88 (by kernel_rfl) rfl (by kernel_rfl) (below_psl (fun _ => rfl) _) fun h j hB => ?_
  simp only [junk_succ, junk_zero, List.cons_append, List.nil_append, List.length_cons, List.length_nil, Nat.reduceAdd]
  have q1 := okc.most
  have q2 := okc.wmost
  simp (implicitDefEqProofs := false) (dsimp := false) only [go_sem, brdA, cLay]
  refine WPI.turn (Turns.nilSlot (d := 5) (sz := 1) ?_) ?_
  · simp (implicitDefEqProofs := false) (dsimp := false) only [go_sem]
  simp (implicitDefEqProofs := false) (dsimp := false) only [go_sem]
  refine WP.loopI (fun (i : Nat) s => (i ≤ b.cells.length) ∧ s.sl.length = 42 ∧ s.df = [] ∧ s.gh = {} ∧ (s.hp = h ++ [.cells 0 (brdA b), .cells 0 (cLay l), .cells (misTo (faceB (mapB b.glyphs) b.pages[p] b.cells l) b.cells (4 * i)).length ((misTo (faceB (mapB b.glyphs) b.pages[p] b.cells l) b.cells (4 * i)).flatMap cPair)]) ∧ evA s.sl (.tmp 2) = .ptr ⟨h.length, 0⟩ 0 ∧ evA s.sl (.tmp 3) = .ptr ⟨h.length + 1, 0⟩ 0 ∧ evA s.sl (.tmp 5) = .sl ⟨h.length + 2, (misTo (faceB (mapB b.glyphs) b.pages[p] b.cells l) b.cells (4 * i)).length⟩ 1 0 (misTo (faceB (mapB b.glyphs) b.pages[p] b.cells l) b.cells (4 * i)).length ∧ evA s.sl (.tmp 6) = .int .i64 i) (fun (i : Nat) => b.cells.length - i) (0) ?_ ?_
  · simp (implicitDefEqProofs := false) (dsimp := false) only [go_sem, brdA, cLay, Nat.mul_zero, Nat.zero_le]
    simp [misTo]
  · rintro i ⟨sl, df, hp, gh⟩ ⟨ab, al, rfl, rfl, rfl, a2, a3, a5, a6⟩
    simp only at ab al a2 a3 a5 a6
    obtain ⟨j, rfl⟩ := slots_lit al; clear al; simp only [junk_succ, junk_zero, evA_tmp, nth_16, nth_four, nth_one, nth_zero, Nat.zero_add, Nat.reduceAdd] at  a2 a3 a5 a6 ⊢
    refine wp_ok (so := { shut := [38, 39] }) mixed _ (by kernel_rfl) ?_
    by_cases hi : i < b.cells.length
    · have hw := okc.row hi
      simp (implicitDefEqProofs := false) (dsimp := false) only [go_sem, a2, a3, a5, a6, brdA, cLay, nat_lt hi, decide_true]
      refine WP.loopI (fun (x : Nat) s => (x ≤ (b.cells.headD []).length) ∧ s.sl.length = 42 ∧ s.df = [] ∧ s.gh = {} ∧ (s.hp = h ++ [.cells 0 (brdA b), .cells 0 (cLay l), .cells (misTo (faceB (mapB b.glyphs) b.pages[p] b.cells l) b.cells (4 * i + x)).length ((misTo (faceB (mapB b.glyphs) b.pages[p] b.cells l) b.cells (4 * i + x)).flatMap cPair)]) ∧ evA s.sl (.tmp 2) = .ptr ⟨h.length, 0⟩ 0 ∧ evA s.sl (.tmp 3) = .ptr ⟨h.length + 1, 0⟩ 0 ∧ evA s.sl (.tmp 5) = .sl ⟨h.length + 2, (misTo (faceB (mapB b.glyphs) b.pages[p] b.cells l) b.cells (4 * i + x)).length⟩ 1 0 (misTo (faceB (mapB b.glyphs) b.pages[p] b.cells l) b.cells (4 * i + x)).length ∧ evA s.sl (.tmp 6) = .int .i64 i ∧ evA s.sl (.tmp 7) = .int .i64 x) (fun (x : Nat) => (b.cells.headD []).length - x) (0) ?_ ?_
      · simp (implicitDefEqProofs := false) (dsimp := false) only [go_sem, brdA, Nat.zero_le, Nat.add_zero]
        rfl
      · rintro x ⟨sl, df, hp, gh⟩ ⟨cb, cl, rfl, rfl, rfl, c2, c3, c5, c6, c7⟩
        simp only at cb cl c2 c3 c5 c6 c7
        obtain ⟨j, rfl⟩ := slots_lit cl; clear cl; simp only [junk_succ, junk_zero, evA_tmp, nth_16, nth_four, nth_one, nth_zero, Nat.zero_add, Nat.reduceAdd] at  c2 c3 c5 c6 c7 ⊢
        refine wp_ok (so := { shut := [38, 39] }) mixed _ (by kernel_rfl) ?_
        by_cases hx : x < (b.cells.headD []).length
        · have e : misTo (faceB (mapB b.glyphs) b.pages[p] b.cells l) b.cells (4 * i + (x + 1)) = misTo (faceB (mapB b.glyphs) b.pages[p] b.cells l) b.cells (4 * i + x) ++ if fitsB (shownB (mapB b.glyphs) b.pages[p] l i x) (traceAt b.cells i x) then [] else [((i : Int), (x : Int))] := by
            rw [← Nat.add_assoc, misTo_succ, ← face_get hi q1 hx q2]
            simp only [misAt, show (4 * i + x) / 4 = i by omega, show (4 * i + x) % 4 = x by omega, hx, if_true]
          simp (implicitDefEqProofs := false) (dsimp := false) only [go_sem, c2, c3, c5, c6, c7, brdA, cLay, nat_lt hx, nat_lt hi, decide_true, row1 cTraces_len hi, row1_le cTraces_len hi, cTraces, hw]
          (first | refine CallsA.use (Rshown_ok b okg l i x p hlp hp ok (by omega) (by omega) hd hrt) ?_ | refine QuietCalls.use (Rshown_ok b okg l i x p hlp hp ok (by omega) (by omega) hd hrt) ?_)
          simp (implicitDefEqProofs := false) (dsimp := false) only [go_sem]
          (first | refine CallsA.use (Rfits_ok b okc i x _ hi hx) ?_ | refine QuietCalls.use (Rfits_ok b okc i x _ hi hx) ?_)
          cases hq : fitsB (shownB (mapB b.glyphs) b.pages[p] l i x) (traceAt b.cells i x) with
          | true =>
            simp (implicitDefEqProofs := false) (dsimp := false) only [go_sem]
            refine ⟨x + 1, ?_⟩
            rw [e, hq, wrap_succ (by omega)]
            refine ⟨⟨by omega, ?_⟩, by omega⟩
            simp [brdA, sliceOf, cLay]
          | false =>
            simp (implicitDefEqProofs := false) (dsimp := false) only [go_sem]
            have hn := misTo_len (faceB (mapB b.glyphs) b.pages[p] b.cells l) b.cells (4 * i + x)
            refine ⟨⟨rows_length cPair_len _, by omega⟩, x + 1, ?_⟩
            rw [e, hq, wrap_succ (by omega)]
            refine ⟨⟨by omega, ?_⟩, by omega⟩
            simp [cPair, brdA, sliceOf, cLay]
        · have hs : ((x : Int) < ((b.cells.headD []).length : Int)) = False := eq_false (by omega)
          simp (implicitDefEqProofs := false) (dsimp := false) only [go_sem, c2, c3, c5, c6, c7, brdA, cLay, nat_lt hi, decide_true, row1 cTraces_len hi, row1_le cTraces_len hi, cTraces, hw, hs, decide_false]
          refine ⟨i + 1, ?_⟩
          rw [show 4 * (i + 1) = 4 * i + x + (4 - x) by omega, misTo_skip (n := 4 * i + x) (m := 4 - x) (by intro k _ _; omega), wrap_succ (by omega)]
          refine ⟨⟨by omega, ?_⟩, by omega⟩
          simp
    · have hs : ((i : Int) < (b.cells.length : Int)) = False := eq_false (by omega)
      simp (implicitDefEqProofs := false) (dsimp := false) only [go_sem, a2, a3, a5, a6, brdA, hs, decide_false, rows_all cPair_len]
      have : i = b.cells.length := by omega
      subst this
      rfl
theorem lay_at (p : Int) (t d r : Nat) (ht : t < 2) (hd : d < 3) (hr : r < 3) : layN p (9 * t + 3 * d + r) = ⟨p, decide (t = 1), (d : Int) - 1, (r : Int) - 1⟩ := by
  unfold layN
  have e1 : (9 * t + 3 * d + r) % 9 / 3 = d := by omega
  have e2 : (9 * t + 3 * d + r) % 3 = r := by omega
  rw [e1, e2]
  congr 1
  by_cases h : t = 1
  · subst h; simp; omega
  · have : t = 0 := by omega
    subst this; simp; omega
def wayTo (p : Int) (n : Nat) : List Lay := (List.range n).map (layN p)
theorem wayTo_succ (p : Int) (n : Nat) : wayTo p (n + 1) = wayTo p n ++ [layN p n] := by simp [wayTo, List.range_succ]
theorem wayTo_length (p : Int) (n : Nat) : (wayTo p n).length = n := by simp [wayTo]
theorem Rways_ok (p : Int) : PureA Tryz.prog 65 [.int .i64 p] (sliceOf cLay (wayTo p 18)) := by
  refine PureA.of_wps [2] { shut := [26] } 28 mixed Tryz.func65 (by kernel_rfl) rfl (by kernel_rfl) (below_psl (fun _ => rfl) _) fun h j hB => ?_
  simp only [junk_succ, junk_zero, List.cons_append, List.nil_append, List.length_cons, List.length_nil, Nat.reduceAdd]
  simp (implicitDefEqProofs := false) (dsimp := false) only [go_sem]
  refine WPI.turn (Turns.nilSlot (d := 3) (sz := 4) ?_) ?_
  · simp (implicitDefEqProofs := false) (dsimp := false) only [go_sem]
  simp (implicitDefEqProofs := false) (dsimp := false) only [go_sem]
  refine WP.loopI (fun (t : Nat) s => (t ≤ 2) ∧ s.sl.length = 29 ∧ s.df = [] ∧ s.gh = {} ∧ (s.hp = h ++ [.cells (9 * t) ((wayTo p (9 * t)).flatMap cLay)]) ∧ evA s.sl (.tmp 0) = .int .i64 p ∧ evA s.sl (.tmp 3) = .sl ⟨h.length, 9 * t⟩ 4 0 (9 * t) ∧ evA s.sl (.tmp 4) = .int .i64 t) (fun (t : Nat) => 2 - t) (0) ?_ ?_
  · simp (implicitDefEqProofs := false) (dsimp := false) only [go_sem]
    simp [wayTo]
  · rintro t ⟨sl, df, hp, gh⟩ ⟨ab, al, rfl, rfl, rfl, a0, a3, a4⟩
    simp only at ab al a0 a3 a4
    obtain ⟨j, rfl⟩ := slots_lit al; clear al; simp only [junk_succ, junk_zero, evA_tmp, nth_16, nth_four, nth_one, nth_zero, Nat.zero_add, Nat.reduceAdd] at  a0 a3 a4 ⊢
    refine wp_ok (so := { shut := [26] }) mixed _ (by kernel_rfl) ?_
    by_cases ht : t < 2
    · have hs : ((t : Int) ≤ 1) = True := eq_true (by omega)
      simp (implicitDefEqProofs := false) (dsimp := false) only [go_sem, a0, a3, a4, hs, decide_true]
      refine WP.loopI (fun (d : Nat) s => (d ≤ 3) ∧ s.sl.length = 29 ∧ s.df = [] ∧ s.gh = {} ∧ (s.hp = h ++ [.cells (9 * t + 3 * d) ((wayTo p (9 * t + 3 * d)).flatMap cLay)]) ∧ evA s.sl (.tmp 0) = .int .i64 p ∧ evA s.sl (.tmp 3) = .sl ⟨h.length, 9 * t + 3 * d⟩ 4 0 (9 * t + 3 * d) ∧ evA s.sl (.tmp 4) = .int .i64 t ∧ evA s.sl (.tmp 5) = .int .i64 ((d : Int) - 1)) (fun (d : Nat) => 3 - d) (0) ?_ ?_
      · simp (implicitDefEqProofs := false) (dsimp := false) only [go_sem, Nat.mul_zero, Nat.add_zero]
        simp
      · rintro d ⟨sl, df, hp, gh⟩ ⟨cb, cl, rfl, rfl, rfl, c0, c3, c4, c5⟩
        simp only at cb cl c0 c3 c4 c5
        obtain ⟨j, rfl⟩ := slots_lit cl; clear cl; simp only [junk_succ, junk_zero, evA_tmp, nth_16, nth_four, nth_one, nth_zero, Nat.zero_add, Nat.reduceAdd] at  c0 c3 c4 c5 ⊢
        refine wp_ok (so := { shut := [26] }) mixed _ (by kernel_rfl) ?_
        by_cases hd : d < 3
        · have hs : ((d : Int) - 1 ≤ 1) = True := eq_true (by omega)
          simp (implicitDefEqProofs := false) (dsimp := false) only [go_sem, c0, c3, c4, c5, hs, decide_true]
          refine WP.loopI (fun (r : Nat) s => (r ≤ 3) ∧ s.sl.length = 29 ∧ s.df = [] ∧ s.gh = {} ∧ (s.hp = h ++ [.cells (9 * t + 3 * d + r) ((wayTo p (9 * t + 3 * d + r)).flatMap cLay)]) ∧ evA s.sl (.tmp 0) = .int .i64 p ∧ evA s.sl (.tmp 3) = .sl ⟨h.length, 9 * t + 3 * d + r⟩ 4 0 (9 * t + 3 * d + r) ∧ evA s.sl (.tmp 4) = .int .i64 t ∧ evA s.sl (.tmp 5) = .int .i64 ((d : Int) - 1) ∧ evA s.sl (.tmp 6) = .int .i64 ((r : Int) - 1)) (fun (r : Nat) => 3 - r) (0) ?_ ?_
          · simp (implicitDefEqProofs := false) (dsimp := false) only [go_sem, Nat.add_zero]
            simp
          · rintro r ⟨sl, df, hp, gh⟩ ⟨gb, gl, rfl, rfl, rfl, g0, g3, g4, g5, g6⟩
            simp only at gb gl g0 g3 g4 g5 g6
            obtain ⟨j, rfl⟩ := slots_lit gl; clear gl; simp only [junk_succ, junk_zero, evA_tmp, nth_16, nth_four, nth_one, nth_zero, Nat.zero_add, Nat.reduceAdd] at  g0 g3 g4 g5 g6 ⊢
            refine wp_ok (so := { shut := [26] }) mixed _ (by kernel_rfl) ?_
            by_cases hr : r < 3
            · have hs : ((r : Int) - 1 ≤ 1) = True := eq_true (by omega)
              simp (implicitDefEqProofs := false) (dsimp := false) only [go_sem, g0, g3, g4, g5, g6, hs, decide_true]
              have hn : ((wayTo p (9 * t + 3 * d + r)).flatMap cLay).length = (9 * t + 3 * d + r) * 4 := by rw [length_rows cLay_len, wayTo_length]
              refine ⟨⟨hn, by omega⟩, r + 1, ⟨⟨by omega, ⟨by omega, ?_⟩, by rw [Nat.add_assoc], by rw [wrap64 (by omega) (by omega)]; omega⟩, by omega⟩⟩
              have e1 : ((t : Int) == 1) = decide (t = 1) := by rw [Bool.eq_iff_iff]; simp; omega
              rw [← Nat.add_assoc, wayTo_succ, lay_at p t d r ht hd hr, e1]
              simp [cLay]
            · have hs : ((r : Int) - 1 ≤ 1) = False := eq_false (by omega)
              simp (implicitDefEqProofs := false) (dsimp := false) only [go_sem, g0, g3, g4, g5, g6, hs, decide_false]
              have : r = 3 := by omega
              subst this
              refine ⟨d + 1, ?_⟩
              rw [show 9 * t + 3 * (d + 1) = 9 * t + 3 * d + 3 by omega]
              refine ⟨⟨by omega, ⟨rfl, rfl⟩, rfl, by rw [wrap64 (by omega) (by omega)]; omega⟩, by omega⟩
        · have hs : ((d : Int) - 1 ≤ 1) = False := eq_false (by omega)
          simp (implicitDefEqProofs := false) (dsimp := false) only [go_sem, c0, c3, c4, c5, hs, decide_false]
          have : d = 3 := by omega
          subst this
          refine ⟨t + 1, ?_⟩
          rw [show 9 * (t + 1) = 9 * t + 3 * 3 by omega]
          refine ⟨⟨by omega, ⟨rfl, rfl⟩, rfl, wrap_succ (by omega)⟩, by omega⟩
    · have hs : ((t : Int) ≤ 1) = False := eq_false (by omega)
      have : t = 2 := by omega
      subst this
      simp (implicitDefEqProofs := false) (dsimp := false) only [go_sem, a0, a3, a4]
      rw [List.take_of_length_le (by rw [length_rows cLay_len, wayTo_length]; omega), wayTo_length]
end Go.Mac
namespace Go.Mac
open Go Go.Conc Go.Proofs
set_option maxRecDepth 4000
end Go.Mac
namespace Go.Mac
open Go Go.Conc Go.Proofs
end Go.Mac
namespace Go.Mac
open Go Go.Conc Go.Proofs
set_option maxRecDepth 4000
end Go.Mac
namespace Go.Mac
open Go Go.Conc Go.Proofs
set_option maxRecDepth 4000
end Go.Mac
namespace Go.Mac
open Go Go.Conc Go.Proofs
def seenL (b : Board) (l : Lay) (r c : Nat) : Int := shownB (mapB b.glyphs) (b.pages.getD l.page.toNat []) l r c
end Go.Mac
namespace Go.Mac
open Go Go.Conc Go.Proofs
end Go.Mac
namespace Go.Mac
open Go Go.Conc Go.Proofs
end Go.Mac
namespace Go.Mac
open Go Go.Conc Go.Proofs
set_option maxRecDepth 4000
structure wayOk (b : Board) (l : Lay) (p : Nat) : Prop where
  page : l.page = p
  lt : p < b.pages.length
  d : -1 ≤ l.down ∧ l.down ≤ 1
  r : -1 ≤ l.right ∧ l.right ≤ 1
theorem wayOk.seen {b : Board} {l : Lay} {p : Nat} (h : wayOk b l p) (r c : Nat) : shownB (mapB b.glyphs) (b.pages[p]'h.lt) l r c = seenL b l r c := by
  have := h.lt
  simp [seenL, h.page, List.getD, this]
theorem wayOk.of {b : Board} {p n : Nat} (hp : p < b.pages.length) : wayOk b (layN p n) p := ⟨rfl, hp, by simp only [layN]; omega, by simp only [layN]; omega⟩
end Go.Mac
namespace Go.Mac
open Go Go.Conc Go.Proofs
set_option maxRecDepth 4000
theorem find_getD {α : Type} (d : α) (p : α → Bool) (xs : List α) : xs.find? p = ((List.range xs.length).find? fun k => p (xs.getD k d)).map fun k => xs.getD k d := by
  have e : xs = (List.range xs.length).map fun k => xs.getD k d := by
    apply List.ext_getElem
    · simp
    · intro i h1 h2
      simp [List.getD, h1]
  conv => lhs; rw [e]
  rw [List.find?_map]; rfl
def fitG (gs : List Glyph) (l : Lay) (t : Trace) (k : Nat) : Bool := fitsB (asB l (glyS gs ((k : Int) - 1))) t
def foundTo (gs : List Glyph) (l : Lay) (t : Trace) (k : Nat) : Int := match (List.range k).find? (fitG gs l t) with | some j => (j : Int) - 1 | none => -2
theorem foundTo_succ {gs : List Glyph} {l : Lay} {t : Trace} {k : Nat} (h : foundTo gs l t k < -1) : foundTo gs l t (k + 1) = if fitG gs l t k then (k : Int) - 1 else -2 := by
  unfold foundTo at h ⊢
  rw [List.range_succ, List.find?_append]
  cases e : (List.range k).find? (fitG gs l t) with
  | some j => rw [e] at h; simp only at h; omega
  | none => cases hq : fitG gs l t k <;> simp [List.find?, hq]
theorem foundTo_none {gs : List Glyph} {l : Lay} {t : Trace} {k : Nat} (h : foundTo gs l t k < -1) : foundTo gs l t k = -2 := by
  unfold foundTo at h ⊢
  cases e : (List.range k).find? (fitG gs l t) with
  | some j => rw [e] at h; simp only at h; omega
  | none => rfl
theorem foundTo_stop {gs : List Glyph} {l : Lay} {t : Trace} {k n : Nat} (hk : k ≤ n) (h : ¬ foundTo gs l t k < -1) : foundTo gs l t n = foundTo gs l t k := by
  obtain ⟨m, rfl⟩ : ∃ m, n = k + m := ⟨n - k, by omega⟩
  unfold foundTo at h ⊢
  rw [List.range_add, List.find?_append]
  cases e : (List.range k).find? (fitG gs l t) with
  | some j => rfl
  | none => rw [e] at h; exact absurd (by decide) h
theorem inkB_dash (gs : List Glyph) : inkB (mapB gs) ((45 : Nat) : Int) = 0 := by simp [inkB, mapB]
theorem strokesB_memR : ∀ {gs : List Glyph}, (gs.Pairwise fun x g => gkey x < gkey g ∧ x.strokes ≠ g.strokes) → ∀ g ∈ gs, strokesB gs g.name = g.strokes
  | [], _, g, hg => by cases hg
  | x :: l, hp, g, hg => by
    rw [List.pairwise_cons] at hp
    rw [strokesB]
    rcases List.mem_cons.1 hg with rfl | hg
    · rw [if_pos rfl]
    · have := (hp.1 g hg).1
      rw [if_neg (fun e => by unfold gkey at this; rw [e] at this; omega)]
      exact strokesB_memR hp.2 g hg
theorem name_ink {gs : List Glyph} (ok : okGlyphs gs) {k : Nat} (hk : k < gs.length + 1) : inkB (mapB gs) (((nameL gs).getD k 0 : Nat) : Int) = glyS gs ((k : Int) - 1) := by
  cases k with
  | zero => exact inkB_dash gs
  | succ k =>
    have hk' : k < gs.length := by omega
    have h1 : (nameL gs).getD (k + 1) 0 = gkey gs[k] := by simp [nameL, List.getD, hk']
    obtain ⟨c, h2, h3⟩ := one_name (ok.one _ (List.getElem_mem hk')).1
    rw [h1, h3, ← strokesB_eq ok c, ← h2, strokesB_memR ok.pair _ (List.getElem_mem hk'), glyS, if_neg (by omega)]
    simp [List.getD, hk']
theorem find_congr {α : Type} {p q : α → Bool} : ∀ (xs : List α), (∀ k ∈ xs, p k = q k) → xs.find? p = xs.find? q
  | [], _ => rfl
  | x :: xs, h => by
    rw [List.find?_cons, List.find?_cons, find_congr xs fun k hk => h k (List.mem_cons_of_mem _ hk), h x (List.mem_cons_self ..)]
theorem changeG {gs : List Glyph} (ok : okGlyphs gs) (l : Lay) (t : Trace) : changeB (mapB gs) gs l t = ((List.range (gs.length + 1)).find? (fitG gs l t)).map fun k => (nameL gs).getD k 0 := by
  have hl : (nameL gs).length = gs.length + 1 := by simp [nameL]
  rw [changeB, find_getD 0, hl]
  congr 1
  refine find_congr _ fun k hk => ?_
  rw [fitG, name_ink ok (List.mem_range.1 hk)]
def emtA : Option Em → AV
  | some e => .tup [sliceOf cStr e.rows, .int .i64 e.letters, .bool true]
  | none => .tup [.psl [] 0, .int .i64 0, .bool false]
theorem emtA_below (o : Option Em) : below 0 (emtA o) = true := by
  cases o with
  | none => rfl
  | some e =>
    have := belowL_flat (n := 0) (f := cStr) (fun _ => rfl) e.rows
    simp [emtA, below, belowL, sliceOf, this]
theorem set_str {s : List UInt8} {c : Nat} {x : UInt8} (hc : c < s.length) : s.take (c - 0) ++ x :: (s.drop (c + 1)).take (s.length - (c + 1)) = s.set c x := by
  rw [List.set_eq_take_append_cons_drop, if_pos hc, Nat.sub_zero, List.take_of_length_le (l := s.drop (c + 1)) (by rw [List.length_drop]; exact Nat.le_refl _)]
theorem set_page {q : List (List UInt8)} {r c : Nat} {x : UInt8} (hr : r < q.length) (hc : c < q[r].length) : (q.flatMap cStr).set r (.str (q[r].take (c - 0) ++ x :: (q[r].drop (c + 1)).take (q[r].length - (c + 1)))) = (setL2 q r c x).flatMap cStr := by
  rw [set_str hc, flat_set (f := cStr) (g := .str) (fun _ => rfl), setL2, List.getD_eq_getElem?_getD, List.getElem?_eq_getElem hr, Option.getD_some]
theorem set_short {s : List UInt8} {c n : Nat} (hs : s.length ≤ 1000) : (s.take (c - 0)).length ≤ 1000 ∧ ((s.drop (c + 1)).take n).length ≤ 1000 := by
  simp only [List.length_take, List.length_drop]; omega
set_option maxHeartbeats 2000000 in
theorem Remended_ok (b : Board) (okg : okGlyphs b.glyphs) (ok : okBoard b) (l : Lay) (p : Nat) (hl : wayOk b l p) : PureA Tryz.prog 66 [.agg (brdA b), .agg (cLay l)] (emtA (emOf (mapB b.glyphs) b.glyphs (b.pages[p]'hl.lt) b.cells l)) := by
  refine PureA.of_wps [4] { cut := [59], tail := [(20, 18)] } 114 mixed Tryz.func66 (by kernel_rfl) rfl (by kernel_rfl) (emtA_below _) fun h j hB => ?_
  simp only [junk_succ, junk_zero, List.cons_append, List.nil_append, List.length_cons, List.length_nil, Nat.reduceAdd]
  have hpl := hl.lt
  have hlp := hl.page
  have ld := hl.d
  have lr := hl.r
  have okc := ok.cells
  have okp := ok.page _ (List.getElem_mem hpl)
  have w0 := okp.most
  have w1 := okp.wmost
  have hgm := okg.most
  simp (implicitDefEqProofs := false) (dsimp := false) only [go_sem, brdA, cLay, hlp, row1 cPage_len hpl, row1_le cPage_len hpl, hpl, cPage]
  have hl1 : ((b.pages[p].flatMap cStr).take b.pages[p].length) = b.pages[p].flatMap cStr := List.take_of_length_le (by rw [rows_length cStr_len]; exact Nat.le_refl _)
  rw [hl1]
  refine ⟨by omega, ⟨rows_length cStr_len _, by simp [cStr, leafA], by omega⟩, ?_⟩
  have hl0 : AV.agg [.int .i64 (p : Int), .bool l.turned, .int .i64 l.down, .int .i64 l.right] = .agg (cLay l) := by rw [cLay, hlp]
  rw [hl0]
  (first | refine CallsA.use (Rmisfits_ok b okg okc l p hlp hpl okp (by omega) (by omega)) ?_ | refine QuietCalls.use (Rmisfits_ok b okg okc l p hlp hpl okp (by omega) (by omega)) ?_)
  simp (implicitDefEqProofs := false) (dsimp := false) only [go_sem]
  obtain ⟨W, hW⟩ : ∃ W, W = wrongB (mapB b.glyphs) b.pages[p] b.cells l := ⟨_, rfl⟩
  have hW2 : misB (faceB (mapB b.glyphs) b.pages[p] b.cells l) b.cells = W := hW.symm
  have hW3 : W.length ≤ 4 * b.cells.length := by rw [hW]; exact misTo_len (faceB (mapB b.glyphs) b.pages[p] b.cells l) b.cells (4 * b.cells.length)
  have h3 := okc.most
  have h4 := okc.wmost
  rw [hW2]
  refine WP.loopI (fun (y : Nat × List (List UInt8)) s => (y.1 ≤ W.length ∧ emFold (mapB b.glyphs) b.glyphs b.pages[p] b.cells l (W.drop y.1) y.2 = emendB (mapB b.glyphs) b.glyphs b.pages[p] b.cells l ∧ y.2.length = b.pages[p].length ∧ (∀ r ∈ y.2, r.length = (b.pages[p].headD []).length)) ∧ s.sl.length = 116 ∧ s.df = [] ∧ s.gh = {} ∧ (s.hp = h ++ [.cells 0 (brdA b), .cells 0 (cLay l), .cells 1 (y.2.flatMap cStr)]) ∧ evA s.sl (.tmp 2) = .ptr ⟨h.length, 0⟩ 0 ∧ evA s.sl (.tmp 3) = .ptr ⟨h.length + 1, 0⟩ 0 ∧ evA s.sl (.tmp 7) = .sl ⟨h.length + 2, 1⟩ 1 0 b.pages[p].length ∧ evA s.sl (.tmp 8) = sliceOf cPair W ∧ evA s.sl (.tmp 9) = .int .i64 y.1) (fun (y : Nat × List (List UInt8)) => W.length - y.1) ((0, b.pages[p])) ?_ ?_
  · simp (implicitDefEqProofs := false) (dsimp := false) only [go_sem, brdA, Nat.zero_le]
    exact ⟨⟨by rw [hW]; rfl, okp.wide⟩, by simp [sliceOf, cLay, hlp]⟩
  · rintro ⟨x, q⟩ ⟨sl, df, hp, gh⟩ ⟨cb, cl, rfl, rfl, rfl, c2, c3, c7, c8, c9⟩
    simp only at cb cl c2 c3 c7 c8 c9
    obtain ⟨j, rfl⟩ := slots_lit cl; clear cl; simp only [junk_succ, junk_zero, evA_tmp, nth_16, nth_four, nth_one, nth_zero, Nat.zero_add, Nat.reduceAdd] at  c2 c3 c7 c8 c9 ⊢
    refine wp_ok (so := { cut := [59], tail := [(20, 18)] }) mixed _ (by kernel_rfl) ?_
    obtain ⟨cb, cq, cn, cw⟩ := cb
    by_cases hx : x < W.length
    · have hmem : W[x] ∈ misB (faceB (mapB b.glyphs) b.pages[p] b.cells l) b.cells := by rw [hW2]; exact List.getElem_mem hx
      obtain ⟨r0, c0, ex, hr0, hc0⟩ := misB_mem _ hmem
      have hrow := row1 cPair_len hx
      rw [ex] at hrow
      rw [drop_get hx, ex, emFold] at cq
      have hbd := letterB_bound (p := b.pages[p]) (l := l) (row := r0) (col := c0)
      have hst : emStep (mapB b.glyphs) b.glyphs b.pages[p] b.cells l q ((r0 : Int), (c0 : Int)) = match changeB (mapB b.glyphs) b.glyphs l (traceAt b.cells r0 c0) with
        | some n => if (letterB b.pages[p] l r0 c0).2.2 then some (setL2 q (letterB b.pages[p] l r0 c0).1.toNat (letterB b.pages[p] l r0 c0).2.1.toNat (UInt8.ofNat n)) else none
        | none => none := rfl
      have none_of : emStep (mapB b.glyphs) b.glyphs b.pages[p] b.cells l q ((r0 : Int), (c0 : Int)) = none → emOf (mapB b.glyphs) b.glyphs b.pages[p] b.cells l = none := fun e => by
        rw [e] at cq
        simp only at cq
        rw [emOf, ← cq]; rfl
      have hlet := Rletter_ok b l r0 c0 p hlp hpl okp.pos (by omega) (by omega) (by omega) (by omega) (by omega) (by omega)
      generalize hlb : letterB b.pages[p] l r0 c0 = z at hlet hbd hst
      obtain ⟨lr, lc, lt⟩ := z
      simp only [tup3] at hlet
      simp (implicitDefEqProofs := false) (dsimp := false) only [go_sem, c2, c3, c7, c8, c9, brdA, cLay, nat_lt hx, decide_true, hrow, row1_le cPair_len hx, hx, cPair]
      (first | refine CallsA.use (hlet) ?_ | refine QuietCalls.use (hlet) ?_)
      cases lt with
      | false =>
        have hn : emStep (mapB b.glyphs) b.glyphs b.pages[p] b.cells l q ((r0 : Int), (c0 : Int)) = none := by
          rw [hst]; cases changeB (mapB b.glyphs) b.glyphs l (traceAt b.cells r0 c0) <;> rfl
        simp (implicitDefEqProofs := false) (dsimp := false) only [go_sem, brdA, cLay]
        rw [none_of hn]; rfl
      | true =>
        obtain ⟨r, c1, e, hr, hc1⟩ := hbd rfl
        simp only [Prod.mk.injEq, and_true] at e
        obtain ⟨rfl, rfl⟩ := e
        simp (implicitDefEqProofs := false) (dsimp := false) only [go_sem, brdA, cLay]
        refine WP.loopI (fun (k : Nat) s => (k ≤ b.glyphs.length + 1) ∧ s.sl.length = 116 ∧ s.df = [] ∧ s.gh = {} ∧ (s.hp = h ++ [.cells 0 (brdA b), .cells 0 (cLay l), .cells 1 (q.flatMap cStr)]) ∧ evA s.sl (.tmp 2) = .ptr ⟨h.length, 0⟩ 0 ∧ evA s.sl (.tmp 3) = .ptr ⟨h.length + 1, 0⟩ 0 ∧ evA s.sl (.tmp 7) = .sl ⟨h.length + 2, 1⟩ 1 0 b.pages[p].length ∧ evA s.sl (.tmp 8) = sliceOf cPair W ∧ evA s.sl (.tmp 9) = .int .i64 x ∧ evA s.sl (.tmp 10) = .int .i64 r ∧ evA s.sl (.tmp 11) = .int .i64 c1 ∧ evA s.sl (.tmp 13) = .int .i64 (foundTo b.glyphs l (traceAt b.cells r0 c0) k) ∧ evA s.sl (.tmp 14) = .int .i64 ((k : Int) - 1)) (fun (k : Nat) => b.glyphs.length + 1 - k) (0) ?_ ?_
        · simp (implicitDefEqProofs := false) (dsimp := false) only [go_sem, brdA, cLay, Nat.zero_le]
          exact ⟨rfl, rfl⟩
        · rintro k ⟨sl, df, hp, gh⟩ ⟨db, dl, rfl, rfl, rfl, d2, d3, d7, d8, d9, d10, d11, d13, d14⟩
          simp only at db dl d2 d3 d7 d8 d9 d10 d11 d13 d14
          obtain ⟨j, rfl⟩ := slots_lit dl; clear dl; simp only [junk_succ, junk_zero, evA_tmp, nth_16, nth_four, nth_one, nth_zero, Nat.zero_add, Nat.reduceAdd] at  d2 d3 d7 d8 d9 d10 d11 d13 d14 ⊢
          refine wp_ok (so := { cut := [59], tail := [(20, 18)] }) mixed _ (by kernel_rfl) ?_
          by_cases hk : k < b.glyphs.length + 1 ∧ foundTo b.glyphs l (traceAt b.cells r0 c0) k < -1
          · have s1 : (((k : Int) - 1) < (b.glyphs.length : Int)) = True := eq_true (by omega)
            have s2 : (foundTo b.glyphs l (traceAt b.cells r0 c0) k < -1) = True := eq_true hk.2
            simp (implicitDefEqProofs := false) (dsimp := false) only [go_sem, d2, d3, d7, d8, d9, d10, d11, d13, d14, brdA, cLay, s1, s2, decide_true, nat_lt hx, hrow, row1_le cPair_len hx, hx, cPair]
            (first | refine CallsA.use (Rseen_ok b okg l ((k : Int) - 1) (by omega) (by omega)) ?_ | refine QuietCalls.use (Rseen_ok b okg l ((k : Int) - 1) (by omega) (by omega)) ?_)
            simp (implicitDefEqProofs := false) (dsimp := false) only [go_sem, brdA, cLay]
            (first | refine CallsA.use (Rfits_ok b okc r0 c0 _ hr0 hc0) ?_ | refine QuietCalls.use (Rfits_ok b okc r0 c0 _ hr0 hc0) ?_)
            have hsu := foundTo_succ hk.2
            have hw : IntKind.i64.wrap ((k : Int) - 1 + 1) = ((k + 1 : Nat) : Int) - 1 := by rw [wrap64 (by omega) (by omega)]; omega
            have hqq : fitsB (asB l (glyS b.glyphs ((k : Int) - 1))) (traceAt b.cells r0 c0) = fitG b.glyphs l (traceAt b.cells r0 c0) k := rfl
            rw [hqq]
            cases hq : fitG b.glyphs l (traceAt b.cells r0 c0) k with
            | true =>
              rw [hq, if_pos rfl] at hsu
              simp (implicitDefEqProofs := false) (dsimp := false) only [go_sem, hw]
              exact ⟨k + 1, ⟨by omega, ⟨rfl, rfl⟩, hsu.symm, rfl⟩, by omega⟩
            | false =>
              rw [hq, if_neg (by decide), ← foundTo_none hk.2] at hsu
              simp (implicitDefEqProofs := false) (dsimp := false) only [go_sem, hw]
              exact ⟨k + 1, ⟨by omega, ⟨rfl, rfl⟩, hsu.symm, rfl⟩, by omega⟩
          · have hkn : ¬ foundTo b.glyphs l (traceAt b.cells r0 c0) k < -1 ∨ k = b.glyphs.length + 1 := by omega
            have hF : foundTo b.glyphs l (traceAt b.cells r0 c0) (b.glyphs.length + 1) = foundTo b.glyphs l (traceAt b.cells r0 c0) k := by
              rcases hkn with e | e
              · exact foundTo_stop db e
              · rw [e]
            rw [changeG okg] at hst
            rw [foundTo] at hF
            cases hfd : (List.range (b.glyphs.length + 1)).find? (fitG b.glyphs l (traceAt b.cells r0 c0)) with
            | none =>
              rw [hfd] at hst hF
              simp only at hF
              have hk1 : k = b.glyphs.length + 1 := by omega
              have s1 : (((k : Int) - 1) < (b.glyphs.length : Int)) = False := eq_false (by omega)
              simp (implicitDefEqProofs := false) (dsimp := false) only [go_sem, d2, d3, d7, d8, d9, d10, d11, d13, d14, brdA, cLay, s1, decide_false, ← hF]
              rw [none_of hst]; rfl
            | some m =>
              rw [hfd] at hst hF
              simp only at hF
              have hm := List.mem_range.1 (List.mem_of_find?_eq_some hfd)
              simp only [Option.map_some, if_true] at hst
              rw [hst] at cq
              have hrq : r < q.length := by omega
              have hwr := cw _ (List.getElem_mem hrq)
              have hw : IntKind.i64.wrap ((c1 : Int) + 1) = ((c1 + 1 : Nat) : Int) := wrap_succ (by omega)
              cases m with
              | zero =>
                have hF0 : foundTo b.glyphs l (traceAt b.cells r0 c0) k = -1 := hF.symm
                rw [show UInt8.ofNat ((nameL b.glyphs).getD 0 0) = 45 from rfl] at cq
                by_cases hk1 : k < b.glyphs.length + 1
                case' pos =>
                  have s1 : (((k : Int) - 1) < (b.glyphs.length : Int)) = True := eq_true (by omega)
                  simp (implicitDefEqProofs := false) (dsimp := false) only [go_sem, d2, d3, d7, d8, d9, d10, d11, d13, d14, brdA, cLay, s1, decide_true, hF0, row1 cStr_len hrq, row1_le cStr_len hrq, nat_lt hrq, hrq, cStr, hw, rows_length cStr_len]
                case' neg =>
                  have s1 : (((k : Int) - 1) < (b.glyphs.length : Int)) = False := eq_false (by omega)
                  simp (implicitDefEqProofs := false) (dsimp := false) only [go_sem, d2, d3, d7, d8, d9, d10, d11, d13, d14, brdA, cLay, s1, decide_false, hF0, row1 cStr_len hrq, row1_le cStr_len hrq, nat_lt hrq, hrq, cStr, hw, rows_length cStr_len]
                all_goals
                  obtain ⟨z1, z2⟩ := set_short (s := q[r]) (c := c1) (n := q[r].length - (c1 + 1)) (by omega)
                  refine ⟨by omega, by omega, by omega, by omega, ⟨by omega, Int.le_refl _⟩, by omega, by omega, by omega, (x + 1, setL2 q r c1 45), ⟨⟨by simp only; omega, by simpa using cq, by simp only; rw [setL2_len]; exact cn, setL2_wide cw hrq⟩, ?_, wrap_succ (by omega)⟩, by simp only; omega⟩
                  exact set_page hrq (by omega)
              | succ m =>
                have hmg : m < b.glyphs.length := by omega
                have hF0 : foundTo b.glyphs l (traceAt b.cells r0 c0) k = (m : Int) := by omega
                obtain ⟨cc, hname, hkey⟩ := one_name (okg.one _ (List.getElem_mem hmg)).1
                have hcc : UInt8.ofNat ((nameL b.glyphs).getD (m + 1) 0) = cc := by
                  rw [show (nameL b.glyphs).getD (m + 1) 0 = gkey b.glyphs[m] by simp [nameL, List.getD, hmg], hkey, UInt8.ofNat_toNat]
                rw [hcc] at cq
                have t1 : ((m : Int) < -1) = False := eq_false (by omega)
                have t2 : ((0 : Int) ≤ (m : Int)) = True := eq_true (by omega)
                by_cases hk1 : k < b.glyphs.length + 1
                case' pos =>
                  have s1 : (((k : Int) - 1) < (b.glyphs.length : Int)) = True := eq_true (by omega)
                  simp (implicitDefEqProofs := false) (dsimp := false) only [go_sem, d2, d3, d7, d8, d9, d10, d11, d13, d14, brdA, cLay, s1, decide_true, hF0, row1 cStr_len hrq, row1_le cStr_len hrq, nat_lt hrq, hrq, cStr, hw, rows_length cStr_len, rowN cGlyph_len hmg, rowN_le cGlyph_len hmg, nat_lt hmg, hmg, cGlyph, hname, t1, t2, decide_true, decide_false]
                case' neg =>
                  have s1 : (((k : Int) - 1) < (b.glyphs.length : Int)) = False := eq_false (by omega)
                  simp (implicitDefEqProofs := false) (dsimp := false) only [go_sem, d2, d3, d7, d8, d9, d10, d11, d13, d14, brdA, cLay, s1, decide_false, hF0, row1 cStr_len hrq, row1_le cStr_len hrq, nat_lt hrq, hrq, cStr, hw, rows_length cStr_len, rowN cGlyph_len hmg, rowN_le cGlyph_len hmg, nat_lt hmg, hmg, cGlyph, hname, t1, t2, decide_true, decide_false]
                all_goals
                  obtain ⟨z1, z2⟩ := set_short (s := q[r]) (c := c1) (n := q[r].length - (c1 + 1)) (by omega)
                  refine ⟨by omega, by omega, by omega, by omega, ⟨by omega, Int.le_refl _⟩, by omega, by omega, by omega, (x + 1, setL2 q r c1 cc), ⟨⟨by simp only; omega, by simpa using cq, by simp only; rw [setL2_len]; exact cn, setL2_wide cw hrq⟩, ?_, wrap_succ (by omega)⟩, by simp only; omega⟩
                  exact set_page hrq (by omega)
    · have hs : ((x : Int) < (W.length : Int)) = False := eq_false (by omega)
      simp (implicitDefEqProofs := false) (dsimp := false) only [go_sem, c2, c3, c7, c8, c9, brdA, hs, decide_false]
      rw [List.drop_eq_nil_of_le (by omega)] at cq
      have hsome : emOf (mapB b.glyphs) b.glyphs b.pages[p] b.cells l = some ⟨q, W.length, l⟩ := by
        rw [emOf, ← cq, ← hW]; rfl
      rw [hsome, emtA, sliceOf, ← cn, List.take_of_length_le (by rw [rows_length cStr_len]; exact Nat.le_refl _)]
theorem layErr0 {b : Board} (e0 : boardErr b = 0) (p : Int) : layErr2 b ⟨p, false, 0, 0⟩ = if 0 ≤ p ∧ p < b.pages.length then 0 else 3 := by
  rw [layErr2, if_neg (by simp [e0]), layErr]
  by_cases h : 0 ≤ p ∧ p < b.pages.length
  · rw [if_neg (by simp only; omega), if_neg (by simp only; omega), if_pos h]
  · rw [if_pos (by simpa using h), if_neg h]
def takenA : Option Em → List AV
  | some e => cLay e.way
  | none => [.int .i64 0, .bool false, .int .i64 0, .int .i64 0]
def takenR : Option Em → AV
  | some e => sliceOf cStr e.rows
  | none => .nilsl
def takenN : Option Em → Int
  | some e => e.letters
  | none => -1
theorem tkA0 : takenA none = [.int .i64 0, .bool false, .int .i64 0, .int .i64 0] := rfl
theorem tkR0 : takenR none = .nilsl := rfl
theorem tkN0 : takenN none = -1 := rfl
theorem tkA1 (e : Em) : takenA (some e) = [.int .i64 e.way.page, .bool e.way.turned, .int .i64 e.way.down, .int .i64 e.way.right] := rfl
theorem tkR1 (e : Em) : takenR (some e) = .psl (e.rows.flatMap cStr) e.rows.length := rfl
theorem tkN1 (e : Em) : takenN (some e) = e.letters := rfl
theorem emOf_letters {m : List (Int × Int)} {gs : List Glyph} {pg : List (List UInt8)} {cs : List (List Trace)} {l : Lay} {e : Em} (h : emOf m gs pg cs l = some e) : 0 ≤ e.letters := by
  unfold emOf at h
  obtain ⟨p, _, rfl⟩ := Option.map_eq_some_iff.1 h
  exact Int.natCast_nonneg _
theorem emOf_way {m : List (Int × Int)} {gs : List Glyph} {pg : List (List UInt8)} {cs : List (List Trace)} {l : Lay} {e : Em} (h : emOf m gs pg cs l = some e) : e.way = l := by
  unfold emOf at h
  obtain ⟨p, _, rfl⟩ := Option.map_eq_some_iff.1 h
  rfl
theorem emTo_letters {b : Board} {m : List (Int × Int)} {p : Nat} {e : Em} : ∀ {k}, emTo b m p k = some e → 0 ≤ e.letters
  | 0, h => by cases h
  | k + 1, h => by
    rw [emTo_succ] at h
    cases h1 : emOf m b.glyphs (b.pages.getD p []) b.cells (layN p k) with
    | none => rw [h1] at h; exact emTo_letters h
    | some x =>
      rw [h1] at h
      simp only at h
      cases h2 : emTo b m p k with
      | none => rw [h2, takeEm] at h; cases h; exact emOf_letters h1
      | some y =>
        rw [h2, takeEm] at h
        by_cases h3 : x.letters < y.letters
        · rw [if_pos h3] at h; cases h; exact emOf_letters h1
        · rw [if_neg h3] at h; cases h; exact emTo_letters h2
set_option maxHeartbeats 2000000 in
theorem REmend_ok (b : Board) (page : Int) : PureA Tryz.prog 17 [.agg (brdA b), .int .i64 page] (emendA (emendR b page)) := by
  refine PureA.of_wpe [] { cut := [44, 47], tail := [(13, 8), (16, 5)] } 63 mixed Tryz.func17 (by kernel_rfl) rfl (by kernel_rfl) (emendA_below _) fun h j hB => ?_
  simp only [junk_succ, junk_zero, List.cons_append, List.nil_append, List.length_cons, List.length_nil, Nat.reduceAdd]
  simp (implicitDefEqProofs := false) (dsimp := false) only [go_sem, brdA]
  (first | refine CallsA.use (RcheckLay_ok b ⟨page, false, 0, 0⟩) ?_ | refine QuietCalls.use (RcheckLay_ok b ⟨page, false, 0, 0⟩) ?_)
  simp (implicitDefEqProofs := false) (dsimp := false) only [go_sem, brdA]
  by_cases e0 : boardErr b = 0
  · have ok := okBoard.of e0
    have okg := okGlyphs.of (boardErr_zero e0).1
    rw [layErr0 e0]
    by_cases hp : 0 ≤ page ∧ page < b.pages.length
    · rw [if_pos hp]
      obtain ⟨p, rfl⟩ : ∃ p : Nat, page = p := ⟨page.toNat, by omega⟩
      have hp' : p < b.pages.length := by omega
      simp (implicitDefEqProofs := false) (dsimp := false) only [go_sem]
      (first | refine CallsA.use (Rways_ok p) ?_ | refine QuietCalls.use (Rways_ok p) ?_)
      simp (implicitDefEqProofs := false) (dsimp := false) only [go_sem]
      have hpg : b.pages.getD p [] = b.pages[p] := by simp [List.getD, hp']
      refine WP.loopI (fun (i : Nat) s => (i ≤ (wayTo p 18).length) ∧ s.sl.length = 65 ∧ s.df = [] ∧ s.gh = {} ∧ (s.hp = h ++ [.cells 0 (brdA b), .cells 0 [.int .i64 0, .bool false, .int .i64 0, .int .i64 0], .cells 0 (takenA (emTo b (mapB b.glyphs) p i))]) ∧ evA s.sl (.tmp 2) = .ptr ⟨h.length, 0⟩ 0 ∧ evA s.sl (.tmp 6) = .ptr ⟨h.length + 1, 0⟩ 0 ∧ evA s.sl (.tmp 9) = takenR (emTo b (mapB b.glyphs) p i) ∧ evA s.sl (.tmp 10) = .int .i64 (takenN (emTo b (mapB b.glyphs) p i)) ∧ evA s.sl (.tmp 11) = .ptr ⟨h.length + 2, 0⟩ 0 ∧ evA s.sl (.tmp 12) = sliceOf cLay (wayTo p 18) ∧ evA s.sl (.tmp 13) = .int .i64 i) (fun (i : Nat) => (wayTo p 18).length - i) (0) ?_ ?_
      · simp (implicitDefEqProofs := false) (dsimp := false) only [go_sem, brdA, Nat.zero_le]
        exact ⟨rfl, rfl, rfl⟩
      · rintro i ⟨sl, df, hp, gh⟩ ⟨ab, al, rfl, rfl, rfl, a2, a6, a9, a10, a11, a12, a13⟩
        simp only at ab al a2 a6 a9 a10 a11 a12 a13
        obtain ⟨j, rfl⟩ := slots_lit al; clear al; simp only [junk_succ, junk_zero, evA_tmp, nth_16, nth_four, nth_one, nth_zero, Nat.zero_add, Nat.reduceAdd] at  a2 a6 a9 a10 a11 a12 a13 ⊢
        refine wp_ok (so := { cut := [44, 47], tail := [(13, 8), (16, 5)] }) mixed _ (by kernel_rfl) ?_
        by_cases hi : i < (wayTo p 18).length
        · have hi18 : i < 18 := by rw [wayTo_length] at hi; exact hi
          have ex : (wayTo p 18)[i] = layN p i := by simp [wayTo]
          have hsu := emTo_succ b (mapB b.glyphs) p i
          rw [hpg] at hsu
          have hcall : PureA Tryz.prog 66 [.agg (brdA b), .agg (cLay (wayTo p 18)[i])] (emtA (emOf (mapB b.glyphs) b.glyphs b.pages[p] b.cells (layN p i))) := by
            rw [ex]; exact Remended_ok b okg ok (layN p i) p (.of hp')
          generalize hO : emOf (mapB b.glyphs) b.glyphs b.pages[p] b.cells (layN p i) = o at hcall hsu
          generalize hT : emTo b (mapB b.glyphs) p i = t at hsu
          cases o with
          | none =>
            simp only [emtA, sliceOf] at hcall
            simp (implicitDefEqProofs := false) (dsimp := false) only [go_sem, a2, a6, a9, a10, a11, a12, a13, hT, brdA, nat_lt hi, decide_true, rowN cLay_len hi, rowN_le cLay_len hi, cLay]
            (first | refine CallsA.use (hcall) ?_ | refine QuietCalls.use (hcall) ?_)
            simp (implicitDefEqProofs := false) (dsimp := false) only [go_sem]
            refine ⟨i + 1, ⟨by omega, ⟨rfl, by rw [hsu]⟩, by rw [hsu], by rw [hsu], wrap_succ (by omega)⟩, by omega⟩
          | some e =>
            simp only [emtA, sliceOf] at hcall
            cases t with
            | none =>
              have m1 : ((-1 : Int) < 0) = True := eq_true (by decide)
              simp (implicitDefEqProofs := false) (dsimp := false) only [go_sem, a2, a6, a9, a10, a11, a12, a13, hT, brdA, tkA0, tkR0, tkN0, tkA1, tkR1, tkN1, nat_lt hi, decide_true, rowN cLay_len hi, rowN_le cLay_len hi, cLay]
              (first | refine CallsA.use (hcall) ?_ | refine QuietCalls.use (hcall) ?_)
              simp (implicitDefEqProofs := false) (dsimp := false) only [go_sem, brdA, tkA0, tkR0, tkN0, tkA1, tkR1, tkN1, nat_lt hi, decide_true, rowN cLay_len hi, rowN_le cLay_len hi, cLay, m1]
              have hw := emOf_way hO
              have hs : emTo b (mapB b.glyphs) p (i + 1) = some e := by rw [hsu]; rfl
              refine ⟨i + 1, ⟨by omega, by rw [hs, tkA1, hw, ← ex]; rfl, by rw [hs, tkR1], by rw [hs, tkN1], wrap_succ (by omega)⟩, by omega⟩
            | some y =>
              have y0 : (y.letters < 0) = False := eq_false (by have := emTo_letters hT; omega)
              by_cases hlt : e.letters < y.letters
              · have m2 := eq_true hlt
                simp (implicitDefEqProofs := false) (dsimp := false) only [go_sem, a2, a6, a9, a10, a11, a12, a13, hT, brdA, tkA0, tkR0, tkN0, tkA1, tkR1, tkN1, nat_lt hi, decide_true, rowN cLay_len hi, rowN_le cLay_len hi, cLay]
                (first | refine CallsA.use (hcall) ?_ | refine QuietCalls.use (hcall) ?_)
                simp (implicitDefEqProofs := false) (dsimp := false) only [go_sem, brdA, tkA0, tkR0, tkN0, tkA1, tkR1, tkN1, nat_lt hi, decide_true, rowN cLay_len hi, rowN_le cLay_len hi, cLay, y0, m2, decide_false]
                have hw := emOf_way hO
                have hs : emTo b (mapB b.glyphs) p (i + 1) = some e := by rw [hsu]; exact if_pos hlt
                refine ⟨i + 1, ⟨by omega, by rw [hs, tkA1, hw, ← ex]; rfl, by rw [hs, tkR1], by rw [hs, tkN1], wrap_succ (by omega)⟩, by omega⟩
              · have m2 := eq_false hlt
                simp (implicitDefEqProofs := false) (dsimp := false) only [go_sem, a2, a6, a9, a10, a11, a12, a13, hT, brdA, tkA0, tkR0, tkN0, tkA1, tkR1, tkN1, nat_lt hi, decide_true, rowN cLay_len hi, rowN_le cLay_len hi, cLay]
                (first | refine CallsA.use (hcall) ?_ | refine QuietCalls.use (hcall) ?_)
                simp (implicitDefEqProofs := false) (dsimp := false) only [go_sem, brdA, tkA0, tkR0, tkN0, tkA1, tkR1, tkN1, nat_lt hi, decide_true, rowN cLay_len hi, rowN_le cLay_len hi, cLay, y0, m2, decide_false]
                have hw := emOf_way hO
                have hs : emTo b (mapB b.glyphs) p (i + 1) = some y := by rw [hsu]; exact if_neg hlt
                refine ⟨i + 1, ⟨by omega, by rw [hs, tkA1], by rw [hs, tkR1], by rw [hs, tkN1], wrap_succ (by omega)⟩, by omega⟩
        · have hs : ((i : Int) < (((wayTo p 18).length : Nat) : Int)) = False := eq_false (by omega)
          have hi18 : i = 18 := by rw [wayTo_length] at hi ab; omega
          have hR : emendR b p = match emTo b (mapB b.glyphs) p 18 with | some e => (some e, 0) | none => (none, 11) := by
            rw [emendR, if_neg (by simp [e0]), if_neg (by omega)]; rfl
          rw [hR, ← hi18]
          cases hT : emTo b (mapB b.glyphs) p i with
          | none =>
            have m1 : ((-1 : Int) < 0) = True := eq_true (by decide)
            simp (implicitDefEqProofs := false) (dsimp := false) only [go_sem, a2, a6, a9, a10, a11, a12, a13, hT, brdA, tkA0, tkR0, tkN0, hs, decide_false, m1, decide_true]
            rfl
          | some y =>
            have y0 : (y.letters < 0) = False := eq_false (by have := emTo_letters hT; omega)
            simp (implicitDefEqProofs := false) (dsimp := false) only [go_sem, a2, a6, a9, a10, a11, a12, a13, hT, brdA, tkA1, tkR1, tkN1, hs, decide_false, y0]
            rfl
    · rw [if_neg hp]
      simp (implicitDefEqProofs := false) (dsimp := false) only [go_sem]
      rw [emendR, if_neg (by simp [e0]), if_pos hp]; rfl
  · have e1 : layErr2 b ⟨page, false, 0, 0⟩ = boardErr b := by rw [layErr2, if_pos e0]
    have e2 : (boardErr b != 0) = true := by simpa using e0
    rw [e1]
    simp (implicitDefEqProofs := false) (dsimp := false) only [go_sem, e2]
    rw [emendR, if_pos e0]; rfl
end Go.Mac
namespace Go.Mac
open Go Go.Conc Go.Proofs
set_option maxRecDepth 4000
theorem cells_len1' (b : Board) : (b.cells.flatMap cTraces).length = b.cells.length := rows_length (fun _ => rfl) _
theorem DupPure_ok (b : Board) (ok : okSizes b) : PureA Tryz.prog 15 [.agg (brdA b)] (.agg (brdA b)) := fun h => by
  have hgt : (b.glyphs.flatMap cGlyph).take (b.glyphs.length * 2) = b.glyphs.flatMap cGlyph := List.take_of_length_le (by rw [length_rows cGlyph_len]; exact Nat.le_refl _)
  have hgl : (b.glyphs.flatMap cGlyph).length = b.glyphs.length * 2 := length_rows cGlyph_len _
  refine CallsA.of_wpe [] { shut := [26, 45], hand := [9, 10], tail := [(5, 9)] } 48 mixed Tryz.func15 (by kernel_rfl) rfl (by kernel_rfl) fun j hB hA => ?_; simp only [junk_succ, junk_zero, List.cons_append, List.nil_append, List.length_cons, List.length_nil, Nat.reduceAdd]
  simp (implicitDefEqProofs := false) (dsimp := false) only [go_sem, brdA, hgt, hgl]
  refine ⟨⟨flat_leaf (fun _ => rfl) _, by have := ok.g; omega⟩, ?_⟩
  refine WPI.turn (Turns.seal_cell (i := h.length + 3) (g := 0) (j := 0) (a := .sl ⟨h.length + 2, 1⟩ 2 0 b.glyphs.length) (a' := sliceOf cGlyph b.glyphs) (by simp only; rw [hget]; rfl) rfl (by simp only [sealV]; rw [hget]; simp [sliceOf, hgt]) (by simp [nmOf])) ?_
  simp only [nmOf, hset, List.set_cons_succ, List.set_cons_zero]
  refine WPI.turn (Turns.nilCell (i := h.length + 3) (j := 1) (sz := 1) (by simp only; rw [hget]; rfl) rfl) ?_
  refine WPI.turn (Turns.nilCell (i := h.length + 3) (j := 2) (sz := 1) (by simp only [List.append_assoc]; rw [hset, List.append_assoc, hget]; rfl) rfl) ?_
  simp only [hset, List.append_assoc, List.set_cons_succ, List.set_cons_zero, List.cons_append, List.nil_append, List.length_append, List.length_cons, List.length_nil, Nat.zero_add, Nat.reduceAdd]
  refine WP.loopI (fun (k : Nat) s => (k ≤ b.pages.length) ∧ s.sl.length = 49 ∧ s.df = [] ∧ s.gh = {} ∧ (s.hp = h ++ [.cells 0 (brdA b), .cells 0 z3, .dead, .cells 0 [sliceOf cGlyph b.glyphs, .sl ⟨h.length + 4, k⟩ 1 0 k, .sl ⟨h.length + 5, 0⟩ 1 0 0], .cells k ((b.pages.take k).flatMap cPage), .cells 0 []]) ∧ evA s.sl (.tmp 1) = .ptr ⟨h.length, 0⟩ 0 ∧ evA s.sl (.tmp 2) = .ptr ⟨h.length + 1, 0⟩ 0 ∧ evA s.sl (.tmp 3) = .ptr ⟨h.length + 3, 0⟩ 0 ∧ evA s.sl (.tmp 4) = .int .i64 k) (fun (k : Nat) => b.pages.length - k) (0) ?_ ?_
  · simp (implicitDefEqProofs := false) (dsimp := false) only [go_sem, brdA, Nat.zero_le]
    exact ⟨rfl, rfl⟩
  · rintro k ⟨sl, df, hp, gh⟩ ⟨ab, al, rfl, rfl, rfl, a1, a2, a3, a4⟩
    simp only at ab al a1 a2 a3 a4
    obtain ⟨j, rfl⟩ := slots_lit al; clear al; simp only [junk_succ, junk_zero, evA_tmp, nth_16, nth_four, nth_one, nth_zero, Nat.zero_add, Nat.reduceAdd] at  a1 a2 a3 a4 ⊢
    refine wp_ok (so := { shut := [26, 45], hand := [9, 10], tail := [(5, 9)] }) mixed _ (by kernel_rfl) ?_
    by_cases hk : k < b.pages.length
    · have hkl : ((b.pages.take k).flatMap cPage).length = k := by rw [cPage_len1, List.length_take]; omega
      simp (implicitDefEqProofs := false) (dsimp := false) only [go_sem, a1, a2, a3, a4, brdA, nat_lt hk, decide_true, row1 cPage_len hk, row1_le cPage_len hk, cPage]
      (first | refine CallsA.use (DupStrings_ok b.pages[k] (ok.pr _ (List.getElem_mem hk))) ?_ | refine QuietCalls.use (DupStrings_ok b.pages[k] (ok.pr _ (List.getElem_mem hk))) ?_)
      simp (implicitDefEqProofs := false) (dsimp := false) only [go_sem, hkl, brdA]
      refine ⟨below_strs _ _, by have := ok.p; omega, k + 1, ⟨by omega, ⟨rfl, rfl, ?_⟩, wrap_succ (by have := ok.p; omega)⟩, by omega⟩
      rw [List.take_succ_eq_append_getElem hk, List.flatMap_append]
      simp [cPage, sliceOf]
    · have hs : ((k : Int) < (b.pages.length : Int)) = False := eq_false (by omega)
      have e : k = b.pages.length := by omega
      subst e
      rw [List.take_length]
      simp (implicitDefEqProofs := false) (dsimp := false) only [go_sem, a1, a2, a3, a4, brdA, hs, decide_false]
      refine WP.loopI (fun (k : Nat) s => (k ≤ b.cells.length) ∧ s.sl.length = 49 ∧ s.df = [] ∧ s.gh = {} ∧ (s.hp = h ++ .cells 0 (brdA b) :: .cells 0 z3 :: .dead :: .cells 0 [sliceOf cGlyph b.glyphs, .sl ⟨h.length + 4, b.pages.length⟩ 1 0 b.pages.length, .sl ⟨h.length + 5, k⟩ 1 0 k] :: .cells b.pages.length (b.pages.flatMap cPage) :: .cells k (slsFrom 1 (h.length + 6) (b.cells.take k)) :: (b.cells.take k).map rowB) ∧ evA s.sl (.tmp 1) = .ptr ⟨h.length, 0⟩ 0 ∧ evA s.sl (.tmp 2) = .ptr ⟨h.length + 1, 0⟩ 0 ∧ evA s.sl (.tmp 3) = .ptr ⟨h.length + 3, 0⟩ 0 ∧ evA s.sl (.tmp 5) = .int .i64 k) (fun (k : Nat) => b.cells.length - k) (0) ?_ ?_
      · simp (implicitDefEqProofs := false) (dsimp := false) only [go_sem, brdA, Nat.zero_le, List.take_zero, List.map_nil, slsFrom]
      · rintro k ⟨sl, df, hp, gh⟩ ⟨cb, cl, rfl, rfl, rfl, c1, c2, c3, c5⟩
        simp only at cb cl c1 c2 c3 c5
        obtain ⟨j, rfl⟩ := slots_lit cl; clear cl; simp only [junk_succ, junk_zero, evA_tmp, nth_16, nth_four, nth_one, nth_zero, Nat.zero_add, Nat.reduceAdd] at  c1 c2 c3 c5 ⊢
        refine wp_ok (so := { shut := [26, 45], hand := [9, 10], tail := [(5, 9)] }) mixed _ (by kernel_rfl) ?_
        by_cases hk : k < b.cells.length
        · simp (implicitDefEqProofs := false) (dsimp := false) only [go_sem, c1, c2, c3, c5, brdA, nat_lt hk, decide_true]
          refine WP.noisy (so := { shut := [26, 45], tail := [(5, 9)] }) 10 [2, 8] [0, 0, 0, 0, 0, 0, 0, 0, 0, 2] [2, 2, 0, 1, 1, 1, 1, 1, 0, 2] ((fun T => [h ++ T, h ++ (T ++ [.cells 0 []]), h ++ (T ++ [rowB b.cells[k]])]) _) rfl mixed (by kernel_rfl) (by kernel_rfl) (by decide) (by kernel_rfl) rfl ?_
          have hrt : (b.cells[k].flatMap cTrace).take (b.cells[k].length * 2) = b.cells[k].flatMap cTrace := List.take_of_length_le (by rw [length_rows cTrace_len]; exact Nat.le_refl _)
          have hrl : (b.cells[k].flatMap cTrace).length = b.cells[k].length * 2 := length_rows cTrace_len _
          have hsl : (slsFrom 1 (h.length + 6) (b.cells.take k)).length = k := by rw [slsFrom_len, List.length_take]; omega
          simp (implicitDefEqProofs := false) (dsimp := false) only [go_sem, brdA, row1 cTraces_len hk, row1_le cTraces_len hk, cTraces, nat_lt hk, hrt, hrl, hsl]
          have hcr := ok.cr _ (List.getElem_mem hk)
          have hcl := ok.c
          refine ⟨⟨flat_leaf (fun _ => rfl) _, by omega⟩, rfl, by omega, by omega, k + 1, ⟨by omega, ⟨rfl, ⟨rfl, ?_⟩, ?_⟩, wrap_succ (by omega)⟩, by omega⟩
          · rw [List.take_succ_eq_append_getElem hk, slsFrom_snoc, List.length_map, show h.length + 6 + (b.cells.take k).length = h.length + ((b.cells.take k).length + 1 + 1 + 1 + 1 + 1 + 1) by omega]
          · rw [List.take_succ_eq_append_getElem hk, List.map_append]; rfl
        · have hs : ((k : Int) < (b.cells.length : Int)) = False := eq_false (by omega)
          have e : k = b.cells.length := by omega
          subst e
          rw [List.take_length]
          simp (implicitDefEqProofs := false) (dsimp := false) only [go_sem, c1, c2, c3, c5, brdA, hs, decide_false]
          have hct : (b.cells.flatMap cTraces).take b.cells.length = b.cells.flatMap cTraces := List.take_of_length_le (by rw [cells_len1']; exact Nat.le_refl _)
          have hpt : (b.pages.flatMap cPage).take b.pages.length = b.pages.flatMap cPage := List.take_of_length_le (by rw [cPage_len1]; exact Nat.le_refl _)
          have hh : ∀ (a b c d e f : Blk) (R : List Blk), h ++ a :: b :: c :: d :: e :: f :: R = (h ++ [a, b, c, d, e]) ++ f :: (R ++ []) := fun _ _ _ _ _ _ _ => by simp
          rw [hh]
          refine WPI.rows (by simp) ?_
          simp only [List.append_assoc, List.cons_append, List.nil_append]
          refine WPI.turn (Turns.seal_cell (i := h.length + 3) (g := 0) (j := 2) (a := .sl ⟨h.length + 5, b.cells.length⟩ 1 0 b.cells.length) (a' := sliceOf cTraces b.cells) (by simp only; rw [hget]; rfl) rfl (by simp only [sealV]; rw [hget]; simp [sliceOf, hct]) (by simp [nmOf])) ?_
          simp only [nmOf, hset, List.set_cons_succ, List.set_cons_zero]
          refine WPI.turn (Turns.seal_cell (i := h.length + 3) (g := 0) (j := 1) (a := .sl ⟨h.length + 4, b.pages.length⟩ 1 0 b.pages.length) (a' := sliceOf cPage b.pages) (by simp only; rw [hget]; rfl) rfl (by simp only [sealV]; rw [hget]; simp [sliceOf, hpt]) (by simp [nmOf])) ?_
          simp only [nmOf, hset, List.set_cons_succ, List.set_cons_zero]
          refine wp_shut [] (so := { shut := [26, 45], tail := [(5, 9)] }) mixed _ (by kernel_rfl) ?_
          simp (implicitDefEqProofs := false) (dsimp := false) only [go_sem, z3]
          refine quiet_fine hB ?_
          have hbl := belowL_mono (Nat.zero_le h.length) _ (slices_below b)
          simpa [below, sliceOf] using hbl
def longB (b : Board) : Bool := (decide (20 < b.glyphs.length) || decide (20 < b.pages.length) || decide (20 < b.cells.length)) || b.glyphs.any (fun g => decide (40 < g.name.length)) || b.pages.any (fun p => decide (20 < p.length) || p.any fun r => decide (40 < r.length)) || b.cells.any fun r => decide (20 < r.length)
structure shortB (b : Board) : Prop where
  g : b.glyphs.length ≤ 20
  p : b.pages.length ≤ 20
  c : b.cells.length ≤ 20
  gn : ∀ g ∈ b.glyphs, g.name.length ≤ 40
  pr : ∀ p ∈ b.pages, p.length ≤ 20
  pc : ∀ p ∈ b.pages, ∀ r ∈ p, r.length ≤ 40
  cr : ∀ r ∈ b.cells, r.length ≤ 20
theorem shortB.of {b : Board} (h : longB b = false) : shortB b := by
  simp only [longB, Bool.or_eq_false_iff, decide_eq_false_iff_not, List.any_eq_false, Bool.or_eq_true, decide_eq_true_eq, List.any_eq_true, not_or, not_exists, not_and] at h
  obtain ⟨⟨⟨⟨⟨h1, h2⟩, h3⟩, h4⟩, h5⟩, h6⟩ := h
  exact ⟨by omega, by omega, by omega, fun g hg => by have := h4 g hg; omega, fun p hp => by have := (h5 p hp).1; omega, fun p hp r hr => by have := (h5 p hp).2 r hr; omega, fun r hr => by have := h6 r hr; omega⟩
theorem shortB.sizes {b : Board} (h : shortB b) : okSizes b := ⟨by have := h.g; omega, by have := h.p; omega, fun p hp => by have := h.pr p hp; omega, by have := h.c; omega, fun r hr => by have := h.cr r hr; omega⟩
theorem okMade.short {b : Board} (h : okMade b) : shortB b := ⟨by have := h.gl.most; omega, by have := h.most; omega, by have := h.cells.most; omega, fun g hg => by have := (h.gl.one g hg).1; omega, fun p hp => by have := (h.page p hp).1.most; omega, fun p hp r hr => by have := (h.page p hp).1.wide r hr; have := (h.page p hp).1.wmost; omega, fun r hr => by have := h.cells.wide r hr; have := h.cells.wmost; omega⟩
theorem eqGlyphS {d : Nat} {a0 : List UInt8} {a1 : Int} : eqA Tryz.prog (d + 2) 76 (.agg [.str a0, .int .i64 a1]) (.agg [.str a0, .int .i64 a1]) = some true := by
  have hu := under_ty ty76
  have e : ∀ a b : Int, eqA Tryz.prog (d + 1) 3 (.int .i64 a) (.int .i64 b) = some (a == b) := fun a b => eqA_int ty3 rfl
  have eb : ∀ a b : List UInt8, eqA Tryz.prog (d + 1) 9 (.str a) (.str b) = some (a == b) := fun a b => by
    simp only [eqA, under_ty ty9, ty9]
  have hs : (Tryz.prog.stoodInHeld 76) = false := by kernel_rfl
  have hq := eqAll_some [a0 == a0, a1 == a1]
  simp only [List.map_cons, List.map_nil] at hq
  unfold eqA
  simp only [hu, ty76, hs, ty3, ty9, List.map_cons, List.map_nil, Bool.false_eq_true, if_false, partA, aggD, List.getD_cons_zero, List.getD_cons_succ, e, eb]
  rw [if_neg (by decide), if_neg (by decide), hq]
  simp
theorem eqTraceS {d : Nat} {a0 a1 : Int} : eqA Tryz.prog (d + 2) 86 (.agg [.int .i64 a0, .int .i64 a1]) (.agg [.int .i64 a0, .int .i64 a1]) = some true := by
  have hu := under_ty ty86
  have e : ∀ a b : Int, eqA Tryz.prog (d + 1) 3 (.int .i64 a) (.int .i64 b) = some (a == b) := fun a b => eqA_int ty3 rfl
  have hs : (Tryz.prog.stoodInHeld 86) = false := by kernel_rfl
  have hq := eqAll_some [a0 == a0, a1 == a1]
  simp only [List.map_cons, List.map_nil] at hq
  unfold eqA
  simp only [hu, ty86, hs, ty3, List.map_cons, List.map_nil, Bool.false_eq_true, if_false, partA, aggD, List.getD_cons_zero, List.getD_cons_succ, e]
  rw [if_neg (by decide), if_neg (by decide), hq]
  simp
theorem eqGuardG : (Tryz.prog.eqGuardType Tryz.prog.depth 76 = false) = True := eq_true (by kernel_rfl)
theorem eqGuardT : (Tryz.prog.eqGuardType Tryz.prog.depth 86 = false) = True := eq_true (by kernel_rfl)
theorem EqBoards_ok (b : Board) (ok : shortB b) : PureA Tryz.prog 19 [.agg (brdA b), .agg (brdA b)] (.bool true) := by
  refine PureA.of_wpp { cut := [16, 25] } 116 mixed Tryz.func19 (by kernel_rfl) rfl (by kernel_rfl) (rfl) fun h j hB => ?_
  simp only [junk_succ, junk_zero, List.cons_append, List.nil_append, List.length_cons, List.length_nil, Nat.reduceAdd]
  have hg := ok.g
  have hp := ok.p
  have hc := ok.c
  simp (implicitDefEqProofs := false) (dsimp := false) only [go_sem, brdA, bne_self_eq_false]
  refine WP.loopI (fun (k : Nat) s => (k ≤ b.glyphs.length) ∧ s.sl.length = 118 ∧ s.df = [] ∧ s.gh = {} ∧ (s.hp = h ++ [.cells 0 (brdA b), .cells 0 (brdA b)]) ∧ evA s.sl (.tmp 2) = .ptr ⟨h.length, 0⟩ 0 ∧ evA s.sl (.tmp 3) = .ptr ⟨h.length + 1, 0⟩ 0 ∧ evA s.sl (.tmp 5) = .int .i64 k) (fun (k : Nat) => b.glyphs.length - k) (0) ?_ ?_
  · simp (implicitDefEqProofs := false) (dsimp := false) only [go_sem, brdA, Nat.zero_le]
  · rintro k ⟨sl, df, hp, gh⟩ ⟨ab, al, rfl, rfl, rfl, a2, a3, a5⟩
    simp only at ab al a2 a3 a5
    obtain ⟨j, rfl⟩ := slots_lit al; clear al; simp only [junk_succ, junk_zero, evA_tmp, nth_16, nth_four, nth_one, nth_zero, Nat.zero_add, Nat.reduceAdd] at  a2 a3 a5 ⊢
    refine wp_ok (so := { cut := [16, 25] }) mixed _ (by kernel_rfl) ?_
    by_cases hk : k < b.glyphs.length
    · have hn := ok.gn _ (List.getElem_mem hk)
      simp (implicitDefEqProofs := false) (dsimp := false) only [go_sem, a2, a3, a5, brdA, nat_lt hk, decide_true, rowN cGlyph_len hk, rowN_le cGlyph_len hk, cGlyph, eqGlyphS, eqGuardG, Bool.not_true]
      exact ⟨k + 1, ⟨by omega, wrap_succ (by omega)⟩, by omega⟩
    · have hs : ((k : Int) < (b.glyphs.length : Int)) = False := eq_false (by omega)
      simp (implicitDefEqProofs := false) (dsimp := false) only [go_sem, a2, a3, a5, brdA, hs, decide_false]
      refine WP.loopI (fun (k : Nat) s => (k ≤ b.pages.length) ∧ s.sl.length = 118 ∧ s.df = [] ∧ s.gh = {} ∧ (s.hp = h ++ [.cells 0 (brdA b), .cells 0 (brdA b)]) ∧ evA s.sl (.tmp 2) = .ptr ⟨h.length, 0⟩ 0 ∧ evA s.sl (.tmp 3) = .ptr ⟨h.length + 1, 0⟩ 0 ∧ evA s.sl (.tmp 6) = .int .i64 k) (fun (k : Nat) => b.pages.length - k) (0) ?_ ?_
      · simp (implicitDefEqProofs := false) (dsimp := false) only [go_sem, brdA, Nat.zero_le]
      · rintro k ⟨sl, df, hp, gh⟩ ⟨cb, cl, rfl, rfl, rfl, c2, c3, c6⟩
        simp only at cb cl c2 c3 c6
        obtain ⟨j, rfl⟩ := slots_lit cl; clear cl; simp only [junk_succ, junk_zero, evA_tmp, nth_16, nth_four, nth_one, nth_zero, Nat.zero_add, Nat.reduceAdd] at  c2 c3 c6 ⊢
        refine wp_ok (so := { cut := [16, 25] }) mixed _ (by kernel_rfl) ?_
        by_cases hk : k < b.pages.length
        · have h1 := ok.pr _ (List.getElem_mem hk)
          have h2 := ok.pc _ (List.getElem_mem hk)
          simp (implicitDefEqProofs := false) (dsimp := false) only [go_sem, c2, c3, c6, brdA, nat_lt hk, decide_true, row1 cPage_len hk, row1_le cPage_len hk, cPage]
          (first | refine CallsA.use (eqStrings_ok b.pages[k] b.pages[k] (by omega) (fun s hs => by have := h2 s hs; omega) (fun s hs => by have := h2 s hs; omega)) ?_ | refine QuietCalls.use (eqStrings_ok b.pages[k] b.pages[k] (by omega) (fun s hs => by have := h2 s hs; omega) (fun s hs => by have := h2 s hs; omega)) ?_)
          simp (implicitDefEqProofs := false) (dsimp := false) only [go_sem, beq_self_eq_true]
          exact ⟨k + 1, ⟨by omega, rfl, wrap_succ (by omega)⟩, by omega⟩
        · have hs : ((k : Int) < (b.pages.length : Int)) = False := eq_false (by omega)
          simp (implicitDefEqProofs := false) (dsimp := false) only [go_sem, c2, c3, c6, brdA, hs, decide_false]
          refine WP.loopI (fun (k : Nat) s => (k ≤ b.cells.length) ∧ s.sl.length = 118 ∧ s.df = [] ∧ s.gh = {} ∧ (s.hp = h ++ [.cells 0 (brdA b), .cells 0 (brdA b)]) ∧ evA s.sl (.tmp 2) = .ptr ⟨h.length, 0⟩ 0 ∧ evA s.sl (.tmp 3) = .ptr ⟨h.length + 1, 0⟩ 0 ∧ evA s.sl (.tmp 7) = .int .i64 k) (fun (k : Nat) => b.cells.length - k) (0) ?_ ?_
          · simp (implicitDefEqProofs := false) (dsimp := false) only [go_sem, brdA, Nat.zero_le]
          · rintro k ⟨sl, df, hp, gh⟩ ⟨eb, el, rfl, rfl, rfl, e2, e3, e7⟩
            simp only at eb el e2 e3 e7
            obtain ⟨j, rfl⟩ := slots_lit el; clear el; simp only [junk_succ, junk_zero, evA_tmp, nth_16, nth_four, nth_one, nth_zero, Nat.zero_add, Nat.reduceAdd] at  e2 e3 e7 ⊢
            refine wp_ok (so := { cut := [16, 25] }) mixed _ (by kernel_rfl) ?_
            by_cases hk : k < b.cells.length
            · have h1 := ok.cr _ (List.getElem_mem hk)
              simp (implicitDefEqProofs := false) (dsimp := false) only [go_sem, e2, e3, e7, brdA, nat_lt hk, decide_true, row1 cTraces_len hk, row1_le cTraces_len hk, cTraces, bne_self_eq_false]
              refine WP.loopI (fun (x : Nat) s => (x ≤ b.cells[k].length) ∧ s.sl.length = 118 ∧ s.df = [] ∧ s.gh = {} ∧ (s.hp = h ++ [.cells 0 (brdA b), .cells 0 (brdA b)]) ∧ evA s.sl (.tmp 2) = .ptr ⟨h.length, 0⟩ 0 ∧ evA s.sl (.tmp 3) = .ptr ⟨h.length + 1, 0⟩ 0 ∧ evA s.sl (.tmp 7) = .int .i64 k ∧ evA s.sl (.tmp 8) = .int .i64 x) (fun (x : Nat) => b.cells[k].length - x) (0) ?_ ?_
              · simp (implicitDefEqProofs := false) (dsimp := false) only [go_sem, brdA, Nat.zero_le]
              · rintro x ⟨sl, df, hp, gh⟩ ⟨fb, fl, rfl, rfl, rfl, f2, f3, f7, f8⟩
                simp only at fb fl f2 f3 f7 f8
                obtain ⟨j, rfl⟩ := slots_lit fl; clear fl; simp only [junk_succ, junk_zero, evA_tmp, nth_16, nth_four, nth_one, nth_zero, Nat.zero_add, Nat.reduceAdd] at  f2 f3 f7 f8 ⊢
                refine wp_ok (so := { cut := [16, 25] }) mixed _ (by kernel_rfl) ?_
                by_cases hx : x < b.cells[k].length
                · simp (implicitDefEqProofs := false) (dsimp := false) only [go_sem, f2, f3, f7, f8, brdA, nat_lt hk, nat_lt hx, decide_true, row1 cTraces_len hk, row1_le cTraces_len hk, cTraces, rowN cTrace_len hx, rowN_le cTrace_len hx, cTrace, eqTraceS, eqGuardT, Bool.not_true]
                  exact ⟨x + 1, ⟨by omega, wrap_succ (by omega)⟩, by omega⟩
                · have hs : ((x : Int) < (b.cells[k].length : Int)) = False := eq_false (by omega)
                  simp (implicitDefEqProofs := false) (dsimp := false) only [go_sem, f2, f3, f7, f8, brdA, nat_lt hk, row1 cTraces_len hk, row1_le cTraces_len hk, cTraces, hs, decide_false]
                  exact ⟨k + 1, ⟨by omega, wrap_succ (by omega)⟩, by omega⟩
            · have hs : ((k : Int) < (b.cells.length : Int)) = False := eq_false (by omega)
              simp (implicitDefEqProofs := false) (dsimp := false) only [go_sem, e2, e3, e7, brdA, hs, decide_false]
theorem any_false {α : Type} {f : α → Bool} {l : List α} (h : ∀ q (hq : q < l.length), f l[q] = false) : l.any f = false := by
  rw [List.any_eq_false]
  intro x hx
  obtain ⟨q, hq, rfl⟩ := List.getElem_of_mem hx
  rw [h q hq]; decide
theorem long_ok (b : Board) : PureA Tryz.prog 10 [.agg (brdA b)] (.bool (longB b)) := by
  refine PureA.of_wpp { cut := [11, 17] } 85 mixed Tryz.func10 (by kernel_rfl) rfl (by kernel_rfl) (rfl) fun h j hB => ?_
  simp only [junk_succ, junk_zero, List.cons_append, List.nil_append, List.length_cons, List.length_nil, Nat.reduceAdd]
  simp (implicitDefEqProofs := false) (dsimp := false) only [go_sem, brdA]
  refine ⟨fun c0 => ?_, fun c0 => ⟨fun c1 => ?_, fun c1 => ⟨fun c2 => ?_, fun c2 => ?_⟩⟩⟩
  · have : 20 < b.glyphs.length := by omega
    simp [longB, this]
  · have : 20 < b.pages.length := by omega
    simp [longB, this]
  · have : 20 < b.cells.length := by omega
    simp [longB, this]
  have q0 : decide (20 < b.glyphs.length) = false := decide_eq_false (by omega)
  have q1 : decide (20 < b.pages.length) = false := decide_eq_false (by omega)
  have q2 : decide (20 < b.cells.length) = false := decide_eq_false (by omega)
  refine WP.loopI (fun (k : Nat) s => (k ≤ b.glyphs.length ∧ ∀ q (hq : q < b.glyphs.length), q < k → b.glyphs[q].name.length ≤ 40) ∧ s.sl.length = 86 ∧ s.df = [] ∧ s.gh = {} ∧ (s.hp = h ++ [.cells 0 (brdA b)]) ∧ evA s.sl (.tmp 1) = .ptr ⟨h.length, 0⟩ 0 ∧ evA s.sl (.tmp 3) = .int .i64 k) (fun (k : Nat) => b.glyphs.length - k) (0) ?_ ?_
  · simp (implicitDefEqProofs := false) (dsimp := false) only [go_sem, brdA, Nat.zero_le]
    exact fun q hq e => by omega
  · rintro k ⟨sl, df, hp, gh⟩ ⟨ab, al, rfl, rfl, rfl, a1, a3⟩
    simp only at ab al a1 a3
    obtain ⟨j, rfl⟩ := slots_lit al; clear al; simp only [junk_succ, junk_zero, evA_tmp, nth_16, nth_four, nth_one, nth_zero, Nat.zero_add, Nat.reduceAdd] at  a1 a3 ⊢
    refine wp_ok (so := { cut := [11, 17] }) mixed _ (by kernel_rfl) ?_
    obtain ⟨ab, an⟩ := ab
    by_cases hk : k < b.glyphs.length
    · simp (implicitDefEqProofs := false) (dsimp := false) only [go_sem, a1, a3, brdA, nat_lt hk, decide_true, rowN cGlyph_len hk, rowN_le cGlyph_len hk, cGlyph]
      refine ⟨fun e => ?_, fun e => ⟨k + 1, ⟨⟨by omega, fun q hq h3 => ?_⟩, wrap_succ (by omega)⟩, by omega⟩⟩
      · have : b.glyphs.any (fun g => decide (40 < g.name.length)) = true := List.any_eq_true.2 ⟨_, List.getElem_mem hk, decide_eq_true (by omega)⟩
        simp [longB, this]
      · by_cases e3 : q = k
        · subst e3; omega
        · exact an q hq (by omega)
    · have hs : ((k : Int) < (b.glyphs.length : Int)) = False := eq_false (by omega)
      have q3 := any_false (f := fun g : Glyph => decide (40 < g.name.length)) fun q hq => decide_eq_false (by have := an q hq (by omega); omega)
      simp (implicitDefEqProofs := false) (dsimp := false) only [go_sem, a1, a3, brdA, hs, decide_false]
      refine WP.loopI (fun (k : Nat) s => (k ≤ b.pages.length ∧ ∀ q (hq : q < b.pages.length), q < k → b.pages[q].length ≤ 20 ∧ ∀ r ∈ b.pages[q], r.length ≤ 40) ∧ s.sl.length = 86 ∧ s.df = [] ∧ s.gh = {} ∧ (s.hp = h ++ [.cells 0 (brdA b)]) ∧ evA s.sl (.tmp 1) = .ptr ⟨h.length, 0⟩ 0 ∧ evA s.sl (.tmp 4) = .int .i64 k) (fun (k : Nat) => b.pages.length - k) (0) ?_ ?_
      · simp (implicitDefEqProofs := false) (dsimp := false) only [go_sem, brdA, Nat.zero_le]
        exact fun q hq e => by omega
      · rintro k ⟨sl, df, hp, gh⟩ ⟨cb, cl, rfl, rfl, rfl, c1, c4⟩
        simp only at cb cl c1 c4
        obtain ⟨j, rfl⟩ := slots_lit cl; clear cl; simp only [junk_succ, junk_zero, evA_tmp, nth_16, nth_four, nth_one, nth_zero, Nat.zero_add, Nat.reduceAdd] at  c1 c4 ⊢
        refine wp_ok (so := { cut := [11, 17] }) mixed _ (by kernel_rfl) ?_
        obtain ⟨ab, an⟩ := cb
        by_cases hk : k < b.pages.length
        · simp (implicitDefEqProofs := false) (dsimp := false) only [go_sem, c1, c4, brdA, nat_lt hk, decide_true, row1 cPage_len hk, row1_le cPage_len hk, cPage]
          refine ⟨fun e => ?_, fun e => ?_⟩
          · have : b.pages.any (fun p => decide (20 < p.length) || p.any fun r => decide (40 < r.length)) = true := List.any_eq_true.2 ⟨_, List.getElem_mem hk, by rw [decide_eq_true (show 20 < b.pages[k].length by omega)]; rfl⟩
            simp only [longB, this, Bool.or_true, Bool.true_or]
          refine WP.loopI (fun (x : Nat) s => (x ≤ b.pages[k].length ∧ ∀ q (hq : q < b.pages[k].length), q < x → b.pages[k][q].length ≤ 40) ∧ s.sl.length = 86 ∧ s.df = [] ∧ s.gh = {} ∧ (s.hp = h ++ [.cells 0 (brdA b)]) ∧ evA s.sl (.tmp 1) = .ptr ⟨h.length, 0⟩ 0 ∧ evA s.sl (.tmp 4) = .int .i64 k ∧ evA s.sl (.tmp 5) = .int .i64 x) (fun (x : Nat) => b.pages[k].length - x) (0) ?_ ?_
          · simp (implicitDefEqProofs := false) (dsimp := false) only [go_sem, brdA, Nat.zero_le]
            exact fun q hq e => by omega
          · rintro x ⟨sl, df, hp, gh⟩ ⟨db, dl, rfl, rfl, rfl, d1, d4, d5⟩
            simp only at db dl d1 d4 d5
            obtain ⟨j, rfl⟩ := slots_lit dl; clear dl; simp only [junk_succ, junk_zero, evA_tmp, nth_16, nth_four, nth_one, nth_zero, Nat.zero_add, Nat.reduceAdd] at  d1 d4 d5 ⊢
            refine wp_ok (so := { cut := [11, 17] }) mixed _ (by kernel_rfl) ?_
            obtain ⟨db, dn⟩ := db
            by_cases hx : x < b.pages[k].length
            · simp (implicitDefEqProofs := false) (dsimp := false) only [go_sem, d1, d4, d5, brdA, nat_lt hk, nat_lt hx, decide_true, row1 cPage_len hk, row1_le cPage_len hk, cPage, row1 cStr_len hx, row1_le cStr_len hx, cStr]
              refine ⟨fun e => ?_, fun e => ⟨x + 1, ⟨⟨by omega, fun q hq h3 => ?_⟩, wrap_succ (by omega)⟩, by omega⟩⟩
              · have : b.pages.any (fun p => decide (20 < p.length) || p.any fun r => decide (40 < r.length)) = true := List.any_eq_true.2 ⟨_, List.getElem_mem hk, by
                  rw [Bool.or_eq_true]; exact .inr (List.any_eq_true.2 ⟨_, List.getElem_mem hx, decide_eq_true (by omega)⟩)⟩
                simp only [longB, this, Bool.or_true, Bool.true_or]
              · by_cases e3 : q = x
                · subst e3; omega
                · exact dn q hq (by omega)
            · have hs : ((x : Int) < (b.pages[k].length : Int)) = False := eq_false (by omega)
              have q4 := any_false (f := fun r : List UInt8 => decide (40 < r.length)) fun q hq => decide_eq_false (by have := dn q hq (by omega); omega)
              simp (implicitDefEqProofs := false) (dsimp := false) only [go_sem, d1, d4, d5, brdA, nat_lt hk, row1 cPage_len hk, row1_le cPage_len hk, cPage, hs, decide_false]
              refine ⟨k + 1, ⟨⟨by omega, fun q hq h3 => ?_⟩, wrap_succ (by omega)⟩, by omega⟩
              by_cases e3 : q = k
              · subst e3; refine ⟨by omega, fun r hr => ?_⟩; have := List.any_eq_false.1 q4 r hr; simp only [decide_eq_true_eq] at this; omega
              · exact an q hq (by omega)
        · have hs : ((k : Int) < (b.pages.length : Int)) = False := eq_false (by omega)
          have q4 := any_false (f := fun p : List (List UInt8) => decide (20 < p.length) || p.any fun r => decide (40 < r.length)) fun q hq => by
            obtain ⟨a1, a2⟩ := an q hq (by omega)
            rw [decide_eq_false (by omega), Bool.false_or, List.any_eq_false]
            intro r hr
            have := a2 r hr
            simp only [decide_eq_true_eq]; omega
          simp (implicitDefEqProofs := false) (dsimp := false) only [go_sem, c1, c4, brdA, hs, decide_false]
          refine WP.loopI (fun (k : Nat) s => (k ≤ b.cells.length ∧ ∀ q (hq : q < b.cells.length), q < k → b.cells[q].length ≤ 20) ∧ s.sl.length = 86 ∧ s.df = [] ∧ s.gh = {} ∧ (s.hp = h ++ [.cells 0 (brdA b)]) ∧ evA s.sl (.tmp 1) = .ptr ⟨h.length, 0⟩ 0 ∧ evA s.sl (.tmp 6) = .int .i64 k) (fun (k : Nat) => b.cells.length - k) (0) ?_ ?_
          · simp (implicitDefEqProofs := false) (dsimp := false) only [go_sem, brdA, Nat.zero_le]
            exact fun q hq e => by omega
          · rintro k ⟨sl, df, hp, gh⟩ ⟨eb, el, rfl, rfl, rfl, e1, e6⟩
            simp only at eb el e1 e6
            obtain ⟨j, rfl⟩ := slots_lit el; clear el; simp only [junk_succ, junk_zero, evA_tmp, nth_16, nth_four, nth_one, nth_zero, Nat.zero_add, Nat.reduceAdd] at  e1 e6 ⊢
            refine wp_ok (so := { cut := [11, 17] }) mixed _ (by kernel_rfl) ?_
            obtain ⟨eb, en⟩ := eb
            by_cases hk : k < b.cells.length
            · simp (implicitDefEqProofs := false) (dsimp := false) only [go_sem, e1, e6, brdA, nat_lt hk, decide_true, row1 cTraces_len hk, row1_le cTraces_len hk, cTraces]
              refine ⟨fun e => ?_, fun e => ⟨k + 1, ⟨⟨by omega, fun q hq h3 => ?_⟩, wrap_succ (by omega)⟩, by omega⟩⟩
              · have : b.cells.any (fun r => decide (20 < r.length)) = true := List.any_eq_true.2 ⟨_, List.getElem_mem hk, decide_eq_true (by omega)⟩
                simp only [longB, this, Bool.or_true]
              · by_cases e3 : q = k
                · subst e3; omega
                · exact en q hq (by omega)
            · have hs : ((k : Int) < (b.cells.length : Int)) = False := eq_false (by omega)
              have q5 := any_false (f := fun r : List Trace => decide (20 < r.length)) fun q hq => decide_eq_false (by have := en q hq (by omega); omega)
              simp (implicitDefEqProofs := false) (dsimp := false) only [go_sem, e1, e6, brdA, hs, decide_false]
              rw [longB, q0, q1, q2, q3, q4, q5]; rfl
end Go.Mac
namespace Go.Mac
open Go Go.Conc Go.Proofs
set_option maxRecDepth 4000
theorem role_left {h k : List Blk} (hro : h[0]? = some (.role true)) : (h ++ k)[0]? = some (.role true) := by
  rw [List.getElem?_append_left (List.getElem?_eq_some_iff.1 hro).1]; exact hro
end Go.Mac
namespace Go.Mac
open Go Go.Conc Go.Proofs
set_option maxRecDepth 4000
theorem WPI.dup {P : Program} {fk : FK} {its : List Item} {Q : AExit → AS → Prop} {sl : List AV} {df : List ADef} {gh : Gst} {A : List Blk} {b : Board} {gl pg : AV} {m : Nat} (hA : A.length = m)
    (hk : WPI P fk its Q ⟨sl, df, A ++ .dead :: (List.replicate b.cells.length .dead ++ [.cells 0 [gl, pg, sliceOf cTraces b.cells]]), gh⟩) :
    WPI P fk its Q ⟨sl, df, A ++ .cells b.cells.length (slsFrom 1 (m + 1) b.cells) :: (b.cells.map rowB ++ [.cells 0 [gl, pg, .sl ⟨m, b.cells.length⟩ 1 0 b.cells.length]]), gh⟩ := by
  refine WPI.rows (by rw [hA]) ?_
  have hct : (b.cells.flatMap cTraces).take b.cells.length = b.cells.flatMap cTraces := List.take_of_length_le (by rw [cells_len1]; exact Nat.le_refl _)
  have g1 : ∀ x : Blk, (A ++ x :: (List.replicate b.cells.length Blk.dead ++ [.cells 0 [gl, pg, .sl ⟨m, b.cells.length⟩ 1 0 b.cells.length]]))[m + (1 + b.cells.length)]? = some (.cells 0 [gl, pg, .sl ⟨m, b.cells.length⟩ 1 0 b.cells.length]) := fun x => by
    rw [← hA, List.getElem?_append_right (by omega), Nat.add_sub_cancel_left, Nat.add_comm 1, List.getElem?_cons_succ, List.getElem?_append_right (by simp), List.length_replicate, Nat.sub_self]; rfl
  have g2 : ∀ (x : Blk) (l : List Blk), (A ++ x :: l)[m]? = some x := fun x l => by rw [← hA, List.getElem?_append_right (Nat.le_refl _), Nat.sub_self]; rfl
  have s2 : ∀ (x y : Blk) (l : List Blk), (A ++ x :: l).set m y = A ++ y :: l := fun x y l => by rw [← hA, List.set_append_right _ _ (Nat.le_refl _), Nat.sub_self]; rfl
  have s1 : ∀ (x y : Blk), (A ++ x :: (List.replicate b.cells.length Blk.dead ++ [.cells 0 [gl, pg, .sl ⟨m, b.cells.length⟩ 1 0 b.cells.length]])).set (m + (1 + b.cells.length)) y = A ++ x :: (List.replicate b.cells.length Blk.dead ++ [y]) := fun x y => by
    rw [← hA, List.set_append_right _ _ (by omega), Nat.add_sub_cancel_left, Nat.add_comm 1, List.set_cons_succ, List.set_append_right _ _ (by simp), List.length_replicate, Nat.sub_self]; rfl
  refine WPI.turn (Turns.seal_cell (i := m + (1 + b.cells.length)) (g := 0) (j := 2) (a := .sl ⟨m, b.cells.length⟩ 1 0 b.cells.length) (a' := sliceOf cTraces b.cells) (g1 _) rfl (by simp only [sealV]; rw [g2]; simp [sliceOf, hct]) (by simp [nmOf])) ?_
  simp only [nmOf, s2, s1, List.set_cons_succ, List.set_cons_zero]
  exact hk
theorem cPage_set (l : List (List (List UInt8))) (k : Nat) (p : List (List UInt8)) : (l.flatMap cPage).set k (sliceOf cStr p) = (l.set k p).flatMap cPage := by
  induction l generalizing k with
  | nil => rfl
  | cons x l ih =>
    cases k with
    | zero => rfl
    | succ k =>
      have := ih k
      simp only [List.flatMap_cons, cPage, List.cons_append, List.nil_append, List.set_cons_succ] at this ⊢
      rw [this]
set_option maxHeartbeats 4000000 in
theorem WPI.dupS {P : Program} {fk : FK} {its : List Item} {Q : AExit → AS → Prop} {sl : List AV} {df : List ADef} {gh : Gst} {A : List Blk} {b : Board} {gl : AV} {m gp : Nat} (hA : A.length = m)
    (hk : WPI P fk its Q ⟨sl, df, A ++ .dead :: .dead :: (List.replicate b.cells.length .dead ++ [.cells 0 [gl, sliceOf cPage b.pages, sliceOf cTraces b.cells]]), gh⟩) :
    WPI P fk its Q ⟨sl, df, A ++ .cells gp (b.pages.flatMap cPage) :: .cells b.cells.length (slsFrom 1 (m + 2) b.cells) :: (b.cells.map rowB ++ [.cells 0 [gl, .sl ⟨m, gp⟩ 1 0 b.pages.length, .sl ⟨m + 1, b.cells.length⟩ 1 0 b.cells.length]]), gh⟩ := by
  have hh : ∀ (x y : Blk) (l : List Blk), A ++ x :: y :: l = (A ++ [x]) ++ y :: l := fun _ _ _ => by simp
  rw [hh]
  refine WPI.dup (m := m + 1) (by simp [hA]) ?_
  have hpt : (b.pages.flatMap cPage).take b.pages.length = b.pages.flatMap cPage := List.take_of_length_le (by rw [cPage_len1]; exact Nat.le_refl _)
  have g1 : ∀ x y z : Blk, (A ++ x :: y :: (List.replicate b.cells.length Blk.dead ++ [z]))[m + (2 + b.cells.length)]? = some z := fun x y z => by
    rw [← hA, List.getElem?_append_right (by omega), Nat.add_sub_cancel_left, Nat.add_comm 2, List.getElem?_cons_succ, List.getElem?_cons_succ, List.getElem?_append_right (by simp), List.length_replicate, Nat.sub_self]; rfl
  have g2 : ∀ (x : Blk) (l : List Blk), (A ++ x :: l)[m]? = some x := fun x l => by rw [← hA, List.getElem?_append_right (Nat.le_refl _), Nat.sub_self]; rfl
  have s2 : ∀ (x y : Blk) (l : List Blk), (A ++ x :: l).set m y = A ++ y :: l := fun x y l => by rw [← hA, List.set_append_right _ _ (Nat.le_refl _), Nat.sub_self]; rfl
  have s1 : ∀ (x y z w : Blk), (A ++ x :: y :: (List.replicate b.cells.length Blk.dead ++ [z])).set (m + (2 + b.cells.length)) w = A ++ x :: y :: (List.replicate b.cells.length Blk.dead ++ [w]) := fun x y z w => by
    rw [← hA, List.set_append_right _ _ (by omega), Nat.add_sub_cancel_left, Nat.add_comm 2, List.set_cons_succ, List.set_cons_succ, List.set_append_right _ _ (by simp), List.length_replicate, Nat.sub_self]; rfl
  simp only [List.append_assoc, List.cons_append, List.nil_append]
  refine WPI.turn (Turns.seal_cell (i := m + (2 + b.cells.length)) (g := 0) (j := 1) (a := .sl ⟨m, gp⟩ 1 0 b.pages.length) (a' := sliceOf cPage b.pages) (g1 _ _ _) rfl (by simp only [sealV]; rw [g2]; simp [sliceOf, hpt]) (by simp [nmOf])) ?_
  simp only [nmOf, s2, s1, List.set_cons_succ, List.set_cons_zero]
  exact hk
theorem cut6 {l T : List Blk} {b1 b2 b3 b4 b5 b6 x : Blk} : l ++ b1 :: b2 :: b3 :: b4 :: b5 :: b6 :: x :: T = (l ++ [b1, b2, b3, b4, b5, b6]) ++ x :: T := by simp
theorem n61 (n : Nat) : n + 6 + 1 = n + 7 := rfl
theorem n62 (n : Nat) : n + 6 + 2 = n + 8 := rfl
theorem get_mapB {cs : List (List Trace)} {y : Blk} : (cs.map rowB ++ [y])[cs.length]? = some y := by rw [List.getElem?_append_right (by simp), List.length_map, Nat.sub_self]; rfl
def setsL (b made other : Board) : List Board := [b, made, other, made]
theorem short_setP {b o : Board} (hb : shortB b) (ho : shortB o) {k : Nat} (h0 : 0 < b.pages.length) : shortB { o with pages := o.pages.set k b.pages[0] } := by
  have hm : ∀ p ∈ o.pages.set k b.pages[0], p ∈ o.pages ∨ p = b.pages[0] := fun p hp => List.mem_or_eq_of_mem_set hp
  refine ⟨ho.g, by simp only [List.length_set]; exact ho.p, ho.c, ho.gn, fun p hp => ?_, fun p hp r hr => ?_, ho.cr⟩
  · rcases hm p hp with h | rfl
    · exact ho.pr p h
    · exact hb.pr _ (List.getElem_mem h0)
  · rcases hm p hp with h | rfl
    · exact ho.pc p h r hr
    · exact hb.pc _ (List.getElem_mem h0) r hr
theorem short_setC {o : Board} (ho : shortB o) {row row' : List Trace} {rest : List (List Trace)} (hc : o.cells = row :: rest) (hl : row'.length = row.length) : shortB { o with cells := row' :: rest } := by
  have h1 := ho.c
  have h2 := ho.cr
  rw [hc] at h1 h2
  refine ⟨ho.g, ho.p, by simpa using h1, ho.gn, ho.pr, ho.pc, fun r hr => ?_⟩
  rcases List.mem_cons.1 hr with rfl | hr
  · rw [hl]; exact h2 _ (List.mem_cons_self ..)
  · exact h2 _ (List.mem_cons_of_mem _ hr)
def SetsP (b : Board) (h : List Blk) (i : Nat) (e : AEnd) (h' : List Blk) : Prop :=
  ∃ J made other r x, okMadeN made 4 3 2 3 ∧ shortB other ∧ e = .ret (.sl ⟨h.length + J.length, 0⟩ 3 0 4) ∧ h' = h.set i (diceB r x) ++ (J ++ [.cells 0 ((setsL b made other).flatMap brdA)])
theorem turn_use3 {f : FuncId} {args : List AV} {r r' : Option (List Int)} {x x' : Int} {v : AV} {h T : List Blk} {i : Nat} {K : AV → Prop}
    (hi : h[i]? = some (diceB r x)) (c : ∀ h, h[i]? = some (diceB r x) → CallsA Tryz.prog f args h fun e h' => e = .ret v ∧ h' = h.set i (diceB r' x')) (hk : K v) : TurnCalls Tryz.prog f args (h ++ T) (h.set i (diceB r' x') ++ T) K := by
  refine TurnCalls.use ?_ hk
  have := c _ (get_left (k := T) hi)
  rwa [set_left (List.getElem?_eq_some_iff.1 hi).1] at this
theorem pg_get00 {p : List (List (List UInt8))} (h : 0 < p.length) : (p.flatMap cPage).drop 0 = sliceOf cStr p[0] :: (p.drop 1).flatMap cPage := by
  have := row1 cPage_len h
  rw [this]; rfl
theorem pg_get0 {p : List (List (List UInt8))} (h : 0 < p.length) : (p.flatMap cPage).getD 0 .any = sliceOf cStr p[0] := by
  have := pg_get00 h
  rw [List.drop_zero] at this
  rw [this]; rfl
theorem sets_end {b made other : Board} {h h3 Kk H : List Blk} {i n1 : Nat} {r : Option (List Int)} {x : Int} (hB : h.all (belowBlk h.length) = true) (hl : i < h.length) (hs : h3 = h.set i (diceB r x)) (okN : okMadeN made 4 3 2 3) (ho : shortB other)
    (hn : n1 = Kk.length) (hH : H = h3 ++ (Kk ++ [.cells 0 ((setsL b made other).flatMap brdA)])) (hbk : Kk.all (belowBlk (h3.length + Kk.length + 1)) = true) :
    ∃ v n, AV.sl ⟨h3.length + n1, 0⟩ 3 0 4 = v ∧ h3.length ≤ n ∧ below n v = true ∧ (H.take n).all (belowBlk n) = true ∧ SetsP b h i (.ret v) (H.take n) := by
  subst hn; subst hH
  have hlen : h3.length = h.length := by rw [hs, List.length_set]
  have tk : (h3 ++ (Kk ++ [Blk.cells 0 ((setsL b made other).flatMap brdA)])).take (h3.length + Kk.length + 1) = h3 ++ (Kk ++ [Blk.cells 0 ((setsL b made other).flatMap brdA)]) := List.take_of_length_le (by simp; omega)
  refine ⟨_, h3.length + Kk.length + 1, rfl, by omega, by simp [below], ?_, Kk, made, other, r, x, okN, ho, by rw [hlen], by rw [tk, hs]⟩
  rw [tk, List.all_append, List.all_append, hbk]
  have h1 : h3.all (belowBlk (h3.length + Kk.length + 1)) = true := by
    rw [hs]
    rw [List.all_eq_true]
    intro y hy
    rcases List.mem_or_eq_of_mem_set hy with hy | rfl
    · have := List.all_eq_true.1 (allBelow_mono (show h.length ≤ (h.set i (diceB r x)).length + Kk.length + 1 by rw [List.length_set]; omega) hB) y hy
      exact this
    · cases r <;> simp [diceB, leftA, belowBlk, belowL, below, ints]
      exact belowL_flat (f := cInt) (fun _ => rfl) _
  rw [h1]
  have h2 : belowL (h3.length + Kk.length + 1) ((setsL b made other).flatMap brdA) = true := belowL_flat (f := brdA) (fun y => slices_below y) _
  simp [belowBlk, h2]
theorem sets_ok (b : Board) (sb : shortB b) (h : List Blk) (i : Nat) (r : Option (List Int)) (x : Int) (hi : h[i]? = some (diceB r x)) :
    CallsA Tryz.prog 13 [.agg (brdA b), .ptr ⟨i, 0⟩ 0] h (SetsP b h i) := by
  have hl : i < h.length := (List.getElem?_eq_some_iff.1 hi).1
  refine CallsA.of_wpe [] { cut := [15, 37], hand := [3, 4, 5, 7], tail := [(6, 10)] } 59 mixed Tryz.func13 (by kernel_rfl) rfl (by kernel_rfl) fun j hB hA => ?_; simp only [junk_succ, junk_zero, List.cons_append, List.nil_append, List.length_cons, List.length_nil, Nat.reduceAdd]
  simp (implicitDefEqProofs := false) (dsimp := false) only [go_sem, brdA]
  refine Rolls.use (BoardOf_ok _ i r x 4 3 2 3 (by omega) (by omega) (by omega) (by omega) (get_left hi)) ?_
  rintro _ r x ⟨made, rfl, okN⟩
  rw [set_left hl]
  obtain ⟨h2, e2⟩ : ∃ h2, h2 = h.set i (diceB r x) := ⟨_, rfl⟩
  have hl2 : h.length = h2.length := by rw [e2, List.length_set]
  have hi2 : h2[i]? = some (diceB r x) := by rw [e2, List.getElem?_set_self hl]
  rw [← e2]
  have okm := okN.made
  simp only [hl2]
  simp (implicitDefEqProofs := false) (dsimp := false) only [go_sem, brdA]
  refine CallsA.mono (DupBoard_ok made okm.sizes _) ?_
  rintro _ _ ⟨u0, u1, u2, u3, rfl, rfl⟩
  simp only [List.append_assoc, List.cons_append, List.nil_append, List.length_append, List.length_cons, List.length_nil, Nat.zero_add, Nat.add_assoc, Nat.reduceAdd]
  simp (implicitDefEqProofs := false) (dsimp := false) only [go_sem, dupA, dupH, n61, n62]
  simp only [hl2, List.length_map, Nat.add_assoc, Nat.reduceAdd]
  have hi2l : i < h2.length := by omega
  by_cases hp0 : 0 < b.pages.length
  case' pos =>
    have e1 : ((b.pages.length : Int) > 0) = True := eq_true (by omega)
    refine wp_shut [] (so := { cut := [15, 37], tail := [(6, 10)] }) mixed _ (by kernel_rfl) ?_
    simp (implicitDefEqProofs := false) (dsimp := false) only [go_sem, e1, decide_true]
    refine Rolls.use (Once_ok _ i r x 2 (by omega) (by omega) (get_left hi2)) ?_
    rintro _ r' x' ⟨v, rfl⟩
    rw [set_left hi2l]
    obtain ⟨h3, e3⟩ : ∃ h3, h3 = h2.set i (diceB r' x') := ⟨_, rfl⟩
    have hl3 : h2.length = h3.length := by rw [e3, List.length_set]
    have hi3 : h3[i]? = some (diceB r' x') := by rw [e3, List.getElem?_set_self hi2l]
    have hs3 : h3 = h.set i (diceB r' x') := by rw [e3, e2, List.set_set]
    rw [← e3]
    clear e3
    simp only [hl3]
    cases v
  case' neg =>
    have e1 : ((b.pages.length : Int) > 0) = False := eq_false (by omega)
    refine wp_shut [] (so := { cut := [15, 37], tail := [(6, 10)] }) mixed _ (by kernel_rfl) ?_
    simp (implicitDefEqProofs := false) (dsimp := false) only [go_sem, e1, decide_false]
    obtain ⟨h3, hs3⟩ : ∃ h3, h3 = h2 := ⟨_, rfl⟩
    obtain ⟨r', x', hrx⟩ : ∃ r' x', (r' = r ∧ x' = x) := ⟨r, x, rfl, rfl⟩
    obtain ⟨rfl, rfl⟩ := hrx
    subst hs3
    have hs3 := e2
    have hl3 : h3.length = h3.length := rfl
    have hi3 := hi2
  case' pos.true =>
    have hmk := okm.pos
    have hml := okm.most
    have hw1 : IntKind.i64.wrap ((made.pages.length : Int) - 1) = (made.pages.length : Int) - 1 := wrap64 (by omega) (by omega)
    simp (implicitDefEqProofs := false) (dsimp := false) only [go_sem, hl3]
    obtain ⟨_, d1, x1, ⟨v1, rfl, hv1⟩, q1⟩ := To_det r' x' ((made.pages.length : Int) - 1) (by omega)
    refine WP.noisy (so := { cut := [15, 37], tail := [(6, 10)] }) 13 [7] [0, 0, 0, 0, 0, 0, 0, 0, 0, 0, 0, 0, 1] [1, 1, 0, 0, 0, 0, 0, 0, 1, 1, 1, 1, 1] ((fun T => [h3 ++ T, h3.set i (diceB d1 x1) ++ T]) _) rfl mixed (by kernel_rfl) (by kernel_rfl) (by decide) (by kernel_rfl) rfl ?_
    simp (implicitDefEqProofs := false) (dsimp := false) only [go_sem, hw1, get_mapB, get_past0, get_past]
    refine turn_use3 hi3 (fun h hi => q1 h i hi) ?_
    have hpl1 : (b.pages.flatMap cPage).length = b.pages.length := cPage_len1 _
    simp (implicitDefEqProofs := false) (dsimp := false) only [go_sem, get_past0, get_past, set_past0, set_past, get_mapB, pg_get00 hp0, pg_get0 hp0, hpl1, nat_lt hp0]
    refine ⟨⟨by omega, by omega⟩, ⟨by omega, by omega⟩, ?_⟩
    have hv1l : v1 < made.pages.length := by omega
    have hmpl : (made.pages.flatMap cPage).length = made.pages.length := cPage_len1 _
    (first | refine CallsA.use (DupStrings_ok b.pages[0] (by have := sb.pr _ (List.getElem_mem hp0); omega)) ?_ | refine QuietCalls.use (DupStrings_ok b.pages[0] (by have := sb.pr _ (List.getElem_mem hp0); omega)) ?_)
    simp (implicitDefEqProofs := false) (dsimp := false) only [go_sem, get_past0, get_past, set_past0, set_past, get_mapB, nat_lt hv1l, hmpl]
    refine ⟨by omega, ?_⟩
    obtain ⟨ob, hob⟩ : ∃ ob : Board, ob = { made with pages := made.pages.set v1 b.pages[0] } := ⟨_, rfl⟩
    have hos : shortB ob := by rw [hob]; exact short_setP sb okm.short hp0
    have hoc : ob.cells = made.cells := by rw [hob]
    have hog : ob.glyphs = made.glyphs := by rw [hob]
    have hop : (made.pages.flatMap cPage).set v1 (.psl (b.pages[0].flatMap cStr) b.pages[0].length) = ob.pages.flatMap cPage := by rw [hob]; exact cPage_set _ _ _
    have hol : made.pages.length = ob.pages.length := by rw [hob]; simp
    obtain ⟨h4, e4⟩ : ∃ h4, h4 = h3.set i (diceB d1 x1) := ⟨_, rfl⟩
    have hl4 : h3.length = h4.length := by rw [e4, List.length_set]
    have hs4 : h4 = h.set i (diceB d1 x1) := by rw [e4, hs3, List.set_set]
    rw [← e4, hop, cut6]
    have hT : ∀ (y : Blk), (List.replicate made.cells.length Blk.dead ++ [y])[made.cells.length]? = some y := fun y => by rw [List.getElem?_append_right (by simp), List.length_replicate, Nat.sub_self]; rfl
    rw [← hoc] at hT ⊢
    clear e4 hs3 hi3
    simp only [hl4]
    rw [hol]
    refine WPI.dupS (b := ob) (gp := ob.pages.length) (m := h4.length + 6) (by simp) ?_
    simp only [List.append_assoc, List.cons_append, List.nil_append]
    refine WPI.of_below fun hb _ => ?_
    refine wp_shut [] (so := { cut := [15, 37], tail := [(6, 10)] }) mixed _ (by kernel_rfl) ?_
    simp (implicitDefEqProofs := false) (dsimp := false) only [go_sem, hT]
    refine sets_end (b := b) (made := made) (other := ob) (Kk := .cells 0 (brdA b) :: .cells 0 (brdA made) :: u0 :: u1 :: u2 :: u3 :: .dead :: .dead :: (List.replicate ob.cells.length .dead ++ [.cells 0 (brdA ob)])) hB hl hs4 okN hos ?_ ?_ ?_
    · simp
    · simp [setsL, brdA, sliceOf, hoc, hog, hol]
    · simp only at hb
      rw [List.all_append, Bool.and_eq_true] at hb
      have hb2 := allBelow_mono (m := h4.length + (ob.cells.length + 9) + 1) (by simp) hb.2
      simpa [brdA, sliceOf, hoc, hog, hol, Nat.add_assoc] using hb2
  case' pos.false =>
    simp (implicitDefEqProofs := false) (dsimp := false) only [go_sem, hl3]
  all_goals
    have hT : ∀ (y : Blk), (List.replicate made.cells.length Blk.dead ++ [y])[made.cells.length]? = some y := fun y => by rw [List.getElem?_append_right (by simp), List.length_replicate, Nat.sub_self]; rfl
    rcases hcs : b.cells with _ | ⟨_ | ⟨t, ts⟩, rest⟩
    · refine wp_shut [] (so := { cut := [15, 37], tail := [(6, 10)] }) mixed _ (by kernel_rfl) ?_
      simp (implicitDefEqProofs := false) (dsimp := false) only [go_sem, hcs, List.flatMap_nil, List.flatMap_cons, cTraces, cTrace]
      rw [cut6]
      refine WPI.dupS (b := made) (m := h3.length + 6) (by simp) ?_
      simp only [List.append_assoc, List.cons_append, List.nil_append]
      refine WPI.of_below fun hb _ => ?_
      refine wp_shut [] (so := { cut := [15, 37], tail := [(6, 10)] }) mixed _ (by kernel_rfl) ?_
      simp (implicitDefEqProofs := false) (dsimp := false) only [go_sem, hT]
      refine sets_end (b := b) (made := made) (other := made) (Kk := .cells 0 (brdA b) :: .cells 0 (brdA made) :: u0 :: u1 :: u2 :: u3 :: .dead :: .dead :: (List.replicate made.cells.length .dead ++ [.cells 0 (brdA made)])) hB hl hs3 okN okm.short ?_ ?_ ?_
      · simp
      · simp [setsL, brdA, hcs, sliceOf, cTraces, cTrace]
      · simp only at hb
        rw [List.all_append, Bool.and_eq_true] at hb
        have hb2 := allBelow_mono (m := h3.length + (made.cells.length + 9) + 1) (by simp) hb.2
        simpa [brdA, hcs, sliceOf, cTraces, cTrace, Nat.add_assoc] using hb2
    · have p1 : (((rest.length + 1 : Nat) : Int) > 0) = True := eq_true (by omega)
      refine wp_shut [] (so := { cut := [15, 37], tail := [(6, 10)] }) mixed _ (by kernel_rfl) ?_
      simp (implicitDefEqProofs := false) (dsimp := false) only [go_sem, hcs, List.flatMap_nil, List.flatMap_cons, cTraces, cTrace, p1, nat_lt (Nat.succ_pos rest.length)]
      rw [cut6]
      refine WPI.dupS (b := made) (m := h3.length + 6) (by simp) ?_
      simp only [List.append_assoc, List.cons_append, List.nil_append]
      refine WPI.of_below fun hb _ => ?_
      refine wp_shut [] (so := { cut := [15, 37], tail := [(6, 10)] }) mixed _ (by kernel_rfl) ?_
      simp (implicitDefEqProofs := false) (dsimp := false) only [go_sem, hT]
      refine sets_end (b := b) (made := made) (other := made) (Kk := .cells 0 (brdA b) :: .cells 0 (brdA made) :: u0 :: u1 :: u2 :: u3 :: .dead :: .dead :: (List.replicate made.cells.length .dead ++ [.cells 0 (brdA made)])) hB hl hs3 okN okm.short ?_ ?_ ?_
      · simp
      · simp [setsL, brdA, hcs, sliceOf, cTraces, cTrace]
      · simp only at hb
        rw [List.all_append, Bool.and_eq_true] at hb
        have hb2 := allBelow_mono (m := h3.length + (made.cells.length + 9) + 1) (by simp) hb.2
        simpa [brdA, hcs, sliceOf, cTraces, cTrace, Nat.add_assoc] using hb2
    · have p1 : (((rest.length + 1 : Nat) : Int) > 0) = True := eq_true (by omega)
      have p2 : (((ts.length + 1 : Nat) : Int) > 0) = True := eq_true (by omega)
      obtain ⟨mt, mts, mrest, hmc⟩ : ∃ mt mts mrest, made.cells = (mt :: mts) :: mrest := by
        have hml := okm.cells.wpos
        cases hq : made.cells with
        | nil => have := okm.cells.pos; rw [hq] at this; simp at this
        | cons a l =>
          rw [hq] at hml
          cases a with
          | nil => simp at hml
          | cons x y => exact ⟨x, y, l, rfl⟩
      obtain ⟨ob, hob⟩ : ∃ ob : Board, ob = { made with cells := (t :: mts) :: mrest } := ⟨_, rfl⟩
      have hos : shortB ob := by rw [hob]; exact short_setC okm.short hmc rfl
      refine wp_shut [] (so := { cut := [15, 37], tail := [(6, 10)] }) mixed _ (by kernel_rfl) ?_
      simp (implicitDefEqProofs := false) (dsimp := false) only [go_sem, hcs, hmc, List.flatMap_nil, List.flatMap_cons, cTraces, cTrace, p1, p2, nat_lt (Nat.succ_pos rest.length), nat_lt (Nat.succ_pos ts.length), nat_lt (Nat.succ_pos mrest.length), nat_lt (Nat.succ_pos mts.length), slsFrom, get_mapB, List.map_cons, rowB]
      refine ⟨by omega, by omega, ?_⟩
      have hT : ∀ (y : Blk), (List.replicate mrest.length Blk.dead ++ [y])[mrest.length]? = some y := fun y => by rw [List.getElem?_append_right (by simp), List.length_replicate, Nat.sub_self]; rfl
      rw [cut6]
      simp only [Nat.add_assoc, Nat.reduceAdd]
      refine WPI.dupS (b := { made with cells := (t :: mts) :: mrest }) (gp := made.pages.length) (m := h3.length + 6) (by simp) ?_
      simp only [List.length_cons, List.replicate_succ, List.append_assoc, List.cons_append, List.nil_append, sliceOf, List.flatMap_cons, cTraces, cTrace]
      refine WPI.of_below fun hb _ => ?_
      refine wp_shut [] (so := { cut := [15, 37], tail := [(6, 10)] }) mixed _ (by kernel_rfl) ?_
      simp (implicitDefEqProofs := false) (dsimp := false) only [go_sem, hT]
      refine sets_end (b := b) (made := made) (other := ob) (Kk := .cells 0 (brdA b) :: .cells 0 (brdA made) :: u0 :: u1 :: u2 :: u3 :: .dead :: .dead :: .dead :: (List.replicate mrest.length .dead ++ [.cells 0 (brdA ob)])) hB hl hs3 okN hos ?_ ?_ ?_
      · simp
      · simp [setsL, brdA, sliceOf, hob, hcs, hmc, cTraces, cTrace]
      · simp only at hb
        rw [List.all_append, Bool.and_eq_true] at hb
        have hb2 := allBelow_mono (m := h3.length + (mrest.length + 10) + 1) (by simp) hb.2
        simpa [brdA, sliceOf, hob, hcs, hmc, cTraces, cTrace, Nat.add_assoc] using hb2
end Go.Mac
namespace Go.Mac
open Go Go.Conc Go.Proofs
set_option maxRecDepth 4000
end Go.Mac
namespace Go.Mac
open Go Go.Conc Go.Proofs
set_option maxRecDepth 4000
end Go.Mac
namespace Go.Mac
open Go Go.Conc Go.Proofs
set_option maxRecDepth 4000
theorem eqStrings_nil : PureA Tryz.prog 18 [.nilsl, .nilsl] (.bool true) := by
  refine PureA.of_wpp { cut := [13] } 29 mixed Tryz.func18 (by kernel_rfl) rfl (by kernel_rfl) (rfl) fun h j hB => ?_
  simp only [junk_succ, junk_zero, List.cons_append, List.nil_append, List.length_cons, List.length_nil, Nat.reduceAdd]
  simp (implicitDefEqProofs := false) (dsimp := false) only [go_sem]
  refine WP.loopI (fun (k : Nat) s => (k = 0) ∧ s.sl.length = 31 ∧ s.df = [] ∧ s.gh = {} ∧ (s.hp = h) ∧ evA s.sl (.tmp 0) = .nilsl ∧ evA s.sl (.tmp 1) = .nilsl ∧ evA s.sl (.tmp 5) = .bool true ∧ evA s.sl (.tmp 6) = .int .i64 0) (fun (k : Nat) => 0) (0) ?_ ?_
  · simp (implicitDefEqProofs := false) (dsimp := false) only [go_sem]
  · rintro k ⟨sl, df, hp, gh⟩ ⟨ab, al, rfl, rfl, rfl, a0, a1, a5, a6⟩
    simp only at ab al a0 a1 a5 a6
    obtain ⟨j, rfl⟩ := slots_lit al; clear al; simp only [junk_succ, junk_zero, evA_tmp, nth_16, nth_four, nth_one, nth_zero, Nat.zero_add, Nat.reduceAdd] at  a0 a1 a5 a6 ⊢
    refine wp_ok (so := { cut := [13] }) mixed _ (by kernel_rfl) ?_
    simp (implicitDefEqProofs := false) (dsimp := false) only [go_sem, a0, a1, a5, a6]
theorem brd_len (b : Board) : (brdA b).length = 3 := rfl
theorem hJ_get {J : List Blk} (y : Blk) : (J ++ [y])[J.length]? = some y := by simp
theorem hJ_set {J : List Blk} (y z : Blk) : (J ++ [y]).set J.length z = J ++ [z] := by simp
theorem sets_short {b made other : Board} (sb : shortB b) (okm : okMade made) (so : shortB other) : ∀ x ∈ setsL b made other, shortB x := by
  intro x hx
  rw [setsL] at hx
  simp only [List.mem_cons, List.mem_nil_iff, or_false] at hx
  rcases hx with rfl | rfl | rfl | rfl
  · exact sb
  · exact okm.short
  · exact so
  · exact okm.short
end Go.Mac
namespace Go.Mac
open Go Go.Conc Go.Proofs
set_option maxRecDepth 4000
theorem turn_at1 {f : FuncId} {args : List AV} {r r' : Option (List Int)} {x x' : Int} {v : AV} {h T : List Blk} {a : Blk} {K : AV → Prop}
    (c : ∀ H, H[h.length + 1]? = some (diceB r x) → CallsA Tryz.prog f args H fun e h' => e = .ret v ∧ h' = H.set (h.length + 1) (diceB r' x')) (hk : K v) : TurnCalls Tryz.prog f args (h ++ a :: diceB r x :: T) (h ++ a :: diceB r' x' :: T) K := by
  refine TurnCalls.use ?_ hk
  have := c (h ++ a :: diceB r x :: T) (by rw [hget]; rfl)
  rwa [hset] at this
theorem emFold_small {m : List (Int × Int)} {gs : List Glyph} {pg : List (List UInt8)} {cs : List (List Trace)} {l : Lay} {w : Nat} : ∀ {xs : List (Int × Int)} {p q : List (List UInt8)}, emFold m gs pg cs l xs p = some q → (∀ s ∈ p, s.length ≤ w) → q.length = p.length ∧ ∀ s ∈ q, s.length ≤ w
  | [], p, q, h, hw => by cases h; exact ⟨rfl, hw⟩
  | x :: xs, p, q, h, hw => by
    rw [emFold] at h
    cases e : emStep m gs pg cs l p x with
    | none => rw [e] at h; cases h
    | some y =>
      rw [e] at h
      have hy : y.length = p.length ∧ ∀ s ∈ y, s.length ≤ w := by
        unfold emStep at e
        split at e
        · split at e
          · cases e
            refine ⟨setL2_len _ _ _ _, fun s hs => ?_⟩
            rcases List.mem_or_eq_of_mem_set hs with hs | rfl
            · exact hw s hs
            · rw [List.length_set, List.getD_eq_getElem?_getD]
              cases hg : p[(letterB pg l x.1 x.2).1.toNat]? with
              | none => exact Nat.zero_le _
              | some t => exact hw t (List.mem_of_getElem? hg)
          · cases e
        · cases e
      obtain ⟨h1, h2⟩ := emFold_small (xs := xs) h hy.2
      exact ⟨h1.trans hy.1, h2⟩
theorem emOf_small {m : List (Int × Int)} {gs : List Glyph} {pg : List (List UInt8)} {cs : List (List Trace)} {l : Lay} {e : Em} (ok : okPage pg) (h : emOf m gs pg cs l = some e) : e.rows.length ≤ 3 ∧ ∀ s ∈ e.rows, s.length ≤ 4 := by
  unfold emOf emendB at h
  obtain ⟨p, hp, rfl⟩ := Option.map_eq_some_iff.1 h
  have h1 := ok.most
  have h2 := ok.wmost
  obtain ⟨h3, h4⟩ := emFold_small (w := 4) hp fun s hs => by rw [ok.wide s hs]; exact h2
  exact ⟨by simp only; omega, h4⟩
theorem emTo_small {b : Board} {m : List (Int × Int)} {p : Nat} (ok : okPage (b.pages.getD p [])) {e : Em} : ∀ {k}, emTo b m p k = some e → e.rows.length ≤ 3 ∧ ∀ s ∈ e.rows, s.length ≤ 4
  | 0, h => by cases h
  | k + 1, h => by
    rw [emTo_succ] at h
    cases h1 : emOf m b.glyphs (b.pages.getD p []) b.cells (layN p k) with
    | none => rw [h1] at h; exact emTo_small ok h
    | some x =>
      rw [h1] at h
      simp only at h
      cases h2 : emTo b m p k with
      | none => rw [h2, takeEm] at h; cases h; exact emOf_small ok h1
      | some y =>
        rw [h2, takeEm] at h
        by_cases h3 : x.letters < y.letters
        · rw [if_pos h3] at h; cases h; exact emOf_small ok h1
        · rw [if_neg h3] at h; cases h; exact emTo_small ok h2
theorem emendR_small {b : Board} {page : Int} {y : Em} {e : Int} (h : emendR b page = (some y, e)) : y.rows.length ≤ 3 ∧ ∀ s ∈ y.rows, s.length ≤ 4 := by
  unfold emendR at h
  split at h
  · cases h
  · rename_i e0
    split at h
    · cases h
    · rename_i hp
      have hp : 0 ≤ page ∧ page < b.pages.length := Decidable.byContradiction hp
      have hp' : page.toNat < b.pages.length := by omega
      have ok := (okBoard.of (Decidable.byContradiction e0)).page _ (List.getElem_mem hp')
      split at h
      · rename_i x hx
        cases h
        exact emTo_small (by simpa [List.getD, hp'] using ok) hx
      · cases h
theorem n2J (n m : Nat) : n + 2 + m = n + (m + 2) := by omega
set_option maxHeartbeats 2000000 in
theorem Emends_walk (b : Board) (page : Int) (r : Option (List Int)) (h : List Blk) (hro : h[0]? = some (.role true)) :
    CallsA Tryz.prog 3 [.agg (brdA b), .int .i64 page, leftA r] h fun e h' => e = .ret (.bool true) ∧ h' = h := by
  refine CallsA.of_wpe [] { shut := [46], cut := [86, 91, 96, 102], hand := [5, 10, 11, 12] } 109 mixed Tryz.func3 (by kernel_rfl) rfl (by kernel_rfl) fun j hB hA => ?_; simp only [junk_succ, junk_zero, List.cons_append, List.nil_append, List.length_cons, List.length_nil, Nat.reduceAdd]
  simp (implicitDefEqProofs := false) (dsimp := false) only [go_sem, brdA]
  (first | refine CallsA.use (long_ok b) ?_ | refine QuietCalls.use (long_ok b) ?_)
  cases hlb : longB b with
  | true =>
    simp (implicitDefEqProofs := false) (dsimp := false) only [go_sem]
    refine QuietAt.use (pressed_ok _ (role_left hro)) ?_
    simp (implicitDefEqProofs := false) (dsimp := false) only [go_sem]
    exact quiet_fine hB rfl
  | false =>
  have sb := shortB.of hlb
  simp (implicitDefEqProofs := false) (dsimp := false) only [go_sem]
  refine CallsA.mono (NewDice_ok r _) ?_
  rintro _ _ ⟨rfl, rfl⟩
  simp only [List.append_assoc, List.cons_append, List.nil_append, List.length_append, List.length_cons, List.length_nil, Nat.zero_add, Nat.reduceAdd]
  simp (implicitDefEqProofs := false) (dsimp := false) only [go_sem, brdA]
  refine CallsA.mono (sets_ok b sb _ (h.length + 1) r 1 (by rw [hget]; rfl)) ?_
  rintro _ _ ⟨J, made, other, r, x, okN, so, rfl, rfl⟩
  simp only [hset, List.set_cons_succ, List.set_cons_zero, List.append_assoc, List.cons_append, List.nil_append, List.length_append, List.length_cons, List.length_nil, Nat.zero_add, Nat.reduceAdd]
  simp (implicitDefEqProofs := false) (dsimp := false) only [go_sem]
  have okm := okN.made
  simp only [n2J]
  refine wpi_shut [8] ?_
  simp (implicitDefEqProofs := false) (dsimp := false) only [go_sem, hJ_get, hJ_set]
  obtain ⟨J2, hJ2⟩ : ∃ J2, J2 = J ++ [Blk.dead] := ⟨_, rfl⟩
  rw [← hJ2]
  have hmk := okm.pos
  have hml := okm.most
  have hw1 : IntKind.i64.wrap ((made.pages.length : Int) - 1) = (made.pages.length : Int) - 1 := wrap64 (by omega) (by omega)
  obtain ⟨_, d1, x1, ⟨v1, rfl, hv1⟩, q1⟩ := To_det r x ((made.pages.length : Int) - 1) (by omega)
  obtain ⟨_, d2, x2, ⟨v2, rfl, hv2⟩, q2⟩ := To_det d1 x1 ((made.pages.length : Int) - 1) (by omega)
  refine WP.noisy (so := { shut := [46], cut := [86, 91, 96, 102], }) 18 [8, 16] [0, 0, 0, 0, 0, 0, 0, 0, 0, 0, 0, 0, 0, 0, 0, 0, 0, 0] [2, 0, 0, 0, 0, 0, 0, 0, 0, 1, 1, 1, 1, 1, 1, 1, 0, 2] ((fun T => [h ++ .cells 0 (brdA b) :: diceB r x :: T, h ++ .cells 0 (brdA b) :: diceB d1 x1 :: T, h ++ .cells 0 (brdA b) :: diceB d2 x2 :: T]) _) rfl mixed (by kernel_rfl) (by kernel_rfl) (by decide) (by kernel_rfl) rfl ?_
  simp (implicitDefEqProofs := false) (dsimp := false) only [go_sem, setsL, brdA, List.flatMap_cons, List.flatMap_nil, hw1]
  refine turn_at1 (fun H hi => q1 H _ hi) ?_
  simp (implicitDefEqProofs := false) (dsimp := false) only [go_sem, setsL, brdA, List.flatMap_cons, List.flatMap_nil, hw1]
  refine turn_at1 (fun H hi => q2 H _ hi) ?_
  simp (implicitDefEqProofs := false) (dsimp := false) only [go_sem]
  obtain ⟨L, hL⟩ : ∃ L, L = setsL b made other := ⟨_, rfl⟩
  obtain ⟨ps, hps⟩ : ∃ ps : List Int, ps = [page, (v1 : Int), v2, page] := ⟨_, rfl⟩
  have hL4 : L.length = 4 := by rw [hL]; rfl
  have hp4 : ps.length = 4 := by rw [hps]; rfl
  have hsh : ∀ x ∈ L, shortB x := by rw [hL]; exact sets_short sb okm so
  refine WP.loopI (fun (i : Nat) s => (i ≤ 4) ∧ s.sl.length = 112 ∧ s.df = [] ∧ s.gh = {} ∧ (∃ K, s.hp = h ++ K) ∧ evA s.sl (.tmp 8) = .psl (L.flatMap brdA) 4 ∧ evA s.sl (.tmp 9) = .psl (ps.flatMap cInt) 4 ∧ evA s.sl (.tmp 10) = .int .i64 i) (fun (i : Nat) => 4 - i) (0) ?_ ?_
  · simp (implicitDefEqProofs := false) (dsimp := false) only [go_sem, Nat.zero_le]
    subst hL; subst hps
    exact ⟨rfl, rfl⟩
  · rintro i ⟨sl, df, hp, gh⟩ ⟨ab, al, rfl, rfl, ah, a8, a9, a10⟩
    simp only at ab al ah a8 a9 a10
    obtain ⟨j, rfl⟩ := slots_lit al; clear al; simp only [junk_succ, junk_zero, evA_tmp, nth_16, nth_four, nth_one, nth_zero, Nat.zero_add, Nat.reduceAdd] at  a8 a9 a10 ⊢
    refine wp_ok (so := { shut := [46], cut := [86, 91, 96, 102], hand := [5, 10, 11, 12] }) mixed _ (by kernel_rfl) ?_
    obtain ⟨K, rfl⟩ := ah
    by_cases hi : i < 4
    · have i1 : i < L.length := by omega
      have i2 : i < ps.length := by omega
      have hs : ((i : Int) < 4) = True := eq_true (by omega)
      have sbi := hsh _ (List.getElem_mem i1)
      simp (implicitDefEqProofs := false) (dsimp := false) only [go_sem, a8, a9, a10, hs, decide_true, rowN brd_len i1, rowN_le brd_len i1, brdA]
      (first | refine CallsA.use (DupPure_ok L[i] sbi.sizes) ?_ | refine QuietCalls.use (DupPure_ok L[i] sbi.sizes) ?_)
      simp (implicitDefEqProofs := false) (dsimp := false) only [go_sem, hJ_get, hJ_set, hget0, hset0, brdA, hs, rowN brd_len i1, rowN_le brd_len i1, row1 cInt_len i2, row1_le cInt_len i2, cInt]
      have hE := Emend_ok L[i] ps[i]
      have hE2 := REmend_ok L[i] ps[i]
      generalize hR : emendR L[i] ps[i] = w at hE hE2
      obtain ⟨o, e⟩ := w
      cases o with
      | none =>
        simp only [emendA] at hE hE2
        refine WP.noisy (so := { shut := [46], cut := [86, 91, 96, 102], }) 15 [11, 14] [0, 0, 0, 0, 0, 0, 0, 0, 0, 0, 0, 0, 1, 1, 0] [1, 1, 1, 1, 1, 1, 1, 1, 1, 1, 2, 0, 1, 1, 0] ((fun T => [h ++ T, h ++ (T ++ [.cells 0 [.int .i64 0, .bool false, .int .i64 0, .int .i64 0]]), h ++ (T ++ [.cells 0 [.int .i64 0, .bool false, .int .i64 0, .int .i64 0]])]) _) rfl mixed (by kernel_rfl) (by kernel_rfl) (by decide) (by kernel_rfl) rfl ?_
        simp (implicitDefEqProofs := false) (dsimp := false) only [go_sem, hJ_get, hJ_set, hget0, hset0, brdA, hs, rowN brd_len i1, rowN_le brd_len i1, row1 cInt_len i2, row1_le cInt_len i2, cInt]
        (first | refine CallsA.use (hE) ?_ | refine QuietCalls.use (hE) ?_)
        simp (implicitDefEqProofs := false) (dsimp := false) only [go_sem, hJ_get, hJ_set, hget0, hset0, brdA, hs, rowN brd_len i1, rowN_le brd_len i1, row1 cInt_len i2, row1_le cInt_len i2, cInt]
        refine ⟨QuietCalls.use hE rfl, ?_⟩
        refine WP.noisy (so := { shut := [46], cut := [86, 91, 96, 102], }) 18 [14, 17] [0, 0, 0, 0, 0, 0, 0, 0, 0, 0, 0, 0, 0, 0, 0, 1, 1, 0] [1, 1, 1, 1, 1, 1, 1, 1, 1, 1, 1, 1, 1, 2, 0, 1, 1, 0] ((fun T => [h ++ T, h ++ (T ++ [.cells 0 [.int .i64 0, .bool false, .int .i64 0, .int .i64 0]]), h ++ (T ++ [.cells 0 [.int .i64 0, .bool false, .int .i64 0, .int .i64 0]])]) _) rfl mixed (by kernel_rfl) (by kernel_rfl) (by decide) (by kernel_rfl) rfl ?_
        simp (implicitDefEqProofs := false) (dsimp := false) only [go_sem, hJ_get, hJ_set, hget0, hset0, brdA, hs, rowN brd_len i1, rowN_le brd_len i1, row1 cInt_len i2, row1_le cInt_len i2, cInt]
        (first | refine CallsA.use (hE2) ?_ | refine QuietCalls.use (hE2) ?_)
        simp (implicitDefEqProofs := false) (dsimp := false) only [go_sem, hJ_get, hJ_set, hget0, hset0, brdA, hs, rowN brd_len i1, rowN_le brd_len i1, row1 cInt_len i2, row1_le cInt_len i2, cInt]
        refine ⟨QuietCalls.use hE2 rfl, ?_⟩
        refine wp_shut [] (so := { shut := [46], cut := [86, 91, 96, 102], }) mixed _ (by kernel_rfl) ?_
        simp (implicitDefEqProofs := false) (dsimp := false) only [go_sem, hJ_get, hJ_set, hget0, hset0, brdA, hs, rowN brd_len i1, rowN_le brd_len i1, row1 cInt_len i2, row1_le cInt_len i2, cInt, bne_self_eq_false, eqLay, eqGuardL, decide_true, eq_self, Bool.not_true]
        (first | refine CallsA.use (eqStrings_nil) ?_ | refine QuietCalls.use (eqStrings_nil) ?_)
        simp (implicitDefEqProofs := false) (dsimp := false) only [go_sem, hJ_get, hJ_set, hget0, hset0, brdA, hs, rowN brd_len i1, rowN_le brd_len i1, row1 cInt_len i2, row1_le cInt_len i2, cInt, Bool.not_true]
        (first | refine CallsA.use (EqBoards_ok L[i] sbi) ?_ | refine QuietCalls.use (EqBoards_ok L[i] sbi) ?_)
        simp (implicitDefEqProofs := false) (dsimp := false) only [go_sem]
        exact ⟨i + 1, ⟨by omega, wrap_succ (by omega)⟩, by omega⟩
      | some y =>
        simp only [emendA, cLay, sliceOf] at hE hE2
        obtain ⟨y1, y2⟩ := emendR_small hR
        have hq := eqStrings_ok y.rows y.rows (by omega) (fun s hs => by have := y2 s hs; omega) (fun s hs => by have := y2 s hs; omega)
        rw [beq_self_eq_true] at hq
        refine WP.noisy (so := { shut := [46], cut := [86, 91, 96, 102], }) 15 [11, 14] [0, 0, 0, 0, 0, 0, 0, 0, 0, 0, 0, 0, 1, 1, 0] [1, 1, 1, 1, 1, 1, 1, 1, 1, 1, 2, 0, 1, 1, 0] ((fun T => [h ++ T, h ++ (T ++ [.cells 0 [.int .i64 0, .bool false, .int .i64 0, .int .i64 0]]), h ++ (T ++ [.cells 0 [.int .i64 y.way.page, .bool y.way.turned, .int .i64 y.way.down, .int .i64 y.way.right]])]) _) rfl mixed (by kernel_rfl) (by kernel_rfl) (by decide) (by kernel_rfl) rfl ?_
        simp (implicitDefEqProofs := false) (dsimp := false) only [go_sem, hJ_get, hJ_set, hget0, hset0, brdA, hs, rowN brd_len i1, rowN_le brd_len i1, row1 cInt_len i2, row1_le cInt_len i2, cInt]
        (first | refine CallsA.use (hE) ?_ | refine QuietCalls.use (hE) ?_)
        simp (implicitDefEqProofs := false) (dsimp := false) only [go_sem, hJ_get, hJ_set, hget0, hset0, brdA, hs, rowN brd_len i1, rowN_le brd_len i1, row1 cInt_len i2, row1_le cInt_len i2, cInt]
        refine ⟨QuietCalls.use hE rfl, ?_⟩
        refine WP.noisy (so := { shut := [46], cut := [86, 91, 96, 102], }) 18 [14, 17] [0, 0, 0, 0, 0, 0, 0, 0, 0, 0, 0, 0, 0, 0, 0, 1, 1, 0] [1, 1, 1, 1, 1, 1, 1, 1, 1, 1, 1, 1, 1, 2, 0, 1, 1, 0] ((fun T => [h ++ T, h ++ (T ++ [.cells 0 [.int .i64 0, .bool false, .int .i64 0, .int .i64 0]]), h ++ (T ++ [.cells 0 [.int .i64 y.way.page, .bool y.way.turned, .int .i64 y.way.down, .int .i64 y.way.right]])]) _) rfl mixed (by kernel_rfl) (by kernel_rfl) (by decide) (by kernel_rfl) rfl ?_
        simp (implicitDefEqProofs := false) (dsimp := false) only [go_sem, hJ_get, hJ_set, hget0, hset0, brdA, hs, rowN brd_len i1, rowN_le brd_len i1, row1 cInt_len i2, row1_le cInt_len i2, cInt]
        (first | refine CallsA.use (hE2) ?_ | refine QuietCalls.use (hE2) ?_)
        simp (implicitDefEqProofs := false) (dsimp := false) only [go_sem, hJ_get, hJ_set, hget0, hset0, brdA, hs, rowN brd_len i1, rowN_le brd_len i1, row1 cInt_len i2, row1_le cInt_len i2, cInt]
        refine ⟨QuietCalls.use hE2 rfl, ?_⟩
        refine wp_shut [] (so := { shut := [46], cut := [86, 91, 96, 102], }) mixed _ (by kernel_rfl) ?_
        simp (implicitDefEqProofs := false) (dsimp := false) only [go_sem, hJ_get, hJ_set, hget0, hset0, brdA, hs, rowN brd_len i1, rowN_le brd_len i1, row1 cInt_len i2, row1_le cInt_len i2, cInt, bne_self_eq_false, eqLay, eqGuardL, decide_true, eq_self, Bool.not_true]
        (first | refine CallsA.use (hq) ?_ | refine QuietCalls.use (hq) ?_)
        simp (implicitDefEqProofs := false) (dsimp := false) only [go_sem, hJ_get, hJ_set, hget0, hset0, brdA, hs, rowN brd_len i1, rowN_le brd_len i1, row1 cInt_len i2, row1_le cInt_len i2, cInt, Bool.not_true]
        (first | refine CallsA.use (EqBoards_ok L[i] sbi) ?_ | refine QuietCalls.use (EqBoards_ok L[i] sbi) ?_)
        simp (implicitDefEqProofs := false) (dsimp := false) only [go_sem]
        exact ⟨i + 1, ⟨by omega, wrap_succ (by omega)⟩, by omega⟩
    · have hs : ((i : Int) < 4) = False := eq_false (by omega)
      simp (implicitDefEqProofs := false) (dsimp := false) only [go_sem, a8, a9, a10, hs, decide_false]
      refine QuietAt.use (pressed_ok _ (role_left hro)) ?_
      simp (implicitDefEqProofs := false) (dsimp := false) only [go_sem]
      exact quiet_fine hB rfl
end Go.Mac


/- A part of the logic and of the contracts of the functions that the statement reaches; the statement itself is proved in the last text. -/
import Derived.Test.YtdioclckllbhpaaGreatLibMacE

set_option linter.all false
set_option linter.unusedVariables false
set_option linter.unusedSimpArgs false
set_option linter.unnecessarySimpa false
namespace Go.Mac
open Go Go.Conc
def VOk (P : Program) (s : Sem Value) (K : AV → List Blk → Prop) (c : Cx) (w : World) : Prop :=
  Ok P c w.heap.size s w fun r => ∃ V w' c' v h', r = .ok V w' ∧ K v h' ∧ VR c' v V ∧ HR c' w' h' ∧ TurnOk c c' w.heap.size
section
variable {P : Program} {c : Cx} {w : World} {h : List Blk} {K : AV → List Blk → Prop}
theorem VOk.pure {s : Sem Value} {v : AV} (hs : Ok P c w.heap.size s w (fun r => ∃ V, r = .ok V w ∧ VR c v V)) (hH : HR c w h) (hK : K v h) : VOk P s K c w :=
  hs.mono fun _ ⟨V, e, hV⟩ => ⟨V, w, c, v, h, e, hK, hV, hH, .refl c _⟩
theorem OpOk.value {s : Sem Value} (h : VOk P s K c w) : OpOk P (do pure (.value (← s))) K c w :=
  Ok.bind' (h.mono fun _ ⟨V, w', c', v, h', e, r⟩ => by subst e; exact ⟨_, V, w', c', v, h', rfl, rfl, r⟩)
def UOk (P : Program) (s : Sem Unit) (K : List Blk → Prop) (c : Cx) (w : World) : Prop :=
  Ok P c w.heap.size s w fun r => ∃ w' c' h', r = .ok () w' ∧ K h' ∧ HR c' w' h' ∧ TurnOk c c' w.heap.size
theorem OpOk.unit {s : Sem Unit} (h : UOk P s (K (.tup [])) c w) : OpOk P (do s; pure .skip) K c w :=
  Ok.bind' (h.mono fun _ ⟨w', c', h', e, k, hH, t⟩ => by subst e; exact ⟨_, undef, w', c', .tup [], h', rfl, rfl, k, ⟨[], rfl, rfl⟩, hH, t⟩)
theorem OpOk.pure {v : AV} {V : Value} (hV : VR c v V) (hH : HR c w h) (hK : K v h) : OpOk P (pure (.value V)) K c w :=
  ⟨_, V, w, c, v, h, rfl, rfl, hK, hV, hH, .refl c _⟩
structure TF where
  d : TypeDesc
  sz : Nat
  ze : Option (List AV)
  bytes : Nat
def tyT (P : Program) (t : TypeId) : Option TF :=
  match P.info? t, P.underlying t with
  | some i, some d => some { d, sz := i.size, ze := i.zero.map fun z => z.cells.toList.map constA, bytes := i.bytes }
  | _, _ => none
theorem tyT_some {t : TypeId} {f : TF} (h : tyT P t = some f) : ∃ i, P.info? t = some i ∧ P.underlying t = some f.d ∧ i.size = f.sz ∧ (i.zero.map fun z => z.cells.toList.map constA) = f.ze ∧ i.bytes = f.bytes := by
  unfold tyT at h
  split at h
  · rename_i i d h1 h2
    cases h
    exact ⟨i, h1, h2, rfl, rfl, rfl⟩
  · cases h
theorem VRL_constA (c : Cx) : ∀ (l : List Value), VRL c (l.map constA) l
  | [] => rfl
  | v :: l => ⟨v, l, rfl, VR_constA c v, VRL_constA c l⟩
def leafA : AV → Bool
  | .agg _ | .tup _ | .any => false
  | _ => true
def valCells : AV → Option (List AV)
  | .agg cs => some cs
  | .tup _ | .any => none
  | v => some [v]
theorem leaf_cell {a : AV} {V : Value} (hl : leafA a = true) (h : VR c a V) : V.oneCell' = true := by
  cases a with
  | any => cases hl
  | agg => cases hl
  | tup => cases hl
  | bool b => cases h; rfl
  | int k n => cases h; rfl
  | str s => cases h; rfl
  | nilptr => cases h; rfl
  | nilsl => cases h; rfl
  | nilmap => cases h; rfl
  | chan r => obtain ⟨⟨r, rfl⟩, _⟩ := h; rfl
  | nilfn => cases h; rfl
  | niliface => cases h; rfl
  | pptr cs => obtain ⟨b, o, arr, el, fz, l, rfl, _⟩ := h; rfl
  | psl cs len => rcases h with ⟨_, _, _, rfl⟩ | ⟨b, o, arr, el, fz, l, cap, rfl, _⟩ <;> rfl
  | pmap ks vs => rcases h with ⟨_, _, rfl⟩ | ⟨b, ents, clk, rfl, _⟩ <;> rfl
  | fn f a b => obtain ⟨l1, l2, rfl, _⟩ := h; rfl
  | iface t v => obtain ⟨x, rfl, _⟩ := h; rfl
  | ptr n o => obtain ⟨⟨a, rfl⟩, _⟩ := h; rfl
  | sl n z o l => obtain ⟨⟨a, l, k, rfl⟩, _⟩ := h; rfl
  | map n => obtain ⟨⟨r, rfl⟩, _⟩ := h; rfl
  | yield n => obtain ⟨⟨l, rfl⟩, _⟩ := h; rfl
theorem cells_of_oneCell {V : Value} (h : V.oneCell' = true) : V.cells = #[V] := by
  cases V <;> first | rfl | cases h
theorem leaf_cells {a : AV} {V : Value} (hl : leafA a = true) (h : VR c a V) : V.cells = #[V] := cells_of_oneCell (leaf_cell hl h)
theorem valCells_leaf {a : AV} (hl : leafA a = true) : valCells a = some [a] := by cases a <;> first | rfl | cases hl
theorem VR_cells {a : AV} {V : Value} {cs : List AV} (hc : valCells a = some cs) (h : VR c a V) : VRL c cs V.cells.toList := by
  cases hl : leafA a with
  | true =>
    rw [valCells_leaf hl] at hc
    cases hc
    rw [leaf_cells hl h]
    exact ⟨V, [], rfl, h, rfl⟩
  | false =>
    cases a <;> first | cases hl | skip
    · cases hc
    · cases hc
      obtain ⟨l, rfl, hv⟩ := h
      exact hv
    · cases hc
theorem leaf_all : ∀ {cs : List AV} {l : List Value}, cs.all leafA = true → VRL c cs l → ∀ v ∈ l, v.oneCell' = true
  | [], _, _, h => by cases h; simp
  | a :: cs, _, hl, h => by
    obtain ⟨v, vs, rfl, h1, h2⟩ := h
    simp only [List.all_cons, Bool.and_eq_true] at hl
    intro x hx
    rcases List.mem_cons.1 hx with rfl | hx
    · exact leaf_cell hl.1 h1
    · exact leaf_all hl.2 h2 x hx
def cellsAt (h : List Blk) : AV → Option (List AV)
  | .ptr n off => match h[n.id]? with
    | some (.cells g cs) => if g = n.gen then some (cs.drop off) else none
    | _ => none
  | .pptr cells => some cells
  | _ => none
structure Leads (c : Cx) (w : World) (V : Value) (cs : List AV) : Prop where
  ex : ∃ b o arr el fz l, V = .pointer (some ⟨b, o, none⟩) ∧ (c.mine b ∨ (c.imm b).isSome) ∧ w.heap[b]? = some (.cells arr el fz) ∧ VRL c cs l ∧ l <+: arr.toList.drop o
theorem drop_prefix {α : Type} {l m : List α} (h : l <+: m) (n : Nat) (hn : n ≤ l.length) : l.drop n <+: m.drop n := by
  obtain ⟨t, rfl⟩ := h
  exact ⟨t, by rw [List.drop_append_of_le_length hn]⟩
theorem own_cells {n : Nm} {cs : List AV} (hH : HR c w h) (hb : h[n.id]? = some (.cells n.gen cs)) {S : Option (Nat × Nat) → Prop} (ha : c.At n S) :
    ∃ e, c.own[n.id]? = some e ∧ e.gen = n.gen ∧ S e.seat ∧ ((e.seat = none ∧ cs = []) ∨ ∃ b k arr el l, e.seat = some (b, k) ∧ c.mine b ∧ w.heap[b]? = some (.cells arr el (0, 0)) ∧ arr.size = k ∧ VRL c cs l ∧ l <+: arr.toList) := by
  obtain ⟨e, he, hg, hp⟩ := ha
  obtain ⟨h0, h1⟩ := hH.blk n.id e _ he hb
  exact ⟨e, he, h0, hp h0.symm, h1⟩
theorem leads_of {a : AV} {V : Value} {cs : List AV} (hc : cellsAt h a = some cs) (hv : VR c a V) (hH : HR c w h) : Leads c w V cs := by
  cases a <;> simp only [cellsAt, reduceCtorEq, Option.some.injEq] at hc
  case ptr n off =>
    split at hc
    · rename_i g cs' hb
      split at hc
      · rename_i hg
        subst hg
        cases hc
        obtain ⟨e, he, hg, ⟨b, k, hs, rfl⟩, h1⟩ := own_cells hH hb hv.2
        rcases h1 with ⟨h1, _⟩ | ⟨b', k', arr, el, l, h1, h2, h3, h4, h5, h6⟩
        · rw [h1] at hs; cases hs
        · rw [h1] at hs; cases hs
          by_cases ho : off ≤ l.length
          · exact ⟨_, _, arr, el, _, _, rfl, .inl h2, h3, h5.drop off, drop_prefix h6 off ho⟩
          · refine ⟨_, _, arr, el, _, [], rfl, .inl h2, h3, ?_, List.nil_prefix⟩
            rw [List.drop_eq_nil_of_le (by rw [← h5.length]; omega)]
            rfl
      · cases hc
    · cases hc
  case pptr cells =>
    subst hc
    obtain ⟨b, o, arr, el, fz, l, rfl, hi, hl, hp⟩ := hv
    exact ⟨b, o, arr, el, fz, l, rfl, .inr (by rw [hi]; rfl), (hH.imm b _ hi).2, hl, hp⟩
def readA (f : TF) (cs : List AV) : AV := if aggD f.d then .agg (cs.take f.sz) else cs.getD 0 .any
theorem VRL.getD {cs : List AV} {l : List Value} (h : VRL c cs l) (i : Nat) (d : Value) : VR c (cs.getD i .any) (l.getD i d) := by
  cases hi : cs[i]? with
  | none => simp [List.getD, hi, VR]
  | some a =>
    obtain ⟨v, hv, hr⟩ := h.get hi
    simp [List.getD, hi, hv, hr]
theorem opk_load {t : TypeId} {f : TF} {a : AV} {A : Value} {cs : List AV} (ht : tyT P t = some f) (hc : cellsAt h a = some cs) (hl : (if aggD f.d then f.sz else 1) ≤ cs.length) (hv : VR c a A) (hH : HR c w h)
    (hK : K (readA f cs) h) : VOk P (Instr.loadAt t A) K c w := by
  obtain ⟨i, h1, h2, h3, h4, _⟩ := tyT_some ht
  obtain ⟨b, o, arr, el, fz, l, rfl, ha, hb, hr, hp⟩ := (leads_of hc hv hH).ex
  refine VOk.pure ?_ hH hK
  have ha' : c.mine b ∨ w.heap.size ≤ b ∨ (c.imm b).isSome := by rcases ha with h | h; exact .inl h; exact .inr (.inr h)
  refine (ok_loadVar h2 h1 ha' hb (by rw [hr.length, h3]; exact hl) hp).mono fun r e => ⟨_, e, ?_⟩
  unfold readA
  cases hg : aggD f.d with
  | true => exact ⟨l.take i.size, by simp, by rw [← h3]; exact hr.take _⟩
  | false => simpa using hr.getD 0 default
theorem opk_store {t : TypeId} {f : TF} {n : Nm} {off : Nat} {A V : Value} {v : AV} {cs vs : List AV} (ht : tyT P t = some f) (hb : h[n.id]? = some (.cells n.gen cs)) (hvs : valCells v = some vs) (hleaf : vs.all leafA = true)
    (hsz : vs.length = f.sz) (hl : off + vs.length ≤ cs.length) (hA : VR c (.ptr n off) A) (hV : VR c v V) (hH : HR c w h) {K : List Blk → Prop}
    (hK : K (h.set n.id (.cells n.gen (setMany cs off vs)))) : UOk P (Instr.storeAt t A V) K c w := by
  obtain ⟨i, h1, h2, h3, h4, _⟩ := tyT_some ht
  obtain ⟨e, he, hg, ⟨b, k, hs, rfl⟩, hx⟩ := own_cells hH hb hA.2
  rcases hx with ⟨hx, _⟩ | ⟨b', k', arr, el, l, hx, hm, hw, hk, hr, hp⟩
  · rw [hx] at hs; cases hs
  rw [hx] at hs
  cases hs
  have hcs := VR_cells hvs hV
  have hlen : V.cells.toList.length = vs.length := hcs.length
  have hll : l.length = cs.length := hr.length
  have hla : l.length ≤ arr.toList.length := hp.length_le
  have hb' : b < w.heap.size := (Array.getElem?_eq_some_iff.1 hw).1
  refine (ok_storeVar h1 (.inl hm) hw (by rw [h3, ← hsz, ← hlen]; simp) (by rw [h3, ← hsz]; simp at hla; omega) (leaf_all hleaf hcs)).mono fun r e' => ?_
  refine ⟨_, c, _, e', hK, ?_, .refl c _⟩
  refine hH.update he hb rfl hx hm (putBlk_size _ _ _) (fun j hj => putBlk_other (Ne.symm hj)) ⟨hg, .inr ⟨b, k, _, el, _, hx, hm, putBlk_same hb', by simpa using hk, VRL.setAll hcs hr, ?_⟩⟩
  obtain ⟨t', ht'⟩ := hp
  refine ⟨t', ?_⟩
  rw [← ht', setMany_append _ _ _ _ (by omega)]
theorem ok_newRow {el : TypeId} {cells : Array Value} {cs : List AV} (hv : VRL c cs cells.toList) (hH : HR c w h) {n0 : Nat} (hn : n0 = w.heap.size) :
    Ok P c n0 (newRow el cells) w (fun r => ∃ a w' c' h', r = .ok a w' ∧ a = ⟨w.heap.size, 0, none⟩ ∧ w' = w.alloc (.cells cells el (0, 0)) ∧ c' = c.new w cells.size ∧ h' = h ++ [.cells 0 cs] ∧ HR c' w' h') := by
  subst hn
  refine ⟨_, _, _, _, rfl, rfl, rfl, rfl, rfl, hH.new _ _ ⟨rfl, .inr ⟨w.heap.size, cells.size, cells, el, cells.toList, rfl, .inr rfl, heap_alloc_self _ _, rfl, hv.ext (.new c w _), List.prefix_refl _⟩⟩⟩
theorem VR_newptr (hH : HR c w h) (k : Nat) : VR (c.new w k) (.ptr ⟨h.length, 0⟩ 0) (.pointer (some ⟨w.heap.size, 0, none⟩)) :=
  ⟨⟨_, rfl⟩, ⟨0, some (w.heap.size, k)⟩, by simp [Cx.new, hH.len], Nat.le_refl _, fun _ => ⟨w.heap.size, k, rfl, rfl⟩⟩
theorem opk_new {el : TypeId} {V : Value} {cs : List AV} (hv : VRL c cs V.cells.toList) (hH : HR c w h) (hK : K (.ptr ⟨h.length, 0⟩ 0) (h ++ [.cells 0 cs])) :
    VOk P (do pure (.pointer (some (← newVar el V)))) K c w := by
  refine Ok.bind' ((ok_newRow hv hH rfl).mono ?_)
  rintro _ ⟨a, w', c', h', rfl, rfl, rfl, rfl, rfl, hH'⟩
  exact ⟨_, _, _, _, _, rfl, hK, VR_newptr hH _, hH', .new c w _⟩
theorem opk_alloc {t : TypeId} {f : TF} {z : List AV} (ht : tyT P t = some f) (hz : f.ze = some z) (hH : HR c w h) (hK : K (.ptr ⟨h.length, 0⟩ 0) (h ++ [.cells 0 z])) : VOk P (Instr.alloc t true (.tuple #[])) K c w := by
  obtain ⟨i, h1, h2, h3, h4, _⟩ := tyT_some ht
  rw [hz] at h4
  cases hi : i.zero with
  | none => rw [hi] at h4; cases h4
  | some Z =>
    rw [hi] at h4
    simp only [Option.map_some, Option.some.injEq] at h4
    refine Ok.then (ok_zeroValue h1 hi) ?_
    exact opk_new (by rw [← h4]; exact VRL_constA c _) hH hK
theorem opk_box {t : TypeId} {v : AV} {V : Value} {cs : List AV} (hc : valCells v = some cs) (hv : VR c v V) (hH : HR c w h) (hK : K (.ptr ⟨h.length, 0⟩ 0) (h ++ [.cells 0 cs])) : VOk P (Instr.box t V) K c w :=
  opk_new (VR_cells hc hv) hH hK
theorem VR_add {a : AV} {V : Value} {k : Nat} (hv : VR c a V) : ∀ {a' : AV}, (match a with | .ptr n off => a' = .ptr n (off + k) | .pptr cs => a' = .pptr (cs.drop k) ∧ k ≤ cs.length | _ => False) → ∃ ad, V = .pointer (some ad) ∧ VR c a' (.pointer (some (ad.add k))) := by
  intro a' h
  cases a <;> simp only at h
  case ptr n off =>
    subst h
    obtain ⟨⟨ad, rfl⟩, e, he, hg, hp⟩ := hv
    exact ⟨ad, rfl, ⟨_, rfl⟩, e, he, hg, fun hge => by obtain ⟨b, k', hs, h2⟩ := hp hge; cases h2; exact ⟨b, k', hs, by rw [add_eq]⟩⟩
  case pptr cs =>
    obtain ⟨rfl, hk⟩ := h
    obtain ⟨b, o, arr, el, fz, l, rfl, hi, hl, hp⟩ := hv
    refine ⟨_, rfl, b, o + k, arr, el, fz, l.drop k, by rw [add_eq], hi, hl.drop k, ?_⟩
    rw [← List.drop_drop]
    exact drop_prefix hp k (by rw [hl.length]; exact hk)
def addA (a : AV) (k : Nat) : Option AV :=
  match a with
  | .ptr n off => some (.ptr n (off + k))
  | .pptr cs => some (.pptr (cs.drop k))
  | _ => none
def reachA (a : AV) (k : Nat) : Prop :=
  match a with
  | .pptr cs => k ≤ cs.length
  | _ => True
theorem VR_addA {a a' : AV} {V : Value} {k : Nat} (h : addA a k = some a') (hr : reachA a k) (hv : VR c a V) : ∃ ad, V = .pointer (some ad) ∧ VR c a' (.pointer (some (ad.add k))) := by
  cases a <;> simp only [addA, reduceCtorEq, Option.some.injEq] at h
  · exact VR_add hv (by simp [← h])
  · exact VR_add hv (by simp [← h]; exact hr)
theorem opk_fieldAddr {t : TypeId} {f ff : TF} {fs : Array Field} {i : Nat} {fd : Field} {a a' : AV} {A : Value} (ht : tyT P t = some f) (hd : f.d = .struct fs) (hf : fs[i]? = some fd) (hft : tyT P fd.type = some ff) (hnz : ff.sz ≠ 0)
    (ha : addA a fd.offset = some a') (hr : reachA a fd.offset) (hv : VR c a A) (hH : HR c w h) (hK : K a' h) : VOk P (Instr.fieldAt t A i) K c w := by
  obtain ⟨j, h1, h2, h3, h4, _⟩ := tyT_some ht
  obtain ⟨j', g1, g2, g3, g4, _⟩ := tyT_some hft
  obtain ⟨ad, rfl, hv'⟩ := VR_addA ha hr hv
  refine VOk.pure ?_ hH hK
  refine Ok.then (ok_underlying h2) ?_
  simp only [hd, hf]
  refine Ok.then (a := ad) (ok_pure rfl) (Ok.then (a := ad.add fd.offset) ?_ (ok_pure ⟨_, rfl, hv'⟩))
  refine Ok.then (ok_sizeOf g1) ?_
  rw [g3]
  simp only [hnz, if_false]
  exact ok_pure rfl
theorem opk_extract {vs : List AV} {i : Nat} {v : AV} {V : Value} (hi : vs[i]? = some v) (hv : VR c (.tup vs) V) (hH : HR c w h) (hK : K v h) : VOk P (Instr.extract V i) K c w := by
  obtain ⟨l, rfl, hl⟩ := hv
  obtain ⟨x, hx, hr⟩ := hl.get hi
  refine VOk.pure ?_ hH hK
  simp only [Instr.extract, List.getElem?_toArray, hx]
  exact ok_pure ⟨_, rfl, hr⟩
end
end Go.Mac

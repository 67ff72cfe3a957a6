/- A part of the logic and of the contracts of the functions that the statement reaches; the statement itself is proved in the last text. -/
import Derived.Test.YtdioclckllbhpaaGreatLibMacJ

set_option linter.all false
set_option linter.unusedVariables false
set_option linter.unusedSimpArgs false
set_option linter.unnecessarySimpa false
namespace Go.Mac
open Go Go.Conc
section
variable {P : Program} {c : Cx} {w : World} {h : List Blk} {K : AV → List Blk → Prop}
theorem eqAll_true : ∀ {rs : List (Option Bool)}, eqAll rs = some true → ∀ r ∈ rs, r = some true
  | [], _, r, hr => by cases hr
  | some true :: rs, h, r, hr => by
    rcases List.mem_cons.1 hr with rfl | hr
    · rfl
    · exact eqAll_true (rs := rs) h r hr
  | some false :: rs, h, r, hr => by cases h
  | none :: rs, h, r, hr => by cases h
theorem ok_each {n0 : Nat} {α : Type} {body : α → Sem (ForInStep PUnit)} : ∀ {l : List α}, (∀ a ∈ l, Ok P c n0 (body a) w (fun r => r = .ok (.yield ⟨⟩) w)) → Ok P c n0 (forIn l PUnit.unit (fun a _ => body a)) w (fun r => r = .ok ⟨⟩ w)
  | [], _ => by simp only [List.forIn_nil]; exact ok_pure rfl
  | a :: l, hb => by
    simp only [List.forIn_cons]
    exact Ok.then (hb a List.mem_cons_self) (ok_each fun x hx => hb x (List.mem_cons_of_mem _ hx))
theorem ok_checkKey {em : Bool} : ∀ (d : Nat) {d' : Nat} {t : TypeId} {x : AV} {X : Value} {n0 : Nat}, d ≤ d' → eqA P d t x x = some true → VR c x X → Ok P c n0 (Instr.checkKey em d' t X) w (fun r => r = .ok () w)
  | 0, _, _, _, _, _, _, h, _ => by cases h
  | d + 1, 0, _, _, _, _, hd, _, _ => by omega
  | d + 1, d' + 1, t, x, X, n0, hd, h, hx => by
    simp only [eqA] at h
    split at h
    · rename_i hu _; cases hx
      rw [Instr.checkKey]
      exact Ok.then (ok_underlying hu) (ok_pure rfl)
    · rename_i hu _; cases hx
      rw [Instr.checkKey]
      exact Ok.then (ok_underlying hu) (ok_pure rfl)
    · rename_i hu _; cases hx
      rw [Instr.checkKey]
      exact Ok.then (ok_underlying hu) (ok_pure rfl)
    · rename_i _ fs xs ys hu e2
      cases e2
      obtain ⟨lx, rfl, hx⟩ := hx
      split at h
      · cases h
      · rw [Instr.checkKey]
        refine Ok.then (ok_underlying hu) ?_
        simp only []
        rw [← Array.forIn_toList]
        refine Ok.then (ok_each (l := fs.toList) fun f hf => ?_) (ok_pure rfl)
        have hr := eqAll_true h _ (List.mem_map_of_mem hf)
        split at hr
        · rename_i hn
          simp only [hn, ne_eq, not_true_eq_false, if_false]
          exact ok_pure rfl
        · rename_i hn
          simp only [ne_eq, hn, not_false_eq_true, if_true]
          split at hr
          · rename_i tf htf
            have ha1 : partA tf xs f.offset ≠ .any := fun e => by rw [e, eqA_any] at hr; cases hr
            refine Ok.bind' ((ok_part htf hx (fun hg => part_any hg ha1)).mono ?_)
            rintro _ ⟨V1, rfl, hV1⟩
            exact Ok.then (ok_checkKey d (by omega) hr hV1) (ok_pure rfl)
          · cases hr
    · rename_i _ n e xs ys hu e2
      cases e2
      obtain ⟨lx, rfl, hx⟩ := hx
      split at h
      · rename_i te hte
        obtain ⟨i0, g1, g2, g3, _⟩ := tyT_some hte
        rw [Instr.checkKey]
        refine Ok.then (ok_underlying hu) ?_
        simp only []
        rw [forIn_range_list]
        refine Ok.then (ok_each (l := List.range n) fun i hi => ?_) (ok_pure rfl)
        have hr := eqAll_true h _ (List.mem_map_of_mem hi)
        refine Ok.then (ok_sizeOf g1) ?_
        rw [g3]
        have ha1 : partA te xs (i * te.sz) ≠ .any := fun e => by rw [e, eqA_any] at hr; cases hr
        refine Ok.bind' ((ok_part hte hx (fun hg => part_any hg ha1)).mono ?_)
        rintro _ ⟨V1, rfl, hV1⟩
        exact Ok.then (ok_checkKey d (by omega) hr hV1) (ok_pure rfl)
      · cases h
    · cases h
def findA (P : Program) (kt : TypeId) (k : AV) : List AV → Nat → Option (Option Nat)
  | [], _ => some none
  | k' :: ks, i =>
    match eqA P 6 kt k k' with
    | some true => some (some i)
    | some false => findA P kt k ks (i + 1)
    | none => none
theorem ok_findAsking {n0 : Nat} {kt : TypeId} {k : AV} {KV : Value} (hk : VR c k KV) : ∀ {ks : List AV} {es : List MapEntry} {i : Nat} {r : Option Nat}, VRL c ks (es.map (·.key)) → findA P kt k ks i = some r →
    Ok P c n0 (Instr.findAsking kt KV es i) w (fun q => q = .ok (r.map fun j => (j, ((es[j - i]?).map (·.val)).getD default)) w)
  | [], es, i, r, hv, h => by
    cases h
    have : es = [] := by simpa using hv
    subst this
    exact ok_pure rfl
  | k' :: ks, [], i, r, hv, h => by obtain ⟨v, vs, e, _⟩ := hv; cases e
  | k' :: ks, e :: es, i, r, hv, h => by
    obtain ⟨v, vs, he, h1, h2⟩ := hv
    simp only [List.map_cons, List.cons.injEq] at he
    obtain ⟨rfl, rfl⟩ := he
    simp only [findA] at h
    rw [Instr.findAsking]
    split at h
    · rename_i hq
      cases h
      refine Ok.then (ok_equalIn 6 (by decide) hq hk h1) ?_
      simp only [if_true]
      exact ok_pure (by simp)
    · rename_i hq
      refine Ok.then (ok_equalIn 6 (by decide) hq hk h1) ?_
      simp only [Bool.false_eq_true, if_false]
      refine (ok_findAsking hk h2 h).mono fun q hq' => ?_
      rw [hq']
      congr 1
      cases r with
      | none => rfl
      | some j =>
        have hj : i + 1 ≤ j := by
          have key : ∀ (l : List AV) (i j : Nat), findA P kt k l i = some (some j) → i ≤ j := by
            intro l
            induction l with
            | nil => intro i j h; cases h
            | cons a l ih =>
              intro i j h
              simp only [findA] at h
              split at h
              · cases h; exact Nat.le_refl _
              · have := ih _ _ h; omega
              · cases h
          exact key ks (i + 1) j h
        have e1 : j - i = (j - (i + 1)) + 1 := by omega
        simp [e1]
    · cases h
theorem findNow_eq {kt : TypeId} {d : TypeDesc} {k : AV} {KV : Value} (hu : P.underlying kt = some d) (hk : VR c k KV) : ∀ {ks : List AV} {es : List MapEntry} {i : Nat} {r : Option Nat}, VRL c ks (es.map (·.key)) → findA P kt k ks i = some r →
    Instr.findNow d KV es i = none ∨ Instr.findNow d KV es i = some (r.map fun j => (j, ((es[j - i]?).map (·.val)).getD default))
  | [], es, i, r, hv, h => by
    cases h
    have : es = [] := by simpa using hv
    subst this
    exact .inr rfl
  | k' :: ks, [], i, r, hv, h => by obtain ⟨v, vs, e, _⟩ := hv; cases e
  | k' :: ks, e :: es, i, r, hv, h => by
    obtain ⟨v, vs, he, h1, h2⟩ := hv
    simp only [List.map_cons, List.cons.injEq] at he
    obtain ⟨rfl, rfl⟩ := he
    have hle : ∀ (l : List AV) (i j : Nat), findA P kt k l i = some (some j) → i ≤ j := by
      intro l
      induction l with
      | nil => intro i j h; cases h
      | cons a l ih =>
        intro i j h
        simp only [findA] at h
        split at h
        · cases h; exact Nat.le_refl _
        · have := ih _ _ h; omega
        · cases h
    have hnow : ∀ b, eqA P 6 kt k k' = some b → Instr.sameNow d KV e.key = none ∨ Instr.sameNow d KV e.key = some b := by
      intro b hb
      simp only [eqA, hu] at hb
      split at hb
      · rename_i h3; cases h3; cases hk; rw [h1]; cases hb; exact .inr rfl
      · rename_i h3; cases h3; cases hk; rw [h1]
        split at hb
        · rename_i hkk; cases hb; subst hkk; exact .inr (by simp [Instr.sameNow])
        · cases hb
      · rename_i a b' h3; cases h3; cases hk; rw [h1]; cases hb
        refine .inr ?_
        show some (a.toArray == b'.toArray) = some (a == b')
        congr 1
        rw [Bool.eq_iff_iff, beq_iff_eq, beq_iff_eq]
        simp
      · rename_i h3; cases h3; exact .inl (by simp [Instr.sameNow])
      · rename_i h3; cases h3; exact .inl (by simp [Instr.sameNow])
      · cases hb
    simp only [findA] at h
    simp only [Instr.findNow]
    split at h
    · rename_i hq
      cases h
      rcases hnow _ hq with h3 | h3
      · rw [h3]; exact .inl rfl
      · rw [h3]; exact .inr (by simp)
    · rename_i hq
      rcases hnow _ hq with h3 | h3
      · rw [h3]; exact .inl rfl
      · rw [h3]
        rcases findNow_eq hu hk h2 h with h4 | h4
        · exact .inl h4
        · refine .inr ?_
          simp only []
          rw [h4]
          congr 1
          cases r with
          | none => rfl
          | some j =>
            have hj := hle ks (i + 1) j h
            have e1 : j - i = (j - (i + 1)) + 1 := by omega
            simp [e1]
    · cases h
theorem ok_findKey {n0 : Nat} {kt : TypeId} {ft : TF} {k : AV} {KV : Value} {ks : List AV} {es : List MapEntry} {r : Option Nat} (ht : tyT P kt = some ft) (hk : VR c k KV) (hv : VRL c ks (es.map (·.key))) (h : findA P kt k ks 0 = some r) :
    Ok P c n0 (Instr.findKey kt KV es) w (fun q => q = .ok (r.map fun j => (j, ((es[j]?).map (·.val)).getD default)) w) := by
  obtain ⟨i, h1, h2, _⟩ := tyT_some ht
  refine Ok.then (ok_underlying h2) ?_
  rcases findNow_eq h2 hk hv h with h3 | h3
  · rw [h3]
    exact (ok_findAsking hk hv h).mono fun q hq => by rw [hq]; simp
  · rw [h3]
    exact ok_pure (by simp)
theorem findA_lt {kt : TypeId} {k : AV} : ∀ {ks : List AV} {i j : Nat}, findA P kt k ks i = some (some j) → i ≤ j ∧ j < i + ks.length
  | [], _, _, h => by cases h
  | k' :: ks, i, j, h => by
    simp only [findA] at h
    split at h
    · cases h; simp
    · have := findA_lt h; simp; omega
    · cases h
def mapOf (h : List Blk) : AV → Option (List AV × List AV)
  | .nilmap => some ([], [])
  | .pmap ks vs => some (ks, vs)
  | .map n => match h[n.id]? with
    | some (.map ks vs) => if n.gen = 0 then some (ks, vs) else none
    | _ => none
  | _ => none
theorem map_seat {n : Nm} {ks vs : List AV} {S : Option (Nat × Nat) → Prop} (hH : HR c w h) (hb : h[n.id]? = some (.map ks vs)) (hg : n.gen = 0) (ha : c.At n S) :
    ∃ e b k ents clk, c.own[n.id]? = some e ∧ S e.seat ∧ e.gen = 0 ∧ e.seat = some (b, k) ∧ c.mine b ∧ w.heap[b]? = some (.map ents clk) ∧ VRL c ks (ents.toList.map (·.key)) ∧ VRL c vs (ents.toList.map (·.val)) := by
  obtain ⟨e, he, h1, h2⟩ := ha
  obtain ⟨h0, b, k, ents, clk, h3, h4, h5, h6, h7⟩ := hH.blk n.id e _ he hb
  exact ⟨e, b, k, ents, clk, he, h2 (by omega), h0, h3, h4, h5, h6, h7⟩
theorem mapOf_ok {n0 : Nat} {a : AV} {A : Value} {ks vs : List AV} (hm : mapOf h a = some (ks, vs)) (hv : VR c a A) (hH : HR c w h) :
    ∃ es : Array MapEntry, VRL c ks (es.toList.map (·.key)) ∧ VRL c vs (es.toList.map (·.val)) ∧ ((A = .map none ∧ es = #[]) ∨ ∃ b clk, A = .map (some b) ∧ Ok P c n0 (getObj b) w (fun r => r = .ok (.map es clk) w)) := by
  cases a <;> simp only [mapOf, reduceCtorEq, Option.some.injEq, Prod.mk.injEq] at hm
  case nilmap =>
    obtain ⟨rfl, rfl⟩ := hm
    cases hv
    exact ⟨#[], rfl, rfl, .inl ⟨rfl, rfl⟩⟩
  case pmap ks' vs' =>
    obtain ⟨rfl, rfl⟩ := hm
    rcases hv with ⟨rfl, rfl, rfl⟩ | ⟨b, ents, clk, rfl, hi, h1, h2⟩
    · exact ⟨#[], rfl, rfl, .inl ⟨rfl, rfl⟩⟩
    · exact ⟨ents, h1, h2, .inr ⟨b, clk, rfl, .inr (.inr (by rw [hi]; rfl)), _, (hH.imm b _ hi).2, trivial, rfl, rfl⟩⟩
  case map n =>
    split at hm
    · rename_i ks' vs' hb
      split at hm
      · rename_i hg
        simp only [Option.some.injEq, Prod.mk.injEq] at hm
        obtain ⟨rfl, rfl⟩ := hm
        obtain ⟨e, b, k, ents, clk, he, ⟨b', k', hs', rfl⟩, h0, h3, h4, h5, h6, h7⟩ := map_seat hH hb hg hv.2
        rw [h3] at hs'
        cases hs'
        exact ⟨ents, h6, h7, .inr ⟨b, clk, rfl, .inl h4, _, h5, trivial, rfl, rfl⟩⟩
      · cases hm
    · cases hm
theorem opk_lookup {t kt et : TypeId} {f fk fe : TF} {z ks vs : List AV} {a k : AV} {A KV : Value} {cok : Bool} {r : Option Nat} (ht : tyT P t = some f) (hd : f.d = .map kt et) (htk : tyT P kt = some fk) (hte : tyT P et = some fe) (hz : fe.ze = some z) (hzf : zeroFits P et = true)
    (hm : mapOf h a = some (ks, vs)) (hkk : eqA P 6 kt k k = some true) (hf : findA P kt k ks 0 = some r) (hA : VR c a A) (hk : VR c k KV) (hH : HR c w h)
    (hK : K (let v := match (generalizing := false) r with | some j => vs.getD j .any | none => zeroA fe z; if cok then .tup [v, .bool r.isSome] else v) h) : VOk P (Instr.lookup t A KV cok) K c w := by
  obtain ⟨i, h1, h2, _⟩ := tyT_some ht
  obtain ⟨es, he1, he2, hcase⟩ := mapOf_ok (P := P) (n0 := w.heap.size) hm hA hH
  have tail : Ok P c w.heap.size (do
      Instr.checkKey es.isEmpty 10000 kt KV
      let (v, ok) ← match ← Instr.findKey kt KV es.toList with
        | some (_, v) => pure (v, true)
        | none => pure (← zeroValue et, false)
      pure (if cok then .tuple #[v, .bool ok] else v) : Sem Value) w (fun r => ∃ V w' c' v h', r = .ok V w' ∧ K v h' ∧ VR c' v V ∧ HR c' w' h' ∧ TurnOk c c' w.heap.size) := by
    refine Ok.then (ok_checkKey 6 (by decide) hkk hk) ?_
    refine Ok.then (ok_findKey htk hk he1 hf) ?_
    cases r with
    | some j =>
      simp only [Option.map_some]
      refine Ok.then (a := (((es.toList[j]?).map (fun x : MapEntry => x.val)).getD default, true)) rfl ?_
      have hV : VR c (vs.getD j .any) (((es.toList[j]?).map (·.val)).getD default) := by
        have := he2.getD j default
        simpa [List.getD] using this
      refine ok_pure ⟨_, w, c, _, h, rfl, hK, ?_, hH, .refl c _⟩
      cases cok
      · exact hV
      · exact ⟨[_, _], rfl, _, _, rfl, hV, _, _, rfl, rfl, rfl⟩
    | none =>
      simp only [Option.map_none]
      refine Ok.bind' ((ok_zeroA hte hz hzf).mono ?_)
      rintro _ ⟨Z, rfl, hZ⟩
      simp only [thenOk]
      refine ok_pure ⟨_, w, c, _, h, rfl, hK, ?_, hH, .refl c _⟩
      cases cok
      · exact hZ
      · exact ⟨[_, _], rfl, _, _, rfl, hZ, _, _, rfl, rfl, rfl⟩
  refine Ok.then (ok_underlying h2) ?_
  simp only [hd]
  rcases hcase with ⟨rfl, rfl⟩ | ⟨b, clk, rfl, hg⟩
  · exact Ok.then (a := #[]) rfl tail
  · exact Ok.then hg (Ok.then (a := es) rfl tail)
theorem VRL.keys_modify {ks : List AV} {es : Array MapEntry} {i : Nat} {k : AV} {KV V : Value} (h : VRL c ks (es.toList.map (·.key))) (hk : VR c k KV) (hi : ks[i]? = some k) : VRL c ks ((es.modify i fun e => { e with key := KV, val := V }).toList.map (·.key)) := by
  have e1 : ((es.modify i fun e => { e with key := KV, val := V }).toList.map (·.key)) = (es.toList.map (·.key)).set i KV := by
    apply List.ext_getElem?
    intro j
    by_cases hj : i = j
    · subst hj
      by_cases hlt : i < es.size
      · simp [hlt]
      · simp [hlt]
    · simp [hj]
  rw [e1]
  have h3 := h.set i hk
  have e2 : ks.set i k = ks := by
    apply List.ext_getElem?
    intro j
    by_cases hj : i = j
    · subst hj; rw [List.getElem?_set_self (List.getElem?_eq_some_iff.1 hi).1, hi]
    · rw [List.getElem?_set_ne hj]
  rw [e2] at h3
  exact h3
theorem VRL.vals_modify {vs : List AV} {es : Array MapEntry} {i : Nat} {v : AV} {KV V : Value} (h : VRL c vs (es.toList.map (·.val))) (hv : VR c v V) : VRL c (vs.set i v) ((es.modify i fun e => { e with key := KV, val := V }).toList.map (·.val)) := by
  have e1 : ((es.modify i fun e => { e with key := KV, val := V }).toList.map (·.val)) = (es.toList.map (·.val)).set i V := by
    apply List.ext_getElem?
    intro j
    by_cases hj : i = j
    · subst hj
      by_cases hlt : i < es.size
      · simp [hlt]
      · simp [hlt]
    · simp [hj]
  rw [e1]
  exact h.set i hv
theorem opk_mapUpdate {t kt et : TypeId} {f fk : TF} {ks vs : List AV} {n : Nm} {k v : AV} {A KV V : Value} {r : Option Nat} {K : List Blk → Prop} (ht : tyT P t = some f) (hd : f.d = .map kt et) (htk : tyT P kt = some fk)
    (hb : h[n.id]? = some (.map ks vs)) (hg : n.gen = 0) (hkk : eqA P 6 kt k k = some true) (hf : findA P kt k ks 0 = some r) (hA : VR c (.map n) A) (hk : VR c k KV) (hv : VR c v V) (hH : HR c w h)
    (hK : match (generalizing := false) r with | some j => ks[j]? = some k ∧ K (h.set n.id (.map ks (vs.set j v))) | none => K (h.set n.id (.map (ks ++ [k]) (vs ++ [v])))) : UOk P (Instr.mapUpdate t A KV V) K c w := by
  obtain ⟨i, h1, h2, _⟩ := tyT_some ht
  obtain ⟨e, b, kk, ents, clk, he, ⟨b', k', hs', rfl⟩, h0, h3, h4, h5, h6, h7⟩ := map_seat hH hb hg hA.2
  rw [h3] at hs'
  cases hs'
  have hlt : b < w.heap.size := (Array.getElem?_eq_some_iff.1 h5).1
  refine Ok.then (ok_underlying h2) ?_
  simp only [hd]
  refine ⟨.inl h4, _, h5, trivial, rfl, ?_⟩
  refine Ok.then (a := Obj.map ents clk) rfl ?_
  simp only []
  refine Ok.then (ok_checkKey 6 (by decide) hkk hk) ?_
  refine Ok.then (ok_findKey htk hk h6 hf) ?_
  have upd : ∀ (ents' : Array MapEntry) (clk' : Nat) (ks' vs' : List AV), VRL c ks' (ents'.toList.map (·.key)) → VRL c vs' (ents'.toList.map (·.val)) → K (h.set n.id (.map ks' vs')) →
      Ok P c w.heap.size (setObj b (.map ents' clk')) w (fun r => ∃ w' c' h', r = .ok () w' ∧ K h' ∧ HR c' w' h' ∧ TurnOk c c' w.heap.size) := by
    intro ents' clk' ks' vs' q1 q2 q3
    refine ⟨.inl h4, rfl, ⟨_, h5, trivial⟩, ?_⟩
    refine ⟨putBlk w b (.map ents' clk'), c, _, rfl, q3, ?_, .refl c _⟩
    exact hH.update he hb rfl h3 h4 (putBlk_size _ _ _) (fun j hj => putBlk_other (Ne.symm hj)) ⟨h0, b, kk, ents', clk', h3, h4, putBlk_same hlt, q1, q2⟩
  cases r with
  | none =>
    simp only [Option.map_none]
    exact upd _ _ (ks ++ [k]) (vs ++ [v]) (by simp only [Array.toList_push, List.map_append]; exact h6.append ⟨_, _, rfl, hk, rfl⟩) (by simp only [Array.toList_push, List.map_append]; exact h7.append ⟨_, _, rfl, hv, rfl⟩) hK
  | some j =>
    obtain ⟨hkj, hK⟩ := hK
    simp only [Option.map_some]
    obtain ⟨KO, hKO, hKO'⟩ := h6.get hkj
    have hKO2 : (((ents[j]?).map (·.key)).getD KV) = KO := by
      have : (ents.toList.map (·.key))[j]? = some KO := hKO
      simp only [List.getElem?_map, Array.getElem?_toList] at this
      rw [this]; rfl
    rw [hKO2]
    have stays : ∀ (Q : Result Unit → Prop) (f : Value → Sem Unit), (∀ x, VR c k x → ∀ d, Ok P c w.heap.size (f x) { w with drawn := d } Q) → Ok P c w.heap.size (f KV) w Q → Ok P c w.heap.size (Instr.keyThatStays KO KV >>= f) w Q := by
      intro Q f hq hq0
      unfold Instr.keyThatStays
      by_cases hsb : Instr.sameBits 10000 KO KV = true
      · rw [if_pos hsb]
        exact Ok.then (a := KV) rfl hq0
      · rw [if_neg hsb]
        intro m _ _ d
        show Ok P c w.heap.size (f (if m = 0 then KV else KO)) _ Q
        split
        · exact hq _ hk d
        · exact hq _ hKO' d
    refine stays _ _ (fun x hx d => ?_) ?_
    · have hH' : HR c { w with drawn := d } h := hH.rely (RL.at c w d)
      refine ⟨.inl h4, rfl, ⟨_, h5, trivial⟩, ?_⟩
      refine ⟨putBlk { w with drawn := d } b _, c, _, rfl, hK, ?_, .refl c _⟩
      exact hH'.update he hb rfl h3 h4 (putBlk_size _ _ _) (fun j hj => putBlk_other (Ne.symm hj)) ⟨h0, b, kk, _, clk, h3, h4, putBlk_same hlt, h6.keys_modify hx hkj, h7.vals_modify hv⟩
    · exact upd _ clk ks (vs.set j v) (h6.keys_modify hk hkj) (h7.vals_modify hv) hK
theorem opk_makeMap {t : TypeId} (hH : HR c w h) (hK : K (.map ⟨h.length, 0⟩) (h ++ [.map [] []])) : VOk P (Instr.makeMap t none) K c w := by
  refine ⟨_, w.alloc (.map #[] 0), c.new w 0, _, _, rfl, hK, ?_, ?_, .new c w _⟩
  · exact ⟨⟨_, rfl⟩, ⟨0, some (w.heap.size, 0)⟩, by simp [Cx.new, hH.len], Nat.le_refl _, fun _ => ⟨w.heap.size, 0, rfl, rfl⟩⟩
  · exact hH.new _ _ ⟨rfl, w.heap.size, 0, #[], 0, rfl, .inr rfl, heap_alloc_self _ _, rfl, rfl⟩
theorem opk_rangeStr {t : TypeId} {f : TF} {s : List UInt8} (ht : tyT P t = some f) (hd : f.d = .string) (hH : HR c w h) (hK : K (.ptr ⟨h.length, 0⟩ 0) (h ++ [.iter s 0])) : VOk P (Instr.range t (.string ⟨s.toArray⟩)) K c w := by
  obtain ⟨i, h1, h2, _⟩ := tyT_some ht
  refine Ok.then (ok_underlying h2) ?_
  simp only [hd]
  refine Ok.then (a := .stringIter ⟨s.toArray⟩ 0) rfl ?_
  refine ⟨_, w.alloc (.stringIter ⟨s.toArray⟩ 0), c.new w 0, _, _, rfl, hK, VR_newptr hH 0, ?_, .new c w _⟩
  exact hH.new _ _ ⟨rfl, w.heap.size, 0, rfl, .inr rfl, heap_alloc_self _ _⟩
theorem opk_nextStr {n : Nm} {s : List UInt8} {pos : Nat} {A : Value} {ty : TypeId} (hb : h[n.id]? = some (.iter s pos)) (hg : n.gen = 0) (hA : VR c (.ptr n 0) A) (hH : HR c w h)
    (h1 : pos < s.length → K (.tup [.bool true, .int .i64 pos, .int .i32 (Utf8.decode ⟨s.toArray⟩ pos).1]) (h.set n.id (.iter s (pos + (Utf8.decode ⟨s.toArray⟩ pos).2)))) (h2 : ¬ pos < s.length → K (.tup [.bool false]) h) : VOk P (Instr.next A true ty) K c w := by
  obtain ⟨_, e, he, q1, q2⟩ := hA
  obtain ⟨h0, b, k, h3, h4, h5⟩ := hH.blk n.id e _ he hb
  obtain ⟨b', k', hs', rfl⟩ := q2 (by omega)
  rw [h3] at hs'
  cases hs'
  have hlt : b < w.heap.size := (Array.getElem?_eq_some_iff.1 h5).1
  have hsz : (⟨s.toArray⟩ : ByteArray).size = s.length := by simp [ByteArray.size]
  refine ⟨.inl h4, _, h5, trivial, rfl, ?_⟩
  refine Ok.then (a := Obj.stringIter ⟨s.toArray⟩ pos) rfl ?_
  simp only []
  by_cases hp : pos < s.length
  · simp only [hsz, hp, if_true]
    refine ⟨.inl h4, rfl, ⟨_, h5, trivial⟩, ?_⟩
    refine ⟨_, putBlk w b _, c, _, _, rfl, h1 hp, ⟨[_, _, _], rfl, _, _, rfl, rfl, _, _, rfl, rfl, _, _, rfl, rfl, rfl⟩, ?_, .refl c _⟩
    exact hH.update he hb rfl h3 h4 (putBlk_size _ _ _) (fun j hj => putBlk_other (Ne.symm hj)) ⟨h0, b, k, h3, h4, putBlk_same hlt⟩
  · simp only [hsz, hp, if_false]
    exact ⟨_, w, c, _, h, rfl, h2 hp, ⟨[_], rfl, _, _, rfl, rfl, rfl⟩, hH, .refl c _⟩
theorem opk_max {t ty : TypeId} {ats : Array TypeId} {k : IntKind} : ∀ (l : List Int) {a : Int}, HR c w h → K (.int k (l.foldl (fun x y => if y > x then y else x) a)) h → VOk P (Builtin.max_ ats ty ((.int k a :: l.map (Value.int k)).toArray)) K c w := by
  intro l a hH hK
  refine VOk.pure ?_ hH hK
  unfold Builtin.max_
  simp only []
  have key : ∀ (l : List Int) (a : Int), Ok P c w.heap.size ((l.map (Value.int k)).foldlM Builtin.max2 (Value.int k a)) w (fun r => r = .ok (.int k (l.foldl (fun x y => if y > x then y else x) a)) w) := by
    intro l
    induction l with
    | nil => intro a; exact ok_pure rfl
    | cons b l ih => intro a; simp only [List.map_cons, List.foldlM_cons, List.foldl_cons]; exact Ok.then (a := .int k (if b > a then b else a)) rfl (ih _)
  exact (key l a).mono fun r e => ⟨_, e, rfl⟩
theorem opk_min {ty : TypeId} {ats : Array TypeId} {k : IntKind} : ∀ (l : List Int) {a : Int}, HR c w h → K (.int k (l.foldl (fun x y => if y < x then y else x) a)) h → VOk P (Builtin.min_ ats ty ((.int k a :: l.map (Value.int k)).toArray)) K c w := by
  intro l a hH hK
  refine VOk.pure ?_ hH hK
  unfold Builtin.min_
  simp only []
  have key : ∀ (l : List Int) (a : Int), Ok P c w.heap.size ((l.map (Value.int k)).foldlM Builtin.min2 (Value.int k a)) w (fun r => r = .ok (.int k (l.foldl (fun x y => if y < x then y else x) a)) w) := by
    intro l
    induction l with
    | nil => intro a; exact ok_pure rfl
    | cons b l ih => intro a; simp only [List.map_cons, List.foldlM_cons, List.foldl_cons]; exact Ok.then (a := .int k (if b < a then b else a)) rfl (ih _)
  exact (key l a).mono fun r e => ⟨_, e, rfl⟩
end
end Go.Mac

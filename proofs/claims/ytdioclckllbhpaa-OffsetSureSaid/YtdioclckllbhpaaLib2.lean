/- Part 2 of the logic and of the contracts of the functions that the statement reaches; the statement itself is proved in the last text. -/
import Derived.Below
import Derived.Carry
import Derived.Orders
import Derived.Attr
import Derived.Test.YtdioclckllbhpaaLib1

/-! MacJ -/
/- MacJ: equality of flat values, maps, ranging over a string, least and greatest numbers. No program is in sight. -/
namespace Go.Mac
open Go Go.Conc

/-- All of them, the first no ends it. -/
def eqAll : List (Option Bool) → Option Bool
  | [] => some true
  | some true :: r => eqAll r
  | some false :: _ => some false
  | none :: _ => none

/-- Are two flat values of a type equal? none: not told here. -/
def eqA (P : Program) : Nat → TypeId → AV → AV → Option Bool
  | 0, _, _, _ => none
  | d + 1, t, x, y =>
    match P.underlying t, x, y with
    | some .bool, .bool a, .bool b => some (a == b)
    | some (.int _), .int k a, .int k' b => if k = k' then some (a == b) else none
    | some .string, .str a, .str b => some (a == b)
    | some (.struct fs), .agg xs, .agg ys =>
      if P.stoodInHeld t then none else eqAll (fs.toList.map fun f => if f.name = "_" then some true else
        match tyT P f.type with
        | some tf => eqA P d f.type (partA tf xs f.offset) (partA tf ys f.offset)
        | none => none)
    | some (.array n e), .agg xs, .agg ys =>
      match tyT P e with
      | some te => eqAll ((List.range n).map fun i => eqA P d e (partA te xs (i * te.sz)) (partA te ys (i * te.sz)))
      | none => none
    | _, _, _ => none

section
variable {P : Program} {c : Cx} {w : World} {h : List Blk} {K : AV → List Blk → Prop}

theorem eqA_any {d : Nat} {t : TypeId} {y : AV} : eqA P d t .any y = none := by
  cases d with
  | zero => rfl
  | succ d => simp only [eqA]; split <;> simp_all
theorem eqA_any' {d : Nat} {t : TypeId} {x : AV} : eqA P d t x .any = none := by
  cases d with
  | zero => rfl
  | succ d => simp only [eqA]; split <;> simp_all

theorem part_any {tf : TF} {cs : List AV} {off : Nat} (h1 : aggD tf.d = false) (h2 : partA tf cs off ≠ .any) : off < cs.length := by
  unfold partA at h2
  rw [h1] at h2
  simp only [Bool.false_eq_true, if_false] at h2
  by_cases hl : off < cs.length
  · exact hl
  · exact absurd (by simp [List.getD, List.getElem?_eq_none (Nat.le_of_not_lt hl)]) h2

/-- A loop that asks one after the other and leaves at the first no. -/
theorem ok_asks {n0 : Nat} {α : Type} {body : α → Sem (ForInStep (Option Bool × Unit))} : ∀ {l : List α} {rs : List (Option Bool)} {b : Bool}, rs.length = l.length → eqAll rs = some b →
    (∀ (i : Nat) a x, l[i]? = some a → rs[i]? = some (some x) → Ok P c n0 (body a) w (fun r => r = .ok (if x then .yield (none, ()) else .done (some false, ())) w)) →
    Ok P c n0 (forIn l ((none, ()) : Option Bool × Unit) (fun a _ => body a)) w (fun r => r = .ok (if b then (none, ()) else (some false, ())) w)
  | [], rs, b, hl, he, _ => by
    have : rs = [] := List.length_eq_zero_iff.1 hl
    subst this
    cases he
    simp only [List.forIn_nil]
    exact ok_pure rfl
  | a :: l, [], b, hl, _, _ => by simp at hl
  | a :: l, some true :: rs, b, hl, he, hb => by
    simp only [List.forIn_cons]
    refine Ok.then (hb 0 a true rfl rfl) ?_
    simp only [if_true]
    exact ok_asks (rs := rs) (by simpa using hl) he fun i a x h1 h2 => hb (i + 1) a x (by simpa using h1) (by simpa using h2)
  | a :: l, some false :: rs, b, hl, he, hb => by
    simp only [List.forIn_cons]
    refine Ok.then (hb 0 a false rfl rfl) ?_
    cases he
    exact ok_pure rfl
  | a :: l, none :: rs, b, hl, he, _ => by cases he

theorem forIn_range_list {β : Type} (n : Nat) (b : β) (f : Nat → β → Sem (ForInStep β)) : (forIn [0:n] b fun i r => f i r) = forIn (List.range n) b fun i r => f i r := by
  rw [Std.Legacy.Range.forIn_eq_forIn_range']
  simp [List.range_eq_range']

theorem ok_equalIn : ∀ (d : Nat) {d' : Nat} {t : TypeId} {x y : AV} {X Y : Value} {b : Bool} {n0 : Nat}, d ≤ d' → eqA P d t x y = some b → VR c x X → VR c y Y → Ok P c n0 (Op.equalIn d' t X Y) w (fun r => r = .ok b w)
  | 0, _, _, _, _, _, _, _, _, _, h, _, _ => by cases h
  | d + 1, 0, _, _, _, _, _, _, _, hd, _, _, _ => by omega
  | d + 1, d' + 1, t, x, y, X, Y, b, n0, hd, h, hx, hy => by
    simp only [eqA] at h
    split at h
    · rename_i hu; cases hx; cases hy; cases h
      rw [Op.equalIn]
      exact Ok.then (ok_underlying hu) (ok_pure rfl)
    · rename_i hu; cases hx; cases hy
      split at h
      · rename_i hk; cases h
        rw [Op.equalIn]
        refine Ok.then (ok_underlying hu) ?_
        simp only [hk, if_true]
        exact ok_pure rfl
      · cases h
    · rename_i a b' hu; cases hx; cases hy; cases h
      rw [Op.equalIn]
      refine Ok.then (ok_underlying hu) (ok_pure ?_)
      congr 1
      show (a.toArray == b'.toArray) = (a == b')
      rw [Bool.eq_iff_iff, beq_iff_eq, beq_iff_eq]
      simp
    · rename_i fs xs ys hu
      obtain ⟨lx, rfl, hx⟩ := hx
      obtain ⟨ly, rfl, hy⟩ := hy
      split at h
      · cases h
      · rename_i hst
        rw [Op.equalIn]
        refine Ok.then (ok_underlying hu) ?_
        simp only []
        refine Ok.then (a := P) rfl ?_
        rw [if_neg hst]
        simp only [← Array.forIn_toList]
        refine Ok.then (ok_asks (l := fs.toList) (by simp) h fun i f q h1 h2 => ?_) ?_
        · simp only [List.getElem?_map, h1, Option.map_some, Option.some.injEq] at h2
          split at h2
          · rename_i hn
            cases h2
            simp only [hn, ne_eq, not_true_eq_false, if_false]
            exact ok_pure rfl
          · rename_i hn
            simp only [ne_eq, hn, not_false_eq_true, if_true]
            split at h2
            · rename_i tf htf
              have ha1 : partA tf xs f.offset ≠ .any := fun e => by rw [e, eqA_any] at h2; cases h2
              have ha2 : partA tf ys f.offset ≠ .any := fun e => by rw [e, eqA_any'] at h2; cases h2
              refine Ok.bind' ((ok_part htf hx (fun hg => part_any hg ha1)).mono ?_)
              rintro _ ⟨V1, rfl, hV1⟩
              refine Ok.bind' ((ok_part htf hy (fun hg => part_any hg ha2)).mono ?_)
              rintro _ ⟨V2, rfl, hV2⟩
              refine Ok.then (ok_equalIn d (by omega) h2 hV1 hV2) ?_
              cases q <;> exact ok_pure rfl
            · cases h2
        · cases b <;> exact ok_pure rfl
    · rename_i n e xs ys hu
      obtain ⟨lx, rfl, hx⟩ := hx
      obtain ⟨ly, rfl, hy⟩ := hy
      split at h
      · rename_i te hte
        obtain ⟨i0, g1, g2, g3, _⟩ := tyT_some hte
        rw [Op.equalIn]
        refine Ok.then (ok_underlying hu) ?_
        simp only []
        refine Ok.then (ok_sizeOf g1) ?_
        rw [g3, forIn_range_list]
        refine Ok.then (ok_asks (l := List.range n) (by simp) h fun i j q h1 h2 => ?_) ?_
        · have hji : j = i := by
            have := List.getElem?_eq_some_iff.1 h1
            obtain ⟨q1, q2⟩ := this
            simpa using q2.symm
          subst hji
          simp only [List.getElem?_map, h1, Option.map_some, Option.some.injEq] at h2
          have ha1 : partA te xs (j * te.sz) ≠ .any := fun e => by rw [e, eqA_any] at h2; cases h2
          have ha2 : partA te ys (j * te.sz) ≠ .any := fun e => by rw [e, eqA_any'] at h2; cases h2
          refine Ok.bind' ((ok_part hte hx (fun hg => part_any hg ha1)).mono ?_)
          rintro _ ⟨V1, rfl, hV1⟩
          refine Ok.bind' ((ok_part hte hy (fun hg => part_any hg ha2)).mono ?_)
          rintro _ ⟨V2, rfl, hV2⟩
          refine Ok.then (ok_equalIn d (by omega) h2 hV1 hV2) ?_
          cases q <;> exact ok_pure rfl
        · cases b <;> exact ok_pure rfl
      · cases h
    · cases h
end
end Go.Mac

/-! MacK -/
/- MacK: maps, ranging over a string, least and greatest numbers, bytes made a string. No program is in sight. -/
namespace Go.Mac
open Go Go.Conc

section
variable {P : Program} {c : Cx} {w : World} {h : List Blk} {K : AV → List Blk → Prop}

theorem eqAll_true : ∀ {rs : List (Option Bool)}, eqAll rs = some true → ∀ r ∈ rs, r = some true
  | [], _, r, hr => by cases hr
  | some true :: rs, h, r, hr => by
    rcases List.mem_cons.1 hr with rfl | hr
    · rfl
    · exact eqAll_true (rs := rs) h r hr
  | some false :: rs, h, r, hr => by cases h
  | none :: rs, h, r, hr => by cases h

/-- A loop without a result. -/
theorem ok_each {n0 : Nat} {α : Type} {body : α → Sem (ForInStep PUnit)} : ∀ {l : List α}, (∀ a ∈ l, Ok P c n0 (body a) w (fun r => r = .ok (.yield ⟨⟩) w)) → Ok P c n0 (forIn l PUnit.unit (fun a _ => body a)) w (fun r => r = .ok ⟨⟩ w)
  | [], _ => by simp only [List.forIn_nil]; exact ok_pure rfl
  | a :: l, hb => by
    simp only [List.forIn_cons]
    exact Ok.then (hb a List.mem_cons_self) (ok_each fun x hx => hb x (List.mem_cons_of_mem _ hx))

/-- A flat key can be a key. -/
theorem ok_checkKey {em : Bool} : ∀ (d : Nat) {d' : Nat} {t : TypeId} {x : AV} {X : Value} {n0 : Nat}, d ≤ d' → eqA P d t x x = some true → VR c x X → Ok P c n0 (Instr.checkKey em d' t X) w (fun r => r = .ok () w)
  | 0, _, _, _, _, _, _, h, _ => by cases h
  | d + 1, 0, _, _, _, _, hd, _, _ => by omega
  | d + 1, d' + 1, t, x, X, n0, hd, h, hx => by
    simp only [eqA] at h
    split at h
    · rename_i hu _; cases hx
      rw [Instr.checkKey]
      exact Ok.then (ok_underlying hu) (ok_pure rfl)
    · rename_i hu _; cases hx
      rw [Instr.checkKey]
      exact Ok.then (ok_underlying hu) (ok_pure rfl)
    · rename_i hu _; cases hx
      rw [Instr.checkKey]
      exact Ok.then (ok_underlying hu) (ok_pure rfl)
    · rename_i _ fs xs ys hu e2
      cases e2
      obtain ⟨lx, rfl, hx⟩ := hx
      split at h
      · cases h
      · rw [Instr.checkKey]
        refine Ok.then (ok_underlying hu) ?_
        simp only []
        rw [← Array.forIn_toList]
        refine Ok.then (ok_each (l := fs.toList) fun f hf => ?_) (ok_pure rfl)
        have hr := eqAll_true h _ (List.mem_map_of_mem hf)
        split at hr
        · rename_i hn
          simp only [hn, ne_eq, not_true_eq_false, if_false]
          exact ok_pure rfl
        · rename_i hn
          simp only [ne_eq, hn, not_false_eq_true, if_true]
          split at hr
          · rename_i tf htf
            have ha1 : partA tf xs f.offset ≠ .any := fun e => by rw [e, eqA_any] at hr; cases hr
            refine Ok.bind' ((ok_part htf hx (fun hg => part_any hg ha1)).mono ?_)
            rintro _ ⟨V1, rfl, hV1⟩
            exact Ok.then (ok_checkKey d (by omega) hr hV1) (ok_pure rfl)
          · cases hr
    · rename_i _ n e xs ys hu e2
      cases e2
      obtain ⟨lx, rfl, hx⟩ := hx
      split at h
      · rename_i te hte
        obtain ⟨i0, g1, g2, g3, _⟩ := tyT_some hte
        rw [Instr.checkKey]
        refine Ok.then (ok_underlying hu) ?_
        simp only []
        rw [forIn_range_list]
        refine Ok.then (ok_each (l := List.range n) fun i hi => ?_) (ok_pure rfl)
        have hr := eqAll_true h _ (List.mem_map_of_mem hi)
        refine Ok.then (ok_sizeOf g1) ?_
        rw [g3]
        have ha1 : partA te xs (i * te.sz) ≠ .any := fun e => by rw [e, eqA_any] at hr; cases hr
        refine Ok.bind' ((ok_part hte hx (fun hg => part_any hg ha1)).mono ?_)
        rintro _ ⟨V1, rfl, hV1⟩
        exact Ok.then (ok_checkKey d (by omega) hr hV1) (ok_pure rfl)
      · cases h
    · cases h

/-- At which place is a key? some none: nowhere; none: not told here. -/
def findA (P : Program) (kt : TypeId) (k : AV) : List AV → Nat → Option (Option Nat)
  | [], _ => some none
  | k' :: ks, i =>
    match eqA P 6 kt k k' with
    | some true => some (some i)
    | some false => findA P kt k ks (i + 1)
    | none => none

theorem ok_findAsking {n0 : Nat} {kt : TypeId} {k : AV} {KV : Value} (hk : VR c k KV) : ∀ {ks : List AV} {es : List MapEntry} {i : Nat} {r : Option Nat}, VRL c ks (es.map (·.key)) → findA P kt k ks i = some r →
    Ok P c n0 (Instr.findAsking kt KV es i) w (fun q => q = .ok (r.map fun j => (j, ((es[j - i]?).map (·.val)).getD default)) w)
  | [], es, i, r, hv, h => by
    cases h
    have : es = [] := by simpa using hv
    subst this
    exact ok_pure rfl
  | k' :: ks, [], i, r, hv, h => by obtain ⟨v, vs, e, _⟩ := hv; cases e
  | k' :: ks, e :: es, i, r, hv, h => by
    obtain ⟨v, vs, he, h1, h2⟩ := hv
    simp only [List.map_cons, List.cons.injEq] at he
    obtain ⟨rfl, rfl⟩ := he
    simp only [findA] at h
    rw [Instr.findAsking]
    split at h
    · rename_i hq
      cases h
      refine Ok.then (ok_equalIn 6 (by decide) hq hk h1) ?_
      simp only [if_true]
      exact ok_pure (by simp)
    · rename_i hq
      refine Ok.then (ok_equalIn 6 (by decide) hq hk h1) ?_
      simp only [Bool.false_eq_true, if_false]
      refine (ok_findAsking hk h2 h).mono fun q hq' => ?_
      rw [hq']
      congr 1
      cases r with
      | none => rfl
      | some j =>
        have hj : i + 1 ≤ j := by
          have key : ∀ (l : List AV) (i j : Nat), findA P kt k l i = some (some j) → i ≤ j := by
            intro l
            induction l with
            | nil => intro i j h; cases h
            | cons a l ih =>
              intro i j h
              simp only [findA] at h
              split at h
              · cases h; exact Nat.le_refl _
              · have := ih _ _ h; omega
              · cases h
          exact key ks (i + 1) j h
        have e1 : j - i = (j - (i + 1)) + 1 := by omega
        simp [e1]
    · cases h

theorem findNow_eq {kt : TypeId} {d : TypeDesc} {k : AV} {KV : Value} (hu : P.underlying kt = some d) (hk : VR c k KV) : ∀ {ks : List AV} {es : List MapEntry} {i : Nat} {r : Option Nat}, VRL c ks (es.map (·.key)) → findA P kt k ks i = some r →
    Instr.findNow d KV es i = none ∨ Instr.findNow d KV es i = some (r.map fun j => (j, ((es[j - i]?).map (·.val)).getD default))
  | [], es, i, r, hv, h => by
    cases h
    have : es = [] := by simpa using hv
    subst this
    exact .inr rfl
  | k' :: ks, [], i, r, hv, h => by obtain ⟨v, vs, e, _⟩ := hv; cases e
  | k' :: ks, e :: es, i, r, hv, h => by
    obtain ⟨v, vs, he, h1, h2⟩ := hv
    simp only [List.map_cons, List.cons.injEq] at he
    obtain ⟨rfl, rfl⟩ := he
    have hle : ∀ (l : List AV) (i j : Nat), findA P kt k l i = some (some j) → i ≤ j := by
      intro l
      induction l with
      | nil => intro i j h; cases h
      | cons a l ih =>
        intro i j h
        simp only [findA] at h
        split at h
        · cases h; exact Nat.le_refl _
        · have := ih _ _ h; omega
        · cases h
    have hnow : ∀ b, eqA P 6 kt k k' = some b → Instr.sameNow d KV e.key = none ∨ Instr.sameNow d KV e.key = some b := by
      intro b hb
      simp only [eqA, hu] at hb
      split at hb
      · rename_i h3; cases h3; cases hk; rw [h1]; cases hb; exact .inr rfl
      · rename_i h3; cases h3; cases hk; rw [h1]
        split at hb
        · rename_i hkk; cases hb; subst hkk; exact .inr (by simp [Instr.sameNow])
        · cases hb
      · rename_i a b' h3; cases h3; cases hk; rw [h1]; cases hb
        refine .inr ?_
        show some (a.toArray == b'.toArray) = some (a == b')
        congr 1
        rw [Bool.eq_iff_iff, beq_iff_eq, beq_iff_eq]
        simp
      · rename_i h3; cases h3; exact .inl (by simp [Instr.sameNow])
      · rename_i h3; cases h3; exact .inl (by simp [Instr.sameNow])
      · cases hb
    simp only [findA] at h
    simp only [Instr.findNow]
    split at h
    · rename_i hq
      cases h
      rcases hnow _ hq with h3 | h3
      · rw [h3]; exact .inl rfl
      · rw [h3]; exact .inr (by simp)
    · rename_i hq
      rcases hnow _ hq with h3 | h3
      · rw [h3]; exact .inl rfl
      · rw [h3]
        rcases findNow_eq hu hk h2 h with h4 | h4
        · exact .inl h4
        · refine .inr ?_
          simp only []
          rw [h4]
          congr 1
          cases r with
          | none => rfl
          | some j =>
            have hj := hle ks (i + 1) j h
            have e1 : j - i = (j - (i + 1)) + 1 := by omega
            simp [e1]
    · cases h

theorem ok_findKey {n0 : Nat} {kt : TypeId} {ft : TF} {k : AV} {KV : Value} {ks : List AV} {es : List MapEntry} {r : Option Nat} (ht : tyT P kt = some ft) (hk : VR c k KV) (hv : VRL c ks (es.map (·.key))) (h : findA P kt k ks 0 = some r) :
    Ok P c n0 (Instr.findKey kt KV es) w (fun q => q = .ok (r.map fun j => (j, ((es[j]?).map (·.val)).getD default)) w) := by
  obtain ⟨i, h1, h2, _⟩ := tyT_some ht
  refine Ok.then (ok_underlying h2) ?_
  rcases findNow_eq h2 hk hv h with h3 | h3
  · rw [h3]
    exact (ok_findAsking hk hv h).mono fun q hq => by rw [hq]; simp
  · rw [h3]
    exact ok_pure (by simp)

theorem findA_lt {kt : TypeId} {k : AV} : ∀ {ks : List AV} {i j : Nat}, findA P kt k ks i = some (some j) → i ≤ j ∧ j < i + ks.length
  | [], _, _, h => by cases h
  | k' :: ks, i, j, h => by
    simp only [findA] at h
    split at h
    · cases h; simp
    · have := findA_lt h; simp; omega
    · cases h

/-- What a map holds. -/
def mapOf (h : List Blk) : AV → Option (List AV × List AV)
  | .nilmap => some ([], [])
  | .pmap ks vs => some (ks, vs)
  | .map n => match h[n.id]? with
    | some (.map ks vs) => if n.gen = 0 then some (ks, vs) else none
    | _ => none
  | _ => none

theorem map_seat {n : Nm} {ks vs : List AV} {S : Option (Nat × Nat) → Prop} (hH : HR c w h) (hb : h[n.id]? = some (.map ks vs)) (hg : n.gen = 0) (ha : c.At n S) :
    ∃ e b k ents clk, c.own[n.id]? = some e ∧ S e.seat ∧ e.gen = 0 ∧ e.seat = some (b, k) ∧ c.mine b ∧ w.heap[b]? = some (.map ents clk) ∧ VRL c ks (ents.toList.map (·.key)) ∧ VRL c vs (ents.toList.map (·.val)) := by
  obtain ⟨e, he, h1, h2⟩ := ha
  obtain ⟨h0, b, k, ents, clk, h3, h4, h5, h6, h7⟩ := hH.blk n.id e _ he hb
  exact ⟨e, b, k, ents, clk, he, h2 (by omega), h0, h3, h4, h5, h6, h7⟩

/-- .. and its entries. -/
theorem mapOf_ok {n0 : Nat} {a : AV} {A : Value} {ks vs : List AV} (hm : mapOf h a = some (ks, vs)) (hv : VR c a A) (hH : HR c w h) :
    ∃ es : Array MapEntry, VRL c ks (es.toList.map (·.key)) ∧ VRL c vs (es.toList.map (·.val)) ∧ ((A = .map none ∧ es = #[]) ∨ ∃ b clk, A = .map (some b) ∧ Ok P c n0 (getObj b) w (fun r => r = .ok (.map es clk) w)) := by
  cases a <;> simp only [mapOf, reduceCtorEq, Option.some.injEq, Prod.mk.injEq] at hm
  case nilmap =>
    obtain ⟨rfl, rfl⟩ := hm
    cases hv
    exact ⟨#[], rfl, rfl, .inl ⟨rfl, rfl⟩⟩
  case pmap ks' vs' =>
    obtain ⟨rfl, rfl⟩ := hm
    rcases hv with ⟨rfl, rfl, rfl⟩ | ⟨b, ents, clk, rfl, hi, h1, h2⟩
    · exact ⟨#[], rfl, rfl, .inl ⟨rfl, rfl⟩⟩
    · exact ⟨ents, h1, h2, .inr ⟨b, clk, rfl, .inr (.inr (by rw [hi]; rfl)), _, (hH.imm b _ hi).2, trivial, rfl, rfl⟩⟩
  case map n =>
    split at hm
    · rename_i ks' vs' hb
      split at hm
      · rename_i hg
        simp only [Option.some.injEq, Prod.mk.injEq] at hm
        obtain ⟨rfl, rfl⟩ := hm
        obtain ⟨e, b, k, ents, clk, he, ⟨b', k', hs', rfl⟩, h0, h3, h4, h5, h6, h7⟩ := map_seat hH hb hg hv.2
        rw [h3] at hs'
        cases hs'
        exact ⟨ents, h6, h7, .inr ⟨b, clk, rfl, .inl h4, _, h5, trivial, rfl, rfl⟩⟩
      · cases hm
    · cases hm

theorem opk_lookup {t kt et : TypeId} {f fk fe : TF} {z ks vs : List AV} {a k : AV} {A KV : Value} {cok : Bool} {r : Option Nat} (ht : tyT P t = some f) (hd : f.d = .map kt et) (htk : tyT P kt = some fk) (hte : tyT P et = some fe) (hz : fe.ze = some z) (hzf : zeroFits P et = true)
    (hm : mapOf h a = some (ks, vs)) (hkk : eqA P 6 kt k k = some true) (hf : findA P kt k ks 0 = some r) (hA : VR c a A) (hk : VR c k KV) (hH : HR c w h)
    (hK : K (let v := match (generalizing := false) r with | some j => vs.getD j .any | none => zeroA fe z; if cok then .tup [v, .bool r.isSome] else v) h) : VOk P (Instr.lookup t A KV cok) K c w := by
  obtain ⟨i, h1, h2, _⟩ := tyT_some ht
  obtain ⟨es, he1, he2, hcase⟩ := mapOf_ok (P := P) (n0 := w.heap.size) hm hA hH
  have tail : Ok P c w.heap.size (do
      Instr.checkKey es.isEmpty 10000 kt KV
      let (v, ok) ← match ← Instr.findKey kt KV es.toList with
        | some (_, v) => pure (v, true)
        | none => pure (← zeroValue et, false)
      pure (if cok then .tuple #[v, .bool ok] else v) : Sem Value) w (fun r => ∃ V w' c' v h', r = .ok V w' ∧ K v h' ∧ VR c' v V ∧ HR c' w' h' ∧ TurnOk c c' w.heap.size) := by
    refine Ok.then (ok_checkKey 6 (by decide) hkk hk) ?_
    refine Ok.then (ok_findKey htk hk he1 hf) ?_
    cases r with
    | some j =>
      simp only [Option.map_some]
      refine Ok.then (a := (((es.toList[j]?).map (fun x : MapEntry => x.val)).getD default, true)) rfl ?_
      have hV : VR c (vs.getD j .any) (((es.toList[j]?).map (·.val)).getD default) := by
        have := he2.getD j default
        simpa [List.getD] using this
      refine ok_pure ⟨_, w, c, _, h, rfl, hK, ?_, hH, .refl c _⟩
      cases cok
      · exact hV
      · exact ⟨[_, _], rfl, _, _, rfl, hV, _, _, rfl, rfl, rfl⟩
    | none =>
      simp only [Option.map_none]
      refine Ok.bind' ((ok_zeroA hte hz hzf).mono ?_)
      rintro _ ⟨Z, rfl, hZ⟩
      simp only [thenOk]
      refine ok_pure ⟨_, w, c, _, h, rfl, hK, ?_, hH, .refl c _⟩
      cases cok
      · exact hZ
      · exact ⟨[_, _], rfl, _, _, rfl, hZ, _, _, rfl, rfl, rfl⟩
  refine Ok.then (ok_underlying h2) ?_
  simp only [hd]
  rcases hcase with ⟨rfl, rfl⟩ | ⟨b, clk, rfl, hg⟩
  · exact Ok.then (a := #[]) rfl tail
  · exact Ok.then hg (Ok.then (a := es) rfl tail)

theorem VRL.keys_modify {ks : List AV} {es : Array MapEntry} {i : Nat} {k : AV} {KV V : Value} (h : VRL c ks (es.toList.map (·.key))) (hk : VR c k KV) (hi : ks[i]? = some k) : VRL c ks ((es.modify i fun e => { e with key := KV, val := V }).toList.map (·.key)) := by
  have e1 : ((es.modify i fun e => { e with key := KV, val := V }).toList.map (·.key)) = (es.toList.map (·.key)).set i KV := by
    apply List.ext_getElem?
    intro j
    by_cases hj : i = j
    · subst hj
      by_cases hlt : i < es.size
      · simp [hlt]
      · simp [hlt]
    · simp [hj]
  rw [e1]
  have h3 := h.set i hk
  have e2 : ks.set i k = ks := by
    apply List.ext_getElem?
    intro j
    by_cases hj : i = j
    · subst hj; rw [List.getElem?_set_self (List.getElem?_eq_some_iff.1 hi).1, hi]
    · rw [List.getElem?_set_ne hj]
  rw [e2] at h3
  exact h3

theorem VRL.vals_modify {vs : List AV} {es : Array MapEntry} {i : Nat} {v : AV} {KV V : Value} (h : VRL c vs (es.toList.map (·.val))) (hv : VR c v V) : VRL c (vs.set i v) ((es.modify i fun e => { e with key := KV, val := V }).toList.map (·.val)) := by
  have e1 : ((es.modify i fun e => { e with key := KV, val := V }).toList.map (·.val)) = (es.toList.map (·.val)).set i V := by
    apply List.ext_getElem?
    intro j
    by_cases hj : i = j
    · subst hj
      by_cases hlt : i < es.size
      · simp [hlt]
      · simp [hlt]
    · simp [hj]
  rw [e1]
  exact h.set i hv

/-- A store into a map of mine. -/
theorem opk_mapUpdate {t kt et : TypeId} {f fk : TF} {ks vs : List AV} {n : Nm} {k v : AV} {A KV V : Value} {r : Option Nat} {K : List Blk → Prop} (ht : tyT P t = some f) (hd : f.d = .map kt et) (htk : tyT P kt = some fk)
    (hb : h[n.id]? = some (.map ks vs)) (hg : n.gen = 0) (hkk : eqA P 6 kt k k = some true) (hf : findA P kt k ks 0 = some r) (hA : VR c (.map n) A) (hk : VR c k KV) (hv : VR c v V) (hH : HR c w h)
    (hK : match (generalizing := false) r with | some j => ks[j]? = some k ∧ K (h.set n.id (.map ks (vs.set j v))) | none => K (h.set n.id (.map (ks ++ [k]) (vs ++ [v])))) : UOk P (Instr.mapUpdate t A KV V) K c w := by
  obtain ⟨i, h1, h2, _⟩ := tyT_some ht
  obtain ⟨e, b, kk, ents, clk, he, ⟨b', k', hs', rfl⟩, h0, h3, h4, h5, h6, h7⟩ := map_seat hH hb hg hA.2
  rw [h3] at hs'
  cases hs'
  have hlt : b < w.heap.size := (Array.getElem?_eq_some_iff.1 h5).1
  refine Ok.then (ok_underlying h2) ?_
  simp only [hd]
  refine ⟨.inl h4, _, h5, trivial, rfl, ?_⟩
  refine Ok.then (a := Obj.map ents clk) rfl ?_
  simp only []
  refine Ok.then (ok_checkKey 6 (by decide) hkk hk) ?_
  refine Ok.then (ok_findKey htk hk h6 hf) ?_
  have upd : ∀ (ents' : Array MapEntry) (clk' : Nat) (ks' vs' : List AV), VRL c ks' (ents'.toList.map (·.key)) → VRL c vs' (ents'.toList.map (·.val)) → K (h.set n.id (.map ks' vs')) →
      Ok P c w.heap.size (setObj b (.map ents' clk')) w (fun r => ∃ w' c' h', r = .ok () w' ∧ K h' ∧ HR c' w' h' ∧ TurnOk c c' w.heap.size) := by
    intro ents' clk' ks' vs' q1 q2 q3
    refine ⟨.inl h4, rfl, ⟨_, h5, trivial⟩, ?_⟩
    refine ⟨putBlk w b (.map ents' clk'), c, _, rfl, q3, ?_, .refl c _⟩
    exact hH.update he hb rfl h3 h4 (putBlk_size _ _ _) (fun j hj => putBlk_other (Ne.symm hj)) ⟨h0, b, kk, ents', clk', h3, h4, putBlk_same hlt, q1, q2⟩
  cases r with
  | none =>
    simp only [Option.map_none]
    exact upd _ _ (ks ++ [k]) (vs ++ [v]) (by simp only [Array.toList_push, List.map_append]; exact h6.append ⟨_, _, rfl, hk, rfl⟩) (by simp only [Array.toList_push, List.map_append]; exact h7.append ⟨_, _, rfl, hv, rfl⟩) hK
  | some j =>
    obtain ⟨hkj, hK⟩ := hK
    simp only [Option.map_some]
    obtain ⟨KO, hKO, hKO'⟩ := h6.get hkj
    have hKO2 : (((ents[j]?).map (·.key)).getD KV) = KO := by
      have : (ents.toList.map (·.key))[j]? = some KO := hKO
      simp only [List.getElem?_map, Array.getElem?_toList] at this
      rw [this]; rfl
    rw [hKO2]
    have stays : ∀ (Q : Result Unit → Prop) (f : Value → Sem Unit), (∀ x, VR c k x → ∀ d, Ok P c w.heap.size (f x) { w with drawn := d } Q) → Ok P c w.heap.size (f KV) w Q → Ok P c w.heap.size (Instr.keyThatStays KO KV >>= f) w Q := by
      intro Q f hq hq0
      unfold Instr.keyThatStays
      by_cases hsb : Instr.sameBits 10000 KO KV = true
      · rw [if_pos hsb]
        exact Ok.then (a := KV) rfl hq0
      · rw [if_neg hsb]
        intro m _ _ d
        show Ok P c w.heap.size (f (if m = 0 then KV else KO)) _ Q
        split
        · exact hq _ hk d
        · exact hq _ hKO' d
    refine stays _ _ (fun x hx d => ?_) ?_
    · have hH' : HR c { w with drawn := d } h := hH.rely (RL.at c w d)
      refine ⟨.inl h4, rfl, ⟨_, h5, trivial⟩, ?_⟩
      refine ⟨putBlk { w with drawn := d } b _, c, _, rfl, hK, ?_, .refl c _⟩
      exact hH'.update he hb rfl h3 h4 (putBlk_size _ _ _) (fun j hj => putBlk_other (Ne.symm hj)) ⟨h0, b, kk, _, clk, h3, h4, putBlk_same hlt, h6.keys_modify hx hkj, h7.vals_modify hv⟩
    · exact upd _ clk ks (vs.set j v) (h6.keys_modify hk hkj) (h7.vals_modify hv) hK

theorem opk_makeMap {t : TypeId} (hH : HR c w h) (hK : K (.map ⟨h.length, 0⟩) (h ++ [.map [] []])) : VOk P (Instr.makeMap t none) K c w := by
  refine ⟨_, w.alloc (.map #[] 0), c.new w 0, _, _, rfl, hK, ?_, ?_, .new c w _⟩
  · exact ⟨⟨_, rfl⟩, ⟨0, some (w.heap.size, 0)⟩, by simp [Cx.new, hH.len], Nat.le_refl _, fun _ => ⟨w.heap.size, 0, rfl, rfl⟩⟩
  · exact hH.new _ _ ⟨rfl, w.heap.size, 0, #[], 0, rfl, .inr rfl, heap_alloc_self _ _, rfl, rfl⟩

/-! ### Ranging over a string -/
theorem opk_rangeStr {t : TypeId} {f : TF} {s : List UInt8} (ht : tyT P t = some f) (hd : f.d = .string) (hH : HR c w h) (hK : K (.ptr ⟨h.length, 0⟩ 0) (h ++ [.iter s 0])) : VOk P (Instr.range t (.string ⟨s.toArray⟩)) K c w := by
  obtain ⟨i, h1, h2, _⟩ := tyT_some ht
  refine Ok.then (ok_underlying h2) ?_
  simp only [hd]
  refine Ok.then (a := .stringIter ⟨s.toArray⟩ 0) rfl ?_
  refine ⟨_, w.alloc (.stringIter ⟨s.toArray⟩ 0), c.new w 0, _, _, rfl, hK, VR_newptr hH 0, ?_, .new c w _⟩
  exact hH.new _ _ ⟨rfl, w.heap.size, 0, rfl, .inr rfl, heap_alloc_self _ _⟩

theorem opk_nextStr {n : Nm} {s : List UInt8} {pos : Nat} {A : Value} {ty : TypeId} (hb : h[n.id]? = some (.iter s pos)) (hg : n.gen = 0) (hA : VR c (.ptr n 0) A) (hH : HR c w h)
    (h1 : pos < s.length → K (.tup [.bool true, .int .i64 pos, .int .i32 (Utf8.decode ⟨s.toArray⟩ pos).1]) (h.set n.id (.iter s (pos + (Utf8.decode ⟨s.toArray⟩ pos).2)))) (h2 : ¬ pos < s.length → K (.tup [.bool false]) h) : VOk P (Instr.next A true ty) K c w := by
  obtain ⟨_, e, he, q1, q2⟩ := hA
  obtain ⟨h0, b, k, h3, h4, h5⟩ := hH.blk n.id e _ he hb
  obtain ⟨b', k', hs', rfl⟩ := q2 (by omega)
  rw [h3] at hs'
  cases hs'
  have hlt : b < w.heap.size := (Array.getElem?_eq_some_iff.1 h5).1
  have hsz : (⟨s.toArray⟩ : ByteArray).size = s.length := by simp [ByteArray.size]
  refine ⟨.inl h4, _, h5, trivial, rfl, ?_⟩
  refine Ok.then (a := Obj.stringIter ⟨s.toArray⟩ pos) rfl ?_
  simp only []
  by_cases hp : pos < s.length
  · simp only [hsz, hp, if_true]
    refine ⟨.inl h4, rfl, ⟨_, h5, trivial⟩, ?_⟩
    refine ⟨_, putBlk w b _, c, _, _, rfl, h1 hp, ⟨[_, _, _], rfl, _, _, rfl, rfl, _, _, rfl, rfl, _, _, rfl, rfl, rfl⟩, ?_, .refl c _⟩
    exact hH.update he hb rfl h3 h4 (putBlk_size _ _ _) (fun j hj => putBlk_other (Ne.symm hj)) ⟨h0, b, k, h3, h4, putBlk_same hlt⟩
  · simp only [hsz, hp, if_false]
    exact ⟨_, w, c, _, h, rfl, h2 hp, ⟨[_], rfl, _, _, rfl, rfl, rfl⟩, hH, .refl c _⟩

/-! ### Least and greatest -/
theorem opk_max {t ty : TypeId} {ats : Array TypeId} {k : IntKind} : ∀ (l : List Int) {a : Int}, HR c w h → K (.int k (l.foldl (fun x y => if y > x then y else x) a)) h → VOk P (Builtin.max_ ats ty ((.int k a :: l.map (Value.int k)).toArray)) K c w := by
  intro l a hH hK
  refine VOk.pure ?_ hH hK
  unfold Builtin.max_
  simp only []
  have key : ∀ (l : List Int) (a : Int), Ok P c w.heap.size ((l.map (Value.int k)).foldlM Builtin.max2 (Value.int k a)) w (fun r => r = .ok (.int k (l.foldl (fun x y => if y > x then y else x) a)) w) := by
    intro l
    induction l with
    | nil => intro a; exact ok_pure rfl
    | cons b l ih => intro a; simp only [List.map_cons, List.foldlM_cons, List.foldl_cons]; exact Ok.then (a := .int k (if b > a then b else a)) rfl (ih _)
  exact (key l a).mono fun r e => ⟨_, e, rfl⟩
theorem opk_min {ty : TypeId} {ats : Array TypeId} {k : IntKind} : ∀ (l : List Int) {a : Int}, HR c w h → K (.int k (l.foldl (fun x y => if y < x then y else x) a)) h → VOk P (Builtin.min_ ats ty ((.int k a :: l.map (Value.int k)).toArray)) K c w := by
  intro l a hH hK
  refine VOk.pure ?_ hH hK
  unfold Builtin.min_
  simp only []
  have key : ∀ (l : List Int) (a : Int), Ok P c w.heap.size ((l.map (Value.int k)).foldlM Builtin.min2 (Value.int k a)) w (fun r => r = .ok (.int k (l.foldl (fun x y => if y < x then y else x) a)) w) := by
    intro l
    induction l with
    | nil => intro a; exact ok_pure rfl
    | cons b l ih => intro a; simp only [List.map_cons, List.foldlM_cons, List.foldl_cons]; exact Ok.then (a := .int k (if b < a then b else a)) rfl (ih _)
  exact (key l a).mono fun r e => ⟨_, e, rfl⟩
end
end Go.Mac

/-! MacL -/
/- MacL: names below a bound; a call, its entry and its ways out; contracts of functions. No program is in sight. -/
namespace Go.Mac
open Go Go.Conc

mutual
/-- All names lie below. -/
def below (n : Nat) : AV → Bool
  | .ptr m _ | .sl m _ _ _ | .map m | .yield m | .chan m => decide (m.id < n)
  | .pptr cs | .psl cs _ | .agg cs | .tup cs => belowL n cs
  | .pmap ks vs => belowL n ks && belowL n vs
  | .fn _ a b => belowL n a && belowL n b
  | .iface _ v => below n v
  | _ => true
def belowL (n : Nat) : List AV → Bool
  | [] => true
  | a :: as => below n a && belowL n as
end

theorem belowL_all (n : Nat) : ∀ l : List AV, belowL n l = l.all (below n)
  | [] => rfl
  | a :: l => by simp [belowL, belowL_all n l]

mutual
theorem below_mono {n m : Nat} (h : n ≤ m) : ∀ a : AV, below n a = true → below m a = true
  | .ptr x _, h1 => by simp only [below, decide_eq_true_eq] at *; omega
  | .sl x _ _ _, h1 => by simp only [below, decide_eq_true_eq] at *; omega
  | .map x, h1 => by simp only [below, decide_eq_true_eq] at *; omega
  | .yield x, h1 => by simp only [below, decide_eq_true_eq] at *; omega
  | .chan x, h1 => by simp only [below, decide_eq_true_eq] at *; omega
  | .pptr cs, h1 => belowL_mono h cs h1
  | .psl cs _, h1 => belowL_mono h cs h1
  | .agg cs, h1 => belowL_mono h cs h1
  | .tup cs, h1 => belowL_mono h cs h1
  | .pmap ks vs, h1 => by simp only [below, Bool.and_eq_true] at *; exact ⟨belowL_mono h ks h1.1, belowL_mono h vs h1.2⟩
  | .fn _ a b, h1 => by simp only [below, Bool.and_eq_true] at *; exact ⟨belowL_mono h a h1.1, belowL_mono h b h1.2⟩
  | .iface _ v, h1 => below_mono h v h1
  | .any, _ | .bool _, _ | .int _ _, _ | .str _, _ | .nilptr, _ | .nilsl, _ | .nilmap, _ | .nilfn, _ | .niliface, _ => rfl
theorem belowL_mono {n m : Nat} (h : n ≤ m) : ∀ a : List AV, belowL n a = true → belowL m a = true
  | [], _ => rfl
  | a :: as, h1 => by simp only [belowL, Bool.and_eq_true] at *; exact ⟨below_mono h a h1.1, belowL_mono h as h1.2⟩
end

theorem Cx.At.lt {c : Cx} {n : Nm} {S : Option (Nat × Nat) → Prop} (h : c.At n S) : n.id < c.own.length := by
  obtain ⟨e, he, _⟩ := h
  exact (List.getElem?_eq_some_iff.1 he).1

mutual
/-- What stands for something has its names among what is held. -/
theorem VR.below {c : Cx} : ∀ (a : AV) (V : Value), VR c a V → below c.own.length a = true
  | .ptr x _, _, h => by simp only [Mac.below, decide_eq_true_eq]; exact Cx.At.lt h.2
  | .sl x _ _ _, _, h => by simp only [Mac.below, decide_eq_true_eq]; exact Cx.At.lt h.2
  | .map x, _, h => by simp only [Mac.below, decide_eq_true_eq]; exact Cx.At.lt h.2
  | .yield x, _, h => by simp only [Mac.below, decide_eq_true_eq]; exact Cx.At.lt h.2
  | .chan x, _, h => by simp only [Mac.below, decide_eq_true_eq]; exact Cx.At.lt h.2
  | .pptr cs, _, h => by obtain ⟨b, o, arr, el, fz, l, _, _, h1, _⟩ := h; exact VRL.below cs l h1
  | .psl cs _, _, h => by
    rcases h with ⟨rfl, _, _⟩ | ⟨b, o, arr, el, fz, l, cap, _, _, _, h1, _⟩
    · rfl
    · exact VRL.below cs l h1
  | .agg cs, _, h => by obtain ⟨l, _, h1⟩ := h; exact VRL.below cs l h1
  | .tup cs, _, h => by obtain ⟨l, _, h1⟩ := h; exact VRL.below cs l h1
  | .pmap ks vs, _, h => by
    rcases h with ⟨rfl, rfl, _⟩ | ⟨b, ents, clk, _, _, h1, h2⟩
    · rfl
    · simp only [Mac.below, Bool.and_eq_true]; exact ⟨VRL.below ks _ h1, VRL.below vs _ h2⟩
  | .fn _ a b, _, h => by obtain ⟨l1, l2, _, h1, h2⟩ := h; simp only [Mac.below, Bool.and_eq_true]; exact ⟨VRL.below a l1 h1, VRL.below b l2 h2⟩
  | .iface _ v, _, h => by obtain ⟨x, _, h1⟩ := h; exact VR.below v x h1
  | .any, _, _ | .bool _, _, _ | .int _ _, _, _ | .str _, _, _ | .nilptr, _, _ | .nilsl, _, _ | .nilmap, _, _ | .nilfn, _, _ | .niliface, _, _ => rfl
theorem VRL.below {c : Cx} : ∀ (a : List AV) (V : List Value), VRL c a V → belowL c.own.length a = true
  | [], _, _ => rfl
  | a :: as, _, h => by obtain ⟨v, vs, _, h1, h2⟩ := h; simp only [belowL, Bool.and_eq_true]; exact ⟨VR.below a v h1, VRL.below as vs h2⟩
end

def belowBlk (n : Nat) : Blk → Bool
  | .cells _ cs => belowL n cs
  | .map ks vs => belowL n ks && belowL n vs
  | .loop _ _ _ slots _ _ _ => belowL n slots
  | _ => true

theorem Cx.At.take {c : Cx} {n : Nat} {m : Nm} {S : Option (Nat × Nat) → Prop} (h : c.At m S) (hb : m.id < n) : (c.take n).At m S := by
  obtain ⟨e, he, r⟩ := h
  exact ⟨e, by simp only [Cx.take]; rw [List.getElem?_take_of_lt hb]; exact he, r⟩

mutual
theorem VR.take {c : Cx} {n : Nat} : ∀ (a : AV) (V : Value), Mac.below n a = true → VR c a V → VR (c.take n) a V
  | .ptr x _, _, hb, h => ⟨h.1, Cx.At.take h.2 (by simpa [Mac.below] using hb)⟩
  | .sl x _ _ _, _, hb, h => ⟨h.1, Cx.At.take h.2 (by simpa [Mac.below] using hb)⟩
  | .map x, _, hb, h => ⟨h.1, Cx.At.take h.2 (by simpa [Mac.below] using hb)⟩
  | .yield x, _, hb, h => ⟨h.1, Cx.At.take h.2 (by simpa [Mac.below] using hb)⟩
  | .chan x, _, hb, h => ⟨h.1, Cx.At.take h.2 (by simpa [Mac.below] using hb)⟩
  | .pptr cs, _, hb, h => by obtain ⟨b, o, arr, el, fz, l, e, i, h1, p⟩ := h; exact ⟨b, o, arr, el, fz, l, e, i, VRL.takeC cs l hb h1, p⟩
  | .psl cs _, _, hb, h => by
    rcases h with h | ⟨b, o, arr, el, fz, l, cap, e, hc, i, h1, p⟩
    · exact .inl h
    · exact .inr ⟨b, o, arr, el, fz, l, cap, e, hc, i, VRL.takeC cs l hb h1, p⟩
  | .agg cs, _, hb, h => by obtain ⟨l, e, h1⟩ := h; exact ⟨l, e, VRL.takeC cs l hb h1⟩
  | .tup cs, _, hb, h => by obtain ⟨l, e, h1⟩ := h; exact ⟨l, e, VRL.takeC cs l hb h1⟩
  | .pmap ks vs, _, hb, h => by
    simp only [Mac.below, Bool.and_eq_true] at hb
    rcases h with h | ⟨b, ents, clk, e, i, h1, h2⟩
    · exact .inl h
    · exact .inr ⟨b, ents, clk, e, i, VRL.takeC ks _ hb.1 h1, VRL.takeC vs _ hb.2 h2⟩
  | .fn _ a b, _, hb, h => by
    simp only [Mac.below, Bool.and_eq_true] at hb
    obtain ⟨l1, l2, e, h1, h2⟩ := h
    exact ⟨l1, l2, e, VRL.takeC a l1 hb.1 h1, VRL.takeC b l2 hb.2 h2⟩
  | .iface _ v, _, hb, h => by obtain ⟨x, e, h1⟩ := h; exact ⟨x, e, VR.take v x hb h1⟩
  | .any, _, _, _ => trivial
  | .bool _, _, _, h | .int _ _, _, _, h | .str _, _, _, h | .nilptr, _, _, h | .nilsl, _, _, h | .nilmap, _, _, h | .nilfn, _, _, h | .niliface, _, _, h => h
theorem VRL.takeC {c : Cx} {n : Nat} : ∀ (a : List AV) (V : List Value), belowL n a = true → VRL c a V → VRL (c.take n) a V
  | [], _, _, h => h
  | a :: as, _, hb, h => by
    simp only [belowL, Bool.and_eq_true] at hb
    obtain ⟨v, vs, e, h1, h2⟩ := h
    exact ⟨v, vs, e, VR.take a v hb.1 h1, VRL.takeC as vs hb.2 h2⟩
end

theorem BR.take {c : Cx} {w : World} {n : Nat} {e : Ent} {b : Blk} (hb : belowBlk n b = true) (h : BR c w e b) : BR (c.take n) w e b := by
  cases b with
  | dead => trivial
  | cells g cs =>
    obtain ⟨h0, h1 | ⟨b, k, arr, el, l, h1, h2, h3, h4, h5, h6⟩⟩ := h
    · exact ⟨h0, .inl h1⟩
    · exact ⟨h0, .inr ⟨b, k, arr, el, l, h1, h2, h3, h4, VRL.takeC _ _ hb h5, h6⟩⟩
  | map ks vs =>
    simp only [belowBlk, Bool.and_eq_true] at hb
    obtain ⟨h0, b, k, ents, clk, h1, h2, h3, h4, h5⟩ := h
    exact ⟨h0, b, k, ents, clk, h1, h2, h3, VRL.takeC _ _ hb.1 h4, VRL.takeC _ _ hb.2 h5⟩
  | loop st pend fn slots params assign body => obtain ⟨h0, b, k, tm, d, h1, h2, h3, h4⟩ := h; exact ⟨h0, b, k, tm, d, h1, h2, h3, VRL.takeC _ _ hb h4⟩
  | defd => exact h
  | iter s pos => exact h
  | chan g => exact h
  | role m => exact h

theorem HR.take {c : Cx} {w : World} {h : List Blk} {n : Nat} (x : HR c w h) (hb : (h.take n).all (belowBlk n) = true) : HR (c.take n) w (h.take n) where
  len := by simp [Cx.take, x.len]
  blk i e b h1 h2 := by
    have hi : i < n := by have := (List.getElem?_eq_some_iff.1 h2).1; simp at this; omega
    simp only [Cx.take] at h1
    rw [List.getElem?_take_of_lt hi] at h1
    have h2' := h2
    rw [List.getElem?_take_of_lt hi] at h2'
    exact (x.blk i e b h1 h2').take (List.all_eq_true.1 hb b (List.mem_of_getElem? h2))
  apart i j ei ej bi bj y1 y2 hne h1 h2 h3 h4 := by
    have hi : i < n := by have := (List.getElem?_eq_some_iff.1 h3).1; simp at this; omega
    have hj : j < n := by have := (List.getElem?_eq_some_iff.1 h4).1; simp at this; omega
    simp only [Cx.take] at h1 h2
    rw [List.getElem?_take_of_lt hi] at h1 h3
    rw [List.getElem?_take_of_lt hj] at h2 h4
    exact x.apart i j ei ej bi bj y1 y2 hne h1 h2 h3 h4
  mine := x.mine
  imm := x.imm
  chan := x.chan

theorem Ext.take {c c' : Cx} {n : Nat} (x : Ext c c') (h : c.own.length ≤ n) : Ext c (c'.take n) where
  own i e he := by
    obtain ⟨e', h1, h2⟩ := x.own i e he
    exact ⟨e', by simp only [Cx.take]; rw [List.getElem?_take_of_lt (by have := (List.getElem?_eq_some_iff.1 he).1; omega)]; exact h1, h2⟩
  imm := x.imm
  main := x.main

theorem HR.below {c : Cx} {w : World} {h : List Blk} (x : HR c w h) {i : Nat} {b : Blk} (hb : h[i]? = some b) : belowBlk h.length b = true := by
  have hi : i < c.own.length := by rw [← x.len]; exact (List.getElem?_eq_some_iff.1 hb).1
  have he : c.own[i]? = some c.own[i] := by simp [hi]
  have r := x.blk i _ b he hb
  rw [x.len]
  cases b with
  | dead => rfl
  | cells g cs =>
    obtain ⟨_, ⟨_, rfl⟩ | ⟨b, k, arr, el, l, _, _, _, _, h5, _⟩⟩ := r
    · rfl
    · exact VRL.below _ _ h5
  | map ks vs => obtain ⟨_, b, k, ents, clk, _, _, _, h4, h5⟩ := r; simp only [belowBlk, Bool.and_eq_true]; exact ⟨VRL.below _ _ h4, VRL.below _ _ h5⟩
  | loop st pend fn slots params assign body => obtain ⟨_, b, k, tm, d, _, _, _, h4⟩ := r; exact VRL.below _ _ h4
  | defd => rfl
  | iter s pos => rfl
  | chan g => rfl
  | role m => rfl

theorem Ok.congr {P : Program} {c c' : Cx} {n0 : Nat} {α : Type} (hm : c'.mine = c.mine) (hi : c'.imm = c.imm) {s : Sem α} : ∀ {w : World} {Q : Result α → Prop}, Ok P c n0 s w Q → Ok P c' n0 s w Q := by
  induction s with
  | pure a => intro w Q h; exact h
  | load m a k ih => intro w Q h; obtain ⟨h1, h2, v, h3, h4⟩ := h; exact ⟨h1, by rw [hm, hi]; exact h2, v, h3, ih v h4⟩
  | store m a v k ih => intro w Q h; obtain ⟨h1, h2, h3, h4, h5, h6⟩ := h; exact ⟨h1, by rw [hm]; exact h2, h3, h4, h5, ih h6⟩
  | new o k ih => intro w Q h; exact ih _ h
  | shape r k ih => intro w Q h; exact ih _ h
  | freeze => intro w Q h; exact h.elim
  | frozen a k ih => intro w Q h; exact ih _ h
  | getObj r k ih => intro w Q h; obtain ⟨h1, o, h2, h3, h4, h5⟩ := h; exact ⟨by rw [hm, hi]; exact h1, o, h2, h3, h4, ih _ h5⟩
  | setObj r o k ih => intro w Q h; obtain ⟨h1, h2, h3, h4⟩ := h; exact ⟨by rw [hm]; exact h1, h2, h3, ih h4⟩
  | choose q k ih => intro w Q h n h1 h2 d; exact ih _ (h n h1 h2 d)
  | sys => intro w Q h; exact h.elim
  | program k ih => intro w Q h; exact ih _ h
  | mark m k ih => intro w Q h; exact ⟨h.1, ih h.2⟩
  | halt h => intro w Q h; exact h

/-- A step that looks at nothing; from there on fewer names are held. -/
theorem Go'.idle2 {P : Program} {main : Bool} {Stop : Cx → Goroutine → World → Prop} {c c2 : Cx} {g g' : Goroutine} {w : World} (hm : c2.mine = c.mine) (hi : c2.imm = c.imm) (hcm : c2.com = c.com) (hs : g.status = .running) (hs' : g'.status = .running)
    (h : ∀ w1, stepG P main g w1 = .go g' w1 #[]) (h' : Go' P main Stop c2 g' w) : Go' P main Stop c g w :=
  .of_step hs fun w1 r => ⟨g', w1, #[], c2, h w1, hs', ⟨.refl _ _ _, fun b hb => .inl (by rw [hm] at hb; exact hb), fun b o hb => .inl (by rw [hi] at hb; exact hb), fun b o hb => by rw [hi]; exact hb, by simp, fun b hb => .inl (by rw [hm, hi] at hb; exact hb), fun r hr => .inl (by rw [hcm] at hr; exact hr), fun r hr => by rw [hcm]; exact hr, by rw [hcm], by rw [hcm], by rw [hcm]⟩,
    h'.rely ⟨r.size, fun b hb => r.mine b (by rw [hm] at hb; exact hb), fun b hb => r.imm b (by rw [hi] at hb; exact hb), r.os, r.output, r.tape, fun x hx => r.chans x (by rw [hcm] at hx; exact hx)⟩⟩

/-! ### Functions -/
/-- How a call ends. -/
inductive AEnd where
  | ret (v : AV)
  | panic (v : AV)

/-- A frame that is about to leave. -/
def AtEnd (P : Program) (c : Cx) (w : World) (f : FuncId) (kind : CallKind) (fr : Frame) : AEnd → Prop
  | .ret v => fr.fn = f ∧ fr.kind = kind ∧ fr.mode = .returning ∧ fr.defers = [] ∧ ∃ fn V, P.funcs[f]? = some fn ∧ VR c v V ∧ ∀ w1, RL c w w1 → Ok P c w1.heap.size (results fn fr.tmps) w1 (fun r => r = .ok V w1)
  | .panic v => fr.fn = f ∧ fr.kind = kind ∧ fr.defers = [] ∧ ∃ fn V, P.funcs[f]? = some fn ∧ VR c v V ∧ fr.mode = .panicking [{ v := V, recovered := false }]

/-- ████ A contract: the function, entered with these arguments, whatever the others do, comes to an end that satisfies 'Post'. ████ -/
def CallsA (P : Program) (f : FuncId) (args : List AV) (h : List Blk) (Post : AEnd → List Blk → Prop) : Prop :=
  ∀ (main : Bool) (Stop : Cx → Goroutine → World → Prop) (cs : List Frame) (c : Cx) (w : World) (vargs : Array Value) (kind : CallKind), kind ≠ .early → VRL c args vargs.toList → HR c w h → c.com.todo = [] →
    (∀ e h' c' w' fr, Post e h' → HR c' w' h' → Ext c c' → c'.com.out = c.com.out → c'.com.todo = [] → AtEnd P c' w' f kind fr e → Go' P main Stop c' (G fr cs) w') →
    Go' P main Stop c (G (Frame.enter P f vargs kind) cs) w

theorem CallsA.mono {P : Program} {f : FuncId} {args : List AV} {h : List Blk} {Post Post' : AEnd → List Blk → Prop} (x : CallsA P f args h Post) (hp : ∀ e h, Post e h → Post' e h) : CallsA P f args h Post' :=
  fun main Stop cs c w vargs kind h1 h2 h3 h5 h4 => x main Stop cs c w vargs kind h1 h2 h3 h5 fun e h' c' w' fr q => h4 e h' c' w' fr (hp _ _ q)

/-- What a function hands back. -/
def resV (sl : List AV) (h : List Blk) (P : Program) : ResultVar → Option AV
  | .tmp t => some (sl.getD t .any)
  | .cell a t => match tyT P t, cellsAt h (sl.getD a .any) with
    | some f, some cs => if (if aggD f.d then f.sz else 1) ≤ cs.length then some (readA f cs) else none
    | _, _ => none

def resL (P : Program) (sl : List AV) (h : List Blk) : List ResultVar → Option (List AV)
  | [] => some []
  | r :: rs => match resV sl h P r, resL P sl h rs with
    | some v, some vs => some (v :: vs)
    | _, _ => none

def resA (P : Program) (fn : Func) (sl : List AV) (h : List Blk) : Option AV :=
  match resL P sl h fn.results.toList with
  | some [v] => some v
  | some vs => some (.tup vs)
  | none => none

section
variable {P : Program} {c : Cx} {w : World} {h : List Blk}

theorem ok_resL {tmps : Array Value} {sl : List AV} (hs : VRL c sl tmps.toList) (hH : HR c w h) : ∀ {rs : List ResultVar} {vs : List AV}, resL P sl h rs = some vs →
    ∃ Vs, VRL c vs Vs ∧ ∀ w1, RL c w w1 → Ok P c w1.heap.size (rs.mapM fun
      | .tmp t => pure (tmps.getD t undef)
      | .cell a t => do loadVar t (← asAddr (tmps.getD a undef))) w1 (fun r => r = .ok Vs w1)
  | [], vs, hv => by cases hv; exact ⟨[], rfl, fun w1 _ => by simp only [List.mapM_nil]; exact ok_pure rfl⟩
  | r :: rs, vs, hv => by
    simp only [resL] at hv
    split at hv
    · rename_i v vs' hr hrs
      cases hv
      obtain ⟨Vs, h1, h2⟩ := ok_resL hs hH hrs
      have hg : ∀ t, VR c (sl.getD t .any) (tmps.getD t undef) := fun t => by
        have := hs.getD t undef
        simpa [Array.getD_eq_getD_getElem?, List.getD] using this
      cases r with
      | tmp t =>
        cases hr
        refine ⟨tmps.getD t undef :: Vs, ⟨_, _, rfl, hg t, h1⟩, fun w1 r1 => ?_⟩
        simp only [List.mapM_cons]
        exact Ok.then (a := tmps.getD t undef) rfl (Ok.then (h2 w1 r1) (ok_pure rfl))
      | cell a t =>
        simp only [resV] at hr
        split at hr
        · rename_i f cs ht hc
          by_cases hlen : (if aggD f.d then f.sz else 1) ≤ cs.length
          · rw [if_pos hlen] at hr
            simp only [Option.some.injEq] at hr
            subst hr
            obtain ⟨i, g1, g2, g3, g4, _⟩ := tyT_some ht
            obtain ⟨b, o, arr, el, fz, l, hV, ha, hb, hl, hp⟩ := (leads_of hc (hg a) hH).ex
            refine ⟨(if aggD f.d then .agg (l.take i.size).toArray else l.getD 0 default) :: Vs, ⟨_, _, rfl, ?_, h1⟩, fun w1 r1 => ?_⟩
            · unfold readA
              cases hg : aggD f.d with
              | true => exact ⟨l.take i.size, by simp, by rw [← g3]; exact hl.take _⟩
              | false => simpa using hl.getD 0 default
            · simp only [List.mapM_cons]
              have hb1 : w1.heap[b]? = some (.cells arr el fz) := by
                rcases ha with ha | ha
                · rw [r1.mine b ha]; exact hb
                · rw [r1.imm b ha]; exact hb
              have ha1 : c.mine b ∨ w1.heap.size ≤ b ∨ (c.imm b).isSome := by rcases ha with h | h; exact .inl h; exact .inr (.inr h)
              refine Ok.then (Ok.then (a := ⟨b, o, none⟩) ?_ (ok_loadVar g2 g1 ha1 hb1 (by rw [hl.length, g3]; exact hlen) hp)) (Ok.then (h2 w1 r1) (ok_pure rfl))
              have e : tmps.getD a undef = .pointer (some ⟨b, o, none⟩) := hV
              rw [e]
              exact ok_pure rfl
          · rw [if_neg hlen] at hr; cases hr
        · cases hr
    · cases hv

theorem ok_results {fn : Func} {tmps : Array Value} {sl : List AV} {v : AV} (hs : VRL c sl tmps.toList) (hH : HR c w h) (hr : resA P fn sl h = some v) :
    ∃ V, VR c v V ∧ ∀ w1, RL c w w1 → Ok P c w1.heap.size (results fn tmps) w1 (fun r => r = .ok V w1) := by
  unfold resA at hr
  cases hl : resL P sl h fn.results.toList with
  | none => rw [hl] at hr; cases hr
  | some vs =>
    rw [hl] at hr
    obtain ⟨Vs, h1, h2⟩ := ok_resL (P := P) hs hH hl
    have key : ∀ V, (if hsz : Vs.toArray.size = 1 then Vs.toArray[0] else Value.tuple Vs.toArray) = V → ∀ w1, RL c w w1 → Ok P c w1.heap.size (results fn tmps) w1 (fun r => r = .ok V w1) := by
      intro V hV w1 r1
      unfold results
      rw [Array.mapM_eq_mapM_toList]
      have hb : Ok P c w1.heap.size ((fn.results.toList.mapM fun (r : ResultVar) => (match r with
        | .tmp t => pure (tmps.getD t undef)
        | .cell a t => do loadVar t (← asAddr (tmps.getD a undef)) : Sem Value)).bind fun l => Sem.pure l.toArray) w1 (fun r => r = .ok Vs.toArray w1) :=
        Ok.bind ((h2 w1 r1).mono fun r e => by subst e; exact rfl)
      exact Ok.then hb (ok_pure (by rw [hV]))
    match vs, h1, hr with
    | [], h1, hr =>
      cases hr
      cases h1
      exact ⟨.tuple #[], ⟨[], rfl, rfl⟩, key _ (by simp)⟩
    | [a], h1, hr =>
      cases hr
      obtain ⟨V, vs', rfl, h3, h4⟩ := h1
      cases h4
      exact ⟨V, h3, key _ (by simp)⟩
    | a :: b :: r, h1, hr =>
      cases hr
      exact ⟨.tuple Vs.toArray, ⟨Vs, rfl, h1⟩, key _ (by have := h1.length; simp at this; simp [this])⟩
end

/-- What the body of a function without deferred calls must achieve: its blocks from 'n' on are forgotten. -/
def bodyQ (P : Program) (fn : Func) (n0 : Nat) (Post : AEnd → List Blk → Prop) : AExit → AS → Prop
  | .normal, s | .ret, s => s.df = [] ∧ s.gh = {} ∧ ∃ v n, resA P fn s.sl s.hp = some v ∧ n0 ≤ n ∧ below n v = true ∧ (s.hp.take n).all (belowBlk n) = true ∧ Post (.ret v) (s.hp.take n)
  | .panic v, s => s.df = [] ∧ s.gh = {} ∧ Post (.panic v) s.hp
  | _, _ => False

/-- ████ A contract by the function's body. ████ -/
theorem CallsA.of_body {P : Program} {f : FuncId} {fn : Func} {code : Code} {args : List AV} {h : List Blk} {Post : AEnd → List Blk → Prop} (hf : P.funcs[f]? = some fn) (hb : fn.body = some code)
    (hw : h.all (belowBlk h.length) = true → belowL h.length args = true → WP P ⟨f, false, h.length⟩ code (bodyQ P fn h.length Post) { sl := args ++ List.replicate (fn.ntmps - args.length) (.tup []), df := [], hp := h }) : CallsA P f args h Post := by
  intro main Stop cs c w vargs kind hk hv hH htodo hcont
  have hbel : h.all (belowBlk h.length) = true := List.all_eq_true.2 fun b hb => by obtain ⟨i, hi⟩ := List.mem_iff_getElem?.1 hb; exact hH.below hi
  have harg : belowL h.length args = true := by rw [hH.len]; exact VRL.below _ _ hv
  have hent : Frame.enter P f vargs kind = at' (Frame.enter P f vargs kind) (vargs ++ Array.replicate (fn.ntmps - vargs.size) undef) [] ([.code code] ++ []) := by
    simp [Frame.enter, at', hf, hb]
  rw [hent]
  have hsz : vargs.size = args.length := by have := hv.length; simpa using this
  have hrep : ∀ n, VRL c (List.replicate n (.tup [])) (List.replicate n undef) := by
    intro n
    induction n with
    | zero => rfl
    | succ n ih => exact ⟨_, _, rfl, ⟨[], rfl, rfl⟩, ih⟩
  have hsr : SR c.com.out c w { sl := args ++ List.replicate (fn.ntmps - args.length) (.tup []), df := [], hp := h } (vargs ++ Array.replicate (fn.ntmps - vargs.size) undef) [] :=
    ⟨by simp only [Array.toList_append, Array.toList_replicate]; rw [hsz]; exact hv.append (hrep _), rfl, hH, ⟨[], rfl, rfl⟩, htodo⟩
  refine hw hbel harg main Stop (Frame.enter P f vargs kind) [] cs c.com.out c w _ [] ⟨rfl, fun _ => rfl⟩ hk hsr ?_
  intro e s' c' w' tmps' ds' q r xT
  have x : Ext c c' := xT.ofT (by rw [← hH.len]; exact Nat.le_refl _)
  have neutral : s'.gh = {} → c'.com.out = c.com.out ∧ c'.com.todo = [] := fun hgh => by
    obtain ⟨⟨M, h1, h2⟩, h3⟩ := r.gh
    rw [hgh] at h2 h3
    cases h2
    exact ⟨by simpa using h1, h3⟩
  have ret : ∀ (todo todo' : List Item), (∀ w1, stepG P main (G (at' (Frame.enter P f vargs kind) tmps' ds' todo) cs) w1 = .go (G { at' (Frame.enter P f vargs kind) tmps' ds' todo' with mode := .returning } cs) w1 #[]) →
      (s'.df = [] ∧ s'.gh = {} ∧ ∃ v n, resA P fn s'.sl s'.hp = some v ∧ h.length ≤ n ∧ Mac.below n v = true ∧ (s'.hp.take n).all (belowBlk n) = true ∧ Post (.ret v) (s'.hp.take n)) →
      Go' P main Stop c' (G (at' (Frame.enter P f vargs kind) tmps' ds' todo) cs) w' := by
    rintro todo todo' hstep ⟨hdf, hgh, v, n, hres, hn, hbv, hbh, hp⟩
    obtain ⟨V, hV, hok⟩ := ok_results (P := P) r.sl r.hp hres
    have hds : ds' = [] := by have := r.df; rw [hdf] at this; exact this
    have hle : c.own.length ≤ n := by rw [← hH.len]; exact hn
    have hg := neutral hgh
    refine Go'.idle2 (c2 := c'.take n) rfl rfl rfl rfl rfl hstep ?_
    exact hcont (.ret v) _ (c'.take n) w' { at' (Frame.enter P f vargs kind) tmps' ds' todo' with mode := .returning } hp (r.hp.take hbh) (x.take hle) hg.1 hg.2
      ⟨rfl, rfl, rfl, hds, fn, V, hf, VR.take v V hbv hV, fun w1 r1 => Ok.congr (c := c') (c' := c'.take n) rfl rfl (hok w1 ⟨r1.size, r1.mine, r1.imm, r1.os, r1.output, r1.tape, r1.chans⟩)⟩
  cases e with
  | normal => exact ret [] [] (fun w1 => by simp [G, stepG, stepG.exec, at', Frame.enter]) q
  | ret => exact fun k' => ret (.code .ret :: k') (.code .ret :: k') (fun w1 => by simp [G, stepG, stepG.exec, at', Frame.enter]) q
  | exit id => exact q.elim
  | goto l => exact q.elim
  | panic v =>
    intro V todo hV
    obtain ⟨hdf, hgh, hp⟩ := q
    have hg := neutral hgh
    have hds : ds' = [] := by have := r.df; rw [hdf] at this; exact this
    exact hcont (.panic v) _ c' w' _ hp r.hp x hg.1 hg.2 ⟨rfl, rfl, hds, fn, V, hf, hV, rfl⟩

section
variable {P : Program} {fk : FK} {Q : AExit → AS → Prop} {s : AS} {ops : Array Oper} {i : Nat} {rest : List Nat} {o : Oper}

/-- What is asked behind a call. -/
def callQ (P : Program) (fk : FK) (ops : Array Oper) (rest : List Nat) (o : Oper) (Q : AExit → AS → Prop) (s : AS) : AEnd → List Blk → Prop
  | .ret v, h' => WPI P fk [.inRegion ops rest] Q { s with sl := putA s.sl o.dst v, hp := h' }
  | .panic v, h' => Q (.panic v) { s with hp := h' }

theorem VRL_map {c : Cx} {sl : List AV} {ρ : Operand → Value} (h : ∀ x, VR c (evA sl x) (ρ x)) : ∀ (l : List Operand), VRL c (l.map (evA sl)) (l.map ρ)
  | [] => rfl
  | x :: l => ⟨_, _, rfl, h x, VRL_map h l⟩

/-- ████ A call of a Go function. ████ -/
theorem WPI.call {cl : Go.Call} {f : Operand} {g : FuncId} {fn : Func} {first cap : List AV} (ho : ops[i]? = some o) (hw : ∀ c tmps, VRL c s.sl tmps.toList → Region.wanted o (yielded ops tmps) = true) (hop : o.op = .call cl) (hcl : cl.callee = .value f)
    (hfv : evA s.sl f = .fn (.func g) first cap) (hg : P.funcs[g]? = some fn) (hname : (fn.name == "runtime.NumGoroutine") = false) (hbody : fn.body.isSome = true) (hgt : s.gh.todo = [])
    (h : CallsA P g (first ++ cl.args.toList.map (evA s.sl) ++ cap) s.hp (callQ P fk ops rest o Q s)) : WPI P fk [.inRegion ops (i :: rest)] Q s := by
  intro main Stop b k cs base c w tmps ds h1 h2 h3 h4
  refine Go'.of_step rfl fun w1 r => ?_
  have h3' := h3.rely r
  have htodo : c.com.todo = [] := by have := h3.gh.todo; rw [hgt] at this; exact this
  rw [List.singleton_append, stepG_opA ho (hw c tmps h3.sl) (by rw [hop]; rfl)]
  generalize hfr : at' b tmps ds (.inRegion ops (i :: rest) :: k) = fr
  have hρ : ∀ x, VR c (evA s.sl x) (fr.eval x) := fun x => by rw [← hfr]; exact VR_evA h3.sl b ds _ x
  have hfx := hρ f
  rw [hfv] at hfx
  obtain ⟨L1, L2, hF, hL1, hL2⟩ := hfx
  have hrun : ∀ es, (execOp fr.eval o).runT P w1 es = (.ok (.enter g (L1.toArray ++ cl.args.map fr.eval ++ L2.toArray)) w1, es) := by
    intro es
    have hbn : fn.body.isNone = false := by cases hb : fn.body <;> simp_all
    have hname' : ¬ fn.name = "runtime.NumGoroutine" := by simpa using hname
    simp only [execOp, hop, resolve, hcl, hF, Deferred.ofValue]
    show ((callFunc g (L1.toArray ++ cl.args.map fr.eval ++ L2.toArray))).runT P w1 es = _
    unfold callFunc
    show Sem.runT P (match P.funcs[g]? with
      | none => _
      | some fn => _) w1 es = _
    rw [hg]
    simp only [hname, Bool.false_eq_true, if_false, hbn]
    rfl
  have hkind : (fr.kind == CallKind.early) = false := by rw [← hfr]; simpa [at'] using h2
  have hftodo : fr.todo = .inRegion ops (i :: rest) :: k := by rw [← hfr]; rfl
  have hstep : stepG.apply P true fr cs none (execOp fr.eval o) w1 = .go (G (Frame.enter P g (L1.toArray ++ cl.args.map fr.eval ++ L2.toArray) .normal) (fr :: cs)) w1 #[] := by
    have he := hrun #[]
    simp only [stepG.apply, hftodo, if_true, he, hkind, Bool.false_eq_true, if_false]
    simp [GStep.after, G, seen]
  have hargs : VRL c (first ++ cl.args.toList.map (evA s.sl) ++ cap) (L1.toArray ++ cl.args.map fr.eval ++ L2.toArray).toList := by
    simp only [Array.toList_append, Array.toList_map]
    exact (hL1.append (VRL_map hρ _)).append hL2
  refine ⟨_, w1, _, c, hstep, rfl, ⟨.refl _ _ _, fun _ h => .inl h, fun _ _ h => .inl h, fun _ _ h => h, by simp, fun _ h => .inl h, fun _ h => .inl h, fun _ h => h, rfl, rfl, rfl⟩, ?_⟩
  refine h main Stop (fr :: cs) c w1 _ .normal (by simp) hargs h3'.hp htodo fun e h' c' w' fr' q hH hx ho1 ho2 he => ?_
  cases e with
  | ret v =>
    obtain ⟨e1, e2, e3, e4, fn', V, e5, hV, hok⟩ := he
    have hfin : fr.finish V = at' b (putV tmps o.dst V) ds (.inRegion ops rest :: k) := by rw [← hfr, finish_at', ho]; rfl
    refine Go'.of_step rfl fun w2 r2 => ?_
    obtain ⟨h5, h6, _⟩ := Ok.spec #[] (hok w2 r2) (Nat.le_refl _)
    rw [h5] at h6
    have hst : stepG P main (G fr' (fr :: cs)) w2 = .go (G (at' b (putV tmps o.dst V) ds (.inRegion ops rest :: k)) cs) w2 (seen P fr'.fn ((results fn' fr'.tmps).events P w2 #[])) := by
      rw [← hfin]
      simp [G, stepG, unwind, doReturn, e1, e2, e3, e4, e5, h5, GStep.after]
    refine ⟨_, w2, _, c', hst, rfl, ⟨.refl _ _ _, fun _ h => .inl h, fun _ _ h => .inl h, fun _ _ h => h, fun x hx' => ?_, fun _ h => .inl h, fun _ h => .inl h, fun _ h => h, rfl, rfl, rfl⟩, ?_⟩
    · rcases h6 x (mem_seen hx') with h | h
      · simp at h
      · exact h
    · have hH2 := hH.rely r2
      refine q main Stop b k cs base c' w2 _ ds h1 h2 ⟨(h3.sl.ext hx).put o.dst hV, h3.df.ext hx, hH2, h3.gh.ext hx ho1 (by rw [ho2, htodo])⟩ fun e s' c2 w2 t2 d2 q r2 y => h4 e s' c2 w2 t2 d2 q r2 ((hx.toT _).transT y)
  | panic v =>
    obtain ⟨e1, e2, e3, fn', V, e4, hV, e5⟩ := he
    have hst : ∀ w2, stepG P main (G fr' (fr :: cs)) w2 = .go (G (fr.raise [{ v := V, recovered := false }]) cs) w2 #[] := by
      intro w2
      have hc : fr'.catches P = false := by simp [Frame.catches, e1, e4]
      simp [G, stepG, unwind, e3, e5, hc]
    have hra : fr.raise [{ v := V, recovered := false }] = { at' b tmps ds (.inRegion ops (i :: rest) :: k) with mode := .panicking [{ v := V, recovered := false }] } := by rw [← hfr]; rfl
    refine Go'.idle rfl rfl hst ?_
    rw [hra]
    exact h4 (.panic v) _ c' w' tmps ds q ⟨h3.sl.ext hx, h3.df.ext hx, hH, h3.gh.ext hx ho1 (by rw [ho2, htodo])⟩ (hx.toT _) V _ hV
end
end Go.Mac

/-! MacZ -/
/- MacZ: from a contract to a good run from every start. No program is in sight. -/
namespace Go.Mac
open Go Go.Conc

/-- What is held at the start: nothing of one's own; nobody writes what there is. -/
def Cx.start (W : World) : Cx := { own := [⟨0, none⟩], mine := fun _ => False, imm := fun b => W.heap[b]?, com := { main := true, chans := fun _ => False, out := [], todo := [] } }

theorem HR.start (W : World) : HR (Cx.start W) W [.role true] where
  len := rfl
  blk i e b h h' := by
    cases i with
    | zero => cases h'; rfl
    | succ i => simp at h'
  apart i j ei ej bi bj x y hne h h' h2 h3 := by
    cases i with
    | succ i => simp at h2
    | zero => cases j with
      | zero => exact absurd rfl hne
      | succ j => simp at h3
  mine b h := h.elim
  imm b o h := ⟨fun h => h, h⟩
  chan r h := h.elim

theorem MI.start {P : Program} (g : Goroutine) (W : World) : MI P #[g] W #[] (Cx.start W) W [] where
  size := rfl
  act i s h := by simp at h
  rel0 := RL.refl _ _
  rel s h := by cases h
  apart0 s h := by cases h
  apart i j s s' _ h := by simp at h
  low0 b h := by
    rcases h with h | h
    · exact h.elim
    · obtain ⟨o, ho⟩ := Option.isSome_iff_exists.1 h
      exact (Array.getElem?_eq_some_iff.1 ho).1
  low s h := by cases h
  chans r h := by
    rcases h with h | ⟨s, h, _⟩
    · exact h.elim
    · cases h
  todo := List.Perm.refl _
  know0 := ⟨fun b h => h.elim, fun b _ i a h => by simp [touchAt, Trace.act?] at h⟩
  know i s h := by simp at h
  tame := ⟨fun i a h => by simp [touchAt, Trace.act?] at h, fun i a h => by simp [touchAt, Trace.act?] at h, fun op h => by simp at h⟩
  race said := by
    rintro ⟨i, j, _, ⟨a, b, ha, _⟩, _⟩
    simp [Trace.act?] at ha
  hand i op a h := by simp at h

/-- ████ A contract gives a good run. ████ -/
theorem runs_of_calls {P : Program} {f : FuncId} {avs : List AV} {v : AV} {args : Array Value} {W : World} (hin : P.inits.idxOf? f = none) (hc : CallsA P f avs [.role true] fun e _ => e = .ret v) (ha : VRL (Cx.start W) avs args.toList) :
    ∃ M last o w' t', runNT P (M + 1) (solo (G (Frame.enter P f args .normal) []) W) #[] = (.ended o w', t') ∧ runN P M (solo (G (Frame.enter P f args .normal) []) W) = .next last ∧
      step P last = .ended o w' ∧ Conc.Good P (fun V W' => RowKit.Below W.heap.size W W' ∧ ∃ c, (∀ b o, W.heap[b]? = some o → c.imm b = some o ∧ W'.heap[b]? = some o) ∧ VR c v V) last o w' t' := by
  let E : World → Prop := fun w => w.os = W.os ∧ w.output = W.output ∧ w.tape = W.tape
  have hE : ∀ w w', E w → w'.os = w.os → w'.output = w.output → w'.tape = w.tape → E w' := fun w w' h e1 e2 e3 => ⟨e1.trans h.1, e2.trans h.2.1, e3.trans h.2.2⟩
  let Stop : Cx → Goroutine → World → Prop := fun c g w => E w → Fin P (fun V W' => RowKit.Below W.heap.size W W' ∧ ∃ c, (∀ b o, W.heap[b]? = some o → c.imm b = some o ∧ W'.heap[b]? = some o) ∧ VR c v V) c g w
  have hgo : Go' P true Stop (Cx.start W) (G (Frame.enter P f args .normal) []) W := by
    refine hc true Stop [] (Cx.start W) W args .normal (by simp) ha (HR.start W) rfl fun e h' c' w' fr q hH hx _ htodo he => ?_
    subst q
    obtain ⟨e1, e2, e3, e4, fn, V, e5, hV, hok⟩ := he
    refine .stop fun w1 r hEw => ?_
    obtain ⟨h5, h6, _⟩ := Ok.spec #[] (hok w1 r) (Nat.le_refl _)
    rw [h5] at h6
    have hH1 := hH.rely r
    have hst : stepG P true (G fr []) w1 = .ended (.done V) w1 (seen P fr.fn ((results fn fr.tmps).events P w1 #[])) := by
      simp [G, stepG, unwind, doReturn, e1, e2, e3, e4, e5, h5, GStep.after, hin]
    have himm : ∀ b o, W.heap[b]? = some o → c'.imm b = some o ∧ w1.heap[b]? = some o := fun b o hb => by
      have := hx.imm b o hb
      exact ⟨this, (hH1.imm b o this).2⟩
    have hsz : W.heap.size ≤ w1.heap.size := by
      rcases Nat.eq_zero_or_pos W.heap.size with h0 | h0
      · omega
      · have hl : W.heap[W.heap.size - 1]? = some W.heap[W.heap.size - 1] := by simp [h0]
        have := (Array.getElem?_eq_some_iff.1 (himm _ _ hl).2).1
        omega
    refine ⟨rfl, htodo, V, w1, _, w1.heap.size, hst, ⟨⟨hEw.1, hEw.2.2, hEw.2.1, hsz, fun k hk => ?_⟩, c', himm, hV⟩, fun x hx' => ?_⟩
    · rw [Array.getElem?_eq_getElem hk]
      exact (himm k _ (Array.getElem?_eq_getElem hk)).2
    · rcases h6 x (mem_seen hx') with h | h
      · simp at h
      · exact h
  have hr := MI.runs (P := P) hgo rfl rfl hE ⟨rfl, rfl, rfl⟩ (fun c g w h he => h he) [] #[G (Frame.enter P f args .normal) []] W #[] none (MI.start _ _) rfl
  rw [solo_eq_crowd]
  exact hr
end Go.Mac

/-! MacLA -/
/- MacLA: loops over functions: a round, a call of 'yield'. No program is in sight. -/
namespace Go.Mac
open Go Go.Conc

/-- What becomes of the goroutine when a round or a call has come to its end. -/
def Back (P : Program) (main : Bool) (Stop : Cx → Goroutine → World → Prop) (fr : Frame) (cs : List Frame) (c : Cx) (w : World) : AEnd → Prop
  | .ret v => ∀ V, VR c v V → Go' P main Stop c (G (fr.finish V) cs) w
  | .panic v => ∀ V, VR c v V → Go' P main Stop c (G (fr.raise [{ v := V, recovered := false }]) cs) w

/-- The temporaries of a round. -/
def roundTmps (r : Loop) (vargs : Array Value) : Array Value := (r.params.zip vargs).foldl (fun tmps (t, a) => tmps.setIfInBounds t a) r.tmps

/-- Where a loop's block lies. -/
def Cx.LoopAt (c : Cx) (w : World) (n : Nm) (l : Nat) (r : Loop) : Prop := n.gen = 0 ∧ (∃ e k, c.own[n.id]? = some e ∧ e.gen = 0 ∧ e.seat = some (l, k)) ∧ c.mine l ∧ w.heap[l]? = some (.loop r)

/-- ████ A contract of a round: the call of 'yield' with these arguments. ████ -/
def YieldA (P : Program) (n : Nm) (args : List AV) (h : List Blk) (Post : AEnd → List Blk → Prop) : Prop :=
  ∀ (main : Bool) (Stop : Cx → Goroutine → World → Prop) (fr : Frame) (cs : List Frame) (c : Cx) (w : World) (vargs : Array Value) (l : Nat) (r : Loop), VRL c args vargs.toList → HR c w h → c.com.todo = [] → c.LoopAt w n l r →
    (∀ e h' c' w', Post e h' → HR c' w' h' → Ext c c' → c'.com.out = c.com.out → c'.com.todo = [] → Back P main Stop fr cs c' w' e) →
    Go' P main Stop c (G (Frame.round l r.fn (roundTmps r vargs) r.assign r.body .normal) (fr :: cs)) w

theorem YieldA.mono {P : Program} {n : Nm} {args : List AV} {h : List Blk} {Post Post' : AEnd → List Blk → Prop} (x : YieldA P n args h Post) (hp : ∀ e h, Post e h → Post' e h) : YieldA P n args h Post' :=
  fun main Stop fr cs c w vargs l r h1 h2 h3 h4 h5 => x main Stop fr cs c w vargs l r h1 h2 h3 h4 fun e h' c' w' q => h5 e h' c' w' (hp _ _ q)

section
variable {P : Program} {fk : FK} {Q : AExit → AS → Prop} {s : AS} {ops : Array Oper} {i : Nat} {rest : List Nat} {o : Oper}

theorem HR.loopAt {c : Cx} {w : World} {h : List Blk} (x : HR c w h) {n : Nm} {st : LoopState} {pend : Option Code} {fn : FuncId} {slots : List AV} {params : Array Tmp} {assign body : Code} (hb : h[n.id]? = some (.loop st pend fn slots params assign body)) (hg : n.gen = 0) :
    ∃ l r, c.LoopAt w n l r ∧ r.state = st ∧ r.pending = pend ∧ r.fn = fn ∧ r.params = params ∧ r.assign = assign ∧ r.body = body ∧ VRL c slots r.tmps.toList := by
  have hlt : n.id < c.own.length := by rw [← x.len]; exact (List.getElem?_eq_some_iff.1 hb).1
  have he : c.own[n.id]? = some c.own[n.id] := by simp [hlt]
  obtain ⟨h0, b, k, tm, d, h1, h2, h3, h4⟩ := x.blk _ _ _ he hb
  exact ⟨b, _, ⟨hg, ⟨_, k, he, h0, h1⟩, h2, h3⟩, rfl, rfl, rfl, rfl, rfl, rfl, h4⟩

/-- ████ A call of 'yield'. ████ -/
theorem WPI.callY {cl : Go.Call} {f : Operand} {n : Nm} {st : LoopState} {pend : Option Code} {fn : FuncId} {slots : List AV} {params : Array Tmp} {assign body : Code} (ho : ops[i]? = some o) (hw : ∀ c tmps, VRL c s.sl tmps.toList → Region.wanted o (yielded ops tmps) = true) (hop : o.op = .call cl) (hcl : cl.callee = .value f)
    (hfv : evA s.sl f = .yield n) (hb : s.hp[n.id]? = some (.loop st pend fn slots params assign body)) (hg : n.gen = 0) (hlen : cl.args.size = params.size) (hgt : s.gh.todo = [])
    (h : YieldA P n (cl.args.toList.map (evA s.sl)) s.hp (callQ P fk ops rest o Q s)) : WPI P fk [.inRegion ops (i :: rest)] Q s := by
  intro main Stop b k cs base c w tmps ds h1 h2 h3 h4
  refine Go'.of_step rfl fun w1 r => ?_
  have h3' := h3.rely r
  have htodo : c.com.todo = [] := by have := h3.gh.todo; rw [hgt] at this; exact this
  rw [List.singleton_append, stepG_opA ho (hw c tmps h3.sl) (by rw [hop]; rfl)]
  generalize hfr : at' b tmps ds (.inRegion ops (i :: rest) :: k) = fr
  have hρ : ∀ x, VR c (evA s.sl x) (fr.eval x) := fun x => by rw [← hfr]; exact VR_evA h3.sl b ds _ x
  obtain ⟨l, lr, hat, e1, e2, e3, e4, e5, e6, e7⟩ := h3'.hp.loopAt hb hg
  have hfx := hρ f
  rw [hfv] at hfx
  have hF : fr.eval f = .func (.yield l) #[] #[] := by
    obtain ⟨_, hx⟩ := hfx
    obtain ⟨_, ⟨e, k', he, hge, hse⟩, _⟩ := hat
    obtain ⟨e', he', _, hS⟩ := hx
    rw [he] at he'
    cases he'
    obtain ⟨b', k'', hs, hv⟩ := hS (by rw [hg, hge])
    rw [hse] at hs
    cases hs
    exact hv
  have hok : Ok P c w1.heap.size (execOp fr.eval o) w1 (fun q => q = .ok (.round l lr.fn (roundTmps lr (cl.args.map fr.eval)) lr.assign lr.body) w1) := by
    simp only [execOp, hop, resolve, hcl, hF, Deferred.ofValue]
    show Ok P c w1.heap.size (Instr.yield l (#[] ++ cl.args.map fr.eval)) w1 _
    unfold Instr.yield Instr.getLoop
    refine Ok.then (a := lr) ?_ ?_
    · refine Ok.then (a := .loop lr) ⟨.inl hat.2.2.1, .loop lr, hat.2.2.2, trivial, rfl, rfl⟩ ?_
      exact ok_pure rfl
    · have hsz : ¬ (#[] ++ cl.args.map fr.eval).size ≠ lr.params.size := by simp [e4, hlen]
      rw [if_neg hsz]
      simp only [Array.empty_append]
      exact ok_pure rfl
  obtain ⟨q, ev, kp⟩ := Ok.spec #[] hok (Nat.le_refl _)
  rw [q] at ev
  have hkind : (fr.kind == CallKind.early) = false := by rw [← hfr]; simpa [at'] using h2
  have hstep : stepG.apply P true fr cs none (execOp fr.eval o) w1 = .go (G (Frame.round l lr.fn (roundTmps lr (cl.args.map fr.eval)) lr.assign lr.body .normal) (fr :: cs)) w1 (seen P fr.fn ((execOp fr.eval o).events P w1 #[])) := by
    simp [stepG.apply, q, hkind, GStep.after, G]
  refine ⟨_, w1, _, c, hstep, rfl, ⟨.refl _ _ _, fun _ h => .inl h, fun _ _ h => .inl h, fun _ _ h => h, fun x hx => ?_, fun _ h => .inl h, fun _ h => .inl h, fun _ h => h, rfl, rfl, rfl⟩, ?_⟩
  · rcases ev x (mem_seen hx) with h | h
    · simp at h
    · exact h
  refine h main Stop fr cs c w1 _ l lr (by simp only [Array.toList_map]; exact VRL_map hρ _) h3'.hp htodo hat fun e h' c' w' q hH hx ho1 ho2 => ?_
  cases e with
  | ret v =>
    intro V hV
    have hfin : fr.finish V = at' b (putV tmps o.dst V) ds (.inRegion ops rest :: k) := by rw [← hfr, finish_at', ho]; rfl
    rw [hfin]
    exact q main Stop b k cs base c' w' _ ds h1 h2 ⟨(h3.sl.ext hx).put o.dst hV, h3.df.ext hx, hH, h3.gh.ext hx ho1 (by rw [ho2, htodo])⟩ fun e s' c2 w2 t2 d2 q r2 y => h4 e s' c2 w2 t2 d2 q r2 ((hx.toT _).transT y)
  | panic v =>
    intro V hV
    have hra : fr.raise [{ v := V, recovered := false }] = { at' b tmps ds (.inRegion ops (i :: rest) :: k) with mode := .panicking [{ v := V, recovered := false }] } := by rw [← hfr]; rfl
    rw [hra]
    exact h4 (.panic v) _ c' w' tmps ds q ⟨h3.sl.ext hx, h3.df.ext hx, hH, h3.gh.ext hx ho1 (by rw [ho2, htodo])⟩ (hx.toT _) V _ hV
end

end Go.Mac

/-! MacM -/
/- MacM: the precondition of a piece of code as a formula that can be reckoned ('wp'), and that it suffices. No program is in sight. -/
namespace Go.Mac
open Go Go.Conc

def pickA (t : Bool) : AV → AV → AV
  | .bool x, .bool y => .bool (if t then x else y)
  | a, b => if t then a else b

def isIntD : TypeDesc → Bool
  | .int _ => true
  | _ => false
def isIfaceD : TypeDesc → Bool
  | .interface _ => true
  | _ => false

def buildW (P : Program) (t : TypeId) (parts : List (Nat × AV)) (h : List Blk) (K : AV → List Blk → Prop) : Prop :=
  match tyT P t with
  | some f => match f.d, f.ze with
    | .struct fs, some z => match placesA P fs.toList with
      | some pl => match fillA (pl[·]?) z parts with
        | some out => K (.agg out) h
        | none => False
      | none => False
    | .array _ te, some z => match tyT P te with
      | some fe => match fillA (fun i => some (i * fe.sz, fe.sz)) z parts with
        | some out => K (.agg out) h
        | none => False
      | none => False
    | _, _ => False
  | none => False

def buildSliceW (P : Program) (t : TypeId) (len : Nat) (parts : List (Nat × AV)) (h : List Blk) (K : AV → List Blk → Prop) : Prop :=
  match tyT P t with
  | some f => match f.d with
    | .slice te => match tyT P te with
      | some fe => match fe.ze with
        | some z => match fillA (fun i => some (i * fe.sz, fe.sz)) (if len * fe.sz = 0 then [] else zeroRow z (len * fe.sz)) parts with
          | some out => len * fe.sz ≤ 16777216 ∧ out.length = len * fe.sz ∧ K (.sl ⟨h.length, 0⟩ fe.sz 0 len) (h ++ [.cells 0 out])
          | none => False
        | none => False
      | none => False
    | _ => False
  | none => False

def loadW (P : Program) (t : TypeId) (a : AV) (h : List Blk) (K : AV → List Blk → Prop) : Prop :=
  match tyT P t, cellsAt h a with
  | some f, some cs => (if aggD f.d then f.sz else 1) ≤ cs.length ∧ K (readA f cs) h
  | _, _ => False

def storeW (P : Program) (t : TypeId) (a v : AV) (h : List Blk) (K : AV → List Blk → Prop) : Prop :=
  match a, tyT P t, valCells v with
  | .ptr n off, some f, some vs => match h[n.id]? with
    | some (.cells g cs) => g = n.gen ∧ vs.all leafA = true ∧ vs.length = f.sz ∧ off + vs.length ≤ cs.length ∧ K (.tup []) (h.set n.id (.cells g (setMany cs off vs)))
    | _ => False
  | _, _, _ => False

def nilCheckW (a : AV) (h : List Blk) (K : AV → List Blk → Prop) : Prop :=
  match a with
  | .ptr .. | .pptr .. => K a h
  | .fn (.func _) _ _ => K a h
  | .iface _ _ => K a h
  | .yield _ => K a h
  | _ => False

def binW (P : Program) (op : BinOp) (t : TypeId) (x y : AV) (h : List Blk) (K : AV → List Blk → Prop) : Prop :=
  match x, y with
  | .int k a, .int k' b => match op with
    | .shl | .shr => match shInt op k a b with
      | some v => ¬ b < 0 ∧ K v h
      | none => False
    | .quo | .rem => match divInt op k a b with
      | some v => k = k' ∧ b ≠ 0 ∧ K v h
      | none => False
    | _ => match binInt op k a b with
      | some v => k = k' ∧ K v h
      | none => False
  | .str a, .str b => match binStr op a b with
    | some v => a.length + b.length ≤ 9223372036854775807 ∧ K v h
    | none => False
  | .bool a, .bool b => match tyT P t, op with
    | some f, .eql => f.d = .bool ∧ K (.bool (a == b)) h
    | some f, .neq => f.d = .bool ∧ K (.bool (a != b)) h
    | _, _ => False
  | .agg a, .agg b => P.eqGuardType P.depth t = false ∧ match eqA P 6 t (.agg a) (.agg b), op with
    | some r, .eql => K (.bool r) h
    | some r, .neq => K (.bool (!r)) h
    | _, _ => False
  | _, _ => False

def unW (op : UnOp) (x : AV) (h : List Blk) (K : AV → List Blk → Prop) : Prop :=
  match op, x with
  | .not, .bool b => K (.bool !b) h
  | .neg, .int k n => K (.int k (k.wrap (0 - n))) h
  | _, _ => False

/-- A conversion of bytes to a string. -/
def convBytesW (P : Program) (d : TypeDesc) (x : AV) (h : List Blk) (K : AV → List Blk → Prop) : Prop :=
  match d with
  | .slice e => match tyT P e with
    | some fe => match srcA h 1 x with
      | some (cs, m) => match bytesA cs with
        | some bs => fe.d = .int .u8 ∧ cs.length = m ∧ K (.str bs) h
        | none => False
      | none => False
    | none => False
  | _ => False

def convW (P : Program) (s d : TypeId) (x : AV) (h : List Blk) (K : AV → List Blk → Prop) : Prop :=
  match tyT P s, tyT P d with
  | some fs, some fd => match fd.d, x with
    | .int k, .int _ n => K (.int k (k.wrap n)) h
    | .string, .str l => K (.str l) h
    | .string, .sl n sz off len => convBytesW P fs.d (.sl n sz off len) h K
    | .string, .psl l len => convBytesW P fs.d (.psl l len) h K
    | _, _ => False
  | _, _ => False

def fieldAddrW (P : Program) (t : TypeId) (a : AV) (i : Nat) (h : List Blk) (K : AV → List Blk → Prop) : Prop :=
  match tyT P t with
  | some f => match f.d with
    | .struct fs => match fs[i]? with
      | some fd => match tyT P fd.type, addA a fd.offset with
        | some ff, some a' => ff.sz ≠ 0 ∧ reachA a fd.offset ∧ K a' h
        | _, _ => False
      | none => False
    | _ => False
  | none => False

def fieldW (P : Program) (t : TypeId) (x : AV) (i : Nat) (h : List Blk) (K : AV → List Blk → Prop) : Prop :=
  match tyT P t, x with
  | some f, .agg cs => match f.d with
    | .struct fs => match fs[i]? with
      | some fd => match tyT P fd.type with
        | some ff => (aggD ff.d = false → fd.offset < cs.length) ∧ K (partA ff cs fd.offset) h
        | none => False
      | none => False
    | _ => False
  | _, _ => False

def indexAddrW (P : Program) (t : TypeId) (x ix : AV) (h : List Blk) (K : AV → List Blk → Prop) : Prop :=
  match tyT P t, ix with
  | some f, .int _ i => match f.d with
    | .slice e => match tyT P e, x with
      | some fe, .sl n sz off len => sz = fe.sz ∧ 0 ≤ i ∧ i < len ∧ (∃ cs, h[n.id]? = some (.cells n.gen cs)) ∧ K (.ptr n (off + i.toNat * fe.sz)) h
      | some fe, .psl cells len => 0 ≤ i ∧ i < len ∧ i.toNat * fe.sz ≤ cells.length ∧ K (.pptr (cells.drop (i.toNat * fe.sz))) h
      | _, _ => False
    | .array len e => match tyT P e with
      | some fe => match addA x (i.toNat * fe.sz) with
        | some a' => 0 ≤ i ∧ i < len ∧ reachA x (i.toNat * fe.sz) ∧ K a' h
        | none => False
      | none => False
    | _ => False
  | _, _ => False

def indexW (P : Program) (t : TypeId) (x ix : AV) (h : List Blk) (K : AV → List Blk → Prop) : Prop :=
  match tyT P t, ix, x with
  | some f, .int _ i, .agg cs => match f.d with
    | .array len e => match tyT P e with
      | some fe => 0 ≤ i ∧ i < len ∧ (aggD fe.d = false → i.toNat * fe.sz < cs.length) ∧ K (partA fe cs (i.toNat * fe.sz)) h
      | none => False
    | _ => False
  | some f, .int _ i, .str s => f.d = .string ∧ 0 ≤ i ∧ ∃ b, s[i.toNat]? = some b ∧ K (.int .u8 b.toNat) h
  | _, _, _ => False

def sliceW (P : Program) (t : TypeId) (x : AV) (lo hi : Option AV) (h : List Blk) (K : AV → List Blk → Prop) : Prop :=
  match tyT P t with
  | some f => match f.d, x with
    | .string, .str s => match loB lo, hiB s.length hi with
      | some l, some u => 0 ≤ l ∧ l ≤ u ∧ u ≤ s.length ∧ K (.str ((s.drop l.toNat).take (u.toNat - l.toNat))) h
      | _, _ => False
    | .slice e, .psl cells len => match tyT P e, loB lo, hiB len hi with
      | some fe, some l, some u => 0 ≤ l ∧ l ≤ u ∧ u ≤ len ∧ len * fe.sz ≤ cells.length ∧ K (.psl ((cells.drop (l.toNat * fe.sz)).take ((u.toNat - l.toNat) * fe.sz)) (u.toNat - l.toNat)) h
      | _, _, _ => False
    | .slice e, .sl n sz off len => match tyT P e, loB lo, hiB len hi with
      | some fe, some l, some u => sz = fe.sz ∧ 0 ≤ l ∧ l ≤ u ∧ u ≤ len ∧ (l < len ∨ l = 0) ∧ (∃ cs, h[n.id]? = some (.cells n.gen cs)) ∧ K (.sl n fe.sz (off + l.toNat * fe.sz) (u.toNat - l.toNat)) h
      | _, _, _ => False
    | _, _ => False
  | none => False

def slice3W (P : Program) (t : TypeId) (x : AV) (lo hi : Option AV) (mx : AV) (h : List Blk) (K : AV → List Blk → Prop) : Prop :=
  match tyT P t with
  | some f => match f.d, x with
    | .slice e, .psl cells len => match tyT P e, loB lo, hi, mx with
      | some fe, some l, some (.int _ u), .int _ m => 0 ≤ l ∧ l ≤ u ∧ u ≤ m ∧ m ≤ len ∧ len * fe.sz ≤ cells.length ∧ K (.psl ((cells.drop (l.toNat * fe.sz)).take ((u.toNat - l.toNat) * fe.sz)) (u.toNat - l.toNat)) h
      | _, _, _, _ => False
    | _, _ => False
  | none => False

def lookupW (P : Program) (t : TypeId) (x k : AV) (cok : Bool) (h : List Blk) (K : AV → List Blk → Prop) : Prop :=
  match tyT P t with
  | some f => match f.d with
    | .map kt et => match tyT P kt, tyT P et, mapOf h x with
      | some _, some fe, some (ks, vs) => eqA P 6 kt k k = some true ∧ zeroFits P et = true ∧ match fe.ze, findA P kt k ks 0 with
        | some z, some r => K (let v := match r with | some j => vs.getD j .any | none => zeroA fe z; if cok then .tup [v, .bool r.isSome] else v) h
        | _, _ => False
      | _, _, _ => False
    | _ => False
  | none => False

def mapUpdateW (P : Program) (t : TypeId) (x k v : AV) (h : List Blk) (K : AV → List Blk → Prop) : Prop :=
  match tyT P t, x with
  | some f, .map n => match f.d, h[n.id]? with
    | .map kt _, some (.map ks vs) => match tyT P kt, findA P kt k ks 0 with
      | some _, some r => n.gen = 0 ∧ eqA P 6 kt k k = some true ∧ match r with
        | some j => ks[j]? = some k ∧ K (.tup []) (h.set n.id (.map ks (vs.set j v)))
        | none => K (.tup []) (h.set n.id (.map (ks ++ [k]) (vs ++ [v])))
      | _, _ => False
    | _, _ => False
  | _, _ => False

def assertW (P : Program) (at_ : TypeId) (x : AV) (h : List Blk) (K : AV → List Blk → Prop) : Prop :=
  match tyT P at_ with
  | some f => isIfaceD f.d = false ∧ match x with
    | .iface t v => (t = at_ → K (.tup [v, .bool true]) h) ∧ (t ≠ at_ → match f.ze with
      | some z => zeroFits P at_ = true ∧ K (.tup [zeroA f z, .bool false]) h
      | none => False)
    | .niliface => match f.ze with
      | some z => zeroFits P at_ = true ∧ K (.tup [zeroA f z, .bool false]) h
      | none => False
    | _ => False
  | none => False

def appendW (P : Program) (st xt : TypeId) (d a : AV) (h : List Blk) (K : AV → List Blk → Prop) : Prop :=
  match d, tyT P st, tyT P xt with
  | .sl n sz 0 len, some f, some fx => match f.d, h[n.id]? with
    | .slice e, some (.cells g cs) => match tyT P e with
      | some fe => match fe.ze, srcA h fe.sz a with
        | some z, some (new, m) => isIntD fx.d = false ∧ sz = fe.sz ∧ g = n.gen ∧ z.length = fe.sz ∧ cs.length = len * fe.sz ∧ new.length = m * fe.sz ∧ (∀ s, a = .str s → fe.sz = 1) ∧ new.all leafA = true ∧ len + m ≤ 4294967296 ∧ fe.bytes ≤ 4096 ∧
            K (.sl ⟨n.id, n.gen + 1⟩ fe.sz 0 (len + m)) (h.set n.id (.cells (n.gen + 1) (cs ++ new)))
        | _, _ => False
      | none => False
    | _, _ => False
  | _, _, _ => False

def lenW (P : Program) (t : TypeId) (x : AV) (h : List Blk) (K : AV → List Blk → Prop) : Prop :=
  match tyT P t with
  | some f => match f.d, x with
    | .string, .str s => K (.int .i64 s.length) h
    | .slice _, .psl _ len => K (.int .i64 len) h
    | .slice _, .nilsl => K (.int .i64 0) h
    | .slice _, .sl n _ _ len => (∃ cs, h[n.id]? = some (.cells n.gen cs)) ∧ K (.int .i64 len) h
    | _, _ => False
  | none => False

/-- The numbers in a list of values, all of one kind. -/
def intsOf (k : IntKind) : List AV → Option (List Int)
  | [] => some []
  | .int k' n :: l => if k' = k then (intsOf k l).map (n :: ·) else none
  | _ :: _ => none

def builtinW (P : Program) (b : Builtin) (ats : List TypeId) (args : List AV) (h : List Blk) (K : AV → List Blk → Prop) : Prop :=
  match b, ats, args with
  | .len, [t], [x] => lenW P t x h K
  | .append, [st, xt], [d, a] => appendW P st xt d a h K
  | .max, _, .int k a :: l => match intsOf k l with
    | some ns => K (.int k (ns.foldl (fun x y => if y > x then y else x) a)) h
    | none => False
  | .min, _, .int k a :: l => match intsOf k l with
    | some ns => K (.int k (ns.foldl (fun x y => if y < x then y else x) a)) h
    | none => False
  | .copy, [st, _], [.sl n sz off len, a] => match tyT P st with
    | some f => match f.d, h[n.id]? with
      | .slice e, some (.cells g cs) => match tyT P e with
        | some fe => match srcA h fe.sz a with
          | some (src, m) => sz = fe.sz ∧ g = n.gen ∧ off + len * fe.sz ≤ cs.length ∧ src.length = m * fe.sz ∧ (∀ s, a = .str s → fe.sz = 1) ∧ src.all leafA = true ∧
              K (.int .i64 (Nat.min m len)) (h.set n.id (.cells n.gen (setMany cs off (src.take (Nat.min m len * fe.sz)))))
          | none => False
        | none => False
      | _, _ => False
    | none => False
  | .clear, [st], [.sl n sz off len] => match tyT P st with
    | some f => match f.d, h[n.id]? with
      | .slice e, some (.cells g cs) => match tyT P e with
        | some fe => match fe.ze with
          | some z => sz = fe.sz ∧ g = n.gen ∧ z.length = fe.sz ∧ z.all leafA = true ∧ off + len * fe.sz ≤ cs.length ∧ K (.tup []) (h.set n.id (.cells n.gen (setMany cs off (zeroRow z (len * fe.sz)))))
          | none => False
        | none => False
      | _, _ => False
    | none => False
  | _, _, _ => False

/-- ████ The precondition of an operation that calls no Go function. ████ -/
def opW (P : Program) (op : Op) (ρ : Operand → AV) (h : List Blk) (K : AV → List Blk → Prop) : Prop :=
  match op with
  | .move x | .assign x => K (ρ x) h
  | .pick x a b => match ρ x with
    | .bool t => K (pickA t (ρ a) (ρ b)) h
    | _ => False
  | .alloc e => match tyT P e with
    | some f => match f.ze with
      | some z => K (.ptr ⟨h.length, 0⟩ 0) (h ++ [.cells 0 z])
      | none => False
    | none => False
  | .box _ x => match valCells (ρ x) with
    | some cs => K (.ptr ⟨h.length, 0⟩ 0) (h ++ [.cells 0 cs])
    | none => False
  | .build t parts => buildW P t (parts.toList.map fun p => (p.1, ρ p.2)) h K
  | .buildSlice t len parts => buildSliceW P t len (parts.toList.map fun p => (p.1, ρ p.2)) h K
  | .load t a => loadW P t (ρ a) h K
  | .store t a v => storeW P t (ρ a) (ρ v) h K
  | .nilCheck x => nilCheckW (ρ x) h K
  | .binOp op t x y _ => binW P op t (ρ x) (ρ y) h K
  | .unOp op _ x => unW op (ρ x) h K
  | .convert s d x => convW P s d (ρ x) h K
  | .makeInterface t x => match tyT P t with
    | some f => isIfaceD f.d = false ∧ K (.iface t (ρ x)) h
    | none => False
  | .makeFunc fn first cap => K (.fn fn (first.toList.map ρ) (cap.toList.map ρ)) h
  | .makeMap _ none => K (.map ⟨h.length, 0⟩) (h ++ [.map [] []])
  | .makeSlice t l cp => match tyT P t, ρ l, ρ cp with
    | some f, .int _ n, .int _ n' => match f.d with
      | .slice e => match tyT P e with
        | some fe => match fe.ze with
          | some z => n' = n ∧ 0 ≤ n ∧ fe.bytes * n ≤ 281474976710656 ∧ n ≤ 281474976710656 ∧ K (.sl ⟨h.length, 0⟩ fe.sz 0 n.toNat) (h ++ [.cells 0 (if n.toNat * fe.sz = 0 then [] else zeroRow z (n.toNat * fe.sz))])
          | none => False
        | none => False
      | _ => False
    | _, _, _ => False
  | .slice t x lo hi none => sliceW P t (ρ x) (lo.map ρ) (hi.map ρ) h K
  | .slice t x lo hi (some mx) => slice3W P t (ρ x) (lo.map ρ) (hi.map ρ) (ρ mx) h K
  | .fieldAddr t a i => fieldAddrW P t (ρ a) i h K
  | .field t x i => fieldW P t (ρ x) i h K
  | .indexAddr t x i => indexAddrW P t (ρ x) (ρ i) h K
  | .index t x i => indexW P t (ρ x) (ρ i) h K
  | .lookup t x k cok => lookupW P t (ρ x) (ρ k) cok h K
  | .mapUpdate t x k v | .insert t x k v => mapUpdateW P t (ρ x) (ρ k) (ρ v) h K
  | .range t x => match tyT P t, ρ x with
    | some f, .str s => f.d = .string ∧ K (.ptr ⟨h.length, 0⟩ 0) (h ++ [.iter s 0])
    | _, _ => False
  | .next x true => match ρ x with
    | .ptr n 0 => match h[n.id]? with
      | some (.iter s pos) => n.gen = 0 ∧ (pos < s.length → K (.tup [.bool true, .int .i64 pos, .int .i32 (Utf8.decode ⟨s.toArray⟩ pos).1]) (h.set n.id (.iter s (pos + (Utf8.decode ⟨s.toArray⟩ pos).2)))) ∧
          (¬ pos < s.length → K (.tup [.bool false]) h)
      | _ => False
    | _ => False
  | .typeAssert x _ at_ true => assertW P at_ (ρ x) h K
  | .extract x i => match ρ x with
    | .tup vs => match vs[i]? with
      | some v => K v h
      | none => False
    | _ => False
  | .call cl => match cl.callee with
    | .builtin b => builtinW P b cl.argTypes.toList (cl.args.toList.map ρ) h K
    | _ => False
  | _ => False

section
variable {P : Program} {c : Cx} {w : World} {h : List Blk} {K : AV → List Blk → Prop}

theorem VRP_map {ρA : Operand → AV} {ρ : Operand → Value} (hρ : ∀ x, VR c (ρA x) (ρ x)) : ∀ l : List (Nat × Operand), VRP c (l.map fun p => (p.1, ρA p.2)) (l.map fun p => (p.1, ρ p.2))
  | [] => rfl
  | p :: l => ⟨_, _, rfl, hρ p.2, VRP_map hρ l⟩

theorem VRL_mapO {ρA : Operand → AV} {ρ : Operand → Value} (hρ : ∀ x, VR c (ρA x) (ρ x)) : ∀ l : List Operand, VRL c (l.map ρA) (l.map ρ)
  | [] => rfl
  | p :: l => ⟨_, _, rfl, hρ p, VRL_mapO hρ l⟩

theorem VR_pick {t : Bool} {a b : AV} {A B : Value} (ha : VR c a A) (hb : VR c b B) : VR c (pickA t a b) (if t then A else B) := by
  have key : VR c (if t then a else b) (if t then A else B) := by cases t <;> simpa
  cases a <;> cases b <;> first | exact key | (cases ha; cases hb; cases t <;> rfl)

theorem ints_ok {k : IntKind} : ∀ {l : List AV} {L : List Value} {ns : List Int}, intsOf k l = some ns → VRL c l L → L = ns.map (Value.int k)
  | [], _, _, h, hv => by cases h; exact hv
  | a :: l, _, ns, h, hv => by
    obtain ⟨v, vs, rfl, h1, h2⟩ := hv
    cases a <;> simp only [intsOf, reduceCtorEq] at h
    split at h
    · rename_i hk
      subst hk
      cases hl : intsOf _ l with
      | none => rw [hl] at h; cases h
      | some ns' =>
        rw [hl] at h
        cases h
        rw [ints_ok hl h2]
        cases h1
        rfl
    · cases h

theorem opt_map {ρA : Operand → AV} {ρ : Operand → Value} (hρ : ∀ x, VR c (ρA x) (ρ x)) (o : Option Operand) : (∀ a, o.map ρA = some a → ∃ V, o.map ρ = some V ∧ VR c a V) ∧ (o.map ρA = none → o.map ρ = none) := by
  cases o with
  | none => exact ⟨(fun a h => by cases h), (fun _ => rfl)⟩
  | some x => exact ⟨(fun a h => by cases h; exact ⟨_, rfl, hρ x⟩), (fun h => by cases h)⟩

theorem opW_ok {o : Oper} {ρA : Operand → AV} {ρ : Operand → Value} (hw : opW P o.op ρA h K) (hρ : ∀ x, VR c (ρA x) (ρ x)) (hH : HR c w h) : OpOk P (execOp ρ o) K c w := by
  obtain ⟨dst, op, ty, pos, after, guard⟩ := o
  simp only [execOp]
  cases op <;> simp only [opW] at hw <;> simp only []
  case move x => exact OpOk.pure (hρ x) hH hw
  case assign x => exact OpOk.pure (hρ x) hH hw
  case pick x a b =>
    have hx := hρ x
    split at hw
    · rename_i t e
      rw [e] at hx
      have hx' : ρ x = .bool t := hx
      rw [hx']
      refine Ok.then (a := t) rfl ?_
      exact OpOk.pure (VR_pick (hρ a) (hρ b)) hH hw
    · exact hw.elim
  case alloc e =>
    split at hw
    · rename_i f hf
      split at hw
      · rename_i z hz
        exact OpOk.value (opk_alloc hf hz hH hw)
      · exact hw.elim
    · exact hw.elim
  case box e x =>
    split at hw
    · rename_i cs hc
      exact OpOk.value (opk_box hc (hρ x) hH hw)
    · exact hw.elim
  case build t parts =>
    have hp := VRP_map hρ parts.toList
    have hp' : VRP c (parts.toList.map fun p => (p.1, ρA p.2)) (parts.map fun x => (x.1, ρ x.2)).toList := by simpa using hp
    unfold buildW at hw
    split at hw
    · rename_i f hf
      split at hw
      · rename_i fs z hd hz
        split at hw
        · rename_i pl hpl
          split at hw
          · rename_i out ho
            exact OpOk.value (opk_buildStruct hf hd hz hpl ho hp' hH hw)
          · exact hw.elim
        · exact hw.elim
      · rename_i len te z hd hz
        split at hw
        · rename_i fe hfe
          split at hw
          · rename_i out ho
            exact OpOk.value (opk_buildArr hf hd hz hfe ho hp' hH hw)
          · exact hw.elim
        · exact hw.elim
      · exact hw.elim
    · exact hw.elim
  case buildSlice t len parts =>
    have hp := VRP_map hρ parts.toList
    have hp' : VRP c (parts.toList.map fun p => (p.1, ρA p.2)) (parts.map fun x => (x.1, ρ x.2)).toList := by simpa using hp
    unfold buildSliceW at hw
    split at hw
    · rename_i f hf
      split at hw
      · rename_i te hd
        split at hw
        · rename_i fe hfe
          split at hw
          · rename_i z hz
            split at hw
            · rename_i out ho
              exact OpOk.value (opk_buildSlice hf hd hfe hz hw.1 ho hw.2.1 hp' hH hw.2.2)
            · exact hw.elim
          · exact hw.elim
        · exact hw.elim
      · exact hw.elim
    · exact hw.elim
  case load t a =>
    unfold loadW at hw
    split at hw
    · rename_i f cs hf hc
      exact OpOk.value (opk_load hf hc hw.1 (hρ a) hH hw.2)
    · exact hw.elim
  case store t a v =>
    have ha := hρ a
    unfold storeW at hw
    split at hw
    · rename_i n off f vs e hf hvs
      rw [e] at ha
      split at hw
      · rename_i g cs hb
        obtain ⟨rfl, h1, h2, h3, h4⟩ := hw
        exact OpOk.unit (opk_store hf hb hvs h1 h2 h3 ha (hρ v) hH h4)
      · exact hw.elim
    · exact hw.elim
  case nilCheck x =>
    have hx := hρ x
    unfold nilCheckW at hw
    split at hw
    · rename_i n off e
      rw [e] at hx hw
      obtain ⟨⟨ad, hV⟩, hx2⟩ := hx
      have hx3 : VR c (.ptr n off) (.pointer (some ad)) := by rw [← hV]; exact ⟨⟨ad, hV⟩, hx2⟩
      rw [hV]
      exact OpOk.pure hx3 hH hw
    · rename_i cs e
      rw [e] at hx hw
      have hx3 := hx
      obtain ⟨b, o, arr, el, fz, l, hV, _⟩ := hx
      rw [hV] at hx3 ⊢
      exact OpOk.pure hx3 hH hw
    · rename_i f a b e
      rw [e] at hx hw
      have hx3 := hx
      obtain ⟨l1, l2, hV, _⟩ := hx
      rw [hV] at hx3 ⊢
      exact OpOk.pure hx3 hH hw
    · rename_i t v e
      rw [e] at hx hw
      have hx3 := hx
      obtain ⟨y, hV, _⟩ := hx
      rw [hV] at hx3 ⊢
      exact OpOk.pure hx3 hH hw
    · rename_i n e
      rw [e] at hx hw
      obtain ⟨⟨l, hV⟩, hx2⟩ := hx
      have hx3 : VR c (.yield n) (.func (.yield l) #[] #[]) := by rw [← hV]; exact ⟨⟨l, hV⟩, hx2⟩
      rw [hV]
      exact OpOk.pure hx3 hH hw
    · exact hw.elim
  case binOp op t x y u =>
    have hx := hρ x
    have hy := hρ y
    unfold binW at hw
    split at hw
    · rename_i k a k' b e1 e2
      rw [e1] at hx
      rw [e2] at hy
      have hx' : ρ x = .int k a := hx
      have hy' : ρ y = .int k' b := hy
      rw [hx', hy']
      split at hw
      · split at hw
        · rename_i v hv; exact OpOk.value (opk_shInt hv hw.1 hH hw.2)
        · exact hw.elim
      · split at hw
        · rename_i v hv; exact OpOk.value (opk_shInt hv hw.1 hH hw.2)
        · exact hw.elim
      · split at hw
        · rename_i v hv; obtain ⟨rfl, h0, hK⟩ := hw; exact OpOk.value (opk_divInt hv h0 hH hK)
        · exact hw.elim
      · split at hw
        · rename_i v hv; obtain ⟨rfl, h0, hK⟩ := hw; exact OpOk.value (opk_divInt hv h0 hH hK)
        · exact hw.elim
      · split at hw
        · rename_i v hv; obtain ⟨rfl, hK⟩ := hw; exact OpOk.value (opk_binInt hv hH hK)
        · exact hw.elim
    · rename_i a b e1 e2
      rw [e1] at hx
      rw [e2] at hy
      have hx' : ρ x = .string ⟨a.toArray⟩ := hx
      have hy' : ρ y = .string ⟨b.toArray⟩ := hy
      rw [hx', hy']
      split at hw
      · rename_i v hv; exact OpOk.value (opk_binStr hv hw.1 hH hw.2)
      · exact hw.elim
    · rename_i a b e1 e2
      rw [e1] at hx
      rw [e2] at hy
      have hx' : ρ x = .bool a := hx
      have hy' : ρ y = .bool b := hy
      rw [hx', hy']
      split at hw
      · rename_i f hf; exact OpOk.value (opk_eqBool hf hw.1 (.inl rfl) hH (by simpa using hw.2))
      · rename_i f hf; exact OpOk.value (opk_eqBool hf hw.1 (.inr rfl) hH (by simpa using hw.2))
      · exact hw.elim
    · rename_i a b e1 e2
      rw [e1] at hx
      rw [e2] at hy
      obtain ⟨hgd, hw⟩ := hw
      obtain ⟨l1, hx', hl1⟩ := hx
      obtain ⟨l2, hy', hl2⟩ := hy
      rw [hx', hy']
      have hgu : ∀ op', op' = .eql ∨ op' = .neq → Ok P c w.heap.size (eqGuard op' t x y (.agg l1.toArray) (.agg l2.toArray)) w (fun r => r = .ok () w) := by
        rintro op' (rfl | rfl)
        · refine Ok.then (a := P) rfl (Ok.then (a := P) rfl ?_)
          rw [hgd]
          exact ok_pure rfl
        · refine Ok.then (a := P) rfl (Ok.then (a := P) rfl ?_)
          rw [hgd]
          exact ok_pure rfl
      split at hw
      · rename_i r hr
        refine OpOk.value (VOk.pure (v := .bool r) ?_ hH hw)
        refine Ok.then (hgu _ (.inl rfl)) ?_
        simp only [binOp, Op.equal, Op.maxDepth]
        exact Ok.then (ok_equalIn 6 (by decide) hr ⟨l1, rfl, hl1⟩ ⟨l2, rfl, hl2⟩) (ok_pure ⟨_, rfl, rfl⟩)
      · rename_i r hr
        refine OpOk.value (VOk.pure (v := .bool !r) ?_ hH hw)
        refine Ok.then (hgu _ (.inr rfl)) ?_
        simp only [binOp, Op.equal, Op.maxDepth]
        exact Ok.then (ok_equalIn 6 (by decide) hr ⟨l1, rfl, hl1⟩ ⟨l2, rfl, hl2⟩) (ok_pure ⟨_, rfl, rfl⟩)
      · exact hw.elim
    · exact hw.elim
  case unOp op t x =>
    have hx := hρ x
    unfold unW at hw
    split at hw
    · rename_i b e; rw [e] at hx; have hx' : ρ x = .bool b := hx; rw [hx']; exact OpOk.value (opk_not hH hw)
    · rename_i k n e; rw [e] at hx; have hx' : ρ x = .int k n := hx; rw [hx']; exact OpOk.value (opk_neg hH hw)
    · exact hw.elim
  case convert s d x =>
    have hx := hρ x
    unfold convW at hw
    split at hw
    · rename_i fs fd hs hd
      split at hw
      · rename_i k k' n hk e; rw [e] at hx; have hx' : ρ x = .int k' n := hx; rw [hx']; exact OpOk.value (opk_convInt hs hd hk hH hw)
      · rename_i l hk e; rw [e] at hx; have hx' : ρ x = .string ⟨l.toArray⟩ := hx; rw [hx']; exact OpOk.value (opk_convStr hs hd hk hH hw)
      · rename_i n sz off len hk e
        rw [e] at hx
        unfold convBytesW at hw
        (repeat' split at hw) <;> first | exact hw.elim | skip
        exact OpOk.value (opk_convBytes hs hd (by assumption) (by assumption) hw.1 hk (.inl ⟨_, _, _, _, rfl⟩) (by assumption) hw.2.1 (by assumption) hx hH hw.2.2)
      · rename_i l len hk e
        rw [e] at hx
        unfold convBytesW at hw
        (repeat' split at hw) <;> first | exact hw.elim | skip
        exact OpOk.value (opk_convBytes hs hd (by assumption) (by assumption) hw.1 hk (.inr ⟨_, _, rfl⟩) (by assumption) hw.2.1 (by assumption) hx hH hw.2.2)
      · exact hw.elim
    · exact hw.elim
  case makeInterface t x =>
    split at hw
    · rename_i f hf
      exact OpOk.value (opk_iface hf (by intro ms e; have := hw.1; rw [e] at this; cases this) (hρ x) hH hw.2)
    · exact hw.elim
  case makeFunc fn first cap =>
    exact OpOk.value (opk_makeFunc (by simpa using VRL_mapO hρ first.toList) (by simpa using VRL_mapO hρ cap.toList) hH hw)
  case makeMap t r =>
    cases r with
    | none => exact OpOk.value (opk_makeMap hH hw)
    | some r => exact hw.elim
  case makeSlice t l cp =>
    have hl := hρ l
    have hc := hρ cp
    split at hw
    · rename_i f k n k' n' hf e1 e2
      rw [e1] at hl
      rw [e2] at hc
      have hl' : ρ l = .int k n := hl
      have hc' : ρ cp = .int k' n' := hc
      rw [hl', hc']
      split at hw
      · rename_i e hd
        split at hw
        · rename_i fe hfe
          split at hw
          · rename_i z hz
            obtain ⟨rfl, h0, h1, h2, hK⟩ := hw
            exact OpOk.value (opk_makeSlice hf hd hfe hz h0 h1 h2 hH hK)
          · exact hw.elim
        · exact hw.elim
      · exact hw.elim
    · exact hw.elim
  case slice t x lo hi mx =>
    cases mx with
    | some mx =>
      have hx := hρ x
      have hm := hρ mx
      obtain ⟨a1, a2⟩ := opt_map hρ lo
      simp only [slice3W] at hw
      split at hw
      · rename_i f hf
        split at hw
        · rename_i e cells len hd ex
          rw [ex] at hx
          split at hw
          · rename_i fe l k1 u k2 m hfe hl hhi hmx
            rw [hmx] at hm
            have hm' : ρ mx = .int k2 m := hm
            cases hi with
            | none => cases hhi
            | some y =>
              simp only [Option.map_some, Option.some.injEq] at hhi
              have hy := hρ y
              rw [hhi] at hy
              have hy' : ρ y = .int k1 u := hy
              simp only [Option.map_some, hm', hy']
              exact OpOk.value (opk_slice3Psl hf hd hfe hl hw.1 hw.2.1 hw.2.2.1 hw.2.2.2.1 hw.2.2.2.2.1 a1 a2 hx hH hw.2.2.2.2.2)
          · exact hw.elim
        · exact hw.elim
      · exact hw.elim
    | none =>
      have hx := hρ x
      obtain ⟨a1, a2⟩ := opt_map hρ lo
      obtain ⟨b1, b2⟩ := opt_map hρ hi
      simp only [sliceW] at hw
      split at hw
      · rename_i f hf
        split at hw
        · rename_i s hd e
          rw [e] at hx
          have hx' : ρ x = .string ⟨s.toArray⟩ := hx
          rw [hx']
          split at hw
          · rename_i l u hl hu
            exact OpOk.value (opk_sliceStr hf hd hl hu hw.1 hw.2.1 hw.2.2.1 a1 a2 b1 b2 hH hw.2.2.2)
          · exact hw.elim
        · rename_i e cells len hd ex
          rw [ex] at hx
          split at hw
          · rename_i fe l u hfe hl hu
            exact OpOk.value (opk_slicePsl hf hd hfe hl hu hw.1 hw.2.1 hw.2.2.1 hw.2.2.2.1 a1 a2 b1 b2 hx hH hw.2.2.2.2)
          · exact hw.elim
        · rename_i e n sz off len hd ex
          rw [ex] at hx
          split at hw
          · rename_i fe l u hfe hl hu
            obtain ⟨rfl, h0, h1, h2, h3, ⟨cs, hcur⟩, hK⟩ := hw
            exact OpOk.value (opk_sliceSl hf hd hfe hcur hl hu h0 h1 h2 h3 a1 a2 b1 b2 hx hH hK)
          · exact hw.elim
        · exact hw.elim
      · exact hw.elim
  case fieldAddr t a i =>
    unfold fieldAddrW at hw
    split at hw
    · rename_i f hf
      split at hw
      · rename_i fs hd
        split at hw
        · rename_i fd hfd
          split at hw
          · rename_i ff a' hff ha
            exact OpOk.value (opk_fieldAddr hf hd hfd hff hw.1 ha hw.2.1 (hρ a) hH hw.2.2)
          · exact hw.elim
        · exact hw.elim
      · exact hw.elim
    · exact hw.elim
  case field t x i =>
    have hx := hρ x
    unfold fieldW at hw
    split at hw
    · rename_i f cs hf e
      rw [e] at hx
      split at hw
      · rename_i fs hd
        split at hw
        · rename_i fd hfd
          split at hw
          · rename_i ff hff
            exact OpOk.value (opk_field hf hd hfd hff hw.1 hx hH hw.2)
          · exact hw.elim
        · exact hw.elim
      · exact hw.elim
    · exact hw.elim
  case indexAddr t x i =>
    have hx := hρ x
    have hi := hρ i
    unfold indexAddrW at hw
    split at hw
    · rename_i f k n hf e
      rw [e] at hi
      have hi' : ρ i = .int k n := hi
      rw [hi']
      split at hw
      · rename_i e hd
        split at hw
        · rename_i fe m sz off len hfe ex
          rw [ex] at hx
          obtain ⟨rfl, h0, h1, hcur, hK⟩ := hw
          exact OpOk.value (opk_indexSl hf hd hfe h0 h1 hcur hx hH hK)
        · rename_i fe cells len hfe ex
          rw [ex] at hx
          exact OpOk.value (opk_indexPsl hf hd hfe hw.1 hw.2.1 hw.2.2.1 hx hH hw.2.2.2)
        · exact hw.elim
      · rename_i len e hd
        split at hw
        · rename_i fe hfe
          split at hw
          · rename_i a' ha
            exact OpOk.value (opk_indexPtr hf hd hfe hw.1 hw.2.1 ha hw.2.2.1 hx hH hw.2.2.2)
          · exact hw.elim
        · exact hw.elim
      · exact hw.elim
    · exact hw.elim
  case index t x i =>
    have hx := hρ x
    have hi := hρ i
    unfold indexW at hw
    split at hw
    · rename_i f k n cs hf e1 e2
      rw [e1] at hi
      rw [e2] at hx
      have hi' : ρ i = .int k n := hi
      rw [hi']
      split at hw
      · rename_i len e hd
        split at hw
        · rename_i fe hfe
          exact OpOk.value (opk_indexArr hf hd hfe hw.1 hw.2.1 hw.2.2.1 hx hH hw.2.2.2)
        · exact hw.elim
      · exact hw.elim
    · rename_i f k n s hf e1 e2
      rw [e1] at hi
      rw [e2] at hx
      have hi' : ρ i = .int k n := hi
      have hx' : ρ x = .string ⟨s.toArray⟩ := hx
      rw [hi', hx']
      obtain ⟨hd, h0, b, hb, hK⟩ := hw
      exact OpOk.value (opk_indexStr hf hd h0 hb hH hK)
    · exact hw.elim
  case lookup t x k cok =>
    unfold lookupW at hw
    split at hw
    · rename_i f hf
      split at hw
      · rename_i kt et hd
        split at hw
        · rename_i fk fe ks vs hk he hm
          obtain ⟨h1, h2, hw⟩ := hw
          split at hw
          · rename_i z r hz hr
            exact OpOk.value (opk_lookup hf hd hk he hz h2 hm h1 hr (hρ x) (hρ k) hH hw)
          · exact hw.elim
        · exact hw.elim
      · exact hw.elim
    · exact hw.elim
  case mapUpdate t x k v =>
    have hx := hρ x
    unfold mapUpdateW at hw
    split at hw
    · rename_i f n hf e
      rw [e] at hx
      split at hw
      · rename_i kt et ks vs hd hb
        split at hw
        · rename_i fk r hk hr
          obtain ⟨h1, h2, hw⟩ := hw
          exact OpOk.unit (opk_mapUpdate hf hd hk hb h1 h2 hr hx (hρ k) (hρ v) hH hw)
        · exact hw.elim
      · exact hw.elim
    · exact hw.elim
  case insert t x k v =>
    have hx := hρ x
    unfold mapUpdateW at hw
    split at hw
    · rename_i f n hf e
      rw [e] at hx
      split at hw
      · rename_i kt et ks vs hd hb
        split at hw
        · rename_i fk r hk hr
          obtain ⟨h1, h2, hw⟩ := hw
          exact OpOk.unit (opk_mapUpdate hf hd hk hb h1 h2 hr hx (hρ k) (hρ v) hH hw)
        · exact hw.elim
      · exact hw.elim
    · exact hw.elim
  case range t x =>
    have hx := hρ x
    split at hw
    · rename_i f s hf e
      rw [e] at hx
      have hx' : ρ x = .string ⟨s.toArray⟩ := hx
      rw [hx']
      exact OpOk.value (opk_rangeStr hf hw.1 hH hw.2)
    · exact hw.elim
  case next x st =>
    have hx := hρ x
    cases st with
    | false => exact hw.elim
    | true =>
      simp only [] at hw
      split at hw
      · rename_i n e
        rw [e] at hx
        split at hw
        · rename_i s pos hb
          exact OpOk.value (opk_nextStr hb hw.1 hx hH hw.2.1 hw.2.2)
        · exact hw.elim
      · exact hw.elim
  case typeAssert x xt at_ cok =>
    have hx := hρ x
    cases cok with
    | false => exact hw.elim
    | true =>
      simp only [assertW] at hw
      split at hw
      · rename_i f hf
        obtain ⟨h1, hw⟩ := hw
        have hni : ∀ ms, f.d ≠ .interface ms := by intro ms e; rw [e] at h1; cases h1
        split at hw
        · rename_i t v e
          rw [e] at hx
          refine OpOk.value (opk_assert hf hni hx hH hw.1 fun hne => ?_)
          have := hw.2 hne
          split at this
          · rename_i z hz; exact ⟨z, hz, this.1, this.2⟩
          · exact this.elim
        · rename_i e
          rw [e] at hx
          have hx' : ρ x = .nilIface := hx
          rw [hx']
          split at hw
          · rename_i z hz; exact OpOk.value (opk_assertNil hf hni hz hw.1 hH hw.2)
          · exact hw.elim
        · exact hw.elim
      · exact hw.elim
  case extract x i =>
    have hx := hρ x
    split at hw
    · rename_i vs e
      rw [e] at hx
      split at hw
      · rename_i v hv
        exact OpOk.value (opk_extract hv hx hH hw)
      · exact hw.elim
    · exact hw.elim
  case call cl =>
    obtain ⟨callee, args, ats⟩ := cl
    have hargs : VRL c (args.toList.map ρA) (args.toList.map ρ) := VRL_mapO hρ args.toList
    simp only [] at hw
    split at hw
    · rename_i b
      simp only [resolve]
      refine Ok.then (a := { target := .builtin b ats ty (args.map fun | .const _ => true | _ => false), args := args.map ρ }) rfl ?_
      simp only [invoke]
      have hArr : args.map ρ = (args.toList.map ρ).toArray := by rw [← Array.toList_map, Array.toArray_toList]
      rw [hArr]
      generalize args.toList.map ρA = as at hw hargs
      generalize args.toList.map ρ = Vs at hargs ⊢
      unfold builtinW at hw
      split at hw
      · -- len
        rename_i t x hats
        have hats' : ats = #[t] := by rw [← Array.toArray_toList (xs := ats), hats]
        subst hats'
        obtain ⟨V, vs, rfl, hV, hvs⟩ := hargs
        cases hvs
        simp only [builtin]
        refine OpOk.value ?_
        unfold lenW at hw
        split at hw
        · rename_i f hf
          split at hw
          · rename_i s hd; cases hV; exact opk_lenStr hf hd hH hw
          · rename_i e cells len hd; obtain ⟨a, k, rfl⟩ := psl_len hV; exact opk_lenSlice hf hd hH hw
          · rename_i e hd; cases hV; exact opk_lenSlice hf hd hH hw
          · rename_i e n sz off len hd; obtain ⟨⟨cs, hcur⟩, hK⟩ := hw; obtain ⟨a, k, rfl⟩ := sl_len hcur hH hV; exact opk_lenSlice hf hd hH hK
          · exact hw.elim
        · exact hw.elim
      · -- append
        rename_i st xt d a hats
        have hats' : ats = #[st, xt] := by rw [← Array.toArray_toList (xs := ats), hats]
        subst hats'
        obtain ⟨S, vs, rfl, hS, hvs⟩ := hargs
        obtain ⟨X, vs, rfl, hX, hvs⟩ := hvs
        cases hvs
        simp only [builtin]
        refine OpOk.value ?_
        unfold appendW at hw
        split at hw
        · rename_i n sz len f fx hf hfx
          split at hw
          · rename_i e g cs hd hb
            split at hw
            · rename_i fe hfe
              split at hw
              · rename_i z new m hz hs
                obtain ⟨h1, rfl, rfl, h2, h3, h4, h5, h6, h7, h8, hK⟩ := hw
                exact opk_append hf hd hfe hz h2 hfx (by intro k e; rw [e] at h1; cases h1) hb h3 hs h4 h5 h6 h7 h8 hS hX hH hK
              · exact hw.elim
            · exact hw.elim
          · exact hw.elim
        · exact hw.elim
      · -- max
        rename_i k a l
        obtain ⟨V, vs, rfl, hV, hvs⟩ := hargs
        cases hV
        split at hw
        · rename_i ns hns
          rw [ints_ok hns hvs]
          simp only [builtin]
          exact OpOk.value (opk_max (t := 0) ns hH hw)
        · exact hw.elim
      · -- min
        rename_i k a l
        obtain ⟨V, vs, rfl, hV, hvs⟩ := hargs
        cases hV
        split at hw
        · rename_i ns hns
          rw [ints_ok hns hvs]
          simp only [builtin]
          exact OpOk.value (opk_min ns hH hw)
        · exact hw.elim
      · -- copy
        rename_i st xt n sz off len a hats
        have hats' : ats = #[st, xt] := by rw [← Array.toArray_toList (xs := ats), hats]
        subst hats'
        obtain ⟨S, vs, rfl, hS, hvs⟩ := hargs
        obtain ⟨X, vs, rfl, hX, hvs⟩ := hvs
        cases hvs
        simp only [builtin]
        refine OpOk.value ?_
        split at hw
        · rename_i f hf
          split at hw
          · rename_i e g cs hd hb
            split at hw
            · rename_i fe hfe
              split at hw
              · rename_i src m hs
                obtain ⟨rfl, rfl, h2, h3, h4, h5, hK⟩ := hw
                exact opk_copy hf hd hfe hb h2 hs h3 h4 h5 hS hX hH hK
              · exact hw.elim
            · exact hw.elim
          · exact hw.elim
        · exact hw.elim
      · -- clear
        rename_i st n sz off len hats
        have hats' : ats = #[st] := by rw [← Array.toArray_toList (xs := ats), hats]
        subst hats'
        obtain ⟨S, vs, rfl, hS, hvs⟩ := hargs
        cases hvs
        simp only [builtin]
        refine OpOk.value ?_
        split at hw
        · rename_i f hf
          split at hw
          · rename_i e g cs hd hb
            split at hw
            · rename_i fe hfe
              split at hw
              · rename_i z hz
                obtain ⟨rfl, rfl, h2, h3, h4, hK⟩ := hw
                exact opk_clear hf hd hfe hz h2 h3 hb h4 hS hH hK
              · exact hw.elim
            · exact hw.elim
          · exact hw.elim
        · exact hw.elim
      · exact hw.elim
    · exact hw.elim
  all_goals exact hw.elim
end
end Go.Mac

/-! MacO -/
/- MacO: blocks that are written no more ('seal'), and what may be turned without a step ('Turns'). No program is in sight. -/
namespace Go.Mac
open Go Go.Conc

/-- A block that is mine is written no more. -/
def Cx.shut (c : Cx) (b : Nat) (o : Obj) : Cx := { c with mine := fun x => c.mine x ∧ x ≠ b, imm := fun x => if x = b then some o else c.imm x }

section
variable {P : Program} {c : Cx} {w : World} {h : List Blk} {b : Nat} {o : Obj}

theorem Ext.shut (hi : c.imm b = none) : Ext c (c.shut b o) where
  own i e h := ⟨e, h, Nat.le_refl _, fun _ => rfl⟩
  imm x o' h := by
    simp only [Cx.shut]
    by_cases hx : x = b
    · subst hx; rw [hi] at h; cases h
    · rw [if_neg hx]; exact h

theorem Gh.shut (hm : c.mine b) (hi : c.imm b = none) : Gh c (c.shut b o) where
  com := rfl
  mine x h := h.1
  imm x o' h := by
    simp only [Cx.shut] at h
    split at h
    · rename_i e; subst e; exact .inr hm
    · exact .inl h
  still x o' h := (Ext.shut (o := o) hi).imm x o' h

theorem HR.imm_none (x : HR c w h) (hm : c.mine b) : c.imm b = none := by
  cases hi : c.imm b with
  | none => rfl
  | some o => exact absurd hm (x.imm b o hi).1

/-- The blocks, one of them being written no more. -/
theorem HR.shut (x : HR c w h) {i : Nat} {e : Ent} {k : Nat} {old : Blk} (hi : c.own[i]? = some e) (ho : h[i]? = some old) (hl : old.live = true) (hs : e.seat = some (b, k)) (hm : c.mine b) (hb : w.heap[b]? = some o) : HR (c.shut b o) w (h.set i .dead) where
  len := by simp [Cx.shut, x.len]
  blk j ej bj h1 h2 := by
    have hin := x.imm_none hm
    by_cases hij : i = j
    · subst hij
      rw [List.getElem?_set_self (List.getElem?_eq_some_iff.1 ho).1] at h2
      cases h2
      trivial
    · rw [List.getElem?_set_ne hij] at h2
      have h1' : c.own[j]? = some ej := h1
      have hr := x.blk j ej bj h1' h2
      have hne : bj.live = true → ∀ y, ej.seat = some y → y.1 ≠ b := fun hlj y hy hyb => x.apart i j e ej old bj (b, k) y hij hi h1' ho h2 hl hlj hs hy hyb.symm
      have xx := Ext.shut (o := o) hin
      cases bj with
      | dead => trivial
      | cells g cs =>
        obtain ⟨h0, h1 | ⟨b', k', arr, el, l, h1, h2, h3, h4, h5, h6⟩⟩ := hr
        · exact ⟨h0, .inl h1⟩
        · exact ⟨h0, .inr ⟨b', k', arr, el, l, h1, ⟨h2, hne rfl _ h1⟩, h3, h4, h5.ext xx, h6⟩⟩
      | map ks vs => obtain ⟨h0, b', k', ents, clk, h1, h2, h3, h4, h5⟩ := hr; exact ⟨h0, b', k', ents, clk, h1, ⟨h2, hne rfl _ h1⟩, h3, h4.ext xx, h5.ext xx⟩
      | loop st pend fn slots params assign body => obtain ⟨h0, b', k', tm, d, h1, h2, h3, h4⟩ := hr; exact ⟨h0, b', k', tm, d, h1, ⟨h2, hne rfl _ h1⟩, h3, h4.ext xx⟩
      | defd => obtain ⟨h0, b', k', h1, h2, h3⟩ := hr; exact ⟨h0, b', k', h1, ⟨h2, hne rfl _ h1⟩, h3⟩
      | iter s pos => obtain ⟨h0, b', k', h1, h2, h3⟩ := hr; exact ⟨h0, b', k', h1, ⟨h2, hne rfl _ h1⟩, h3⟩
      | chan g => exact hr
      | role m => exact hr
  apart i1 j1 e1 e2 b1 b2 y1 y2 hne h1 h2 h3 h4 l1 l2 s1 s2 := by
    have key : ∀ (m : Nat) (bm : Blk), (h.set i Blk.dead)[m]? = some bm → bm.live = true → h[m]? = some bm := by
      intro m bm hm hlm
      by_cases him : i = m
      · subst him
        rw [List.getElem?_set_self (List.getElem?_eq_some_iff.1 ho).1] at hm
        cases hm
        cases hlm
      · rw [List.getElem?_set_ne him] at hm; exact hm
    exact x.apart i1 j1 e1 e2 b1 b2 y1 y2 hne h1 h2 (key _ _ h3 l1) (key _ _ h4 l2) l1 l2 s1 s2
  mine y hy := x.mine y hy.1
  imm y o' hy := by
    simp only [Cx.shut] at hy
    split at hy
    · rename_i e'; cases hy; subst e'; exact ⟨fun q => q.2 rfl, hb⟩
    · exact ⟨fun q => (x.imm y o' hy).1 q.1, (x.imm y o' hy).2⟩
  chan y hy := by
    obtain ⟨h1, h2, h3⟩ := x.chan y hy
    refine ⟨fun q => h1 q.1, ?_, h3⟩
    simp only [Cx.shut]
    rw [if_neg (by rintro rfl; exact h1 hm)]
    exact h2

/-- A block is forgotten. -/
theorem HR.forget (x : HR c w h) (i : Nat) : HR c w (h.set i .dead) where
  len := by simp [x.len]
  blk j ej bj h1 h2 := by
    by_cases hij : i = j
    · subst hij
      rw [List.getElem?_set_self (by have := (List.getElem?_eq_some_iff.1 h2).1; simpa using this)] at h2
      cases h2
      trivial
    · rw [List.getElem?_set_ne hij] at h2; exact x.blk j ej bj h1 h2
  apart i1 j1 e1 e2 b1 b2 y1 y2 hne h1 h2 h3 h4 l1 l2 s1 s2 := by
    have key : ∀ (m : Nat) (bm : Blk), (h.set i Blk.dead)[m]? = some bm → bm.live = true → h[m]? = some bm := by
      intro m bm hm hlm
      by_cases him : i = m
      · subst him
        rw [List.getElem?_set_self (by have := (List.getElem?_eq_some_iff.1 hm).1; simpa using this)] at hm
        cases hm
        cases hlm
      · rw [List.getElem?_set_ne him] at hm; exact hm
    exact x.apart i1 j1 e1 e2 b1 b2 y1 y2 hne h1 h2 (key _ _ h3 l1) (key _ _ h4 l2) l1 l2 s1 s2
  mine := x.mine
  imm := x.imm
  chan := x.chan

theorem At_some {n : Nm} {S : Option (Nat × Nat) → Prop} {e : Ent} (h : c.At n S) (he : c.own[n.id]? = some e) (hg : e.gen = n.gen) : S e.seat := by
  obtain ⟨e', h1, _, h3⟩ := h
  rw [he] at h1
  cases h1
  exact h3 hg.symm

theorem prefix_drop {α : Type} {l m : List α} (h : l <+: m) (o : Nat) : l.drop o <+: m.drop o := by
  obtain ⟨t, rfl⟩ := h
  by_cases ho : o ≤ l.length
  · rw [List.drop_append_of_le_length ho]; exact List.prefix_append _ _
  · rw [List.drop_eq_nil_of_le (by omega)]; exact List.nil_prefix

/-- A slice into a block that is written no more. -/
theorem VR_seal_sl {n : Nm} {sz off len : Nat} {V : Value} {e : Ent} {cs : List AV} {k : Nat} {arr : Array Value} {el : TypeId} {l : List Value} (hv : VR c (.sl n sz off len) V) (he : c.own[n.id]? = some e) (hg : e.gen = n.gen) (hs : e.seat = some (b, k)) (hi : c.imm b = none)
    (hv' : VRL c cs l) (hp : l <+: arr.toList) : VR (c.shut b (.cells arr el (0, 0))) (.psl ((cs.drop off).take (len * sz)) len) V := by
  rcases At_some hv.2 he hg with ⟨rfl, rfl, rfl⟩ | ⟨b', k', cap, h1, h2, h3, h4⟩
  · exact .inl ⟨by simp, rfl, rfl⟩
  · rw [hs] at h1
    cases h1
    exact .inr ⟨b, off, arr, el, (0, 0), (l.drop off).take (len * sz), cap, h2, h3, by simp [Cx.shut], ((hv'.drop off).take _).ext (Ext.shut hi), (List.take_prefix _ _).trans (prefix_drop hp off)⟩

theorem VR_seal_ptr {n : Nm} {off : Nat} {V : Value} {e : Ent} {cs : List AV} {k : Nat} {arr : Array Value} {el : TypeId} {l : List Value} (hv : VR c (.ptr n off) V) (he : c.own[n.id]? = some e) (hg : e.gen = n.gen) (hs : e.seat = some (b, k)) (hi : c.imm b = none)
    (hv' : VRL c cs l) (hp : l <+: arr.toList) : VR (c.shut b (.cells arr el (0, 0))) (.pptr (cs.drop off)) V := by
  obtain ⟨b', k', h1, h2⟩ := At_some hv.2 he hg
  rw [hs] at h1
  cases h1
  exact ⟨b, off, arr, el, (0, 0), l.drop off, h2, by simp [Cx.shut], (hv'.drop off).ext (Ext.shut hi), prefix_drop hp off⟩

theorem VR_seal_map {n : Nm} {V : Value} {e : Ent} {ks vs : List AV} {k : Nat} {ents : Array MapEntry} {clk : Nat} (hv : VR c (.map n) V) (he : c.own[n.id]? = some e) (hg : e.gen = n.gen) (hs : e.seat = some (b, k)) (hi : c.imm b = none)
    (h1 : VRL c ks (ents.toList.map (·.key))) (h2 : VRL c vs (ents.toList.map (·.val))) : VR (c.shut b (.map ents clk)) (.pmap ks vs) V := by
  obtain ⟨b', k', h3, h4⟩ := At_some hv.2 he hg
  rw [hs] at h3
  cases h3
  exact .inr ⟨b, ents, clk, h4, by simp [Cx.shut], h1.ext (Ext.shut hi), h2.ext (Ext.shut hi)⟩

/-- A value whose block is written no more. -/
def sealV (h : List Blk) : AV → Option AV
  | .sl n sz off len => match h[n.id]? with
    | some (.cells g cs) => if g = n.gen then some (.psl ((cs.drop off).take (len * sz)) len) else none
    | _ => none
  | .ptr n off => match h[n.id]? with
    | some (.cells g cs) => if g = n.gen then some (.pptr (cs.drop off)) else none
    | _ => none
  | .map n => match h[n.id]? with
    | some (.map ks vs) => if n.gen = 0 then some (.pmap ks vs) else none
    | _ => none
  | _ => none

/-- The name that a value goes by. -/
def nmOf : AV → Nat
  | .sl n _ _ _ | .ptr n _ | .map n | .yield n => n.id
  | _ => 0

/-- ████ Sealing a value's block. ████ -/
theorem seal_ok {a a' : AV} {V : Value} (hs : sealV h a = some a') (hv : VR c a V) (hH : HR c w h) : ∃ c', Gh c c' ∧ Ext c c' ∧ HR c' w (h.set (nmOf a) .dead) ∧ VR c' a' V ∧ c'.own = c.own := by
  cases a <;> simp only [sealV, reduceCtorEq] at hs
  case ptr n off =>
    cases hb : h[n.id]? with
    | none => rw [hb] at hs; simp at hs
    | some blk =>
      rw [hb] at hs
      cases blk <;> simp only [reduceCtorEq] at hs
      case cells g cs =>
        split at hs
        · rename_i hg
          simp only [Option.some.injEq] at hs
          have hlt : n.id < c.own.length := by rw [← hH.len]; exact (List.getElem?_eq_some_iff.1 hb).1
          have he : c.own[n.id]? = some c.own[n.id] := by simp [hlt]
          obtain ⟨h0, h1 | ⟨b, k, arr, el, l, h1, h2, h3, h4, h5, h6⟩⟩ := hH.blk _ _ _ he hb
          · exfalso
            obtain ⟨b, k, g1, g2⟩ := At_some hv.2 he (by omega)
            rw [h1.1] at g1; cases g1
          · have hi := hH.imm_none h2
            refine ⟨c.shut b (.cells arr el (0, 0)), .shut h2 hi, .shut hi, ?_, ?_, rfl⟩
            · exact hH.shut he hb rfl h1 h2 h3
            · subst hs; exact VR_seal_ptr hv he (by omega) h1 hi h5 h6
        · cases hs
  case sl n sz off len =>
    cases hb : h[n.id]? with
    | none => rw [hb] at hs; simp at hs
    | some blk =>
      rw [hb] at hs
      cases blk <;> simp only [reduceCtorEq] at hs
      case cells g cs =>
        split at hs
        · rename_i hg
          simp only [Option.some.injEq] at hs
          have hlt : n.id < c.own.length := by rw [← hH.len]; exact (List.getElem?_eq_some_iff.1 hb).1
          have he : c.own[n.id]? = some c.own[n.id] := by simp [hlt]
          obtain ⟨h0, h1 | ⟨b, k, arr, el, l, h1, h2, h3, h4, h5, h6⟩⟩ := hH.blk _ _ _ he hb
          · rcases At_some hv.2 he (by omega) with ⟨rfl, rfl, rfl⟩ | ⟨b, k, cap, g1, g2⟩
            · refine ⟨c, .refl c, .refl c, ?_, ?_, rfl⟩
              · exact hH.forget _
              · subst hs; exact .inl ⟨by simp, rfl, rfl⟩
            · rw [h1.1] at g1; cases g1
          · have hi := hH.imm_none h2
            refine ⟨c.shut b (.cells arr el (0, 0)), .shut h2 hi, .shut hi, ?_, ?_, rfl⟩
            · exact hH.shut he hb rfl h1 h2 h3
            · subst hs; exact VR_seal_sl hv he (by omega) h1 hi h5 h6
        · cases hs
  case map n =>
    cases hb : h[n.id]? with
    | none => rw [hb] at hs; simp at hs
    | some blk =>
      rw [hb] at hs
      cases blk <;> simp only [reduceCtorEq] at hs
      case map ks vs =>
        split at hs
        · rename_i hg
          simp only [Option.some.injEq] at hs
          have hlt : n.id < c.own.length := by rw [← hH.len]; exact (List.getElem?_eq_some_iff.1 hb).1
          have he : c.own[n.id]? = some c.own[n.id] := by simp [hlt]
          obtain ⟨h0, b, k, ents, clk, h1, h2, h3, h4, h5⟩ := hH.blk _ _ _ he hb
          have hi := hH.imm_none h2
          refine ⟨c.shut b (.map ents clk), .shut h2 hi, .shut hi, ?_, ?_, rfl⟩
          · exact hH.shut he hb rfl h1 h2 h3
          · subst hs; exact VR_seal_map hv he (by omega) h1 hi h4 h5
        · cases hs
end

/-- The last block is written no more, and its name forgotten. -/
theorem seal_last {c c' : Cx} {w w' : World} {h : List Blk} {v a' : AV} {V : Value} {n0 : Nat} {blk : Blk} (hH : HR c w h) (hs : sealV (h ++ [blk]) v = some a') (hn : nmOf v = h.length) (hv : VR c' v V) (hH' : HR c' w' (h ++ [blk])) (ht : TurnOk c c' n0) (hb : below h.length a' = true) :
    ∃ c2, VR c2 a' V ∧ HR c2 w' h ∧ TurnOk c c2 n0 := by
  obtain ⟨c2, g, e, hH2, hv2, hown⟩ := seal_ok hs hv hH'
  have hset : ((h ++ [blk]).set (nmOf v) .dead).take h.length = h := by
    rw [hn, List.set_append_right _ _ (Nat.le_refl _)]
    simp
  have hbel : h.all (belowBlk h.length) = true := List.all_eq_true.2 fun b hb => by obtain ⟨i, hi⟩ := List.mem_iff_getElem?.1 hb; exact hH.below hi
  refine ⟨c2.take h.length, VR.take a' V hb hv2, ?_, ?_, ?_, ?_, ?_⟩
  · have := hH2.take (n := h.length) (by rw [hset]; exact hbel)
    rw [hset] at this
    exact this
  · exact (ht.ext.trans e).take (by rw [hH.len]; exact Nat.le_refl _)
  · intro b hm; exact ht.mine b (g.mine b hm)
  · intro b o hi
    rcases g.imm b o hi with h | h
    · exact ht.imm b o h
    · exact (ht.mine b h).elim (fun h => .inr (.inl h)) (fun h => .inr (.inr h))
  · exact g.com.trans ht.com

/-- 'buildSlice', its block being written no more. -/
def buildSealW (P : Program) (t : TypeId) (len : Nat) (parts : List (Nat × AV)) (h : List Blk) (K : AV → List Blk → Prop) : Prop :=
  match tyT P t with
  | some f => match f.d with
    | .slice te => match tyT P te with
      | some fe => match fe.ze with
        | some z => match fillA (fun i => some (i * fe.sz, fe.sz)) (if len * fe.sz = 0 then [] else zeroRow z (len * fe.sz)) parts with
          | some out => len * fe.sz ≤ 16777216 ∧ out.length = len * fe.sz ∧ belowL h.length out = true ∧ K (.psl out len) h
          | none => False
        | none => False
      | none => False
    | _ => False
  | none => False

theorem buildSealW_ok {P : Program} {c : Cx} {w : World} {h : List Blk} {K : AV → List Blk → Prop} {o : Oper} {ρA : Operand → AV} {ρ : Operand → Value} {t : TypeId} {len : Nat} {parts : Array (Nat × Operand)} (ho : o.op = .buildSlice t len parts)
    (hw : buildSealW P t len (parts.toList.map fun p => (p.1, ρA p.2)) h K) (hρ : ∀ x, VR c (ρA x) (ρ x)) (hH : HR c w h) : OpOk P (execOp ρ o) K c w := by
  unfold buildSealW at hw
  split at hw
  · rename_i f hf
    split at hw
    · rename_i te hd
      split at hw
      · rename_i fe hfe
        split at hw
        · rename_i z hz
          split at hw
          · rename_i out hout
            obtain ⟨h1, h2, h3, hK⟩ := hw
            have key : opW P o.op ρA h (fun v h' => v = .sl ⟨h.length, 0⟩ fe.sz 0 len ∧ h' = h ++ [.cells 0 out]) := by
              rw [ho]
              simp only [opW, buildSliceW, hf, hd, hfe, hz, hout]
              exact ⟨h1, h2, by simp⟩
            refine (opW_ok key hρ hH).mono ?_
            rintro r ⟨nx, V, w', c', v, h', rfl, hg, ⟨rfl, rfl⟩, hV, hH', hT⟩
            obtain ⟨c2, a, b, d⟩ := seal_last (a' := .psl out len) hH (by simp [sealV, ← h2]) rfl hV hH' hT (by simpa [below] using h3)
            exact ⟨nx, V, w', c2, _, _, rfl, hg, hK, a, b, d⟩
          · exact hw.elim
        · exact hw.elim
      · exact hw.elim
    · exact hw.elim
  · exact hw.elim

/-- What may be turned without a step, the names below 'n0' being kept. -/
def Turns (n0 : Nat) (s s' : AS) : Prop :=
  ∀ (base : List (Nat × Value)) (c : Cx) (w : World) (tmps : Array Value) (ds : List Deferred), SR base c w s tmps ds → ∃ c', Gh c c' ∧ Ext (c.take n0) c' ∧ SR base c' w s' tmps ds

section
variable {P : Program} {fk : FK} {Q Q' : AExit → AS → Prop} {s s' s'' : AS} {n0 : Nat} {its : List Item}

theorem Turns.refl : Turns n0 s s := fun _ c _ _ _ h => ⟨c, .refl c, .reflT c n0, h⟩
theorem Turns.trans (h : Turns n0 s s') (h' : Turns n0 s' s'') : Turns n0 s s'' := fun base c w tmps ds x => by
  obtain ⟨c1, g1, e1, x1⟩ := h base c w tmps ds x
  obtain ⟨c2, g2, e2, x2⟩ := h' base c1 w tmps ds x1
  exact ⟨c2, g1.trans g2, e1.transT e2, x2⟩

theorem WPI.turn (t : Turns fk.low s s') (h : WPI P fk its Q s') : WPI P fk its Q s := by
  intro main Stop b k cs base c w tmps ds h1 h2 h3 h4
  obtain ⟨c', g, e, x⟩ := t base c w tmps ds h3
  exact .ghost g (h main Stop b k cs base c' w tmps ds h1 h2 x fun e' s1 c1 w1 t1 d1 q r y => h4 e' s1 c1 w1 t1 d1 q r (e.transT y))

/-- What is asked at a way out, things being turned there. -/
def turnQ (n0 : Nat) (Q : AExit → AS → Prop) : AExit → AS → Prop
  | .panic v, s => Q (.panic v) s
  | e, s => ∃ s', Turns n0 s s' ∧ Q e s'

theorem WPI.turnQ (h : WPI P fk its (Mac.turnQ fk.low Q) s) : WPI P fk its Q s := by
  intro main Stop b k cs base c w tmps ds h1 h2 h3 h4
  refine h main Stop b k cs base c w tmps ds h1 h2 h3 fun e s1 c1 w1 t1 d1 q r y => ?_
  cases e with
  | normal =>
    obtain ⟨s2, t, q⟩ := q
    obtain ⟨c2, g, x, r2⟩ := t base c1 w1 t1 d1 r
    exact .ghost g (h4 .normal s2 c2 w1 t1 d1 q r2 (y.transT x))
  | exit id =>
    obtain ⟨s2, t, q⟩ := q
    obtain ⟨c2, g, x, r2⟩ := t base c1 w1 t1 d1 r
    exact fun k' hk => .ghost g (h4 (.exit id) s2 c2 w1 t1 d1 q r2 (y.transT x) k' hk)
  | goto l =>
    obtain ⟨s2, t, q⟩ := q
    obtain ⟨c2, g, x, r2⟩ := t base c1 w1 t1 d1 r
    exact fun k' hk => .ghost g (h4 (.goto l) s2 c2 w1 t1 d1 q r2 (y.transT x) k' hk)
  | ret =>
    obtain ⟨s2, t, q⟩ := q
    obtain ⟨c2, g, x, r2⟩ := t base c1 w1 t1 d1 r
    exact fun k' => .ghost g (h4 .ret s2 c2 w1 t1 d1 q r2 (y.transT x) k')
  | panic v => exact h4 (.panic v) s1 c1 w1 t1 d1 q r y

theorem Turns.slot {d : Nat} {a a' : AV} (ha : evA s.sl (.tmp d) = a) (hw : ∀ c V, VR c a V → VR c a' V) : Turns n0 s { s with sl := s.sl.set d a' } := by
  intro base c w tmps ds x
  refine ⟨c, .refl c, .reflT c n0, ?_, x.df, x.hp, x.gh⟩
  cases hd : s.sl[d]? with
  | none =>
    have : s.sl.set d a' = s.sl := List.set_eq_of_length_le (by simpa using hd)
    show VRL c (s.sl.set d a') _
    rw [this]; exact x.sl
  | some a0 =>
    have : a0 = a := by simpa [evA, List.getD, hd] using ha
    subst this
    obtain ⟨V, hV, hr⟩ := x.sl.get hd
    have h2 := x.sl.set d (hw c V hr)
    have : tmps.toList.set d V = tmps.toList := by
      obtain ⟨hlt, he⟩ := List.getElem?_eq_some_iff.1 hV
      rw [← he]; exact List.set_getElem_self hlt
    rw [this] at h2
    exact h2

theorem Turns.any (d : Nat) : Turns n0 s { s with sl := s.sl.set d .any } := Turns.slot rfl fun _ _ _ => trivial

/-- A temporary's block is written no more. -/
theorem Turns.shut {d : Nat} {a a' : AV} (ha : evA s.sl (.tmp d) = a) (hs : sealV s.hp a = some a') : Turns n0 s { s with sl := s.sl.set d a', hp := s.hp.set (nmOf a) .dead } := by
  intro base c w tmps ds x
  cases hd : s.sl[d]? with
  | none =>
    have : a = .any := by simpa [evA, List.getD, hd] using ha.symm
    subst this
    cases hs
  | some a0 =>
    have : a0 = a := by simpa [evA, List.getD, hd] using ha
    subst this
    obtain ⟨V, hV, hr⟩ := x.sl.get hd
    obtain ⟨c', g, e, hH, hv, _⟩ := seal_ok hs hr x.hp
    refine ⟨c', g, e.toT _, ?_, x.df.ext e, hH, x.gh.ext e (by rw [g.com]) (by rw [g.com])⟩
    have h2 := (x.sl.ext e).set d hv
    have : tmps.toList.set d V = tmps.toList := by
      obtain ⟨hlt, he⟩ := List.getElem?_eq_some_iff.1 hV
      rw [← he]; exact List.set_getElem_self hlt
    rw [this] at h2
    exact h2

/-- The block of a value in a cell is written no more. -/
theorem Turns.seal_cell {i g j : Nat} {cs : List AV} {a a' : AV} (hb : s.hp[i]? = some (.cells g cs)) (hj : cs[j]? = some a) (hs : sealV s.hp a = some a') (hne : nmOf a ≠ i) :
    Turns n0 s { s with hp := (s.hp.set (nmOf a) .dead).set i (.cells g (cs.set j a')) } := by
  intro base c w tmps ds x
  have hlt : i < c.own.length := by rw [← x.hp.len]; exact (List.getElem?_eq_some_iff.1 hb).1
  have he : c.own[i]? = some c.own[i] := by simp [hlt]
  obtain ⟨h0, h1 | ⟨b, k, arr, el, l, h1, h2, h3, h4, h5, h6⟩⟩ := x.hp.blk _ _ _ he hb
  · rw [h1.2] at hj; simp at hj
  · obtain ⟨V, hV, hr⟩ := h5.get hj
    obtain ⟨c', gh, e, hH, hv, hown⟩ := seal_ok hs hr x.hp
    have hb' : (s.hp.set (nmOf a) .dead)[i]? = some (.cells g cs) := by rw [List.getElem?_set_ne hne]; exact hb
    have he' : c'.own[i]? = some c.own[i] := by rw [hown]; exact he
    have hm' : c'.mine b := by
      obtain ⟨_, h1' | ⟨b2, k2, arr2, el2, l2, h1', h2', _⟩⟩ := hH.blk _ _ _ he' hb'
      · rw [h1'.1] at h1; cases h1
      · rw [h1'] at h1; cases h1; exact h2'
    refine ⟨c', gh, e.toT _, x.sl.ext e, x.df.ext e, hH.update he' hb' rfl h1 hm' rfl (fun _ _ => rfl) ⟨h0, .inr ⟨b, k, arr, el, l, h1, hm', h3, h4, ?_, h6⟩⟩, x.gh.ext e (by rw [gh.com]) (by rw [gh.com])⟩
    have h7 := (h5.ext e).set j hv
    have : l.set j V = l := by
      obtain ⟨hlt, he⟩ := List.getElem?_eq_some_iff.1 hV
      rw [← he]; exact List.set_getElem_self hlt
    rw [this] at h7
    exact h7

/-- A value without the names from 'n' on. -/
def cleanA (n : Nat) (a : AV) : AV := if below n a then a else .any

theorem cleanA_of {n : Nat} {a : AV} (h : below n a = true) : cleanA n a = a := by simp [cleanA, h]

theorem VRL_clean {c : Cx} (n : Nat) : ∀ {l : List AV} {V : List Value}, VRL c l V → VRL (c.take n) (l.map (cleanA n)) V
  | [], _, h => h
  | a :: l, _, h => by
    obtain ⟨v, vs, rfl, h1, h2⟩ := h
    refine ⟨v, vs, rfl, ?_, VRL_clean n h2⟩
    unfold cleanA
    split
    · rename_i hb; exact VR.take a v hb h1
    · trivial

/-- The names from 'n' on are forgotten. -/
theorem Turns.drop {n : Nat} (hn : n0 ≤ n) (hd : s.df = []) (hg : s.gh = {}) (hh : (s.hp.take n).all (belowBlk n) = true) : Turns n0 s { sl := s.sl.map (cleanA n), df := [], hp := s.hp.take n } := by
  intro base c w tmps ds x
  have hds : ds = [] := by have := x.df; rw [hd] at this; exact this
  refine ⟨c.take n, ⟨rfl, fun _ h => h, fun _ _ h => .inl h, fun _ _ h => h⟩, ?_, VRL_clean n x.sl, hds, x.hp.take hh, ?_⟩
  · refine ⟨fun i e he => ?_, fun _ _ h => h, rfl⟩
    simp only [Cx.take, List.getElem?_take] at he ⊢
    split at he
    · rename_i hi
      exact ⟨e, by rw [if_pos (by omega)]; exact he, Nat.le_refl _, fun _ => rfl⟩
    · cases he
  · obtain ⟨⟨M, g1, g2⟩, g3⟩ := x.gh
    rw [hg] at g2 g3
    exact ⟨⟨M, g1, g2⟩, g3⟩

/-- What the body of a function without deferred calls must achieve, things being turned at its end. -/
theorem CallsA.of_turn {f : FuncId} {fn : Func} {code : Code} {args : List AV} {h : List Blk} {Post : AEnd → List Blk → Prop} (hf : P.funcs[f]? = some fn) (hb : fn.body = some code)
    (hw : h.all (belowBlk h.length) = true → belowL h.length args = true → WP P ⟨f, false, h.length⟩ code (Mac.turnQ h.length (bodyQ P fn h.length Post)) { sl := args ++ List.replicate (fn.ntmps - args.length) (.tup []), df := [], hp := h }) : CallsA P f args h Post :=
  CallsA.of_body hf hb fun h1 h2 => (hw h1 h2).turnQ

/-- ████ A contract: for these arguments the function hands back this value and leaves the blocks alone. ████ -/
def PureA (P : Program) (f : FuncId) (args : List AV) (v : AV) : Prop := ∀ h, CallsA P f args h fun e h' => e = .ret v ∧ h' = h

/-- What the body of such a function must achieve. -/
def retQ0 (P : Program) (fn : Func) (h : List Blk) (v : AV) : AExit → AS → Prop
  | .normal, s | .ret, s => ∃ s', Turns h.length s s' ∧ s'.df = [] ∧ s'.gh = {} ∧ resA P fn s'.sl s'.hp = some v ∧ ∃ k, s'.hp = h ++ k
  | _, _ => False

theorem PureA.of_WP {f : FuncId} {fn : Func} {code : Code} {args : List AV} {v : AV} (hf : P.funcs[f]? = some fn) (hb : fn.body = some code) (hv : below 0 v = true)
    (hw : ∀ (h : List Blk) (l : List AV), h.all (belowBlk h.length) = true → l.length = max args.length fn.ntmps → (∀ i a, args[i]? = some a → evA l (.tmp i) = a) → WP P ⟨f, false, h.length⟩ code (retQ0 P fn h v) { sl := l, df := [], hp := h }) : PureA P f args v := by
  intro h
  refine CallsA.of_turn hf hb fun h1 _ => ?_
  refine (hw h _ h1 (by simp; omega) (fun i a hi => ?_)).mono fun e s q => ?_
  · have : i < args.length := (List.getElem?_eq_some_iff.1 hi).1
    simp [evA, List.getD, List.getElem?_append_left this, hi]
  · have key : (∃ s', Turns h.length s s' ∧ s'.df = [] ∧ s'.gh = {} ∧ resA P fn s'.sl s'.hp = some v ∧ ∃ k, s'.hp = h ++ k) →
        ∃ s', Turns h.length s s' ∧ s'.df = [] ∧ s'.gh = {} ∧ ∃ v' n, resA P fn s'.sl s'.hp = some v' ∧ h.length ≤ n ∧ Mac.below n v' = true ∧ (s'.hp.take n).all (belowBlk n) = true ∧ (AEnd.ret v' = .ret v ∧ s'.hp.take n = h) := by
      rintro ⟨s', t, hd, hg, hr, k, hk⟩
      refine ⟨s', t, hd, hg, v, h.length, hr, Nat.le_refl _, below_mono (Nat.zero_le _) v hv, ?_, rfl, ?_⟩
      · rw [hk, List.take_left]; exact h1
      · rw [hk, List.take_left]
    cases e with
    | normal => exact key q
    | ret => exact key q
    | exit id => exact q.elim
    | goto l => exact q.elim
    | panic v => exact q.elim
end
end Go.Mac

/-! MacOE -/
/- MacOE: what an operation asks, gives and leaves ('opE'), so that it can be reckoned before what follows. No program is in sight. -/
namespace Go.Mac
open Go Go.Conc

/-- What follows an operation that asks 'c', gives 'v' and leaves 'h'. -/
def stepK (r : Option (Prop × AV × List Blk)) (K : AV → List Blk → Prop) : Prop :=
  match r with
  | some (c, v, h) => c ∧ K v h
  | none => False
@[congr] theorem stepK_congr {r r' : Option (Prop × AV × List Blk)} {K : AV → List Blk → Prop} (e : r = r') : stepK r K = stepK r' K := by rw [e]
theorem stepK_some {c : Prop} {v : AV} {h : List Blk} {K : AV → List Blk → Prop} : stepK (some (c, v, h)) K = (c ∧ K v h) := rfl

def buildE (P : Program) (t : TypeId) (parts : List (Nat × AV)) (h : List Blk) : Option (Prop × AV × List Blk) :=
  match tyT P t with
  | some f => match f.d, f.ze with
    | .struct fs, some z => match placesA P fs.toList with
      | some pl => match fillA (pl[·]?) z parts with
        | some out => some (True, .agg out, h)
        | none => none
      | none => none
    | .array _ te, some z => match tyT P te with
      | some fe => match fillA (fun i => some (i * fe.sz, fe.sz)) z parts with
        | some out => some (True, .agg out, h)
        | none => none
      | none => none
    | _, _ => none
  | none => none

def buildSliceE (P : Program) (t : TypeId) (len : Nat) (parts : List (Nat × AV)) (h : List Blk) : Option (Prop × AV × List Blk) :=
  match tyT P t with
  | some f => match f.d with
    | .slice te => match tyT P te with
      | some fe => match fe.ze with
        | some z => match fillA (fun i => some (i * fe.sz, fe.sz)) (if len * fe.sz = 0 then [] else zeroRow z (len * fe.sz)) parts with
          | some out => some (len * fe.sz ≤ 16777216 ∧ out.length = len * fe.sz, .sl ⟨h.length, 0⟩ fe.sz 0 len, h ++ [.cells 0 out])
          | none => none
        | none => none
      | none => none
    | _ => none
  | none => none

def buildSealE (P : Program) (t : TypeId) (len : Nat) (parts : List (Nat × AV)) (h : List Blk) : Option (Prop × AV × List Blk) :=
  match tyT P t with
  | some f => match f.d with
    | .slice te => match tyT P te with
      | some fe => match fe.ze with
        | some z => match fillA (fun i => some (i * fe.sz, fe.sz)) (if len * fe.sz = 0 then [] else zeroRow z (len * fe.sz)) parts with
          | some out => some (len * fe.sz ≤ 16777216 ∧ out.length = len * fe.sz ∧ belowL h.length out = true, .psl out len, h)
          | none => none
        | none => none
      | none => none
    | _ => none
  | none => none

def loadE (P : Program) (t : TypeId) (a : AV) (h : List Blk) : Option (Prop × AV × List Blk) :=
  match tyT P t, cellsAt h a with
  | some f, some cs => some ((if aggD f.d then f.sz else 1) ≤ cs.length, readA f cs, h)
  | _, _ => none

def storeE (P : Program) (t : TypeId) (a v : AV) (h : List Blk) : Option (Prop × AV × List Blk) :=
  match a, tyT P t, valCells v with
  | .ptr n off, some f, some vs => match h[n.id]? with
    | some (.cells g cs) => some (g = n.gen ∧ vs.all leafA = true ∧ vs.length = f.sz ∧ off + vs.length ≤ cs.length, .tup [], h.set n.id (.cells g (setMany cs off vs)))
    | _ => none
  | _, _, _ => none

def nilCheckE (a : AV) (h : List Blk) : Option (Prop × AV × List Blk) :=
  match a with
  | .ptr .. | .pptr .. => some (True, a, h)
  | .fn (.func _) _ _ => some (True, a, h)
  | .iface _ _ => some (True, a, h)
  | .yield _ => some (True, a, h)
  | _ => none

def binE (P : Program) (op : BinOp) (t : TypeId) (x y : AV) (h : List Blk) : Option (Prop × AV × List Blk) :=
  match x, y with
  | .int k a, .int k' b => match op with
    | .shl | .shr => match shInt op k a b with
      | some v => some (¬ b < 0, v, h)
      | none => none
    | .quo | .rem => match divInt op k a b with
      | some v => some (k = k' ∧ b ≠ 0, v, h)
      | none => none
    | _ => match binInt op k a b with
      | some v => some (k = k', v, h)
      | none => none
  | .str a, .str b => match binStr op a b with
    | some v => some (a.length + b.length ≤ 9223372036854775807, v, h)
    | none => none
  | .bool a, .bool b => match tyT P t, op with
    | some f, .eql => some (f.d = .bool, .bool (a == b), h)
    | some f, .neq => some (f.d = .bool, .bool (a != b), h)
    | _, _ => none
  | .agg a, .agg b => match eqA P 6 t (.agg a) (.agg b), op with
    | some r, .eql => some (P.eqGuardType P.depth t = false, .bool r, h)
    | some r, .neq => some (P.eqGuardType P.depth t = false, .bool (!r), h)
    | _, _ => none
  | _, _ => none

def unE (op : UnOp) (x : AV) (h : List Blk) : Option (Prop × AV × List Blk) :=
  match op, x with
  | .not, .bool b => some (True, .bool !b, h)
  | .neg, .int k n => some (True, .int k (k.wrap (0 - n)), h)
  | _, _ => none

def convBytesE (P : Program) (d : TypeDesc) (x : AV) (h : List Blk) : Option (Prop × AV × List Blk) :=
  match d with
  | .slice e => match tyT P e with
    | some fe => match srcA h 1 x with
      | some (cs, m) => match bytesA cs with
        | some bs => some (fe.d = .int .u8 ∧ cs.length = m, .str bs, h)
        | none => none
      | none => none
    | none => none
  | _ => none

def convE (P : Program) (s d : TypeId) (x : AV) (h : List Blk) : Option (Prop × AV × List Blk) :=
  match tyT P s, tyT P d with
  | some fs, some fd => match fd.d, x with
    | .int k, .int _ n => some (True, .int k (k.wrap n), h)
    | .string, .str l => some (True, .str l, h)
    | .string, .sl n sz off len => convBytesE P fs.d (.sl n sz off len) h
    | .string, .psl l len => convBytesE P fs.d (.psl l len) h
    | _, _ => none
  | _, _ => none

def fieldAddrE (P : Program) (t : TypeId) (a : AV) (i : Nat) (h : List Blk) : Option (Prop × AV × List Blk) :=
  match tyT P t with
  | some f => match f.d with
    | .struct fs => match fs[i]? with
      | some fd => match tyT P fd.type, addA a fd.offset with
        | some ff, some a' => some (ff.sz ≠ 0 ∧ reachA a fd.offset, a', h)
        | _, _ => none
      | none => none
    | _ => none
  | none => none

def fieldE (P : Program) (t : TypeId) (x : AV) (i : Nat) (h : List Blk) : Option (Prop × AV × List Blk) :=
  match tyT P t, x with
  | some f, .agg cs => match f.d with
    | .struct fs => match fs[i]? with
      | some fd => match tyT P fd.type with
        | some ff => some (aggD ff.d = false → fd.offset < cs.length, partA ff cs fd.offset, h)
        | none => none
      | none => none
    | _ => none
  | _, _ => none

def indexAddrE (P : Program) (t : TypeId) (x ix : AV) (h : List Blk) : Option (Prop × AV × List Blk) :=
  match tyT P t, ix with
  | some f, .int _ i => match f.d with
    | .slice e => match tyT P e, x with
      | some fe, .sl n sz off len => some (sz = fe.sz ∧ 0 ≤ i ∧ i < len ∧ (∃ cs, h[n.id]? = some (.cells n.gen cs)), .ptr n (off + i.toNat * fe.sz), h)
      | some fe, .psl cells len => some (0 ≤ i ∧ i < len ∧ i.toNat * fe.sz ≤ cells.length, .pptr (cells.drop (i.toNat * fe.sz)), h)
      | _, _ => none
    | .array len e => match tyT P e with
      | some fe => match addA x (i.toNat * fe.sz) with
        | some a' => some (0 ≤ i ∧ i < len ∧ reachA x (i.toNat * fe.sz), a', h)
        | none => none
      | none => none
    | _ => none
  | _, _ => none

def indexE (P : Program) (t : TypeId) (x ix : AV) (h : List Blk) : Option (Prop × AV × List Blk) :=
  match tyT P t, ix, x with
  | some f, .int _ i, .agg cs => match f.d with
    | .array len e => match tyT P e with
      | some fe => some (0 ≤ i ∧ i < len ∧ (aggD fe.d = false → i.toNat * fe.sz < cs.length), partA fe cs (i.toNat * fe.sz), h)
      | none => none
    | _ => none
  | some f, .int _ i, .str s => match s[i.toNat]? with
    | some b => some (f.d = .string ∧ 0 ≤ i, .int .u8 b.toNat, h)
    | none => none
  | _, _, _ => none

def sliceE (P : Program) (t : TypeId) (x : AV) (lo hi : Option AV) (h : List Blk) : Option (Prop × AV × List Blk) :=
  match tyT P t with
  | some f => match f.d, x with
    | .string, .str s => match loB lo, hiB s.length hi with
      | some l, some u => some (0 ≤ l ∧ l ≤ u ∧ u ≤ s.length, .str ((s.drop l.toNat).take (u.toNat - l.toNat)), h)
      | _, _ => none
    | .slice e, .psl cells len => match tyT P e, loB lo, hiB len hi with
      | some fe, some l, some u => some (0 ≤ l ∧ l ≤ u ∧ u ≤ len ∧ len * fe.sz ≤ cells.length, .psl ((cells.drop (l.toNat * fe.sz)).take ((u.toNat - l.toNat) * fe.sz)) (u.toNat - l.toNat), h)
      | _, _, _ => none
    | .slice e, .sl n sz off len => match tyT P e, loB lo, hiB len hi with
      | some fe, some l, some u => some (sz = fe.sz ∧ 0 ≤ l ∧ l ≤ u ∧ u ≤ len ∧ (l < len ∨ l = 0) ∧ (∃ cs, h[n.id]? = some (.cells n.gen cs)), .sl n fe.sz (off + l.toNat * fe.sz) (u.toNat - l.toNat), h)
      | _, _, _ => none
    | _, _ => none
  | none => none

def slice3E (P : Program) (t : TypeId) (x : AV) (lo hi : Option AV) (mx : AV) (h : List Blk) : Option (Prop × AV × List Blk) :=
  match tyT P t with
  | some f => match f.d, x with
    | .slice e, .psl cells len => match tyT P e, loB lo, hi, mx with
      | some fe, some l, some (.int _ u), .int _ m => some (0 ≤ l ∧ l ≤ u ∧ u ≤ m ∧ m ≤ len ∧ len * fe.sz ≤ cells.length, .psl ((cells.drop (l.toNat * fe.sz)).take ((u.toNat - l.toNat) * fe.sz)) (u.toNat - l.toNat), h)
      | _, _, _, _ => none
    | _, _ => none
  | none => none

/-- What a map gives for a key. -/
def gotA (r : Option Nat) (vs : List AV) (z : AV) : AV :=
  match r with
  | some j => vs.getD j .any
  | none => z

def lookupE (P : Program) (t : TypeId) (x k : AV) (cok : Bool) (h : List Blk) : Option (Prop × AV × List Blk) :=
  match tyT P t with
  | some f => match f.d with
    | .map kt et => match tyT P kt, tyT P et, mapOf h x with
      | some _, some fe, some (ks, vs) => match fe.ze, findA P kt k ks 0 with
        | some z, some r => some (eqA P 6 kt k k = some true ∧ zeroFits P et = true, if cok then .tup [gotA r vs (zeroA fe z), .bool r.isSome] else gotA r vs (zeroA fe z), h)
        | _, _ => none
      | _, _, _ => none
    | _ => none
  | none => none

def mapUpdateE (P : Program) (t : TypeId) (x k v : AV) (h : List Blk) : Option (Prop × AV × List Blk) :=
  match tyT P t, x with
  | some f, .map n => match f.d, h[n.id]? with
    | .map kt _, some (.map ks vs) => match tyT P kt, findA P kt k ks 0 with
      | some _, some (some j) => some (n.gen = 0 ∧ eqA P 6 kt k k = some true ∧ ks[j]? = some k, .tup [], h.set n.id (.map ks (vs.set j v)))
      | some _, some none => some (n.gen = 0 ∧ eqA P 6 kt k k = some true, .tup [], h.set n.id (.map (ks ++ [k]) (vs ++ [v])))
      | _, _ => none
    | _, _ => none
  | _, _ => none

def assertE (P : Program) (at_ : TypeId) (x : AV) (h : List Blk) : Option (Prop × AV × List Blk) :=
  match tyT P at_ with
  | some f => match f.ze with
    | some z => match x with
      | .iface t v => if t = at_ then some (isIfaceD f.d = false, .tup [v, .bool true], h) else some (isIfaceD f.d = false ∧ zeroFits P at_ = true, .tup [zeroA f z, .bool false], h)
      | .niliface => some (isIfaceD f.d = false ∧ zeroFits P at_ = true, .tup [zeroA f z, .bool false], h)
      | _ => none
    | none => none
  | none => none

def appendE (P : Program) (st xt : TypeId) (d a : AV) (h : List Blk) : Option (Prop × AV × List Blk) :=
  match d, tyT P st, tyT P xt with
  | .sl n sz 0 len, some f, some fx => match f.d, h[n.id]? with
    | .slice e, some (.cells g cs) => match tyT P e with
      | some fe => match fe.ze, srcA h fe.sz a with
        | some z, some (new, m) => some (isIntD fx.d = false ∧ sz = fe.sz ∧ g = n.gen ∧ z.length = fe.sz ∧ cs.length = len * fe.sz ∧ new.length = m * fe.sz ∧ (∀ s, a = .str s → fe.sz = 1) ∧ new.all leafA = true ∧ len + m ≤ 4294967296 ∧ fe.bytes ≤ 4096,
            .sl ⟨n.id, n.gen + 1⟩ fe.sz 0 (len + m), h.set n.id (.cells (n.gen + 1) (cs ++ new)))
        | _, _ => none
      | none => none
    | _, _ => none
  | _, _, _ => none

def lenE (P : Program) (t : TypeId) (x : AV) (h : List Blk) : Option (Prop × AV × List Blk) :=
  match tyT P t with
  | some f => match f.d, x with
    | .string, .str s => some (True, .int .i64 s.length, h)
    | .slice _, .psl _ len => some (True, .int .i64 len, h)
    | .slice _, .nilsl => some (True, .int .i64 0, h)
    | .slice _, .sl n _ _ len => some (∃ cs, h[n.id]? = some (.cells n.gen cs), .int .i64 len, h)
    | _, _ => none
  | none => none

def builtinE (P : Program) (b : Builtin) (ats : List TypeId) (args : List AV) (h : List Blk) : Option (Prop × AV × List Blk) :=
  match b, ats, args with
  | .len, [t], [x] => lenE P t x h
  | .append, [st, xt], [d, a] => appendE P st xt d a h
  | .max, _, .int k a :: l => match intsOf k l with
    | some ns => some (True, .int k (ns.foldl (fun x y => if y > x then y else x) a), h)
    | none => none
  | .min, _, .int k a :: l => match intsOf k l with
    | some ns => some (True, .int k (ns.foldl (fun x y => if y < x then y else x) a), h)
    | none => none
  | .copy, [st, _], [.sl n sz off len, a] => match tyT P st with
    | some f => match f.d, h[n.id]? with
      | .slice e, some (.cells g cs) => match tyT P e with
        | some fe => match srcA h fe.sz a with
          | some (src, m) => some (sz = fe.sz ∧ g = n.gen ∧ off + len * fe.sz ≤ cs.length ∧ src.length = m * fe.sz ∧ (∀ s, a = .str s → fe.sz = 1) ∧ src.all leafA = true,
              .int .i64 (Nat.min m len), h.set n.id (.cells n.gen (setMany cs off (src.take (Nat.min m len * fe.sz)))))
          | none => none
        | none => none
      | _, _ => none
    | none => none
  | .clear, [st], [.sl n sz off len] => match tyT P st with
    | some f => match f.d, h[n.id]? with
      | .slice e, some (.cells g cs) => match tyT P e with
        | some fe => match fe.ze with
          | some z => some (sz = fe.sz ∧ g = n.gen ∧ z.length = fe.sz ∧ z.all leafA = true ∧ off + len * fe.sz ≤ cs.length, .tup [], h.set n.id (.cells n.gen (setMany cs off (zeroRow z (len * fe.sz)))))
          | none => none
        | none => none
      | _, _ => none
    | none => none
  | _, _, _ => none

def makeSliceE (P : Program) (t : TypeId) (l cp : AV) (h : List Blk) : Option (Prop × AV × List Blk) :=
  match tyT P t, l, cp with
  | some f, .int _ n, .int _ n' => match f.d with
    | .slice e => match tyT P e with
      | some fe => match fe.ze with
        | some z => some (n' = n ∧ 0 ≤ n ∧ fe.bytes * n ≤ 281474976710656 ∧ n ≤ 281474976710656, .sl ⟨h.length, 0⟩ fe.sz 0 n.toNat, h ++ [.cells 0 (if n.toNat * fe.sz = 0 then [] else zeroRow z (n.toNat * fe.sz))])
        | none => none
      | none => none
    | _ => none
  | _, _, _ => none

def nextE (x : AV) (h : List Blk) : Option (Prop × AV × List Blk) :=
  match x with
  | .ptr n 0 => match h[n.id]? with
    | some (.iter s pos) => if pos < s.length then some (n.gen = 0, .tup [.bool true, .int .i64 pos, .int .i32 (Utf8.decode ⟨s.toArray⟩ pos).1], h.set n.id (.iter s (pos + (Utf8.decode ⟨s.toArray⟩ pos).2))) else some (n.gen = 0, .tup [.bool false], h)
    | _ => none
  | _ => none

/-- What an operation asks, gives and leaves. -/
def opE (P : Program) (op : Op) (ρ : Operand → AV) (h : List Blk) : Option (Prop × AV × List Blk) :=
  match op with
  | .move x | .assign x => some (True, ρ x, h)
  | .pick x a b => match ρ x with
    | .bool t => some (True, pickA t (ρ a) (ρ b), h)
    | _ => none
  | .alloc e => match tyT P e with
    | some f => match f.ze with
      | some z => some (True, .ptr ⟨h.length, 0⟩ 0, h ++ [.cells 0 z])
      | none => none
    | none => none
  | .box _ x => match valCells (ρ x) with
    | some cs => some (True, .ptr ⟨h.length, 0⟩ 0, h ++ [.cells 0 cs])
    | none => none
  | .build t parts => buildE P t (parts.toList.map fun p => (p.1, ρ p.2)) h
  | .buildSlice t len parts => buildSliceE P t len (parts.toList.map fun p => (p.1, ρ p.2)) h
  | .load t a => loadE P t (ρ a) h
  | .store t a v => storeE P t (ρ a) (ρ v) h
  | .nilCheck x => nilCheckE (ρ x) h
  | .binOp op t x y _ => binE P op t (ρ x) (ρ y) h
  | .unOp op _ x => unE op (ρ x) h
  | .convert s d x => convE P s d (ρ x) h
  | .makeInterface t x => match tyT P t with
    | some f => some (isIfaceD f.d = false, .iface t (ρ x), h)
    | none => none
  | .makeFunc fn first cap => some (True, .fn fn (first.toList.map ρ) (cap.toList.map ρ), h)
  | .makeMap _ none => some (True, .map ⟨h.length, 0⟩, h ++ [.map [] []])
  | .makeSlice t l cp => makeSliceE P t (ρ l) (ρ cp) h
  | .slice t x lo hi none => sliceE P t (ρ x) (lo.map ρ) (hi.map ρ) h
  | .slice t x lo hi (some mx) => slice3E P t (ρ x) (lo.map ρ) (hi.map ρ) (ρ mx) h
  | .fieldAddr t a i => fieldAddrE P t (ρ a) i h
  | .field t x i => fieldE P t (ρ x) i h
  | .indexAddr t x i => indexAddrE P t (ρ x) (ρ i) h
  | .index t x i => indexE P t (ρ x) (ρ i) h
  | .lookup t x k cok => lookupE P t (ρ x) (ρ k) cok h
  | .mapUpdate t x k v | .insert t x k v => mapUpdateE P t (ρ x) (ρ k) (ρ v) h
  | .range t x => match tyT P t, ρ x with
    | some f, .str s => some (f.d = .string, .ptr ⟨h.length, 0⟩ 0, h ++ [.iter s 0])
    | _, _ => none
  | .next x true => nextE (ρ x) h
  | .typeAssert x _ at_ true => assertE P at_ (ρ x) h
  | .extract x i => match ρ x with
    | .tup vs => match vs[i]? with
      | some v => some (True, v, h)
      | none => none
    | _ => none
  | .call cl => match cl.callee with
    | .builtin b => builtinE P b cl.argTypes.toList (cl.args.toList.map ρ) h
    | _ => none
  | _ => none

section
variable {P : Program} {h : List Blk} {K : AV → List Blk → Prop}

theorem stepK_elim {r : Option (Prop × AV × List Blk)} {K : AV → List Blk → Prop} {G : Prop} (hs : stepK r K) (hg : ∀ c v h, r = some (c, v, h) → c → K v h → G) : G := by
  cases r with
  | none => exact hs.elim
  | some x => obtain ⟨c, v, h⟩ := x; exact hg c v h rfl hs.1 hs.2

theorem opE_ok {op : Op} {ρ : Operand → AV} (hs : stepK (opE P op ρ h) K) : opW P op ρ h K := by
  cases op
  all_goals try (simp only [opE] at hs)
  all_goals try (exact hs.elim)
  all_goals try (simp only [opW])
  case move => exact hs.2
  case assign => exact hs.2
  case pick => split at hs <;> first | exact hs.elim | (rename_i heq; simp only [heq]; exact hs.2)
  case alloc =>
    split at hs
    · rename_i f hf
      split at hs
      · rename_i z hz; simp only [hf, hz]; exact hs.2
      · exact hs.elim
    · exact hs.elim
  case box => split at hs <;> first | exact hs.elim | (rename_i heq; simp only [heq]; exact hs.2)
  case build => unfold buildE at hs; unfold buildW; (repeat' split at hs) <;> first | exact hs.elim | (simp only [stepK_some] at hs; simp_all)
  case buildSlice => unfold buildSliceE at hs; unfold buildSliceW; (repeat' split at hs) <;> first | exact hs.elim | (simp only [stepK_some] at hs; simp_all)
  case load => unfold loadE at hs; unfold loadW; (repeat' split at hs) <;> first | exact hs.elim | (simp only [stepK_some] at hs; simp_all)
  case store t a v =>
    unfold storeE at hs
    unfold storeW
    split at hs
    · rename_i n off f vs h1 h2 h3
      split at hs
      · rename_i g cs h4
        simp only [h1, h2, h3, h4]
        exact ⟨hs.1.1, hs.1.2.1, hs.1.2.2.1, hs.1.2.2.2, hs.2⟩
      · exact hs.elim
    · exact hs.elim
  case nilCheck => unfold nilCheckE at hs; unfold nilCheckW; (repeat' split at hs) <;> first | exact hs.elim | (simp only [stepK_some] at hs; simp_all)
  case binOp op t x y t' =>
    unfold binE at hs; unfold binW
    cases op <;> (repeat' split at hs) <;> first | exact hs.elim | (simp only [stepK_some] at hs; simp_all)
  case unOp => unfold unE at hs; unfold unW; (repeat' split at hs) <;> first | exact hs.elim | (simp only [stepK_some] at hs; simp_all)
  case convert => unfold convE convBytesE at hs; unfold convW convBytesW; (repeat' split at hs) <;> first | exact hs.elim | (simp only [stepK_some] at hs; simp_all)
  case makeInterface => split at hs <;> first | exact hs.elim | (rename_i heq; simp only [heq]; exact hs)
  case makeFunc => exact hs.2
  case makeMap t r => cases r <;> first | exact hs.2 | exact hs.elim
  case makeSlice => unfold makeSliceE at hs; (repeat' split at hs) <;> first | exact hs.elim | (simp only [stepK_some] at hs; simp_all)
  case slice t x lo hi mx => cases mx with
    | some m => simp only at hs ⊢; generalize hi.map ρ = hi' at hs ⊢; generalize lo.map ρ = lo' at hs ⊢; unfold slice3E at hs; unfold slice3W; (repeat' split at hs) <;> first | exact hs.elim | (simp only [stepK_some] at hs; simp_all)
    | none => simp only at hs ⊢; unfold sliceE at hs; unfold sliceW; (repeat' split at hs) <;> first | exact hs.elim | (simp only [stepK_some] at hs; simp_all)
  case fieldAddr => unfold fieldAddrE at hs; unfold fieldAddrW; (repeat' split at hs) <;> first | exact hs.elim | (simp only [stepK_some] at hs; simp_all)
  case field => unfold fieldE at hs; unfold fieldW; (repeat' split at hs) <;> first | exact hs.elim | (simp only [stepK_some] at hs; simp_all)
  case indexAddr => unfold indexAddrE at hs; unfold indexAddrW; (repeat' split at hs) <;> first | exact hs.elim | (simp only [stepK_some] at hs; simp_all)
  case index => unfold indexE at hs; unfold indexW; (repeat' split at hs) <;> first | exact hs.elim | (simp only [stepK_some] at hs; simp_all)
  case lookup => unfold lookupE at hs; unfold lookupW; (repeat' split at hs) <;> first | exact hs.elim | (simp only [stepK_some] at hs; simp_all [gotA]; exact hs.2)
  case mapUpdate => unfold mapUpdateE at hs; unfold mapUpdateW; (repeat' split at hs) <;> first | exact hs.elim | (simp only [stepK_some] at hs; simp_all)
  case insert => unfold mapUpdateE at hs; unfold mapUpdateW; (repeat' split at hs) <;> first | exact hs.elim | (simp only [stepK_some] at hs; simp_all)
  case range => (repeat' split at hs) <;> first | exact hs.elim | (simp only [stepK_some] at hs; simp_all)
  case next x b => cases b with
    | false => exact hs.elim
    | true =>
      simp only at hs ⊢
      unfold nextE at hs
      split at hs
      · rename_i n h1
        split at hs
        · rename_i s pos h2
          simp only [h1, h2]
          split at hs
          · rename_i hp; exact ⟨hs.1, fun _ => hs.2, fun hn => absurd hp hn⟩
          · rename_i hp; exact ⟨hs.1, fun hn => absurd hn hp, fun _ => hs.2⟩
        · exact hs.elim
      · exact hs.elim
  case typeAssert x t at_ b => cases b with
    | false => exact hs.elim
    | true => simp only at hs ⊢; unfold assertE at hs; unfold assertW; (repeat' split at hs) <;> first | exact hs.elim | (simp only [stepK_some] at hs; simp_all)
  case extract => (repeat' split at hs) <;> first | exact hs.elim | (simp only [stepK_some] at hs; simp_all)
  case call cl =>
    split at hs
    · rename_i b hb
      simp only [hb]
      generalize cl.args.toList.map ρ = args at hs ⊢
      generalize cl.argTypes.toList = ats at hs ⊢
      unfold builtinE at hs
      unfold builtinW
      split at hs
      · unfold lenE at hs; unfold lenW; (repeat' split at hs) <;> first | exact hs.elim | (simp only [stepK_some] at hs; simp_all)
      · unfold appendE at hs; unfold appendW; (repeat' split at hs) <;> first | exact hs.elim | (simp only [stepK_some] at hs; simp_all)
      · (repeat' split at hs) <;> first | exact hs.elim | (simp only [stepK_some] at hs; simp_all)
      · (repeat' split at hs) <;> first | exact hs.elim | (simp only [stepK_some] at hs; simp_all)
      · (repeat' split at hs) <;> first | exact hs.elim | (simp only [stepK_some] at hs; simp_all)
      · (repeat' split at hs) <;> first | exact hs.elim | (simp only [stepK_some] at hs; simp_all)
      · exact hs.elim
    · exact hs.elim

theorem buildSealE_ok {t : TypeId} {len : Nat} {parts : List (Nat × AV)} (hs : stepK (buildSealE P t len parts h) K) : buildSealW P t len parts h K := by
  unfold buildSealE at hs; unfold buildSealW; (repeat' split at hs) <;> first | exact hs.elim | (simp only [stepK_some] at hs; simp_all)
end
end Go.Mac

/-! MacN -/
/- MacN: 'runL': the precondition of regions, to be reckoned. No program is in sight. -/
namespace Go.Mac
open Go Go.Conc

def guardB (t want : Bool) (yes no : Prop) : Prop :=
  match t, want with
  | true, true => yes
  | false, false => yes
  | true, false => no
  | false, true => no

/-- .. by the condition's value. -/
def guardV (v : AV) (want : Bool) (yes no : Prop) : Prop :=
  match v with
  | .bool t => guardB t want yes no
  | _ => False
@[congr] theorem guardV_congr {v v' : AV} {want : Bool} {yes no : Prop} (e : v = v') : guardV v want yes no = guardV v' want yes no := by rw [e]
theorem guardV_tt {yes no : Prop} : guardV (.bool true) true yes no = yes := rfl
theorem guardV_ff {yes no : Prop} : guardV (.bool false) false yes no = yes := rfl
theorem guardV_tf {yes no : Prop} : guardV (.bool true) false yes no = no := rfl
theorem guardV_ft {yes no : Prop} : guardV (.bool false) true yes no = no := rfl

/-- What is asked of an operation under its condition. -/
def guardW (ops : Array Oper) (o : Oper) (sl : List AV) (yes no : Prop) : Prop :=
  match o.guard with
  | none => yes
  | some (j, want) => match (ops[j]?).bind (·.dst) with
    | some d => guardV (evA sl (.tmp d)) want yes no
    | none => False

theorem guardB_yes {t want : Bool} {yes no : Prop} (h : guardB t want yes no) (he : t = want) : yes := by cases t <;> cases want <;> first | exact h | cases he
theorem guardB_no {t want : Bool} {yes no : Prop} (h : guardB t want yes no) (he : ¬ t = want) : no := by cases t <;> cases want <;> first | exact h | exact absurd rfl he
theorem guardB_of {t want : Bool} {yes no : Prop} (h1 : t = want → yes) (h2 : ¬ t = want → no) : guardB t want yes no := by cases t <;> cases want <;> simp_all [guardB]

/-- Both ways of a question. -/
def condB (t : Bool) (a b : Prop) : Prop := (t = true → a) ∧ (t = false → b)
theorem condB_true {a b : Prop} : condB true a b = a := by simp [condB]
theorem condB_false {a b : Prop} : condB false a b = b := by simp [condB]
def condV (v : AV) (a b : Prop) : Prop :=
  match v with
  | .bool t => condB t a b
  | _ => False
@[congr] theorem condV_congr {v v' : AV} {a b : Prop} (e : v = v') : condV v a b = condV v' a b := by rw [e]
theorem condV_bool {t : Bool} {a b : Prop} : condV (.bool t) a b = condB t a b := rfl
theorem condB_var {t : Bool} {a b : Prop} : condB t a b = ((t = true → a) ∧ (t = false → b)) := rfl

theorem evA_bool {sl : List AV} {d : Tmp} {t : Bool} (h : evA sl (.tmp d) = .bool t) : sl[d]? = some (.bool t) := by
  cases hd : sl[d]? with
  | none => simp [evA, List.getD, hd] at h
  | some a => simp [evA, List.getD, hd] at h; rw [h]

/-- A value and blocks, reckoned before what follows. -/
def withVH (v : AV) (h : List Blk) (K : AV → List Blk → Prop) : Prop := K v h
theorem withVH_eq {v : AV} {h : List Blk} {K : AV → List Blk → Prop} : withVH v h K = K v h := rfl
@[congr] theorem withVH_congr {v v' : AV} {h h' : List Blk} {K : AV → List Blk → Prop} (e1 : v = v') (e2 : h = h') : withVH v h K = withVH v' h' K := by rw [e1, e2]

/-- Can the function with this number be called as every other one is? -/
def callable (P : Program) (g : FuncId) : Prop :=
  ∃ fn, P.funcs[g]? = some fn ∧ (fn.name == "runtime.NumGoroutine") = false ∧ fn.body.isSome = true

/-- What is asked behind a call. -/
def retQ (K : AExit → AS → Prop) (s : AS) (next : AV → List Blk → Prop) : AEnd → List Blk → Prop
  | .ret v, h' => next v h'
  | .panic v, h' => K (.panic v) { s with hp := h' }

/-- How many parameters the rounds of a loop take. -/
def loopAr (h : List Blk) (n : Nm) : Option Nat :=
  match h[n.id]? with
  | some (.loop _ _ _ _ params _ _) => some params.size
  | _ => none

/-- A call by a value of a function's type. -/
def callW (P : Program) (f : AV) (args : List AV) (h : List Blk) (Post : AEnd → List Blk → Prop) : Prop :=
  match f with
  | .fn (.func g) first cap => callable P g ∧ CallsA P g (first ++ args ++ cap) h Post
  | .yield n => n.gen = 0 ∧ loopAr h n = some args.length ∧ YieldA P n args h Post
  | _ => False

/-- A panic of the program's own. -/
def panicW (K : AExit → AS → Prop) (s : AS) (x : AV) : Prop :=
  match x with
  | .iface t v => K (.panic (.iface t v)) s
  | _ => False

/-- How to reckon: the temporaries whose slices are written no more once they are made; those by whose truth the rest is split; the regions that draw their order up to an operation alone; those that are left. -/
structure Opt where
  shut : List Tmp := []
  cut : List Tmp := []
  tail : List (Nat × Nat) := []
  hand : List Nat := []

/-- Is what the operation makes to be written no more? -/
def sealed (so : Opt) (o : Oper) : Bool :=
  match o.dst with
  | some d => so.shut.contains d
  | none => false

/-- Is the rest split by the operation's value? -/
def cuts (so : Opt) (o : Oper) : Bool :=
  match o.dst with
  | some d => so.cut.contains d
  | none => false

def cutV (b : Bool) (v : AV) (h : List Blk) (K : AV → List Blk → Prop) : Prop :=
  match b, v with
  | true, .bool t => condB t (K (.bool true) h) (K (.bool false) h)
  | true, _ => False
  | false, _ => K v h

@[congr] theorem cutV_congr {b b' : Bool} {v v' : AV} {h h' : List Blk} {K : AV → List Blk → Prop} (e1 : b = b') (e2 : v = v') (e3 : h = h') : cutV b v h K = cutV b' v' h' K := by rw [e1, e2, e3]
theorem cutV_false {v : AV} {h : List Blk} {K : AV → List Blk → Prop} : cutV false v h K = K v h := by cases v <;> rfl
theorem cutV_bool {t : Bool} {h : List Blk} {K : AV → List Blk → Prop} : cutV true (.bool t) h K = condB t (K (.bool true) h) (K (.bool false) h) := rfl

theorem cutV_ok {b : Bool} {v : AV} {h : List Blk} {K : AV → List Blk → Prop} (q : cutV b v h K) : K v h := by
  unfold cutV at q
  split at q
  · rename_i t
    cases t
    · exact q.2 rfl
    · exact q.1 rfl
  · exact q.elim
  · exact q

def stepW (P : Program) (so : Opt) (o : Oper) (s : AS) (K : AExit → AS → Prop) (next : AV → List Blk → Prop) : Prop :=
  match o.op with
  | .call cl => match cl.callee with
    | .value f => s.gh.todo = [] ∧ callW P (evA s.sl f) (cl.args.toList.map (evA s.sl)) s.hp (retQ K s next)
    | .builtin .panic => panicW K s ((cl.args.toList.map (evA s.sl)).getD 0 .any)
    | _ => stepK (opE P o.op (evA s.sl) s.hp) next
  | .panic x => panicW K s (evA s.sl x)
  | .defer _ => False
  | .buildSlice t len parts => match sealed so o with
    | true => stepK (buildSealE P t len (parts.toList.map fun p => (p.1, evA s.sl p.2)) s.hp) next
    | false => stepK (opE P o.op (evA s.sl) s.hp) next
  | op => stepK (opE P op (evA s.sl) s.hp) next

/-- ████ The precondition of the operations of a region, in the order of the text. ████ -/
def runL (P : Program) (so : Opt) (ops : Array Oper) : List Oper → (AExit → AS → Prop) → AS → Prop
  | [], K, s => K .normal s
  | o :: rest, K, s => guardW ops o s.sl
        (stepW P so o s K fun v h' => withVH v h' fun v h' => cutV (cuts so o) v h' fun v h' => runL P so ops rest K { s with sl := putA s.sl o.dst v, hp := h' })
        (runL P so ops rest K { s with sl := putA s.sl o.dst (.tup []) })

section
variable {P : Program} {fk : FK} {so : Opt}

theorem WPI.panic {K : AExit → AS → Prop} {s : AS} {ops : Array Oper} {i : Nat} {rest : List Nat} {o : Oper} {t : TypeId} {v : AV} (ho : ops[i]? = some o) (hw : ∀ c tmps, VRL c s.sl tmps.toList → Region.wanted o (yielded ops tmps) = true) (hd : isDefer o.op = false)
    (hop : ∀ (c : Cx) (w : World) (ρ : Operand → Value), (∀ x, VR c (evA s.sl x) (ρ x)) → ∃ V, VR c (.iface t v) V ∧ ∀ w es, (execOp ρ o).runT P w es = (.halt (.panic V) w, es))
    (hk : K (.panic (.iface t v)) s) : WPI P fk [.inRegion ops (i :: rest)] K s := by
  intro main Stop b k cs base c w tmps ds h1 h2 h3 h4
  generalize hfr : at' b tmps ds (.inRegion ops (i :: rest) :: k) = fr
  have hρ : ∀ x, VR c (evA s.sl x) (fr.eval x) := fun x => by rw [← hfr]; exact VR_evA h3.sl b ds _ x
  obtain ⟨V, hV, hrun⟩ := hop c w fr.eval hρ
  have hkind : (fr.kind == CallKind.early) = false := by rw [← hfr]; simpa [at'] using h2
  have htodo : fr.todo = .inRegion ops (i :: rest) :: k := by rw [← hfr]; rfl
  have hst : ∀ w1, stepG P main (G fr cs) w1 = .go (G (fr.raise [{ v := V, recovered := false }]) cs) w1 #[] := by
    intro w1
    rw [← hfr, stepG_opA ho (hw c tmps h3.sl) hd, hfr]
    have he := hrun w1 #[]
    simp only [stepG.apply, htodo, if_true, he, hkind, Bool.false_eq_true, if_false]
    simp [GStep.after, G, seen]
  have hra : fr.raise [{ v := V, recovered := false }] = { at' b tmps ds (.inRegion ops (i :: rest) :: k) with mode := .panicking [{ v := V, recovered := false }] } := by rw [← hfr]; rfl
  rw [List.singleton_append, hfr]
  refine Go'.idle rfl rfl hst ?_
  rw [hra]
  exact h4 (.panic (.iface t v)) s c w tmps ds hk h3 (.reflT c _) V _ hV

theorem stepW_ok {ops : Array Oper} {i : Nat} {rest : List Nat} {o : Oper} {K : AExit → AS → Prop} {s : AS} (ho : ops[i]? = some o) (hw : ∀ c tmps, VRL c s.sl tmps.toList → Region.wanted o (yielded ops tmps) = true) {next : AV → List Blk → Prop}
    (hn : ∀ v h', next v h' → WPI P fk [.inRegion ops rest] K { s with sl := putA s.sl o.dst v, hp := h' }) (h : stepW P so o s K next) : WPI P fk [.inRegion ops (i :: rest)] K s := by
  have plain : isDefer o.op = false → stepK (opE P o.op (evA s.sl) s.hp) next → WPI P fk [.inRegion ops (i :: rest)] K s := fun hd h =>
    WPI.op ho hw hd next (fun c w ρ hρ hH => opW_ok (opE_ok h) hρ hH) hn
  have pan : ∀ (x : Operand), isDefer o.op = false → (∀ (ρ : Operand → Value) w es, ∀ V, (∃ t v, V = .iface t v) → ρ x = V → (execOp ρ o).runT P w es = (.halt (.panic V) w, es)) → panicW K s (evA s.sl x) → WPI P fk [.inRegion ops (i :: rest)] K s := by
    intro x hd hrun hp
    unfold panicW at hp
    split at hp
    · rename_i t v e
      refine WPI.panic (t := t) (v := v) ho hw hd (fun c w ρ hρ => ?_) hp
      have hx := hρ x
      rw [e] at hx
      obtain ⟨y, hV, hy⟩ := hx
      exact ⟨_, ⟨y, rfl, hy⟩, fun w es => hrun ρ w es _ ⟨t, y, rfl⟩ hV⟩
    · exact hp.elim
  unfold stepW at h
  split at h
  · rename_i cl hcl
    split at h
    · rename_i f hf
      obtain ⟨hgt, h⟩ := h
      unfold callW at h
      split at h
      · rename_i g first cap hfv
        obtain ⟨⟨fn, q1, q2, q3⟩, h⟩ := h
        refine WPI.call ho hw hcl hf hfv q1 q2 q3 hgt (h.mono fun e h' q => ?_)
        cases e with
        | ret v => exact hn v h' q
        | panic v => exact q
      · rename_i n hfv
        obtain ⟨hg, hlen, h⟩ := h
        unfold loopAr at hlen
        split at hlen
        · rename_i st pend fn slots params assign body hb
          simp only [List.length_map, Array.length_toList, Option.some.injEq] at hlen
          refine WPI.callY ho hw hcl hf hfv hb hg hlen.symm hgt (h.mono fun e h' q => ?_)
          cases e with
          | ret v => exact hn v h' q
          | panic v => exact q
        · cases hlen
      · exact h.elim
    · rename_i hb
      have hargs : (cl.args.toList.map (evA s.sl)).getD 0 .any = evA s.sl ((cl.args[0]?).getD (.const (.tuple #[.nilIface]))) ∨ (cl.args.toList.map (evA s.sl)).getD 0 .any = .any := by
        cases ha : cl.args[0]? with
        | none => right; have : cl.args.toList[0]? = none := by simpa using ha
                  simp [List.getD, this]
        | some x => left; have : cl.args.toList[0]? = some x := by simpa using ha
                    simp [List.getD, this]
      rcases hargs with ha | ha
      · rw [ha] at h
        refine pan _ (by rw [hcl]; rfl) (fun ρ w es V hV hx => ?_) h
        obtain ⟨t, v, rfl⟩ := hV
        simp only [execOp, hcl, resolve, hb]
        show (builtin .panic cl.argTypes o.type (cl.args.map fun | .const _ => true | _ => false) (cl.args.map ρ)).runT P w es = _
        have h0 : (cl.args.map ρ).getD 0 .nilIface = .iface t v := by
          cases hc : cl.args[0]? with
          | none =>
            exfalso
            rw [hc] at h
            simp only [Option.getD_none, evA, constA] at h
            simp [panicW] at h
          | some x =>
            rw [hc] at hx
            simp only [Option.getD_some] at hx
            simp [Array.getD_eq_getD_getElem?, hc, hx]
        simp only [builtin, h0, Instr.panic]
        rfl
      · rw [ha] at h; exact h.elim
    · rename_i hnv hnp
      exact plain (by rw [hcl]; rfl) (by rw [hcl] at h ⊢; exact h)
  · rename_i x hx
    refine pan x (by rw [hx]; rfl) (fun ρ w es V hV hxv => ?_) h
    obtain ⟨t, v, rfl⟩ := hV
    simp only [execOp, hx, hxv, Instr.panic]
    rfl
  · exact h.elim
  · rename_i t len parts hb
    split at h
    · exact WPI.op ho hw (by rw [hb]; rfl) next (fun c w ρ hρ hH => buildSealW_ok hb (buildSealE_ok h) hρ hH) hn
    · exact plain (by rw [hb]; rfl) h
  · rename_i op h1 h2 h3 h4
    refine plain ?_ h
    cases hop : o.op <;> first | rfl | exact absurd hop (h3 _)

theorem runL_ok {ops : Array Oper} : ∀ {l : List Oper} {k : Nat} {K : AExit → AS → Prop} {s : AS}, (∀ j, l[j]? = ops[k + j]?) → runL P so ops l K s → WPI P fk [.inRegion ops (List.range' k l.length)] K s
  | [], k, K, s, _, h => WPI.region_end h
  | o :: rest, k, K, s, hl, h => by
    have ho : ops[k]? = some o := by simpa using (hl 0).symm
    have hrest : ∀ j, rest[j]? = ops[k + 1 + j]? := fun j => by have := hl (j + 1); simpa [Nat.add_assoc, Nat.add_comm 1 j] using this
    simp only [runL] at h
    rw [List.length_cons, List.range'_succ]
    unfold guardW guardV at h
    split at h
    · rename_i hg
      exact stepW_ok ho (fun _ _ _ => by simp [Region.wanted, hg]) (fun v h' q => by unfold withVH at q; exact runL_ok hrest (cutV_ok q)) h
    · rename_i j want hg
      split at h
      · rename_i d hd
        split at h
        · rename_i t ht
          replace ht := evA_bool ht
          have hj : ∃ oj, ops[j]? = some oj ∧ oj.dst = some d := by
            cases hoj : ops[j]? with
            | none => rw [hoj] at hd; cases hd
            | some oj => rw [hoj] at hd; exact ⟨oj, rfl, hd⟩
          obtain ⟨oj, hj1, hj2⟩ := hj
          by_cases he : t = want
          · exact stepW_ok ho (fun c tmps hv => by simp [Region.wanted, hg, yielded_of hv hj1 hj2 ht, he]) (fun v h' q => by unfold withVH at q; exact runL_ok hrest (cutV_ok q)) (guardB_yes h he)
          · exact WPI.op_out ho hg hj1 hj2 ht he (runL_ok hrest (guardB_no h he))
        · exact h.elim
      · exact h.elim

end
end Go.Mac

/-! MacP -/
/- MacP: regions that draw the order of their operations. No program is in sight. -/
namespace Go.Mac
open Go Go.Conc

section
variable {P : Program} {h : List Blk} {K : AV → List Blk → Prop}

theorem map_snd_congr {ρ ρ' : Operand → AV} {l : List (Nat × Operand)} (e : ∀ x ∈ l.map (·.2), ρ x = ρ' x) : (l.map fun p => (p.1, ρ p.2)) = l.map fun p => (p.1, ρ' p.2) :=
  List.map_congr_left fun p hp => by rw [e p.2 (List.mem_map_of_mem hp)]

/-- An operation looks at its operands alone. -/
theorem opE_congr {op : Op} {ρ ρ' : Operand → AV} (e : ∀ x ∈ op.operands, ρ x = ρ' x) : opE P op ρ h = opE P op ρ' h := by
  cases op
  all_goals try (simp only [Op.operands, Array.mem_def, List.mem_cons, List.not_mem_nil, or_false, forall_eq_or_imp, forall_eq] at e)
  all_goals try (first | rfl | (simp only [opE]; simp only [e]; done))
  case build t parts => simp only [opE]; rw [map_snd_congr e]
  case buildSlice t len parts => simp only [opE]; rw [map_snd_congr e]
  case makeFunc fn first cap =>
    simp only [opE]
    rw [List.map_congr_left (f := ρ) (g := ρ') (l := first.toList) fun x hx => e x (by simp at hx ⊢; exact .inl hx), List.map_congr_left (f := ρ) (g := ρ') (l := cap.toList) fun x hx => e x (by simp at hx ⊢; exact .inr hx)]
  case makeMap t r => cases r <;> rfl
  case slice t x lo hi mx =>
    cases mx with
    | some m =>
      have e1 : ρ x = ρ' x := e x (by simp)
      have e2 : lo.map ρ = lo.map ρ' := by cases lo with | none => rfl | some y => simp [e y (by simp)]
      have e3 : hi.map ρ = hi.map ρ' := by cases hi with | none => rfl | some y => simp [e y (by simp)]
      have e4 : ρ m = ρ' m := e m (by simp)
      simp only [opE]
      rw [e1, e2, e3, e4]
    | none =>
      have e1 : ρ x = ρ' x := e x (by simp)
      have e2 : lo.map ρ = lo.map ρ' := by cases lo with | none => rfl | some y => simp [e y (by simp)]
      have e3 : hi.map ρ = hi.map ρ' := by cases hi with | none => rfl | some y => simp [e y (by simp)]
      simp only [opE]
      rw [e1, e2, e3]
  case next x b =>
    cases b with
    | false => rfl
    | true => simp only [opE]; rw [e]
  case typeAssert x t at_ ok =>
    cases ok with
    | false => rfl
    | true => simp only [opE]; rw [e]
  case call cl =>
    simp only [opE]
    cases hc : cl.callee <;> simp only
    · rw [List.map_congr_left (f := ρ) (g := ρ') (l := cl.args.toList) fun x hx => e x (by simp only [Call.operands, hc]; simpa using hx)]

theorem evA_congr {sl sl' : List AV} {ts : List Tmp} (e : ∀ t ∈ ts, sl[t]? = sl'[t]?) {x : Operand} (hx : ∀ t, x = .tmp t → t ∈ ts) : evA sl x = evA sl' x := by
  cases x with
  | tmp t => simp only [evA, List.getD]; rw [e t (hx t rfl)]
  | const v => rfl
  | global g => rfl
  | func f => rfl

/-- What an operation asks, no panic being allowed. -/
def oneW (P : Program) (so : Opt) (o : Oper) (sl : List AV) (h : List Blk) (K : AV → List Blk → Prop) : Prop := stepW P so o { sl := sl, df := [], hp := h } (fun _ _ => False) K

theorem oneW_congr {so : Opt} {o : Oper} {sl sl' : List AV} (e : ∀ x ∈ o.op.operands, evA sl x = evA sl' x) (hw : oneW P so o sl h K) : oneW P so o sl' h K := by
  unfold oneW stepW at *
  revert hw
  split
  · rename_i cl hcl
    intro hw
    rw [hcl] at e
    have hm : cl.args.toList.map (evA sl) = cl.args.toList.map (evA sl') := List.map_congr_left fun x hx => e x (by simp only [Op.operands, Call.operands]; rw [Array.mem_append]; exact .inr (by simpa using hx))
    revert hw
    split
    · rename_i f hf
      intro hw
      have hf' : evA sl f = evA sl' f := e f (by simp [Op.operands, Call.operands, hf])
      simp only [hm, hf'] at hw
      exact ⟨rfl, hw.2⟩
    · rename_i hb
      intro hw
      simp only [hm] at hw
      exact hw
    · rename_i h1 h2
      intro hw
      simp only [hcl] at hw ⊢
      rw [← opE_congr (ρ := evA sl) (ρ' := evA sl') e]
      exact hw
  · rename_i x hx
    intro hw
    rw [hx] at e
    simp only at hw ⊢
    rw [e x (by simp [Op.operands])] at hw
    exact hw
  · exact fun h => h
  · rename_i t len parts hb
    intro hw
    split at hw
    · rename_i hs
      simp only [hs, if_true]
      simp only [hb] at e
      rw [← map_snd_congr (ρ := evA sl) (ρ' := evA sl') (fun x hx => e x (by simp only [Op.operands]; simpa using hx))]
      exact hw
    · rename_i hs
      simp only [hs, Bool.false_eq_true, if_false]
      rw [← opE_congr (ρ := evA sl) (ρ' := evA sl') e]
      exact hw
  · rename_i h1 h2 h3 h4
    intro hw
    rw [← opE_congr (ρ := evA sl) (ρ' := evA sl') e]
    exact hw

/-- What an operation asks under its condition: one value, these blocks. -/
def OneG (P : Program) (so : Opt) (ops : Array Oper) (o : Oper) (sl : List AV) (h : List Blk) (v : AV) (h' : List Blk) : Prop :=
  guardW ops o sl (oneW P so o sl h fun v2 h2 => v2 = v ∧ h2 = h') (v = .tup [] ∧ h' = h)

theorem mem_looksAt {ops : Array Oper} {o : Oper} {t : Tmp} (h : .tmp t ∈ o.op.operands) : t ∈ o.looksAt ops := by
  unfold Oper.looksAt
  rw [List.mem_append]
  exact .inl (List.mem_filterMap.2 ⟨.tmp t, by simpa using h, rfl⟩)

theorem OneG_congr {so : Opt} {ops : Array Oper} {o : Oper} {sl sl' : List AV} {v : AV} {h' : List Blk} (e : ∀ t ∈ o.looksAt ops, sl[t]? = sl'[t]?) (hw : OneG P so ops o sl h v h') : OneG P so ops o sl' h v h' := by
  have key : ∀ x ∈ o.op.operands, evA sl x = evA sl' x := fun x hx => evA_congr (ts := o.looksAt ops) e fun t ht => mem_looksAt (by rw [← ht]; exact hx)
  unfold OneG guardW guardV at *
  revert hw
  split
  · rename_i hg; exact oneW_congr key
  · rename_i j want hg
    split
    · rename_i d hd
      intro hw
      have : sl[d]? = sl'[d]? := e d (by
        unfold Oper.looksAt
        rw [List.mem_append]
        right
        simp only [hg, hd]
        simp)
      have this2 : evA sl (.tmp d) = evA sl' (.tmp d) := by simp only [evA, List.getD, this]
      rw [← this2]
      split at hw
      · exact guardB_of (fun he => oneW_congr key (guardB_yes hw he)) (fun he => guardB_no hw he)
      · exact hw.elim
    · exact fun h => h
end

/-! ### The orders -/
def waitsB (x : Oper) (j : Nat) : Bool := x.after.any fun e => Region.binds .any e && e.on == j

/-- Every operation waits for earlier ones alone, and for each earlier one that it is not apart from. -/
def okRegion (ops : Array Oper) : Bool :=
  (List.range ops.size).all fun i => match ops[i]? with
    | none => false
    | some x => x.after.all (fun e => !Region.binds .any e || decide (e.on < i)) && (List.range i).all fun j => match ops[j]? with
      | none => false
      | some y => Oper.apart ops y x || waitsB x j

/-- The temporaries when the operations in 'L' among the first 'n' have been carried out. -/
def slotsL (ops : Array Oper) (vals : Nat → AV) (L : Nat → Bool) (sl : List AV) : Nat → List AV
  | 0 => sl
  | n + 1 => if L n then putA (slotsL ops vals L sl n) ((ops[n]?).bind (·.dst)) (vals n) else slotsL ops vals L sl n

section
variable {ops : Array Oper} {vals : Nat → AV} {L : Nat → Bool} {sl : List AV}

theorem okRegion_waits (hok : okRegion ops = true) {i : Nat} {x : Oper} (hi : ops[i]? = some x) : ∀ e ∈ x.after, Region.binds .any e = true → e.on < i := by
  have hlt := (Array.getElem?_eq_some_iff.1 hi).1
  have := List.all_eq_true.1 hok i (List.mem_range.2 hlt)
  simp only [hi, Bool.and_eq_true] at this
  intro e he hb
  have h2 := Array.all_eq_true_iff_forall_mem.1 this.1 e he
  simpa [hb] using h2

theorem okRegion_apart (hok : okRegion ops = true) {i j : Nat} {x y : Oper} (hi : ops[i]? = some x) (hj : ops[j]? = some y) (hji : j < i) : Oper.apart ops y x = true ∨ waitsB x j = true := by
  have hlt := (Array.getElem?_eq_some_iff.1 hi).1
  have := List.all_eq_true.1 hok i (List.mem_range.2 hlt)
  simp only [hi, Bool.and_eq_true] at this
  have h2 := List.all_eq_true.1 this.2 j (List.mem_range.2 hji)
  simpa [hj] using h2

/-- With each operation those that it waits for. -/
def closedL (ops : Array Oper) (L : Nat → Bool) : Prop := ∀ j y, ops[j]? = some y → L j = true → ∀ k, waitsB y k = true → L k = true

@[simp] theorem putA_length (sl : List AV) (d : Option Tmp) (v : AV) : (putA sl d v).length = sl.length := by cases d <;> simp [putA]
@[simp] theorem slotsL_length : ∀ n, (slotsL ops vals L sl n).length = sl.length
  | 0 => rfl
  | n + 1 => by
    simp only [slotsL]
    split
    · rw [putA_length, slotsL_length n]
    · exact slotsL_length n

theorem putA_ne {sl : List AV} {d : Option Tmp} {v : AV} {t : Tmp} (h : d ≠ some t) : (putA sl d v)[t]? = sl[t]? := by
  cases d with
  | none => rfl
  | some d => exact List.getElem?_set_ne (by rintro rfl; exact h rfl)

theorem putA_eq {sl sl' : List AV} {d : Option Tmp} {v : AV} {t : Tmp} (hl : sl.length = sl'.length) (h : d = some t) : (putA sl d v)[t]? = (putA sl' d v)[t]? := by
  subst h
  simp [putA, List.getElem?_set, hl]

/-- What an operation that may come up looks at is as in the order of the text. -/
theorem slotsL_seen (hok : okRegion ops = true) (hc : closedL ops L) {i : Nat} {x : Oper} (hi : ops[i]? = some x) (hd : ∀ k, waitsB x k = true → L k = true) (hL : L i = false) {t : Tmp} (ht : t ∈ x.looksAt ops) :
    ∀ n, (slotsL ops vals L sl n)[t]? = (slotsL ops vals (fun _ => true) sl (min n i))[t]? := by
  intro n
  induction n with
  | zero => simp [slotsL]
  | succ n ih =>
    by_cases hni : n < i
    · rw [Nat.min_eq_left (by omega)] at ih ⊢
      simp only [slotsL, if_true]
      by_cases hdst : (ops[n]?).bind (·.dst) = some t
      · cases hn : ops[n]? with
        | none => rw [hn] at hdst; cases hdst
        | some y =>
          rw [hn] at hdst
          have hyd : y.dst = some t := hdst
          have hLn : L n = true := by
            rcases okRegion_apart hok hi hn hni with h | h
            · exact absurd ht ((Oper.apart_spec h).1 t hyd)
            · exact hd n h
          rw [if_pos hLn]
          exact putA_eq (by simp) hdst
      · rw [putA_ne hdst]
        split
        · rw [putA_ne hdst]; exact ih
        · exact ih
    · rw [Nat.min_eq_right (by omega)] at ih ⊢
      simp only [slotsL]
      split
      · rename_i hLn
        by_cases hdst : (ops[n]?).bind (·.dst) = some t
        · exfalso
          cases hn : ops[n]? with
          | none => rw [hn] at hdst; cases hdst
          | some y =>
            rw [hn] at hdst
            have hyd : y.dst = some t := hdst
            have hne : n ≠ i := by rintro rfl; rw [hL] at hLn; cases hLn
            rcases okRegion_apart hok hn hi (by omega) with h | h
            · exact (Oper.apart_spec h).2.2 t hyd ht
            · have := hc n y hn hLn i h; rw [hL] at this; cases this
        · rw [putA_ne hdst]; exact ih
      · exact ih

theorem putA_comm {sl : List AV} {d d' : Option Tmp} {v v' : AV} (h : ∀ t, d = some t → d' ≠ some t) : putA (putA sl d v) d' v' = putA (putA sl d' v') d v := by
  cases d with
  | none => rfl
  | some d => cases d' with
    | none => rfl
    | some d' => simp only [putA]; exact List.set_comm _ _ (by rintro rfl; exact h _ rfl rfl)

/-- One operation more. -/
theorem slotsL_put (hok : okRegion ops = true) (hc : closedL ops L) {i : Nat} {x : Oper} (hi : ops[i]? = some x) (hL : L i = false) :
    ∀ n, i < n → slotsL ops vals (fun j => if j = i then true else L j) sl n = putA (slotsL ops vals L sl n) x.dst (vals i) := by
  have low : ∀ n, n ≤ i → slotsL ops vals (fun j => if j = i then true else L j) sl n = slotsL ops vals L sl n := by
    intro n
    induction n with
    | zero => intro _; rfl
    | succ n ih => intro hn; simp only [slotsL]; rw [ih (by omega)]; simp only [show ¬ n = i by omega, if_false]
  intro n
  induction n with
  | zero => intro h; omega
  | succ n ih =>
    intro hn
    by_cases hni : n = i
    · subst hni
      simp only [slotsL, if_true, hL, Bool.false_eq_true, if_false]
      rw [low n (Nat.le_refl _), hi]
      rfl
    · simp only [slotsL, hni, if_false]
      rw [ih (by omega)]
      split
      · rename_i hLn
        refine putA_comm fun t ht hdst => ?_
        cases hn' : ops[n]? with
        | none => rw [hn'] at hdst; cases hdst
        | some y =>
          rw [hn'] at hdst
          rcases okRegion_apart hok hn' hi (by omega) with h | h
          · exact (Oper.apart_spec h).2.1 t ht hdst
          · have := hc n y hn' hLn i h; rw [hL] at this; cases this
      · rfl
end

section
variable {P : Program} {fk : FK} {Q : AExit → AS → Prop} {ops : Array Oper} {so : Opt}

/-- One operation, its value and blocks known. -/
theorem WPI.one {i : Nat} {rest : List Nat} {o : Oper} {s : AS} {v : AV} {h' : List Blk} (hgt : s.gh.todo = []) (ho : ops[i]? = some o) (hw : OneG P so ops o s.sl s.hp v h') (hk : WPI P fk [.inRegion ops rest] Q { s with sl := putA s.sl o.dst v, hp := h' }) :
    WPI P fk [.inRegion ops (i :: rest)] Q s := by
  have step : oneW P so o s.sl s.hp (fun v2 h2 => v2 = v ∧ h2 = h') → stepW P so o s Q (fun v2 h2 => v2 = v ∧ h2 = h') := by
    intro q
    unfold oneW stepW at q
    unfold stepW
    revert q
    split
    · rename_i cl hcl
      split
      · rename_i f hf
        unfold callW
        intro q
        refine ⟨hgt, ?_⟩
        replace q := q.2
        split at q
        · rename_i g first cap hfv
          rw [hfv]
          exact ⟨q.1, q.2.mono fun e h2 r => by cases e with | ret v => exact r | panic v => exact r.elim⟩
        · rename_i n hfv
          rw [hfv]
          exact ⟨q.1, q.2.1, q.2.2.mono fun e h2 r => by cases e with | ret v => exact r | panic v => exact r.elim⟩
        · exact q.elim
      · unfold panicW
        split <;> exact fun q => q.elim
      · exact fun q => q
    · unfold panicW; split <;> exact fun q => q.elim
    · exact fun q => q.elim
    · exact fun q => q
    · exact fun q => q
  unfold OneG guardW guardV at hw
  split at hw
  · rename_i hg
    exact stepW_ok ho (fun _ _ _ => by simp [Region.wanted, hg]) (fun v2 h2 q => by rw [q.1, q.2]; exact hk) (step hw)
  · rename_i j want hg
    split at hw
    · rename_i d hd
      split at hw
      · rename_i t ht
        replace ht := evA_bool ht
        have hj : ∃ oj, ops[j]? = some oj ∧ oj.dst = some d := by
          cases hoj : ops[j]? with
          | none => rw [hoj] at hd; cases hd
          | some oj => rw [hoj] at hd; exact ⟨oj, rfl, hd⟩
        obtain ⟨oj, hj1, hj2⟩ := hj
        by_cases he : t = want
        · exact stepW_ok ho (fun c tmps hv => by simp [Region.wanted, hg, yielded_of hv hj1 hj2 ht, he]) (fun v2 h2 q => by rw [q.1, q.2]; exact hk) (step (guardB_yes hw he))
        · have h3 := guardB_no hw he
          rw [h3.1, h3.2] at hk
          exact WPI.op_out ho hg hj1 hj2 ht he hk
      · exact hw.elim
    · exact hw.elim

theorem WP.region_draw {id : Nat} {s : AS} (hm : P.follows .mixedOrders = true) (h : ∀ t, WPI P fk [.inRegion ops (Region.linearise .any ops t)] Q s) : WP P fk (.region id ops true) Q s := by
  intro main Stop b k cs base c w tmps ds h1 h2 h3 h4
  refine Go'.of_step rfl fun w1 r => ?_
  have hst : stepG P main (G (at' b tmps ds ([.code (.region id ops true)] ++ k)) cs) w1 =
      .go (G (at' b tmps ds ([.inRegion ops (Region.linearise .any ops (w1.tape w1.drawn (.order b.fn id)))] ++ k)) cs) { w1 with drawn := w1.drawn + 1 } #[] := by
    simp [G, stepG, stepG.exec, at', choose, Sem.run, Question.forced, Question.cut, Region.schedule, hm]
  refine ⟨_, _, _, c, hst, rfl, ⟨⟨Nat.le_refl _, fun _ _ _ => rfl, rfl, rfl, rfl⟩, fun _ h => .inl h, fun _ _ h => .inl h, fun _ _ h => h, by simp, fun _ h => .inl h, fun _ h => .inl h, fun _ h => h, rfl, rfl, rfl⟩, ?_⟩
  exact h _ main Stop b k cs base c _ tmps ds h1 h2 ((h3.rely r).rely (RL.at c w1 _)) h4

/-- ████ A region that draws its order: every operation gives the value that it gives in the order of the text, whichever are ahead of it. ████ -/
theorem WP.draw {id : Nat} {s : AS} (hgt : s.gh.todo = []) (hm : P.follows .mixedOrders = true) (hok : okRegion ops = true) (vals : Nat → AV) (Hp : (Nat → Bool) → List Blk)
    (h0 : ∀ L, (∀ i, i < ops.size → L i = false) → Hp L = s.hp)
    (hs : ∀ i o, ops[i]? = some o → ∀ L, closedL ops L → (∀ k, waitsB o k = true → L k = true) → L i = false →
      OneG P so ops o (slotsL ops vals (fun _ => true) s.sl i) (Hp L) (vals i) (Hp fun j => if j = i then true else L j))
    (he : ∀ L, (∀ i, i < ops.size → L i = true) → Q .normal { s with sl := slotsL ops vals (fun _ => true) s.sl ops.size, hp := Hp L }) : WP P fk (.region id ops true) Q s := by
  refine WP.region_draw hm fun t => ?_
  have key : ∀ (fuel t : Nat) (listed : Array Bool), listed.size = ops.size → (listed.toList.count false) ≤ fuel → closedL ops (fun i => listed.getD i false) →
      WPI P fk [.inRegion ops (Region.linearise.go .any ops fuel t listed [])] Q { s with sl := slotsL ops vals (fun i => listed.getD i false) s.sl ops.size, hp := Hp fun i => listed.getD i false } := by
    intro fuel
    have fin : ∀ (listed : Array Bool), listed.size = ops.size → (∀ i, i < ops.size → listed.getD i false = true) →
        WPI P fk [.inRegion ops []] Q { s with sl := slotsL ops vals (fun i => listed.getD i false) s.sl ops.size, hp := Hp fun i => listed.getD i false } := by
      intro listed hsz hall
      refine WPI.region_end ?_
      have e : ∀ n, n ≤ ops.size → slotsL ops vals (fun i => listed.getD i false) s.sl n = slotsL ops vals (fun _ => true) s.sl n := by
        intro n
        induction n with
        | zero => intro _; rfl
        | succ n ih => intro hn; simp only [slotsL, hall n (by omega)]; rw [ih (by omega)]
      rw [e _ (Nat.le_refl _)]
      exact he _ hall
    induction fuel with
    | zero =>
      intro t listed hsz hcnt hc
      refine fin listed hsz fun i hi => ?_
      have hc0 : listed.toList.count false = 0 := by omega
      have hnf : false ∉ listed.toList := List.count_eq_zero.1 hc0
      have hi' : i < listed.size := by omega
      have : listed[i] ∈ listed.toList := by simp
      cases hb : listed[i] with
      | true => simp [hi', hb]
      | false => rw [hb] at this; exact absurd this hnf
    | succ fuel ih =>
      intro t listed hsz hcnt hc
      simp only [Region.linearise.go]
      change WPI P fk [.inRegion ops (match (Region.ready .any ops listed)[t % (Region.ready .any ops listed).length]? with
        | some i => Region.linearise.go .any ops fuel (t / (Region.ready .any ops listed).length) (listed.setIfInBounds i true) [i]
        | none => [].reverse)] Q _
      cases hi : (Region.ready .any ops listed)[t % (Region.ready .any ops listed).length]? with
      | none =>
        have hnil : Region.ready .any ops listed = [] := by
          cases hr : Region.ready .any ops listed with
          | nil => rfl
          | cons x xs =>
            rw [hr] at hi
            have hlt : t % (x :: xs).length < (x :: xs).length := Nat.mod_lt _ (by simp)
            simp at hi
            simp at hlt
            omega
        simp only [List.reverse_nil]
        refine fin listed hsz fun i => ?_
        induction i using Nat.strongRecOn with
        | _ i hind =>
          intro hlt
          cases hb : listed.getD i false with
          | true => rfl
          | false =>
            exfalso
            have ho : ops[i]? = some ops[i] := by simp [hlt]
            have : i ∈ Region.ready .any ops listed := mem_ready.2 ⟨by
              have : i < listed.size := by omega
              simp [this] at hb ⊢; exact hb, ops[i], ho, fun e he hbd => hind e.on (okRegion_waits hok ho e he hbd) (by have := okRegion_waits hok ho e he hbd; omega)⟩
            rw [hnil] at this
            cases this
      | some i =>
        simp only []
        rw [linearise_go_acc, List.reverse_singleton, List.singleton_append]
        obtain ⟨hun, o, ho, hdeps⟩ := mem_ready.1 (List.mem_of_getElem? hi)
        have hlt : i < ops.size := (Array.getElem?_eq_some_iff.1 ho).1
        have hlt' : i < listed.size := by omega
        have hLi : listed.getD i false = false := by simp [hlt'] at hun ⊢; exact hun
        have hd : ∀ k, waitsB o k = true → listed.getD k false = true := by
          intro k hk
          obtain ⟨e, he, hb⟩ : ∃ e ∈ o.after, (Region.binds .any e && e.on == k) = true := by
            unfold waitsB at hk
            rw [Array.any_eq_true] at hk
            obtain ⟨j, hj, h⟩ := hk
            exact ⟨o.after[j], by simp, h⟩
          simp only [Bool.and_eq_true, beq_iff_eq] at hb
          rw [← hb.2]
          exact hdeps e he hb.1
        have hset : (fun j => (listed.setIfInBounds i true).getD j false) = fun j => if j = i then true else listed.getD j false := by
          funext j
          by_cases hji : j = i
          · subst hji; simp [hlt']
          · simp [hji, Array.getElem?_setIfInBounds, Ne.symm hji]
        refine WPI.one (so := so) hgt ho (v := vals i) (h' := Hp fun j => if j = i then true else listed.getD j false) ?_ ?_
        · refine OneG_congr (fun t ht => ?_) (hs i o ho _ hc hd hLi)
          have := slotsL_seen (vals := vals) (sl := s.sl) hok hc ho hd hLi ht ops.size
          rw [Nat.min_eq_right (by omega)] at this
          exact this.symm
        · have hput := slotsL_put (vals := vals) (sl := s.sl) hok hc ho hLi ops.size hlt
          have ihh := ih (t / (Region.ready .any ops listed).length) (listed.setIfInBounds i true) (by simpa using hsz) (by
            have hm : false ∈ listed.toList := by
              have : listed[i] = false := by simpa [hlt'] using hLi
              rw [← this]; simp
            have hcs := List.count_set (a := true) (b := false) (l := listed.toList) (i := i) (h := by simpa using hlt')
            have hpos := List.count_pos_iff.2 hm
            have hfi : listed[i] = false := by simpa [hlt'] using hLi
            simp only [Array.toList_setIfInBounds]
            simp [hfi] at hcs
            rw [hcs]
            simp at hcnt
            omega) (by
            rw [hset]
            intro j y hj hL k hk
            by_cases hji : j = i
            · subst hji
              rw [ho] at hj
              cases hj
              have := hd k hk
              simp only
              split
              · rfl
              · exact this
            · simp only [hji, if_false] at hL
              have := hc j y hj hL k hk
              simp only
              split
              · rfl
              · exact this)
          rw [hset] at ihh
          rw [hput] at ihh
          exact ihh
  have h1 := key ops.size t (Array.replicate ops.size false) (by simp) (by simp [List.count_replicate]) (by intro j y hj hL; simp [Array.getElem?_replicate] at hL; split at hL <;> simp at hL)
  have e0 : ∀ i, (Array.replicate ops.size false).getD i false = false := by
    intro i
    simp only [Array.getD_eq_getD_getElem?, Array.getElem?_replicate]
    split <;> rfl
  have e1 : ∀ n, slotsL ops vals (fun i => (Array.replicate ops.size false).getD i false) s.sl n = s.sl := by
    intro n
    induction n with
    | zero => rfl
    | succ n ih => simp only [slotsL, e0 n]; rw [ih]; simp
  rw [e1, h0 _ (fun i _ => e0 i)] at h1
  exact h1
end

/-! ### Regions whose operations leave the blocks alone -/
/-- What follows an operation that leaves the blocks alone. -/
def quietK (r : Option (Prop × AV × List Blk)) (h : List Blk) (K : AV → Prop) : Prop :=
  match r with
  | some (c, v, h') => c ∧ h' = h ∧ K v
  | none => False
@[congr] theorem quietK_congr {r r' : Option (Prop × AV × List Blk)} {h : List Blk} {K : AV → Prop} (e : r = r') : quietK r h K = quietK r' h K := by rw [e]
theorem quietK_some {c : Prop} {v : AV} {h' h : List Blk} {K : AV → Prop} : quietK (some (c, v, h')) h K = (c ∧ h' = h ∧ K v) := rfl

/-- .. by its contract. -/
def QuietCalls (P : Program) (g : FuncId) (args : List AV) (h : List Blk) (K : AV → Prop) : Prop := ∃ v, CallsA P g args h (fun e h' => e = .ret v ∧ h' = h) ∧ K v
@[congr] theorem QuietCalls_congr {P : Program} {g : FuncId} {args args' : List AV} {h : List Blk} {K : AV → Prop} (e2 : args = args') : QuietCalls P g args h K = QuietCalls P g args' h K := by rw [e2]
theorem QuietCalls.use {P : Program} {g : FuncId} {args : List AV} {h : List Blk} {v : AV} {K : AV → Prop} (c : PureA P g args v) (hk : K v) : QuietCalls P g args h K := ⟨v, c h, hk⟩

/-- A call that gives one value and leaves the blocks alone. -/
def quietC (P : Program) (f : AV) (args : List AV) (h : List Blk) (K : AV → Prop) : Prop :=
  match f with
  | .fn (.func g) first cap => callable P g ∧ ∃ v, CallsA P g (first ++ args ++ cap) h (fun e h' => e = .ret v ∧ h' = h) ∧ K v
  | _ => False
@[congr] theorem quietC_congr {P : Program} {f f' : AV} {args args' : List AV} {h : List Blk} {K : AV → Prop} (e1 : f = f') (e2 : args = args') : quietC P f args h K = quietC P f' args' h K := by rw [e1, e2]
theorem quietC_fn {P : Program} {g : FuncId} {first cap args : List AV} {h : List Blk} {K : AV → Prop} : quietC P (.fn (.func g) first cap) args h K = (callable P g ∧ QuietCalls P g (first ++ args ++ cap) h K) := rfl

/-- What an operation asks that gives one value and leaves the blocks alone. -/
def quietW (P : Program) (so : Opt) (o : Oper) (sl : List AV) (h : List Blk) (K : AV → Prop) : Prop :=
  match o.op with
  | .call cl => match cl.callee with
    | .value f => quietC P (evA sl f) (cl.args.toList.map (evA sl)) h K
    | .builtin .panic => False
    | _ => quietK (opE P o.op (evA sl) h) h K
  | .buildSlice t len parts => sealed so o = true ∧ quietK (buildSealE P t len (parts.toList.map fun p => (p.1, evA sl p.2)) h) h K
  | .panic _ | .defer _ => False
  | _ => quietK (opE P o.op (evA sl) h) h K

theorem quietW_one {P : Program} {so : Opt} {o : Oper} {sl : List AV} {h : List Blk} {K : AV → Prop} (hw : quietW P so o sl h K) : ∃ v, K v ∧ oneW P so o sl h fun v2 h2 => v2 = v ∧ h2 = h := by
  have plain : ∀ {r : Option (Prop × AV × List Blk)}, quietK r h K → ∃ v, K v ∧ stepK r fun v2 h2 => v2 = v ∧ h2 = h := fun {r} q => by
    cases r with
    | none => exact q.elim
    | some x => obtain ⟨c, v, h'⟩ := x; exact ⟨v, q.2.2, q.1, rfl, q.2.1⟩
  obtain ⟨dst, op, ty, pos, after, guard⟩ := o
  cases op
  case call cl =>
    obtain ⟨callee, args, ats⟩ := cl
    cases callee with
    | value f =>
      simp only [quietW, oneW, stepW, callW, quietC] at *
      split at hw
      · rename_i g first cap hfv
        obtain ⟨h1, v, h2, h3⟩ := hw
        simp only [hfv]
        exact ⟨v, h3, trivial, h1, h2.mono fun e h' q => by rw [q.1]; exact ⟨rfl, q.2⟩⟩
      · exact hw.elim
    | invoke r m => simp only [quietW, oneW, stepW] at *; exact plain hw
    | builtin b =>
      by_cases hb : b = .panic
      · subst hb; exact hw.elim
      · cases b <;> first | exact absurd rfl hb | (simp only [quietW, oneW, stepW] at *; exact plain hw)
  case buildSlice t len parts =>
    simp only [quietW, oneW, stepW] at *
    obtain ⟨h1, h2⟩ := hw
    simp only [h1]
    exact plain h2
  case panic x => exact hw.elim
  case defer x => exact hw.elim
  all_goals (simp only [quietW, oneW, stepW] at *; exact plain hw)

/-- The operations of a region that leave the blocks alone, in the order of the text. -/
def quietL (P : Program) (so : Opt) (ops : Array Oper) (h : List Blk) : List Oper → (List AV → Prop) → List AV → Prop
  | [], K, sl => K sl
  | o :: rest, K, sl => guardW ops o sl (quietW P so o sl h fun v => withVH v h fun v h => cutV (cuts so o) v h fun v _ => quietL P so ops h rest K (putA sl o.dst v)) (quietL P so ops h rest K (putA sl o.dst (.tup [])))

/-- ████ A region that draws its order, and whose operations leave the blocks alone: one walk in the order of the text. ████ -/
theorem WP.quiet {P : Program} {fk : FK} {Q : AExit → AS → Prop} {ops : Array Oper} {id : Nat} {s : AS} (so : Opt) (hgt : s.gh.todo = []) (hm : P.follows .mixedOrders = true) (hok : okRegion ops = true)
    (hw : quietL P so ops s.hp ops.toList (fun sl => Q .normal { s with sl := sl }) s.sl) : WP P fk (.region id ops true) Q s := by
  have key : ∀ (l : List Oper) (k : Nat) (sl : List AV) (K : List AV → Prop), k + l.length = ops.size → (∀ j, l[j]? = ops[k + j]?) → quietL P so ops s.hp l K sl →
      ∃ vals : Nat → AV, (∀ vals' : Nat → AV, (∀ i, k ≤ i → vals' i = vals i) → ∀ sl0, slotsL ops vals' (fun _ => true) sl0 k = sl →
        (∀ i o, k ≤ i → ops[i]? = some o → OneG P so ops o (slotsL ops vals' (fun _ => true) sl0 i) s.hp (vals' i) s.hp) ∧ K (slotsL ops vals' (fun _ => true) sl0 ops.size)) := by
    intro l
    induction l with
    | nil =>
      intro k sl K hk _ hq
      have : k = ops.size := by simpa using hk
      subst this
      refine ⟨fun _ => .any, fun vals' _ sl0 e => ⟨fun i o hi ho => ?_, by rw [e]; exact hq⟩⟩
      have := (Array.getElem?_eq_some_iff.1 ho).1
      omega
    | cons o rest ih =>
      intro k sl K hk hl hq
      have ho : ops[k]? = some o := by simpa using (hl 0).symm
      have hrest : ∀ j, rest[j]? = ops[k + 1 + j]? := fun j => by have := hl (j + 1); simpa [Nat.add_assoc, Nat.add_comm 1 j] using this
      simp only [quietL] at hq
      · have fin : ∀ v, OneG P so ops o sl s.hp v s.hp → quietL P so ops s.hp rest K (putA sl o.dst v) →
            ∃ vals : Nat → AV, (∀ vals' : Nat → AV, (∀ i, k ≤ i → vals' i = vals i) → ∀ sl0, slotsL ops vals' (fun _ => true) sl0 k = sl →
              (∀ i o, k ≤ i → ops[i]? = some o → OneG P so ops o (slotsL ops vals' (fun _ => true) sl0 i) s.hp (vals' i) s.hp) ∧ K (slotsL ops vals' (fun _ => true) sl0 ops.size)) := by
          intro v h1 h2
          obtain ⟨vals, hv⟩ := ih (k + 1) _ K (by simp at hk; omega) hrest h2
          refine ⟨fun i => if i = k then v else vals i, fun vals' he sl0 hs0 => ?_⟩
          have hk' : vals' k = v := by rw [he k (Nat.le_refl _)]; simp
          have hs1 : slotsL ops vals' (fun _ => true) sl0 (k + 1) = putA sl o.dst v := by
            simp only [slotsL, if_true, hs0, ho, hk']
            rfl
          obtain ⟨g1, g2⟩ := hv vals' (fun i hi => by rw [he i (by omega)]; simp [show ¬ i = k by omega]) sl0 hs1
          refine ⟨fun i o' hi ho' => ?_, g2⟩
          by_cases hik : i = k
          · subst hik
            rw [ho] at ho'
            cases ho'
            rw [hs0, hk']
            exact h1
          · exact g1 i o' (by omega) ho'
        unfold guardW guardV at hq
        split at hq
        · rename_i hg
          obtain ⟨v, h1, h2⟩ := quietW_one hq
          unfold withVH at h1; replace h1 := cutV_ok h1
          exact fin v (by unfold OneG guardW; simp only [hg]; exact h2) h1
        · rename_i j want hg
          split at hq
          · rename_i d hd
            split at hq
            · rename_i t ht
              by_cases he : t = want
              · obtain ⟨v, h1, h2⟩ := quietW_one (guardB_yes hq he)
                unfold withVH at h1; replace h1 := cutV_ok h1
                refine fin v ?_ h1
                unfold OneG guardW guardV
                simp only [hg, hd, ht]
                exact guardB_of (fun _ => h2) (fun q => absurd he q)
              · refine fin (.tup []) ?_ (guardB_no hq he)
                unfold OneG guardW guardV
                simp only [hg, hd, ht]
                exact guardB_of (fun q => absurd q he) (fun _ => by simp)
            · exact hq.elim
          · exact hq.elim
  obtain ⟨vals, hv⟩ := key ops.toList 0 s.sl _ (by simp) (by simp) hw
  obtain ⟨g1, g2⟩ := hv vals (fun _ _ => rfl) s.sl rfl
  exact WP.draw (so := so) hgt hm hok vals (fun _ => s.hp) (fun _ _ => rfl) (fun i o ho L _ _ _ => g1 i o (Nat.zero_le _) ho) (fun L _ => g2)
end Go.Mac

/-! MacQ -/
/- MacQ: regions that draw the order of their first operations, the others coming in the order of the text; names held in reserve. No program is in sight. -/
namespace Go.Mac
open Go Go.Conc

/-- Does operation i wait for j, in one step or in several? -/
def reachB (ops : Array Oper) : Nat → Nat → Nat → Bool
  | 0, _, _ => false
  | fuel + 1, i, j => match ops[i]? with
    | some o => waitsB o j || (List.range i).any fun k => waitsB o k && reachB ops fuel k j
    | none => false

/-- Each operation from m on waits for all that stand before it. -/
def tailOk (ops : Array Oper) (m : Nat) : Bool :=
  (List.range ops.size).all fun i => decide (i < m) || (List.range i).all fun j => reachB ops ops.size i j

theorem reachB_closed {ops : Array Oper} {L : Nat → Bool} (hc : closedL ops L) : ∀ {fuel i j : Nat} {o : Oper}, ops[i]? = some o → (∀ k, waitsB o k = true → L k = true) → reachB ops fuel i j = true → L j = true
  | 0, _, _, _, _, _, h => by cases h
  | fuel + 1, i, j, o, ho, hw, h => by
    simp only [reachB, ho, Bool.or_eq_true, List.any_eq_true, Bool.and_eq_true] at h
    rcases h with h | ⟨k, _, h1, h2⟩
    · exact hw j h
    · have hLk := hw k h1
      cases hk : ops[k]? with
      | none => cases fuel <;> simp [reachB, hk] at h2
      | some y => exact reachB_closed hc hk (fun q hq => hc k y hk hLk q hq) h2

section
variable {ops : Array Oper}

theorem tail_all {m : Nat} (ht : tailOk ops m = true) {L : Nat → Bool} (hc : closedL ops L) {i : Nat} {o : Oper} (ho : ops[i]? = some o) (hw : ∀ k, waitsB o k = true → L k = true) (hi : m ≤ i) : ∀ j, j < i → L j = true := by
  intro j hj
  have hlt := (Array.getElem?_eq_some_iff.1 ho).1
  have := List.all_eq_true.1 ht i (List.mem_range.2 hlt)
  simp only [Bool.or_eq_true, decide_eq_true_eq] at this
  rcases this with h | h
  · omega
  · exact reachB_closed hc ho hw (List.all_eq_true.1 h j (List.mem_range.2 hj))

theorem waits_of_ready {listed : Array Bool} {o : Oper} (hdeps : ∀ e ∈ o.after, Region.binds .any e = true → listed.getD e.on false = true) : ∀ k, waitsB o k = true → listed.getD k false = true := by
  intro k hk
  obtain ⟨e, he, hb⟩ : ∃ e ∈ o.after, (Region.binds .any e && e.on == k) = true := by
    unfold waitsB at hk
    rw [Array.any_eq_true] at hk
    obtain ⟨j, hj, h⟩ := hk
    exact ⟨o.after[j], by simp, h⟩
  simp only [Bool.and_eq_true, beq_iff_eq] at hb
  rw [← hb.2]
  exact hdeps e he hb.1

theorem closed_low (hok : okRegion ops = true) {m : Nat} {L : Nat → Bool} (h : ∀ i, L i = decide (i < m)) : closedL ops L := by
  intro j y hj hL k hk
  rw [h] at hL ⊢
  simp only [decide_eq_true_eq] at hL ⊢
  unfold waitsB at hk
  rw [Array.any_eq_true] at hk
  obtain ⟨q, hq, hb⟩ := hk
  simp only [Bool.and_eq_true, beq_iff_eq] at hb
  have := okRegion_waits hok hj y.after[q] (by simp) hb.1
  omega

theorem ready_get {listed : Array Bool} {t i : Nat} (h : i ∈ Region.ready .any ops listed) : ∃ x, (Region.ready .any ops listed)[t % (Region.ready .any ops listed).length]? = some x ∧ x ∈ Region.ready .any ops listed := by
  have hne : 0 < (Region.ready .any ops listed).length := List.length_pos_of_mem h
  have hlt : t % (Region.ready .any ops listed).length < (Region.ready .any ops listed).length := Nat.mod_lt _ hne
  exact ⟨_, List.getElem?_eq_getElem hlt, List.getElem_mem hlt⟩

/-- Once the first ones have been listed the others come in the order of the text. -/
theorem go_tail (hok : okRegion ops = true) {m0 : Nat} (ht : tailOk ops m0 = true) : ∀ (fuel t m : Nat) (listed : Array Bool), m0 ≤ m → m ≤ ops.size → listed.size = ops.size → (∀ i, listed.getD i false = decide (i < m)) → ops.size - m ≤ fuel →
    Region.linearise.go .any ops fuel t listed [] = List.range' m (ops.size - m)
  | 0, t, m, listed, _, h2, _, _, h5 => by
    have : ops.size - m = 0 := by omega
    simp [Region.linearise.go, this]
  | fuel + 1, t, m, listed, h1, h2, h3, h4, h5 => by
    have hunl : ∀ x, x ∈ Region.ready .any ops listed → x = m ∧ m < ops.size := by
      intro x hx
      obtain ⟨hun, o, ho, hdeps⟩ := mem_ready.1 hx
      have hlt : x < ops.size := (Array.getElem?_eq_some_iff.1 ho).1
      have hLx : listed.getD x false = false := by
        have : x < listed.size := by omega
        simp [this] at hun ⊢; exact hun
      have hxm : ¬ x < m := by rw [h4] at hLx; simpa using hLx
      have hall := tail_all (m := m0) (L := fun i => listed.getD i false) ht (closed_low hok h4) ho (waits_of_ready hdeps) (by omega)
      by_cases hxe : x = m
      · exact ⟨hxe, by omega⟩
      · have := hall m (by omega)
        simp only [h4] at this
        simp at this
    simp only [Region.linearise.go]
    change (match (Region.ready .any ops listed)[t % (Region.ready .any ops listed).length]? with
        | some i => Region.linearise.go .any ops fuel (t / (Region.ready .any ops listed).length) (listed.setIfInBounds i true) [i]
        | none => [].reverse) = _
    by_cases hme : m = ops.size
    · have hnil : Region.ready .any ops listed = [] := by
        apply List.eq_nil_iff_forall_not_mem.2
        intro x hx
        have := hunl x hx
        omega
      rw [hnil]
      simp [hme]
    · have hlt : m < ops.size := by omega
      have hmem : m ∈ Region.ready .any ops listed := by
        refine mem_ready.2 ⟨?_, ops[m], by simp [hlt], fun e he hb => ?_⟩
        · have h0 := h4 m
          have : m < listed.size := by omega
          simp [this] at h0 ⊢; exact h0
        · rw [h4]
          have := okRegion_waits hok (i := m) (x := ops[m]) (by simp [hlt]) e he hb
          simpa using this
      obtain ⟨x, hx, hxm⟩ := ready_get (t := t) hmem
      rw [hx]
      obtain ⟨rfl, _⟩ := hunl x hxm
      simp only []
      rw [linearise_go_acc, List.reverse_singleton, List.singleton_append,
        go_tail hok ht fuel _ (x + 1) (listed.setIfInBounds x true) (by omega) (by omega) (by simpa using h3) (fun i => by
          by_cases hi : i = x
          · subst hi; simp [h3, hlt]
          · have := h4 i
            simp only [Array.getD_eq_getD_getElem?, Array.getElem?_setIfInBounds_ne (Ne.symm hi)] at this ⊢
            rw [this]
            simp only [decide_eq_decide]
            omega) (by omega)]
      rw [show ops.size - x = (ops.size - (x + 1)) + 1 by omega, List.range'_succ]
end

section
variable {P : Program} {fk : FK} {Q : AExit → AS → Prop} {ops : Array Oper} {so : Opt}

/-- An operation that looks at no temporary. -/
def FreeAt (P : Program) (fk : FK) (ops : Array Oper) (i : Nat) (dst : Option Tmp) (h : List Blk) (v : AV) (h' : List Blk) : Prop :=
  ∀ (Q : AExit → AS → Prop) (s : AS) (rest : List Nat), s.hp = h → WPI P fk [.inRegion ops rest] Q { s with sl := putA s.sl dst v, hp := h' } → WPI P fk [.inRegion ops (i :: rest)] Q s

/-- ████ A region that draws the order of its operations below 'm'; from there on they come in the order of the text. ████ -/
theorem WP.drawT {id : Nat} {s : AS} (m : Nat) (hgt : s.gh.todo = []) (hm : P.follows .mixedOrders = true) (hok : okRegion ops = true) (htail : tailOk ops m = true) (hmn : m ≤ ops.size) (vals : Nat → AV) (Hp : (Nat → Bool) → List Blk)
    (h0 : ∀ L, (∀ i, i < ops.size → L i = false) → Hp L = s.hp)
    (hs : ∀ i o, i < m → ops[i]? = some o → ∀ L, closedL ops L → (∀ k, waitsB o k = true → L k = true) → L i = false →
      OneG P so ops o (slotsL ops vals (fun _ => true) s.sl i) (Hp L) (vals i) (Hp fun j => if j = i then true else L j) ∨ FreeAt P fk ops i o.dst (Hp L) (vals i) (Hp fun j => if j = i then true else L j))
    (he : ∀ L, (∀ i, i < m → L i = true) → (∀ i, m ≤ i → L i = false) → WPI P fk [.inRegion ops (List.range' m (ops.size - m))] Q { s with sl := slotsL ops vals (fun _ => true) s.sl m, hp := Hp L }) : WP P fk (.region id ops true) Q s := by
  refine WP.region_draw hm fun t => ?_
  have key : ∀ (fuel t : Nat) (listed : Array Bool), listed.size = ops.size → (listed.toList.count false) ≤ fuel → closedL ops (fun i => listed.getD i false) → (∀ i, m ≤ i → listed.getD i false = false) →
      WPI P fk [.inRegion ops (Region.linearise.go .any ops fuel t listed [])] Q { s with sl := slotsL ops vals (fun i => listed.getD i false) s.sl ops.size, hp := Hp fun i => listed.getD i false } := by
    intro fuel
    have eqs : ∀ (listed : Array Bool), listed.size = ops.size → (∀ i, i < m → listed.getD i false = true) → (∀ i, m ≤ i → listed.getD i false = false) → slotsL ops vals (fun i => listed.getD i false) s.sl ops.size = slotsL ops vals (fun _ => true) s.sl m := by
      intro listed hsz hall hno
      have e : ∀ n, n ≤ m → slotsL ops vals (fun i => listed.getD i false) s.sl n = slotsL ops vals (fun _ => true) s.sl n := by
        intro n
        induction n with
        | zero => intro _; rfl
        | succ n ih => intro hn; simp only [slotsL, hall n (by omega)]; rw [ih (by omega)]
      have e2 : ∀ n, slotsL ops vals (fun i => listed.getD i false) s.sl (m + n) = slotsL ops vals (fun i => listed.getD i false) s.sl m := by
        intro n
        induction n with
        | zero => rfl
        | succ n ih =>
          have hb := hno (m + n) (by omega)
          show (if listed.getD (m + n) false then _ else slotsL ops vals (fun i => listed.getD i false) s.sl (m + n)) = _
          rw [if_neg (by rw [hb]; simp)]
          exact ih
      rw [show ops.size = m + (ops.size - m) by omega, e2, e m (Nat.le_refl _)]
    have full : ∀ (listed : Array Bool), listed.size = ops.size → (∀ i, i < ops.size → listed.getD i false = true) → (∀ i, m ≤ i → listed.getD i false = false) →
        WPI P fk [.inRegion ops []] Q { s with sl := slotsL ops vals (fun i => listed.getD i false) s.sl ops.size, hp := Hp fun i => listed.getD i false } := by
      intro listed hsz hall hno
      have hmeq : m = ops.size := by
        by_cases h : m < ops.size
        · have a := hall m h
          have b := hno m (Nat.le_refl _)
          rw [a] at b; cases b
        · omega
      have := he (fun i => listed.getD i false) (fun i hi => hall i (by omega)) hno
      rw [eqs listed hsz (fun i hi => hall i (by omega)) hno]
      rw [hmeq] at this
      simp only [Nat.sub_self, List.range'_zero] at this
      rw [hmeq]
      exact this
    induction fuel with
    | zero =>
      intro t listed hsz hcnt hc hno
      refine full listed hsz (fun i hi => ?_) hno
      have hc0 : listed.toList.count false = 0 := by omega
      have hnf : false ∉ listed.toList := List.count_eq_zero.1 hc0
      have hi' : i < listed.size := by omega
      have : listed[i] ∈ listed.toList := by simp
      cases hb : listed[i] with
      | true => simp [hi', hb]
      | false => rw [hb] at this; exact absurd this hnf
    | succ fuel ih =>
      intro t listed hsz hcnt hc hno
      by_cases hdone : ∀ i, i < m → listed.getD i false = true
      · rw [go_tail hok htail (fuel + 1) t m listed (Nat.le_refl _) hmn hsz (fun i => by
          by_cases hi : i < m
          · rw [hdone i hi]; simp [hi]
          · rw [hno i (by omega)]; simp [hi]) (by
          have hcount : ops.size - m ≤ listed.toList.count false := by
            have e : listed.toList = listed.toList.take m ++ listed.toList.drop m := by simp
            have hlen : (listed.toList.drop m).length = ops.size - m := by simp [hsz]
            have hf : ∀ x ∈ listed.toList.drop m, x = false := by
              intro x hx
              obtain ⟨j, hj⟩ := List.mem_iff_getElem?.1 hx
              rw [List.getElem?_drop] at hj
              have := hno (m + j) (by omega)
              rw [Array.getElem?_toList] at hj
              simp [hj] at this
              exact this
            rw [e, List.count_append, (List.count_eq_length (a := false) (l := listed.toList.drop m)).2 (fun b hb => (hf b hb).symm), hlen]
            omega
          omega)]
        have := he (fun i => listed.getD i false) hdone hno
        rw [eqs listed hsz hdone hno]
        exact this
      · simp only [Region.linearise.go]
        change WPI P fk [.inRegion ops (match (Region.ready .any ops listed)[t % (Region.ready .any ops listed).length]? with
          | some i => Region.linearise.go .any ops fuel (t / (Region.ready .any ops listed).length) (listed.setIfInBounds i true) [i]
          | none => [].reverse)] Q _
        cases hi : (Region.ready .any ops listed)[t % (Region.ready .any ops listed).length]? with
        | none =>
          have hnil : Region.ready .any ops listed = [] := by
            cases hr : Region.ready .any ops listed with
            | nil => rfl
            | cons x xs =>
              rw [hr] at hi
              have hlt : t % (x :: xs).length < (x :: xs).length := Nat.mod_lt _ (by simp)
              simp at hi
              simp at hlt
              omega
          simp only [List.reverse_nil]
          refine full listed hsz (fun i => ?_) hno
          induction i using Nat.strongRecOn with
          | _ i hind =>
            intro hlt
            cases hb : listed.getD i false with
            | true => rfl
            | false =>
              exfalso
              have ho : ops[i]? = some ops[i] := by simp [hlt]
              have : i ∈ Region.ready .any ops listed := mem_ready.2 ⟨by
                have : i < listed.size := by omega
                simp [this] at hb ⊢; exact hb, ops[i], ho, fun e he hbd => hind e.on (okRegion_waits hok ho e he hbd) (by have := okRegion_waits hok ho e he hbd; omega)⟩
              rw [hnil] at this
              cases this
        | some i =>
          simp only []
          rw [linearise_go_acc, List.reverse_singleton, List.singleton_append]
          obtain ⟨hun, o, ho, hdeps⟩ := mem_ready.1 (List.mem_of_getElem? hi)
          have hlt : i < ops.size := (Array.getElem?_eq_some_iff.1 ho).1
          have hlt' : i < listed.size := by omega
          have hLi : listed.getD i false = false := by simp [hlt'] at hun ⊢; exact hun
          have hd := waits_of_ready hdeps
          have him : i < m := by
            apply Classical.byContradiction
            intro hge
            exact hdone fun j hj => tail_all (L := fun i => listed.getD i false) htail hc ho hd (by omega) j (by omega)
          have hset : (fun j => (listed.setIfInBounds i true).getD j false) = fun j => if j = i then true else listed.getD j false := by
            funext j
            by_cases hji : j = i
            · subst hji; simp [hlt']
            · simp [hji, Array.getElem?_setIfInBounds, Ne.symm hji]
          have hput := slotsL_put (vals := vals) (sl := s.sl) hok hc ho hLi ops.size hlt
          have ihh := ih (t / (Region.ready .any ops listed).length) (listed.setIfInBounds i true) (by simpa using hsz) (by
            have hm : false ∈ listed.toList := by
              have : listed[i] = false := by simpa [hlt'] using hLi
              rw [← this]; simp
            have hcs := List.count_set (a := true) (b := false) (l := listed.toList) (i := i) (h := by simpa using hlt')
            have hpos := List.count_pos_iff.2 hm
            have hfi : listed[i] = false := by simpa [hlt'] using hLi
            simp only [Array.toList_setIfInBounds]
            simp [hfi] at hcs
            rw [hcs]
            simp at hcnt
            omega) (by
            rw [hset]
            intro j y hj hL k hk
            by_cases hji : j = i
            · subst hji
              rw [ho] at hj
              cases hj
              have := hd k hk
              simp only
              split
              · rfl
              · exact this
            · simp only [hji, if_false] at hL
              have := hc j y hj hL k hk
              simp only
              split
              · rfl
              · exact this) (fun j hj => by
            have := congrFun hset j
            rw [show (listed.setIfInBounds i true).getD j false = if j = i then true else listed.getD j false from this, if_neg (by omega)]
            exact hno j hj)
          rw [hset] at ihh
          rw [hput] at ihh
          rcases hs i o him ho _ hc hd hLi with hone | hfree
          · refine WPI.one (so := so) hgt ho (v := vals i) (h' := Hp fun j => if j = i then true else listed.getD j false) ?_ ihh
            refine OneG_congr (fun t ht => ?_) hone
            have := slotsL_seen (vals := vals) (sl := s.sl) hok hc ho hd hLi ht ops.size
            rw [Nat.min_eq_right (by omega)] at this
            exact this.symm
          · exact hfree Q _ _ rfl ihh
  have h1 := key ops.size t (Array.replicate ops.size false) (by simp) (by simp [List.count_replicate]) (by intro j y hj hL; simp [Array.getElem?_replicate] at hL; split at hL <;> simp at hL) (by intro i _; simp only [Array.getD_eq_getD_getElem?, Array.getElem?_replicate]; split <;> rfl)
  have e0 : ∀ i, (Array.replicate ops.size false).getD i false = false := by
    intro i
    simp only [Array.getD_eq_getD_getElem?, Array.getElem?_replicate]
    split <;> rfl
  have e1 : ∀ n, slotsL ops vals (fun i => (Array.replicate ops.size false).getD i false) s.sl n = s.sl := by
    intro n
    induction n with
    | zero => rfl
    | succ n ih => simp only [slotsL, e0 n]; rw [ih]; simp
  rw [e1, h0 _ (fun i _ => e0 i)] at h1
  exact h1

/-- A region whose first operations leave the blocks alone, in a drawn order. -/
theorem WP.quietS {id : Nat} {s : AS} (so : Opt) (m : Nat) (hgt : s.gh.todo = []) (hm : P.follows .mixedOrders = true) (hok : okRegion ops = true) (htail : tailOk ops m = true) (hmn : m ≤ ops.size)
    (hw : quietL P so ops s.hp (ops.toList.take m) (fun sl => WPI P fk [.inRegion ops (List.range' m (ops.size - m))] Q { s with sl := sl }) s.sl) : WP P fk (.region id ops true) Q s := by
  have key : ∀ (l : List Oper) (k : Nat) (sl : List AV) (K : List AV → Prop), k + l.length = m → (∀ j, j < l.length → l[j]? = ops[k + j]?) → quietL P so ops s.hp l K sl →
      ∃ vals : Nat → AV, (∀ vals' : Nat → AV, (∀ i, k ≤ i → vals' i = vals i) → ∀ sl0, slotsL ops vals' (fun _ => true) sl0 k = sl →
        (∀ i o, k ≤ i → i < m → ops[i]? = some o → OneG P so ops o (slotsL ops vals' (fun _ => true) sl0 i) s.hp (vals' i) s.hp) ∧ K (slotsL ops vals' (fun _ => true) sl0 m)) := by
    intro l
    induction l with
    | nil =>
      intro k sl K hk _ hq
      have : k = m := by simpa using hk
      subst this
      exact ⟨fun _ => .any, fun vals' _ sl0 e => ⟨fun i o hi ho => by omega, by rw [e]; exact hq⟩⟩
    | cons o rest ih =>
      intro k sl K hk hl hq
      have ho : ops[k]? = some o := by simpa using (hl 0 (by simp)).symm
      have hrest : ∀ j, j < rest.length → rest[j]? = ops[k + 1 + j]? := fun j hj => by have := hl (j + 1) (by simpa using hj); simpa [Nat.add_assoc, Nat.add_comm 1 j] using this
      simp only [quietL] at hq
      have fin : ∀ v, OneG P so ops o sl s.hp v s.hp → quietL P so ops s.hp rest K (putA sl o.dst v) →
            ∃ vals : Nat → AV, (∀ vals' : Nat → AV, (∀ i, k ≤ i → vals' i = vals i) → ∀ sl0, slotsL ops vals' (fun _ => true) sl0 k = sl →
              (∀ i o, k ≤ i → i < m → ops[i]? = some o → OneG P so ops o (slotsL ops vals' (fun _ => true) sl0 i) s.hp (vals' i) s.hp) ∧ K (slotsL ops vals' (fun _ => true) sl0 m)) := by
        intro v h1 h2
        obtain ⟨vals, hv⟩ := ih (k + 1) _ K (by simp at hk; omega) hrest h2
        refine ⟨fun i => if i = k then v else vals i, fun vals' he sl0 hs0 => ?_⟩
        have hk' : vals' k = v := by rw [he k (Nat.le_refl _)]; simp
        have hs1 : slotsL ops vals' (fun _ => true) sl0 (k + 1) = putA sl o.dst v := by
          simp only [slotsL, if_true, hs0, ho, hk']
          rfl
        obtain ⟨g1, g2⟩ := hv vals' (fun i hi => by rw [he i (by omega)]; simp [show ¬ i = k by omega]) sl0 hs1
        refine ⟨fun i o' hi hlt ho' => ?_, g2⟩
        by_cases hik : i = k
        · subst hik
          rw [ho] at ho'
          cases ho'
          rw [hs0, hk']
          exact h1
        · exact g1 i o' (by omega) hlt ho'
      unfold guardW guardV at hq
      split at hq
      · rename_i hg
        obtain ⟨v, h1, h2⟩ := quietW_one hq
        unfold withVH at h1; replace h1 := cutV_ok h1
        exact fin v (by unfold OneG guardW; simp only [hg]; exact h2) h1
      · rename_i j want hg
        split at hq
        · rename_i d hd
          split at hq
          · rename_i t ht
            by_cases he : t = want
            · obtain ⟨v, h1, h2⟩ := quietW_one (guardB_yes hq he)
              unfold withVH at h1; replace h1 := cutV_ok h1
              refine fin v ?_ h1
              unfold OneG guardW guardV
              simp only [hg, hd, ht]
              exact guardB_of (fun _ => h2) (fun q => absurd he q)
            · refine fin (.tup []) ?_ (guardB_no hq he)
              unfold OneG guardW guardV
              simp only [hg, hd, ht]
              exact guardB_of (fun q => absurd q he) (fun _ => by simp)
          · exact hq.elim
        · exact hq.elim
  obtain ⟨vals, hv⟩ := key (ops.toList.take m) 0 s.sl _ (by simp; omega) (fun j hj => by
    simp at hj
    rw [List.getElem?_take_of_lt (by omega)]; simp) hw
  obtain ⟨g1, g2⟩ := hv vals (fun _ _ => rfl) s.sl rfl
  exact WP.drawT (so := so) m hgt hm hok htail hmn vals (fun _ => s.hp) (fun _ _ => rfl) (fun i o hi ho L _ _ _ => .inl (g1 i o (Nat.zero_le _) hi ho)) (fun L _ _ => g2)

/-- ████ A region whose first operations leave the blocks alone, in a drawn order, and whose others come in the order of the text. ████ -/
theorem WP.quietT {id : Nat} {s : AS} (so : Opt) (m : Nat) (hgt : s.gh.todo = []) (hm : P.follows .mixedOrders = true) (hok : okRegion ops = true) (htail : tailOk ops m = true)
    (hw : quietL P so ops s.hp (ops.toList.take m) (fun sl => runL P so ops (ops.toList.drop m) Q { s with sl := sl }) s.sl) : WP P fk (.region id ops true) Q s := by
  by_cases hmn : m ≤ ops.size
  case neg =>
    have e1 : ops.toList.take m = ops.toList := List.take_of_length_le (by simp; omega)
    have e2 : ops.toList.drop m = [] := List.drop_eq_nil_of_le (by simp; omega)
    rw [e1, e2] at hw
    exact WP.quiet so hgt hm hok hw
  have key : ∀ (l : List Oper) (k : Nat) (sl : List AV) (K : List AV → Prop), k + l.length = m → (∀ j, j < l.length → l[j]? = ops[k + j]?) → quietL P so ops s.hp l K sl →
      ∃ vals : Nat → AV, (∀ vals' : Nat → AV, (∀ i, k ≤ i → vals' i = vals i) → ∀ sl0, slotsL ops vals' (fun _ => true) sl0 k = sl →
        (∀ i o, k ≤ i → i < m → ops[i]? = some o → OneG P so ops o (slotsL ops vals' (fun _ => true) sl0 i) s.hp (vals' i) s.hp) ∧ K (slotsL ops vals' (fun _ => true) sl0 m)) := by
    intro l
    induction l with
    | nil =>
      intro k sl K hk _ hq
      have : k = m := by simpa using hk
      subst this
      exact ⟨fun _ => .any, fun vals' _ sl0 e => ⟨fun i o hi ho => by omega, by rw [e]; exact hq⟩⟩
    | cons o rest ih =>
      intro k sl K hk hl hq
      have ho : ops[k]? = some o := by simpa using (hl 0 (by simp)).symm
      have hrest : ∀ j, j < rest.length → rest[j]? = ops[k + 1 + j]? := fun j hj => by have := hl (j + 1) (by simpa using hj); simpa [Nat.add_assoc, Nat.add_comm 1 j] using this
      simp only [quietL] at hq
      have fin : ∀ v, OneG P so ops o sl s.hp v s.hp → quietL P so ops s.hp rest K (putA sl o.dst v) →
            ∃ vals : Nat → AV, (∀ vals' : Nat → AV, (∀ i, k ≤ i → vals' i = vals i) → ∀ sl0, slotsL ops vals' (fun _ => true) sl0 k = sl →
              (∀ i o, k ≤ i → i < m → ops[i]? = some o → OneG P so ops o (slotsL ops vals' (fun _ => true) sl0 i) s.hp (vals' i) s.hp) ∧ K (slotsL ops vals' (fun _ => true) sl0 m)) := by
        intro v h1 h2
        obtain ⟨vals, hv⟩ := ih (k + 1) _ K (by simp at hk; omega) hrest h2
        refine ⟨fun i => if i = k then v else vals i, fun vals' he sl0 hs0 => ?_⟩
        have hk' : vals' k = v := by rw [he k (Nat.le_refl _)]; simp
        have hs1 : slotsL ops vals' (fun _ => true) sl0 (k + 1) = putA sl o.dst v := by
          simp only [slotsL, if_true, hs0, ho, hk']
          rfl
        obtain ⟨g1, g2⟩ := hv vals' (fun i hi => by rw [he i (by omega)]; simp [show ¬ i = k by omega]) sl0 hs1
        refine ⟨fun i o' hi hlt ho' => ?_, g2⟩
        by_cases hik : i = k
        · subst hik
          rw [ho] at ho'
          cases ho'
          rw [hs0, hk']
          exact h1
        · exact g1 i o' (by omega) hlt ho'
      unfold guardW guardV at hq
      split at hq
      · rename_i hg
        obtain ⟨v, h1, h2⟩ := quietW_one hq
        unfold withVH at h1; replace h1 := cutV_ok h1
        exact fin v (by unfold OneG guardW; simp only [hg]; exact h2) h1
      · rename_i j want hg
        split at hq
        · rename_i d hd
          split at hq
          · rename_i t ht
            by_cases he : t = want
            · obtain ⟨v, h1, h2⟩ := quietW_one (guardB_yes hq he)
              unfold withVH at h1; replace h1 := cutV_ok h1
              refine fin v ?_ h1
              unfold OneG guardW guardV
              simp only [hg, hd, ht]
              exact guardB_of (fun _ => h2) (fun q => absurd he q)
            · refine fin (.tup []) ?_ (guardB_no hq he)
              unfold OneG guardW guardV
              simp only [hg, hd, ht]
              exact guardB_of (fun q => absurd q he) (fun _ => by simp)
          · exact hq.elim
        · exact hq.elim
  obtain ⟨vals, hv⟩ := key (ops.toList.take m) 0 s.sl _ (by simp; omega) (fun j hj => by
    simp at hj
    rw [List.getElem?_take_of_lt (by omega)]; simp) hw
  obtain ⟨g1, g2⟩ := hv vals (fun _ _ => rfl) s.sl rfl
  refine WP.drawT (so := so) m hgt hm hok htail hmn vals (fun _ => s.hp) (fun _ _ => rfl) (fun i o hi ho L _ _ _ => .inl (g1 i o (Nat.zero_le _) hi ho)) (fun L _ _ => ?_)
  have := runL_ok (fk := fk) (ops := ops) (l := ops.toList.drop m) (k := m) (fun j => by rw [List.getElem?_drop, Array.getElem?_toList]) g2
  rwa [List.length_drop, Array.length_toList] at this
end
end Go.Mac

/-! MacNW -/
/- MacNW: 'wp': the precondition of code, to be reckoned. No program is in sight. -/
namespace Go.Mac
open Go Go.Conc

def seqK (f : AS → Prop) (K : AExit → AS → Prop) : AExit → AS → Prop
  | .normal, s => f s
  | e, s => K e s

/-- Operations that 'stepW' does not reckon. -/
def specialO : Op → Bool
  | .defer _ | .go _ | .send .. | .recv .. | .select .. | .makeChan .. => true
  | _ => false
def hasSpecial : List Oper → Bool
  | [] => false
  | o :: l => specialO o.op || hasSpecial l

/-- The operation from which on a region's operations come in the order of the text. -/
def tailOf : List (Nat × Nat) → Nat → Option Nat
  | [], _ => none
  | (i, m) :: l, id => if i = id then some m else tailOf l id

/-- May the regions that draw their order be reckoned so? -/
def drawsOk (so : Opt) : Code → Bool
  | .seq a b => drawsOk so a && drawsOk so b
  | .cond _ a b => drawsOk so a && drawsOk so b
  | .block _ a => drawsOk so a
  | .region id ops true => so.hand.contains id || (okRegion ops && match tailOf so.tail id with
    | some m => tailOk ops m
    | none => true)
  | _ => true

/-- ████ The precondition of code. What is not reckoned stays as a judgement: loops, regions that draw their order, ranges over a function. ████ -/
def wp (P : Program) (so : Opt) (k : FK) : Code → (AExit → AS → Prop) → AS → Prop
  | .skip, K, s => K .normal s
  | .label _, K, s => K .normal s
  | .seq a b, K, s => wp P so k a (seqK (wp P so k b K) K) s
  | .cond x a b, K, s => condV (evA s.sl x) (wp P so k a K s) (wp P so k b K s)
  | .block id a, K, s => wp P so k a (blockQ id K) s
  | .exit id, K, s => K (.exit id) s
  | .goto l, K, s => K (.goto l) s
  | .ret, K, s => K .ret s
  | .region id ops false, K, s => match so.hand.contains id || hasSpecial ops.toList with
    | true => WPI P k [.code (.region id ops false)] K s
    | false => runL P so ops ops.toList K s
  | .region id ops true, K, s => match so.hand.contains id with
    | true => WPI P k [.code (.region id ops true)] K s
    | false => s.gh.todo = [] ∧ match tailOf so.tail id with
      | some m => quietL P so ops s.hp (ops.toList.take m) (fun sl => runL P so ops (ops.toList.drop m) K { s with sl := sl }) s.sl
      | none => quietL P so ops s.hp ops.toList (fun sl => K .normal { s with sl := sl }) s.sl
  | c, K, s => WPI P k [.code c] K s

section
variable {P : Program} {fk : FK} {so : Opt}

theorem wp_ok (hm : P.follows .mixedOrders = true) : ∀ (c : Code) {K : AExit → AS → Prop} {s : AS}, drawsOk so c = true → wp P so fk c K s → WP P fk c K s
  | .skip, _, _, _, h => WP.skip h
  | .label _, _, _, _, h => WP.label h
  | .seq a b, K, s, hd, h => WP.seq ((wp_ok hm a (by simp only [drawsOk, Bool.and_eq_true] at hd; exact hd.1) h).mono fun e s' q => by
      cases e with
      | normal => exact wp_ok hm b (by simp only [drawsOk, Bool.and_eq_true] at hd; exact hd.2) q
      | exit id => exact q
      | goto l => exact q
      | ret => exact q
      | panic v => exact q)
  | .cond x a b, K, s, hd, h => by
    simp only [drawsOk, Bool.and_eq_true] at hd
    simp only [wp, condV] at h
    split at h
    · rename_i t ht
      exact WP.cond ht (fun e => wp_ok hm a hd.1 (h.1 e)) (fun e => wp_ok hm b hd.2 (h.2 e))
    · exact h.elim
  | .block id a, K, s, hd, h => WP.block (wp_ok hm a hd h)
  | .exit id, _, _, _, h => WP.exit h
  | .goto l, _, _, _, h => WP.goto h
  | .ret, _, _, _, h => WP.ret h
  | .region id ops false, K, s, _, h => by
    simp only [wp] at h
    split at h
    · exact h
    · exact WP.region (by have := runL_ok (fk := fk) (k := 0) (fun j => by simp) h; rw [Array.length_toList] at this; rw [List.range_eq_range']; exact this)
  | .region id ops true, K, s, hd, h => by
    simp only [wp] at h
    split at h
    · exact h
    · rename_i hh
      simp only [drawsOk, hh, Bool.false_or, Bool.and_eq_true] at hd
      obtain ⟨hgt, h⟩ := h
      split at h
      · rename_i m hmt
        have := hd.2
        rw [hmt] at this
        exact WP.quietT so m hgt hm hd.1 this h
      · exact WP.quiet so hgt hm hd.1 h
  | .loop a, K, s, _, h => h
  | .rangeFunc f ps a b, K, s, _, h => h
  | .scope a, K, s, _, h => h
  | .refuse y, K, s, _, h => h

/-- A contract by what is reckoned of the function's body. -/
theorem PureA.of_wp {f : FuncId} {fn : Func} {code : Code} {args : List AV} {v : AV} (so : Opt) (hm : P.follows .mixedOrders = true) (hf : P.funcs[f]? = some fn) (hb : fn.body = some code) (hd : drawsOk so code = true) (hv : below 0 v = true)
    (hw : ∀ (h : List Blk) (l : List AV), h.all (belowBlk h.length) = true → l.length = max args.length fn.ntmps → (∀ i a, args[i]? = some a → evA l (.tmp i) = a) → wp P so ⟨f, false, h.length⟩ code (retQ0 P fn h v) { sl := l, df := [], hp := h }) : PureA P f args v :=
  PureA.of_WP hf hb hv fun h l h1 h2 h3 => wp_ok hm _ hd (hw h l h1 h2 h3)
end
end Go.Mac

/-! MacS -/
/- MacS: laws by which 'wp' is reckoned. No program is in sight. -/
namespace Go.Mac
open Go Go.Conc

theorem evA_set_eq {l : List AV} {i : Nat} {v : AV} (h : i < l.length) : evA (l.set i v) (.tmp i) = v := by simp [evA, List.getD, h]
theorem evA_set_ne {l : List AV} {i j : Nat} {v : AV} (h : i ≠ j) : evA (l.set i v) (.tmp j) = evA l (.tmp j) := by simp [evA, List.getD, List.getElem?_set_ne h]
theorem evA_const (l : List AV) (v : Value) : evA l (.const v) = constA v := rfl
theorem evA_func (l : List AV) (f : FuncId) : evA l (.func f) = .fn (.func f) [] [] := rfl

/-! ### The temporaries as a row of terms -/
def nth : Nat → List AV → AV
  | _, [] => .any
  | 0, a :: _ => a
  | n + 1, _ :: l => nth n l
def setN : Nat → AV → List AV → List AV
  | _, _, [] => []
  | 0, v, _ :: l => v :: l
  | n + 1, v, a :: l => a :: setN n v l
theorem nth_zero {a : AV} {l : List AV} : nth 0 (a :: l) = a := rfl
theorem nth_one {n : Nat} {a : AV} {l : List AV} : nth (n + 1) (a :: l) = nth n l := rfl
theorem nth_four {n : Nat} {a b c d : AV} {l : List AV} : nth (n + 4) (a :: b :: c :: d :: l) = nth n l := rfl
theorem nth_16 {n : Nat} {a b c d a1 b1 c1 d1 a2 b2 c2 d2 a3 b3 c3 d3 : AV} {l : List AV} : nth (n + 16) (a :: b :: c :: d :: a1 :: b1 :: c1 :: d1 :: a2 :: b2 :: c2 :: d2 :: a3 :: b3 :: c3 :: d3 :: l) = nth n l := rfl
theorem setN_zero {a v : AV} {l : List AV} : setN 0 v (a :: l) = v :: l := rfl
theorem setN_one {n : Nat} {a v : AV} {l : List AV} : setN (n + 1) v (a :: l) = a :: setN n v l := rfl
theorem setN_four {n : Nat} {v a b c d : AV} {l : List AV} : setN (n + 4) v (a :: b :: c :: d :: l) = a :: b :: c :: d :: setN n v l := rfl
theorem setN_16 {n : Nat} {v a b c d a1 b1 c1 d1 a2 b2 c2 d2 a3 b3 c3 d3 : AV} {l : List AV} : setN (n + 16) v (a :: b :: c :: d :: a1 :: b1 :: c1 :: d1 :: a2 :: b2 :: c2 :: d2 :: a3 :: b3 :: c3 :: d3 :: l) = a :: b :: c :: d :: a1 :: b1 :: c1 :: d1 :: a2 :: b2 :: c2 :: d2 :: a3 :: b3 :: c3 :: d3 :: setN n v l := rfl
theorem evA_tmp : ∀ {l : List AV} {t : Nat}, evA l (.tmp t) = nth t l
  | [], t => by simp [evA, nth]
  | a :: l, 0 => rfl
  | a :: l, t + 1 => by have := evA_tmp (l := l) (t := t); simpa [evA, nth, List.getD] using this
theorem putA_some : ∀ {l : List AV} {d : Nat} {v : AV}, putA l (some d) v = setN d v l
  | [], _, _ => by simp [putA, setN]
  | a :: l, 0, _ => rfl
  | a :: l, d + 1, v => by have := putA_some (l := l) (d := d) (v := v); simp only [putA, setN, List.set_cons_succ] at *; rw [this]
theorem putA_none {l : List AV} {v : AV} : putA l none v = l := rfl
/-- 'm' temporaries of which nothing is known, from the 'k'th on. -/
def junk (j : Nat → AV) : Nat → Nat → List AV
  | _, 0 => []
  | k, m + 1 => j k :: junk j (k + 1) m
theorem junk_zero {j : Nat → AV} {k : Nat} : junk j k 0 = [] := rfl
theorem junk_succ {j : Nat → AV} {k m : Nat} : junk j k (m + 1) = j k :: junk j (k + 1) m := rfl
theorem junk_length (j : Nat → AV) : ∀ m k, (junk j k m).length = m
  | 0, _ => rfl
  | m + 1, k => by simp [junk, junk_length j m]
theorem junk_get (j : Nat → AV) : ∀ m k i, i < m → (junk j k m)[i]? = some (j (k + i))
  | 0, _, _, h => by omega
  | m + 1, k, 0, _ => rfl
  | m + 1, k, i + 1, h => by simp only [junk, List.getElem?_cons_succ]; rw [junk_get j m (k + 1) i (by omega)]; congr 2; omega
theorem slots_lit {l : List AV} {n : Nat} (h : l.length = n) : ∃ j : Nat → AV, l = junk j 0 n := by
  refine ⟨fun k => l.getD k .any, List.ext_getElem? fun i => ?_⟩
  by_cases hi : i < n
  · rw [junk_get _ _ _ _ hi, Nat.zero_add]
    simp [List.getD, h, hi]
  · rw [List.getElem?_eq_none (by omega), List.getElem?_eq_none (by rw [junk_length]; omega)]
theorem entry_lit {l args : List AV} {m : Nat} (h : l.length = args.length + m) (ha : ∀ i a, args[i]? = some a → evA l (.tmp i) = a) : ∃ j : Nat → AV, l = args ++ junk j args.length m := by
  refine ⟨fun k => l.getD k .any, List.ext_getElem? fun i => ?_⟩
  by_cases hi : i < args.length
  · rw [List.getElem?_append_left hi]
    have h1 := ha i _ (List.getElem?_eq_getElem hi)
    have h2 : i < l.length := by omega
    simp only [evA, List.getD, List.getElem?_eq_getElem h2, Option.getD_some] at h1
    rw [List.getElem?_eq_getElem h2, List.getElem?_eq_getElem hi, h1]
  · rw [List.getElem?_append_right (by omega)]
    by_cases hi2 : i < args.length + m
    · rw [junk_get _ _ _ _ (by omega)]
      simp [List.getD, h, hi2, show args.length + (i - args.length) = i by omega]
    · rw [List.getElem?_eq_none (by omega), List.getElem?_eq_none (by rw [junk_length]; omega)]

/-- The temporaries are reckoned before what follows. -/
def withS (sl : List AV) (f : List AV → Prop) : Prop := f sl
theorem withS_eq {sl : List AV} {f : List AV → Prop} : withS sl f = f sl := rfl
@[congr] theorem withS_congr {sl sl' : List AV} {f : List AV → Prop} (e : sl = sl') : withS sl f = withS sl' f := by rw [e]

/-- A mark that goes when the thing is reckoned. -/
def tag {α : Type} (a : α) : α := a
theorem tag_eq {α : Type} {a : α} : tag a = a := rfl
/-- The condition of an operation. -/
def guardD (d : Option Tmp) (sl : List AV) (want : Bool) (yes no : Prop) : Prop :=
  match d with
  | some d => guardV (evA sl (.tmp d)) want yes no
  | none => False
@[congr] theorem guardD_congr {d d' : Option Tmp} {sl : List AV} {want : Bool} {yes no : Prop} (e : d = d') : guardD d sl want yes no = guardD d' sl want yes no := by rw [e]
theorem guardD_some {d : Tmp} {sl : List AV} {want : Bool} {yes no : Prop} : guardD (some d) sl want yes no = guardV (tag (evA sl (.tmp d))) want yes no := rfl
def guardU (g : Option (Nat × Bool)) (ops : Array Oper) (sl : List AV) (yes no : Prop) : Prop :=
  match g with
  | none => yes
  | some (j, want) => guardD ((ops[j]?).bind (·.dst)) sl want yes no
@[congr] theorem guardU_congr {g g' : Option (Nat × Bool)} {ops : Array Oper} {sl : List AV} {yes no : Prop} (e : g = g') : guardU g ops sl yes no = guardU g' ops sl yes no := by rw [e]
theorem guardU_none {ops : Array Oper} {sl : List AV} {yes no : Prop} : guardU none ops sl yes no = yes := rfl
theorem guardU_some {ops : Array Oper} {sl : List AV} {yes no : Prop} {j : Nat} {want : Bool} : guardU (some (j, want)) ops sl yes no = guardD (tag ((ops[j]?).bind (·.dst))) sl want yes no := rfl

def cutsD (l : List Nat) : Option Tmp → Bool
  | some d => l.contains d
  | none => false
theorem cutsD_some {l : List Nat} {d : Tmp} : cutsD l (some d) = l.contains d := rfl
theorem cutsD_none {l : List Nat} : cutsD l none = false := rfl
section
variable {P : Program} {so : Opt} {ops : Array Oper} {o : Oper} {rest : List Oper} {K : AExit → AS → Prop} {sl : List AV} {df : List ADef} {h : List Blk} {gh : Gst}
theorem runL_nil : runL P so ops [] K ⟨sl, df, h, gh⟩ = K .normal ⟨sl, df, h, gh⟩ := rfl
theorem runL_cons : runL P so ops (o :: rest) K ⟨sl, df, h, gh⟩ = guardU (tag o.guard) ops sl
    (stepW P so o ⟨sl, df, h, gh⟩ K fun v h' => cutV (tag (cuts so o)) v h' fun v h' => withS (tag (putA sl o.dst v)) fun sl => runL P so ops rest K ⟨sl, df, h', gh⟩)
    (withS (tag (putA sl o.dst (.tup []))) fun sl => runL P so ops rest K ⟨sl, df, h, gh⟩) := rfl
theorem stepW_mk {next : AV → List Blk → Prop} : stepW P so o ⟨sl, df, h, gh⟩ K next = match o.op with
  | .call cl => match cl.callee with
    | .value f => gh.todo = [] ∧ callW P (tag (evA sl f)) (cl.args.toList.map (evA sl)) h (retQ K ⟨sl, df, h, gh⟩ next)
    | .builtin .panic => panicW K ⟨sl, df, h, gh⟩ ((cl.args.toList.map (evA sl)).getD 0 .any)
    | _ => stepK (tag (opE P o.op (evA sl) h)) next
  | .panic x => panicW K ⟨sl, df, h, gh⟩ (evA sl x)
  | .defer _ => False
  | .buildSlice t len parts => match sealed so o with
    | true => stepK (tag (buildSealE P t len (parts.toList.map fun p => (p.1, evA sl p.2)) h)) next
    | false => stepK (tag (opE P o.op (evA sl) h)) next
  | op => stepK (tag (opE P op (evA sl) h)) next := rfl
theorem quietL_nil {K : List AV → Prop} : quietL P so ops h [] K sl = K sl := rfl
theorem quietL_cons {K : List AV → Prop} : quietL P so ops h (o :: rest) K sl = guardU (tag o.guard) ops sl (quietW P so o sl h fun v => cutV (tag (cuts so o)) v h fun v _ => withS (tag (putA sl o.dst v)) fun sl => quietL P so ops h rest K sl) (withS (tag (putA sl o.dst (.tup []))) fun sl => quietL P so ops h rest K sl) := rfl
theorem quietW_mk {K : AV → Prop} : quietW P so o sl h K = match o.op with
  | .call cl => match cl.callee with
    | .value f => quietC P (tag (evA sl f)) (cl.args.toList.map (evA sl)) h K
    | .builtin .panic => False
    | _ => quietK (tag (opE P o.op (evA sl) h)) h K
  | .buildSlice t len parts => sealed so o = true ∧ quietK (tag (buildSealE P t len (parts.toList.map fun p => (p.1, evA sl p.2)) h)) h K
  | .panic _ | .defer _ => False
  | _ => quietK (tag (opE P o.op (evA sl) h)) h K := rfl
end

@[congr] theorem WPI_congr {P : Program} {fk : FK} {its : List Item} {Q : AExit → AS → Prop} {s s' : AS} (e : s = s') : WPI P fk its Q s = WPI P fk its Q s' := by rw [e]
@[congr] theorem YieldA_congr {P : Program} {n : Nm} {args args' : List AV} {h h' : List Blk} {Q : AEnd → List Blk → Prop} (e1 : args = args') (e2 : h = h') : YieldA P n args h Q = YieldA P n args' h' Q := by rw [e1, e2]
@[congr] theorem CallsA_congr {P : Program} {f : FuncId} {args args' : List AV} {h h' : List Blk} {Q : AEnd → List Blk → Prop} (e1 : args = args') (e2 : h = h') : CallsA P f args h Q = CallsA P f args' h' Q := by rw [e1, e2]

theorem hget0 {α : Type} (h bs : List α) : (h ++ bs)[h.length]? = bs[0]? := by rw [List.getElem?_append_right (Nat.le_refl _), Nat.sub_self]
theorem hget {α : Type} (h bs : List α) (i : Nat) : (h ++ bs)[h.length + i]? = bs[i]? := by rw [List.getElem?_append_right (by omega)]; congr 1; omega
theorem hset0 {α : Type} (h bs : List α) (b : α) : (h ++ bs).set h.length b = h ++ bs.set 0 b := by rw [List.set_append_right _ _ (Nat.le_refl _), Nat.sub_self]
theorem hset {α : Type} (h bs : List α) (i : Nat) (b : α) : (h ++ bs).set (h.length + i) b = h ++ bs.set i b := by rw [List.set_append_right _ _ (by omega)]; congr 2; omega

/-- Rows of cells, one row for each member of a list. -/
theorem drop_rows {α β : Type} {f : α → List β} {n : Nat} (hf : ∀ x, (f x).length = n) : ∀ (l : List α) (i : Nat) (h : i < l.length), (l.flatMap f).drop (i * n) = f l[i] ++ (l.drop (i + 1)).flatMap f
  | [], i, h => by simp at h
  | x :: l, 0, h => by simp
  | x :: l, i + 1, h => by
    have hi : i < l.length := by simpa using h
    simp only [List.flatMap_cons, List.getElem_cons_succ, List.drop_succ_cons]
    rw [show (i + 1) * n = n + i * n by rw [Nat.succ_mul]; omega, List.drop_append, hf x]
    rw [show n + i * n - n = i * n by omega, List.drop_eq_nil_of_le (by rw [hf x]; omega), List.nil_append]
    exact drop_rows hf l i hi

theorem length_rows {α β : Type} {f : α → List β} {n : Nat} (hf : ∀ x, (f x).length = n) (l : List α) : (l.flatMap f).length = l.length * n := by
  induction l with
  | nil => simp
  | cons x l ih => simp only [List.flatMap_cons, List.length_append, hf, ih, List.length_cons, Nat.succ_mul]; omega

@[congr] theorem callV_congr {P : Program} {f f' : AV} {args args' : List AV} {h h' : List Blk} {Q : AEnd → List Blk → Prop} (e0 : f = f') (e1 : args = args') (e2 : h = h') : callW P f args h Q = callW P f' args' h' Q := by rw [e0, e1, e2]
/-- What follows a call is not looked at before the call's value is known. -/
inductive Held {α : Type} : α → Type where
  | mk (a : α) : Held a
def held {α : Type} (a : α) (_ : Held a) : α := a
theorem held_one {α : Type} {f : α → Prop} {w : Held f} {x : α} : held f w x = f x := rfl
theorem held_two {α β : Type} {f : α → β → Prop} {w : Held f} {x : α} {y : β} : held f w x y = f x y := rfl
theorem callV_fn {P : Program} {g : FuncId} {first cap args : List AV} {h : List Blk} {Q : AEnd → List Blk → Prop} : callW P (.fn (.func g) first cap) args h Q = (callable P g ∧ CallsA P g (tag (first ++ args ++ cap)) h (held Q (.mk Q))) := rfl
theorem callV_yield {P : Program} {n : Nm} {args : List AV} {h : List Blk} {Q : AEnd → List Blk → Prop} : callW P (.yield n) args h Q = (n.gen = 0 ∧ loopAr h n = some args.length ∧ YieldA P n (tag args) h (held Q (.mk Q))) := rfl

theorem quietC_fnt {P : Program} {g : FuncId} {first cap args : List AV} {h : List Blk} {K : AV → Prop} : quietC P (.fn (.func g) first cap) args h K = (callable P g ∧ QuietCalls P g (tag (first ++ args ++ cap)) h (held K (.mk K))) := rfl

/-- A contract in use. -/
theorem CallsA.use {P : Program} {f : FuncId} {args : List AV} {v : AV} {h : List Blk} {Post : AEnd → List Blk → Prop} (c : PureA P f args v) (hp : Post (.ret v) h) : CallsA P f args h Post :=
  (c h).mono fun e h' q => by rw [q.1, q.2]; exact hp

theorem CallsA.use' {P : Program} {f : FuncId} {args args' : List AV} {v : AV} {h : List Blk} {Post : AEnd → List Blk → Prop} (c : PureA P f args v) (ha : args' = args) (hp : Post (.ret v) h) : CallsA P f args' h Post := by
  subst ha; exact .use c hp

theorem wrap64 {n : Int} (h : -9223372036854775808 ≤ n) (h' : n ≤ 9223372036854775807) : IntKind.i64.wrap n = n := by
  have e : IntKind.i64.wrap n = if n % 18446744073709551616 ≥ 9223372036854775808 then n % 18446744073709551616 - 18446744073709551616 else n % 18446744073709551616 := by
    simp [IntKind.wrap, IntKind.bits, IntKind.signed]
  rw [e]
  split <;> omega

/-- What is asked behind one round of a loop. -/
def loopQ {ι : Type} (I : ι → AS → Prop) (μ : ι → Nat) (i : ι) (Q : AExit → AS → Prop) : AExit → AS → Prop
  | .normal, s => ∃ i', I i' s ∧ μ i' < μ i
  | e, s => Q e s

/-- A loop, by a row of invariants. -/
theorem WP.loopI {P : Program} {fk : FK} {Q : AExit → AS → Prop} {s : AS} {body : Code} {ι : Type} (I : ι → AS → Prop) (μ : ι → Nat) (i0 : ι) (h0 : I i0 s) (h : ∀ i s, I i s → WP P fk body (loopQ I μ i Q) s) : WP P fk (.loop body) Q s := by
  have key : ∀ n i s, μ i < n → I i s → WPI P fk [.inLoop body] Q s := by
    intro n
    induction n with
    | zero => intro i s hn; exact absurd hn (Nat.not_lt_zero _)
    | succ n ih =>
      intro i s hn hs
      refine WPI.idle [.code body, .inLoop body] (fun _ _ _ _ _ _ _ _ _ => by simp [G, stepG, stepG.exec, at']) (WPI.cons rfl ((h i s hs).mono fun e s' q => ?_))
      cases e with
      | normal => obtain ⟨i', q1, q2⟩ := q; exact ih i' s' (by omega) q1
      | exit id => exact q
      | goto l => exact q
      | ret => exact q
      | panic v => exact q
  refine WPI.idle [.code body, .inLoop body] (fun _ _ _ _ _ _ _ _ _ => by simp [G, stepG, stepG.exec, at']) (WPI.cons rfl ((h i0 s h0).mono fun e s' q => ?_))
  cases e with
  | normal => obtain ⟨i', q1, q2⟩ := q; exact key (μ i' + 1) i' s' (by omega) q1
  | exit id => exact q
  | goto l => exact q
  | ret => exact q
  | panic v => exact q

theorem resV_tmp {P : Program} {sl : List AV} {h : List Blk} {t : Tmp} : resV sl h P (.tmp t) = some (evA sl (.tmp t)) := rfl
theorem resV_cell {P : Program} {sl : List AV} {h : List Blk} {a : Tmp} {t : TypeId} : resV sl h P (.cell a t) = match tyT P t, cellsAt h (evA sl (.tmp a)) with
    | some f, some cs => if (if aggD f.d then f.sz else 1) ≤ cs.length then some (readA f cs) else none
    | _, _ => none := rfl

theorem retQ0.plain {P : Program} {fn : Func} {h k : List Blk} {v : AV} {e : AExit} {s : AS} (he : e = .normal ∨ e = .ret) (hd : s.df = []) (hg : s.gh = {}) (hr : resA P fn s.sl s.hp = some v) (hh : s.hp = h ++ k) : retQ0 P fn h v e s := by
  rcases he with rfl | rfl <;> exact ⟨s, .refl, hd, hg, hr, k, hh⟩

theorem evA_entry {args l : List AV} (ha : ∀ i a, args[i]? = some a → evA l (.tmp i) = a) : ∀ i, i < args.length → evA l (.tmp i) = args.getD i .any := fun i hi => ha i _ (by simp [List.getD, hi])




theorem tailOf_nil {i : Nat} : tailOf [] i = none := rfl
theorem tailOf_cons {i m id : Nat} {l : List (Nat × Nat)} : tailOf ((i, m) :: l) id = if i = id then some m else tailOf l id := rfl
theorem cuts_mk {so : Opt} {op : Op} {t : TypeId} {p : String} {a : Array Edge} {g : Option (Nat × Bool)} {d : Option Tmp} : cuts so ⟨d, op, t, p, a, g⟩ = cutsD so.cut d := rfl
theorem sealed_mk {so : Opt} {op : Op} {t : TypeId} {p : String} {a : Array Edge} {g : Option (Nat × Bool)} {d : Option Tmp} : sealed so ⟨d, op, t, p, a, g⟩ = cutsD so.shut d := rfl
theorem hasSpecial_nil : hasSpecial [] = false := rfl
theorem hasSpecial_cons {o : Oper} {l : List Oper} : hasSpecial (o :: l) = (specialO o.op || hasSpecial l) := rfl

/-- A choice by what is reckoned first. -/
def ifK (b : Bool) (yes no : Prop) : Prop :=
  match b with
  | true => yes
  | false => no
@[congr] theorem ifK_congr {b b' : Bool} {yes no : Prop} (e : b = b') : ifK b yes no = ifK b' yes no := by rw [e]
theorem ifK_true {yes no : Prop} : ifK true yes no = yes := rfl
theorem ifK_false {yes no : Prop} : ifK false yes no = no := rfl
def optK (b : Option Nat) (yes : Nat → Prop) (no : Prop) : Prop :=
  match b with
  | some m => yes m
  | none => no
@[congr] theorem optK_congr {b b' : Option Nat} {yes : Nat → Prop} {no : Prop} (e : b = b') : optK b yes no = optK b' yes no := by rw [e]
theorem optK_some {m : Nat} {yes : Nat → Prop} {no : Prop} : optK (some m) yes no = yes m := rfl
theorem optK_none {yes : Nat → Prop} {no : Prop} : optK none yes no = no := rfl

section
variable {P : Program} {so : Opt} {k : FK} {K : AExit → AS → Prop} {sl : List AV} {df : List ADef} {h : List Blk} {gh : Gst}
theorem wp_region {id : Nat} {l : List Oper} {s : AS} : wp P so k (.region id l.toArray false) K s = ifK (tag (so.hand.contains id || hasSpecial l)) (WPI P k [.code (.region id l.toArray false)] K (tag s)) (runL P so l.toArray l K s) := by simp only [wp, List.toList_toArray, ifK, tag]; rfl
@[congr] theorem quietL_congr {ops : Array Oper} {l l' : List Oper} {K : List AV → Prop} (e : l = l') : quietL P so ops h l K sl = quietL P so ops h l' K sl := by rw [e]
@[congr] theorem runL_congr {ops : Array Oper} {l l' : List Oper} {s : AS} (e : l = l') : runL P so ops l K s = runL P so ops l' K s := by rw [e]
theorem wp_draw {id : Nat} {l : List Oper} : wp P so k (.region id l.toArray true) K ⟨sl, df, h, gh⟩ = ifK (tag (so.hand.contains id)) (WPI P k [.code (.region id l.toArray true)] K (tag ⟨sl, df, h, gh⟩))
    (gh.todo = [] ∧ optK (tag (tailOf so.tail id)) (fun m => quietL P so l.toArray h (tag (l.take m)) (fun sl => runL P so l.toArray (tag (l.drop m)) K ⟨sl, df, h, gh⟩) sl) (quietL P so l.toArray h l (fun sl => K .normal ⟨sl, df, h, gh⟩) sl)) := by
  simp only [wp, List.toList_toArray, ifK, tag, optK]
  rfl
theorem wp_loop {a : Code} {s : AS} : wp P so k (.loop a) K s = WPI P k [.code (.loop a)] K (tag s) := by simp only [wp]; rfl
theorem wp_range {f : Operand} {ps : Array Tmp} {a b : Code} {s : AS} : wp P so k (.rangeFunc f ps a b) K s = WPI P k [.code (.rangeFunc f ps a b)] K (tag s) := by simp only [wp]; rfl
theorem wp_seq {a b : Code} {s : AS} : wp P so k (.seq a b) K s = wp P so k a (seqK (wp P so k b K) K) s := by simp only [wp]
theorem wp_cond {x : Operand} {a b : Code} : wp P so k (.cond x a b) K ⟨sl, df, h, gh⟩ = condV (tag (evA sl x)) (wp P so k a K ⟨sl, df, h, gh⟩) (wp P so k b K ⟨sl, df, h, gh⟩) := by simp only [wp]; rfl
theorem wp_block {id : Nat} {a : Code} {s : AS} : wp P so k (.block id a) K s = wp P so k a (blockQ id K) s := by simp only [wp]
theorem wp_exit {id : Nat} {s : AS} : wp P so k (.exit id) K s = K (.exit id) s := by simp only [wp]
theorem wp_ret {s : AS} : wp P so k .ret K s = K .ret s := by simp only [wp]
theorem wp_skip {s : AS} : wp P so k .skip K s = K .normal s := by simp only [wp]
end
attribute [go_sem ↓] wp_region wp_draw wp_loop wp_range wp_seq wp_cond wp_block wp_exit wp_ret wp_skip runL_nil runL_cons stepW_mk quietL_nil quietL_cons
attribute [go_sem ↓ high] condB_true condB_false nth_16 setN_16
attribute [go_sem ↓] nth_four setN_four
attribute [go_sem ↓ low] nth_one setN_one nth_zero setN_zero
attribute [go_sem] tailOf_nil tailOf_cons cuts_mk sealed_mk cutsD_some cutsD_none hasSpecial_nil hasSpecial_cons specialO ifK_true ifK_false optK_some optK_none
attribute [go_sem ↓] condB_var loopQ opE seqK blockQ quietW_mk withVH_eq
attribute [go_sem ↓] held_one held_two
attribute [go_sem] withS_eq stepK_some quietK_some quietC_fnt guardU_none guardU_some guardD_some tag_eq loadE.eq_def storeE.eq_def buildE.eq_def buildSliceE.eq_def buildSealE.eq_def nilCheckE.eq_def binE.eq_def unE.eq_def convE.eq_def convBytesE.eq_def slice3E.eq_def fieldAddrE.eq_def fieldE.eq_def indexAddrE.eq_def indexE.eq_def sliceE.eq_def gotA assertE.eq_def appendE.eq_def lenE.eq_def builtinE.eq_def makeSliceE.eq_def nextE.eq_def evA_tmp putA_some putA_none callV_fn callV_yield panicW cutV_false cutV_bool condV_bool guardV_tt guardV_ff guardV_tf guardV_ft retQ evA_const evA_func constA valCells setMany placesA fillA leafA addA reachA cellsAt.eq_def readA.eq_def partA binInt.eq_def shInt.eq_def divInt.eq_def binStr.eq_def intsOf aggD isIntD isIfaceD pickA resA resL resV_tmp resV_cell hget0 hget hset0 hset loB hiB zeroA List.contains_cons List.contains_nil Bool.or_false Bool.or_true Bool.true_or Bool.false_or srcA mapOf
attribute [go_sem] List.toList_toArray List.map_cons List.map_nil List.getElem?_cons_zero List.getElem?_cons_succ List.set_cons_zero List.set_cons_succ List.length_cons List.length_nil List.length_set List.length_append List.all_cons List.all_nil List.getD_cons_zero List.getD_cons_succ List.drop_zero List.drop_succ_cons List.take_succ_cons List.take_zero List.getElem?_toArray List.append_assoc List.cons_append List.nil_append List.append_nil List.length_singleton
attribute [go_sem] Bool.true_eq_false false_implies true_implies implies_true Bool.and_true Bool.true_and Bool.and_self Bool.false_eq_true if_false false_and and_false Bool.not_true Bool.not_false Bool.and_false Bool.false_and beq_iff_eq Nat.reduceBEq Nat.reduceLT ne_eq Nat.reduceEqDiff not_false_eq_true Nat.zero_add Nat.add_zero Nat.reduceAdd Nat.reduceMul Nat.reduceLeDiff and_self true_and and_true if_true decide_eq_true_eq eq_self Option.map_some Option.map_none Option.bind_some Option.bind_none Option.getD_some Option.getD_none
/-- The end of a way that leaves no block of an owner's open. -/
def retP (P : Program) (fn : Func) (h : List Blk) (v : AV) : AExit → AS → Prop
  | .normal, s | .ret, s => s.df = [] ∧ s.gh = {} ∧ resA P fn s.sl s.hp = some v ∧ ∃ k, s.hp = h ++ k
  | _, _ => False
section
variable {P : Program} {fn : Func} {h hp : List Blk} {v : AV} {sl : List AV} {df : List ADef} {gh : Gst}
theorem retP_ret : retP P fn h v .ret ⟨sl, df, hp, gh⟩ = (df = [] ∧ gh = {} ∧ resA P fn sl hp = some v ∧ ∃ k, hp = h ++ k) := rfl
theorem retP_normal : retP P fn h v .normal ⟨sl, df, hp, gh⟩ = (df = [] ∧ gh = {} ∧ resA P fn sl hp = some v ∧ ∃ k, hp = h ++ k) := rfl
theorem ex_append {k : List Blk} : (∃ k', h ++ k = h ++ k') = True := eq_true ⟨k, rfl⟩
theorem ex_self : (∃ k', h = h ++ k') = True := eq_true ⟨[], (List.append_nil _).symm⟩
theorem retP.retQ0 {e : AExit} {s : AS} (q : retP P fn h v e s) : retQ0 P fn h v e s := by
  cases e with
  | ret => exact retQ0.plain (.inr rfl) q.1 q.2.1 q.2.2.1 q.2.2.2.choose_spec
  | normal => exact retQ0.plain (.inl rfl) q.1 q.2.1 q.2.2.1 q.2.2.2.choose_spec
  | exit id => exact q.elim
  | goto l => exact q.elim
  | panic v => exact q.elim
end
attribute [go_sem ↓] retP_ret retP_normal
attribute [go_sem] ex_append ex_self Option.some.injEq AV.tup.injEq AV.bool.injEq AV.int.injEq AV.str.injEq List.cons.injEq decide_eq_false_iff_not List.append_cancel_left_eq Blk.cells.injEq exists_eq'
/-- A contract by what is reckoned of the function's body. -/
theorem PureA.of_wpl {P : Program} {f : FuncId} {fn : Func} {code : Code} {args : List AV} {v : AV} (so : Opt) (m : Nat) (hm : P.follows .mixedOrders = true) (hf : P.funcs[f]? = some fn) (hn : max args.length fn.ntmps = args.length + m) (hb : fn.body = some code) (hd : drawsOk so code = true) (hv : below 0 v = true)
    (hw : ∀ (h : List Blk) (j : Nat → AV), h.all (belowBlk h.length) = true → wp P so ⟨f, false, h.length⟩ code (retQ0 P fn h v) ⟨args ++ junk j args.length m, [], h, {}⟩) : PureA P f args v :=
  PureA.of_wp so hm hf hb hd hv fun h l h1 h2 h3 => by
    obtain ⟨j, rfl⟩ := entry_lit (h2.trans hn) h3
    exact hw h j h1
theorem PureA.of_wpp {P : Program} {f : FuncId} {fn : Func} {code : Code} {args : List AV} {v : AV} (so : Opt) (m : Nat) (hm : P.follows .mixedOrders = true) (hf : P.funcs[f]? = some fn) (hn : max args.length fn.ntmps = args.length + m) (hb : fn.body = some code) (hd : drawsOk so code = true) (hv : below 0 v = true)
    (hw : ∀ (h : List Blk) (j : Nat → AV), h.all (belowBlk h.length) = true → wp P so ⟨f, false, h.length⟩ code (retP P fn h v) ⟨args ++ junk j args.length m, [], h, {}⟩) : PureA P f args v :=
  PureA.of_WP hf hb hv fun h l h1 h2 h3 => by
    obtain ⟨j, rfl⟩ := entry_lit (h2.trans hn) h3
    exact (wp_ok hm _ hd (hw h j h1)).mono fun e s q => q.retQ0

/-- A value's block is written no more, if it has one. -/
def nilPsl : AV → AV
  | .nilsl => .psl [] 0
  | a => a
def sealK (a : AV) (hp : List Blk) (K : AV → List Blk → Prop) : Prop :=
  match sealV hp a with
  | some a' => K a' (hp.set (nmOf a) .dead)
  | none => K (nilPsl a) hp
@[congr] theorem sealK_congr {a a' : AV} {hp : List Blk} {K : AV → List Blk → Prop} (e : a = a') : sealK a hp K = sealK a' hp K := by rw [e]
/-- .. for a row of temporaries. -/
def shutK : List Nat → List AV → List Blk → (List AV → List Blk → Prop) → Prop
  | [], sl, hp, K => K sl hp
  | d :: ds, sl, hp, K => sealK (evA sl (.tmp d)) hp fun a hp => shutK ds (putA sl (some d) a) hp K
/-- The end of a way, some temporaries being an owner's no more. -/
def retS (ds : List Nat) (P : Program) (fn : Func) (h : List Blk) (v : AV) : AExit → AS → Prop
  | .normal, s | .ret, s => s.df = [] ∧ s.gh = {} ∧ shutK ds s.sl s.hp fun sl hp => resA P fn sl hp = some v ∧ ∃ k, hp = h ++ k
  | _, _ => False
section
variable {P : Program} {fn : Func} {h hp : List Blk} {v : AV} {sl : List AV} {df : List ADef} {gh : Gst} {K : List AV → List Blk → Prop}
theorem shutK_nil : shutK [] sl hp K = K sl hp := rfl
theorem shutK_cons {d : Nat} {ds : List Nat} : shutK (d :: ds) sl hp K = sealK (tag (evA sl (.tmp d))) hp fun a hp => withS (tag (putA sl (some d) a)) fun sl => shutK ds sl hp K := rfl
theorem retS_ret {ds : List Nat} : retS ds P fn h v .ret ⟨sl, df, hp, gh⟩ = (df = [] ∧ gh = {} ∧ shutK ds sl hp fun sl hp => resA P fn sl hp = some v ∧ ∃ k, hp = h ++ k) := rfl
theorem retS_normal {ds : List Nat} : retS ds P fn h v .normal ⟨sl, df, hp, gh⟩ = (df = [] ∧ gh = {} ∧ shutK ds sl hp fun sl hp => resA P fn sl hp = some v ∧ ∃ k, hp = h ++ k) := rfl

theorem shutK_turns {n0 : Nat} : ∀ {ds : List Nat} {s : AS}, shutK ds s.sl s.hp K → ∃ s', Turns n0 s s' ∧ s'.df = s.df ∧ s'.gh = s.gh ∧ K s'.sl s'.hp
  | [], s, q => ⟨s, .refl, rfl, rfl, q⟩
  | d :: ds, s, q => by
    simp only [shutK, sealK] at q
    split at q
    · rename_i a' ha
      obtain ⟨s', t, h1, h2, h3⟩ := shutK_turns (n0 := n0) (ds := ds) (s := { s with sl := s.sl.set d a', hp := s.hp.set (nmOf (evA s.sl (.tmp d))) .dead }) q
      exact ⟨s', (Turns.shut rfl ha).trans t, h1, h2, h3⟩
    · obtain ⟨s', t, h1, h2, h3⟩ := shutK_turns (n0 := n0) (ds := ds) (s := { s with sl := s.sl.set d (nilPsl (evA s.sl (.tmp d))) }) q
      refine ⟨s', (Turns.slot rfl fun c V hV => ?_).trans t, h1, h2, h3⟩
      unfold nilPsl
      split
      · rename_i e
        rw [e] at hV
        exact .inl ⟨rfl, rfl, hV⟩
      · exact hV
theorem retS.retQ0 {ds : List Nat} {e : AExit} {s : AS} (q : retS ds P fn h v e s) : retQ0 P fn h v e s := by
  have key : (s.df = [] ∧ s.gh = {} ∧ shutK ds s.sl s.hp fun sl hp => resA P fn sl hp = some v ∧ ∃ k, hp = h ++ k) → ∃ s', Turns h.length s s' ∧ s'.df = [] ∧ s'.gh = {} ∧ resA P fn s'.sl s'.hp = some v ∧ ∃ k, s'.hp = h ++ k := by
    rintro ⟨h1, h2, h3⟩
    obtain ⟨s', t, g1, g2, g3⟩ := shutK_turns (n0 := h.length) h3
    exact ⟨s', t, g1.trans h1, g2.trans h2, g3.1, g3.2⟩
  cases e with
  | ret => exact key q
  | normal => exact key q
  | exit id => exact q.elim
  | goto l => exact q.elim
  | panic v => exact q.elim
end
attribute [go_sem ↓] retS_ret retS_normal shutK_nil shutK_cons
attribute [go_sem] sealK.eq_def sealV.eq_def nilPsl nmOf zeroRow belowL below List.range_succ List.range_zero
theorem PureA.of_wps {P : Program} {f : FuncId} {fn : Func} {code : Code} {args : List AV} {v : AV} (ds : List Nat) (so : Opt) (m : Nat) (hm : P.follows .mixedOrders = true) (hf : P.funcs[f]? = some fn) (hn : max args.length fn.ntmps = args.length + m) (hb : fn.body = some code) (hd : drawsOk so code = true) (hv : below 0 v = true)
    (hw : ∀ (h : List Blk) (j : Nat → AV), h.all (belowBlk h.length) = true → wp P so ⟨f, false, h.length⟩ code (retS ds P fn h v) ⟨args ++ junk j args.length m, [], h, {}⟩) : PureA P f args v :=
  PureA.of_WP hf hb hv fun h l h1 h2 h3 => by
    obtain ⟨j, rfl⟩ := entry_lit (h2.trans hn) h3
    exact (wp_ok hm _ hd (hw h j h1)).mono fun e s q => q.retQ0

/-- Some temporaries are an owner's no more, and the walk goes on. -/
theorem wp_shut {P : Program} {so : Opt} {fk : FK} {Q : AExit → AS → Prop} {sl : List AV} {df : List ADef} {hp : List Blk} {gh : Gst} (ds : List Nat) (hm : P.follows .mixedOrders = true) (c : Code) (hd : drawsOk so c = true) (h : shutK ds sl hp fun sl hp => wp P so fk c Q ⟨sl, df, hp, gh⟩) : WPI P fk [.code c] Q ⟨sl, df, hp, gh⟩ := by
  obtain ⟨⟨sl', df', hp', gh'⟩, t, h1, h2, h3⟩ := shutK_turns (n0 := fk.low) (s := ⟨sl, df, hp, gh⟩) h
  simp only at h1 h2 h3
  subst h1; subst h2
  exact WPI.turn t (wp_ok hm c hd h3)
end Go.Mac

/-! MacRF -/
/- MacRF: loops over functions: a round by its body; the loop by its iterator; the marks that such loops leave among the deferred calls. No program is in sight. -/
namespace Go.Mac
open Go Go.Conc

/-! ### A round -/
def setParams : List AV → List Tmp → List AV → List AV
  | sl, t :: ts, a :: as => setParams (sl.set t a) ts as
  | sl, _, _ => sl

theorem VRL.params {c : Cx} : ∀ {ts : List Tmp} {as : List AV} {vs : List Value} {sl : List AV} {tm : Array Value}, VRL c sl tm.toList → VRL c as vs → VRL c (setParams sl ts as) ((ts.zip vs).foldl (fun tmps (t, a) => tmps.setIfInBounds t a) tm).toList
  | [], _, _, _, _, h, _ => by simpa [setParams] using h
  | t :: ts, [], _, _, _, h, h' => by cases h'; simpa [setParams] using h
  | t :: ts, a :: as, _, sl, tm, h, h' => by
    obtain ⟨v, vs, rfl, h1, h2⟩ := h'
    simp only [setParams, List.zip_cons_cons, List.foldl_cons]
    exact VRL.params (by simp only [Array.toList_setIfInBounds]; exact h.set t h1) h2

theorem roundTmps_list (r : Loop) (vargs : Array Value) : roundTmps r vargs = (r.params.toList.zip vargs.toList).foldl (fun tmps (t, a) => tmps.setIfInBounds t a) r.tmps := by
  unfold roundTmps
  rw [← Array.foldl_toList, Array.toList_zip]

/-- What a round's end must achieve. -/
def roundEnd (n : Nm) (n0 : Nat) (Post : AEnd → List Blk → Prop) (jump : Option Code) (s : AS) : Prop :=
  s.df = [] ∧ s.gh = {} ∧ n.id < n0 ∧ ∃ st pend fn sl ps a b, s.hp[n.id]? = some (.loop st pend fn sl ps a b) ∧
    (s.hp.take n0).all (belowBlk n0) = true ∧ Post (.ret (.bool jump.isNone)) ((s.hp.set n.id (.loop (if jump.isNone then .ready else .done) jump fn sl ps a b)).take n0)

/-- What the body of a round must achieve. -/
def roundQ (n : Nm) (n0 : Nat) (Post : AEnd → List Blk → Prop) : AExit → AS → Prop
  | .normal, s => roundEnd n n0 Post none s
  | .exit id, s => roundEnd n n0 Post (some (.exit id)) s
  | .goto l, s => roundEnd n n0 Post (some (.goto l)) s
  | .ret, s => roundEnd n n0 Post (some .ret) s
  | .panic v, s => s.df = [] ∧ s.gh = {} ∧ Post (.panic v) s.hp

theorem neutral_of {base : List (Nat × Value)} {c : Cx} {s : Gst} (h : CR base c s) (hg : s = {}) : c.com.out = base ∧ c.com.todo = [] := by
  obtain ⟨⟨M, h1, h2⟩, h3⟩ := h
  rw [hg] at h2 h3
  cases h2
  exact ⟨by simpa using h1, h3⟩

theorem Cx.LoopAt.ext {c c' : Cx} {w w' : World} {h : List Blk} {n : Nm} {l : Nat} {r : Loop} {st : LoopState} {pend : Option Code} {fn : FuncId} {sl : List AV} {ps : Array Tmp} {a b : Code} (hl : c.LoopAt w n l r) (hx : Ext c c') (hH : HR c' w' h) (hb : h[n.id]? = some (.loop st pend fn sl ps a b)) :
    ∃ r', c'.LoopAt w' n l r' ∧ r'.state = st ∧ r'.pending = pend ∧ r'.fn = fn ∧ r'.params = ps ∧ r'.assign = a ∧ r'.body = b ∧ VRL c' sl r'.tmps.toList := by
  obtain ⟨l', r', hat, e⟩ := hH.loopAt hb hl.1
  obtain ⟨g, ⟨e0, k, h1, h2, h3⟩, _⟩ := hl
  obtain ⟨_, ⟨e1, k1, h4, h5, h6⟩, _⟩ := id hat
  obtain ⟨e2, h7, h8, h9⟩ := hx.own _ _ h1
  rw [h4] at h7
  cases h7
  have := h9 (by rw [h2, h5])
  rw [h3, h6] at this
  cases this
  exact ⟨r', hat, e⟩

/-- A loop's block is turned. -/
theorem HR.loopSet {c : Cx} {w : World} {h : List Blk} {n : Nm} {l : Nat} {r r' : Loop} {st st' : LoopState} {pend pend' : Option Code} {fn : FuncId} {sl : List AV} {ps : Array Tmp} {a b : Code} (x : HR c w h) (hl : c.LoopAt w n l r) (hb : h[n.id]? = some (.loop st pend fn sl ps a b))
    (hr : r' = { r with state := st', pending := pend' }) (hs : r.fn = fn ∧ r.params = ps ∧ r.assign = a ∧ r.body = b ∧ VRL c sl r.tmps.toList) :
    HR c { w with heap := w.heap.setIfInBounds l (.loop r') } (h.set n.id (.loop st' pend' fn sl ps a b)) := by
  obtain ⟨_, ⟨e, k, h1, h2, h3⟩, h4, h5⟩ := hl
  have hlt := (Array.getElem?_eq_some_iff.1 h5).1
  refine x.update h1 hb rfl h3 h4 (by simp) (fun b hb => by simp [Ne.symm hb]) ⟨h2, l, k, r.tmps, r.defers, h3, h4, ?_, hs.2.2.2.2⟩
  subst hr
  simp [hlt, ← hs.1, ← hs.2.1, ← hs.2.2.1, ← hs.2.2.2.1]

/-- ████ A round, by its body. ████ -/
theorem YieldA.of_round {P : Program} {n : Nm} {args : List AV} {h : List Blk} {Post : AEnd → List Blk → Prop} {pend : Option Code} {fn : FuncId} {slots : List AV} {params : Array Tmp} {assign body : Code} (hfs : (P.funcs[fn]?).isSome = true) (hb : h[n.id]? = some (.loop .ready pend fn slots params assign body)) (hg : n.gen = 0)
    (hw : WP P ⟨fn, true, h.length⟩ assign (fun e s1 => match e with
      | .normal => s1.df = [] ∧ ∃ p2 f2 sl2 ps2 a2 b2, s1.hp[n.id]? = some (.loop .ready p2 f2 sl2 ps2 a2 b2) ∧ WP P ⟨fn, true, h.length⟩ body (Mac.turnQ h.length (roundQ n h.length Post)) { s1 with hp := s1.hp.set n.id (.loop .busy p2 f2 sl2 ps2 a2 b2) }
      | _ => False) { sl := setParams slots params.toList args, df := [], hp := h }) : YieldA P n args h Post := by
  intro main Stop fr cs c w vargs l r hv hH htodo hat hcont
  obtain ⟨r', hat', e1, e2, e3, e4, e5, e6, e7⟩ := hat.ext (Ext.refl c) hH hb
  have hrr : r' = r := by
    have h1 := hat.2.2.2
    have h2 := hat'.2.2.2
    rw [h1] at h2
    simpa using h2.symm
  subst hrr
  generalize hfr : Frame.round l r'.fn (roundTmps r' vargs) r'.assign r'.body .normal = b0
  have hkind : b0.kind ≠ .early := by rw [← hfr]; simp [Frame.round]
  have hkn : b0.kind = .normal := by rw [← hfr]; rfl
  have hro : b0.roundOf = some l := by rw [← hfr]; rfl
  have hfn : b0.fn = fn := by rw [← hfr, ← e3]; rfl
  have hb0 : b0 = at' b0 (roundTmps r' vargs) [] ([.code assign] ++ [.beginRound, .code body]) := by rw [← hfr, ← e5, ← e6]; rfl
  rw [hb0]
  have hnl : n.id < h.length := (List.getElem?_eq_some_iff.1 hb).1
  have hsr : SR c.com.out c w { sl := setParams slots params.toList args, df := [], hp := h } (roundTmps r' vargs) [] :=
    ⟨by rw [roundTmps_list, e4]; exact VRL.params e7 hv, rfl, hH, ⟨[], rfl, rfl⟩, htodo⟩
  refine hw main Stop b0 [.beginRound, .code body] (fr :: cs) c.com.out c w _ [] ⟨hfn, fun q => by cases q⟩ hkind hsr ?_
  intro e s1 c1 w1 tmps1 ds1 q r1 x1T
  have x1 : Ext c c1 := x1T.ofT (by rw [← hH.len]; exact Nat.le_refl _)
  cases e with
  | exit id => exact q.elim
  | goto l => exact q.elim
  | ret => exact q.elim
  | panic v => exact q.elim
  | normal =>
    obtain ⟨hdf, p2, f2, sl2, ps2, a2, b2, hb2, hbody⟩ := q
    have hds : ds1 = [] := by have := r1.df; rw [hdf] at this; exact this
    subst hds
    -- the round begins
    refine Go'.of_step rfl fun w2 ry => ?_
    have hH2 := r1.hp.rely ry
    obtain ⟨r2, hat2, g1, g2, g3, g4, g5, g6, g7⟩ := hat.ext x1 hH2 hb2
    have hok : Ok P c1 w2.heap.size (do (at' b0 tmps1 [] [.beginRound, .code body]).roundOf.elim (stuck "beginRound: no round") Instr.beginRound; pure .skip : Sem Next) w2 (fun q => q = .ok .skip { w2 with heap := w2.heap.setIfInBounds l (.loop { r2 with state := .busy }) }) := by
      have hro' : (at' b0 tmps1 [] [.beginRound, .code body]).roundOf = some l := hro
      simp only [hro', Option.elim_some]
      refine Ok.then' (R := fun _ w' => w' = { w2 with heap := w2.heap.setIfInBounds l (.loop { r2 with state := .busy }) }) ?_ fun _ w' e => by subst e; exact ok_pure rfl
      unfold Instr.beginRound Instr.getLoop
      refine Ok.then (a := r2) ?_ ?_
      · refine Ok.then (a := .loop r2) ⟨.inl hat2.2.2.1, .loop r2, hat2.2.2.2, trivial, rfl, rfl⟩ ?_
        exact ok_pure rfl
      · refine Ok.then' (R := fun _ w' => w' = { w2 with heap := w2.heap.setIfInBounds l (.loop { r2 with state := .busy }) }) ⟨.inl hat2.2.2.1, rfl, ⟨.loop r2, hat2.2.2.2, trivial⟩, ⟨_, _, rfl, rfl⟩⟩ fun _ w' e => ?_
        subst e
        rw [g1]
        exact ok_pure ⟨_, _, rfl, rfl⟩
    obtain ⟨qr, ev, kp⟩ := Ok.spec #[] hok (Nat.le_refl _)
    rw [qr] at ev kp
    have hkind' : ((at' b0 tmps1 [] [.beginRound, .code body]).kind == CallKind.early) = false := by simpa [at'] using hkind
    have hst : stepG P main (G (at' b0 tmps1 [] [.beginRound, .code body]) (fr :: cs)) w2 = .go (G (at' b0 tmps1 [] ([.code body] ++ [])) (fr :: cs)) { w2 with heap := w2.heap.setIfInBounds l (.loop { r2 with state := .busy }) }
        (seen P b0.fn ((do (at' b0 tmps1 [] [.beginRound, .code body]).roundOf.elim (stuck "beginRound: no round") Instr.beginRound; pure .skip : Sem Next).events P w2 #[])) := by
      have hstepG : stepG P main (G (at' b0 tmps1 [] [.beginRound, .code body]) (fr :: cs)) w2 = stepG.apply P true (at' b0 tmps1 [] [.beginRound, .code body]) (fr :: cs) none (do (at' b0 tmps1 [] [.beginRound, .code body]).roundOf.elim (stuck "beginRound: no round") Instr.beginRound; pure .skip) w2 := rfl
      rw [hstepG]
      generalize (do (at' b0 tmps1 [] [.beginRound, .code body]).roundOf.elim (stuck "beginRound: no round") Instr.beginRound; pure .skip : Sem Next) = se at qr
      have htd : (at' b0 tmps1 [] [.beginRound, .code body]).todo = [.beginRound, .code body] := rfl
      simp only [stepG.apply, htd, Sem.runT_eq, qr, hkind', if_true, GStep.after, Bool.false_eq_true, if_false]
      simp [G, Frame.finish, at']
    have hHs := hH2.loopSet (st' := .busy) (pend' := p2) (r' := { r2 with state := .busy }) hat2 hb2 (by rw [← g2]) ⟨g3, g4, g5, g6, g7⟩
    refine ⟨_, _, _, c1, hst, rfl, ⟨kp, fun _ h => .inl h, fun _ _ h => .inl h, fun _ _ h => h, fun x hx => ?_, fun _ h => .inl h, fun _ h => .inl h, fun _ h => h, rfl, rfl, rfl⟩, ?_⟩
    · rcases ev x (mem_seen hx) with h | h
      · simp at h
      · exact h
    have hsr2 : SR c.com.out c1 { w2 with heap := w2.heap.setIfInBounds l (.loop { r2 with state := .busy }) } { s1 with hp := s1.hp.set n.id (.loop .busy p2 f2 sl2 ps2 a2 b2) } tmps1 [] := ⟨r1.sl, by rw [hdf]; rfl, hHs, r1.gh⟩
    refine hbody.turnQ main Stop b0 [] (fr :: cs) c.com.out c1 _ tmps1 [] ⟨hfn, fun q => by cases q⟩ hkind hsr2 ?_
    intro e s3 c3 w3 tmps3 ds3 q3 r3 x3T
    have x3 : Ext c c3 := (x1.toT (h.length)).transT x3T |>.ofT (by rw [← hH.len]; exact Nat.le_refl _)
    -- its end
    have fin : ∀ (jump : Option Code) (todo : List Item), (∀ w4, stepG P main (G (at' b0 tmps3 ds3 todo) (fr :: cs)) w4 = (let (r, es) := (Instr.endRound l jump).runT P w4 #[]
        GStep.after (seen P b0.fn es) <| match r with
        | .ok v w => doReturn P main (at' b0 tmps3 ds3 todo) (fr :: cs) none v w
        | .halt _ w => .ended (.stuck "range over a function: no such loop" ((at' b0 tmps3 ds3 todo).pos P)) w)) →
        roundEnd n h.length Post jump s3 → Go' P main Stop c3 (G (at' b0 tmps3 ds3 todo) (fr :: cs)) w3 := by
      intro jump todo hstep hend
      obtain ⟨hdf3, hgh3, hn3, st3, p3, f3, sl3, ps3, a3, b3, hb3, hbel, hpost⟩ := hend
      have hn := neutral_of r3.gh hgh3
      refine Go'.of_step rfl fun w4 ry4 => ?_
      have hH4 := r3.hp.rely ry4
      obtain ⟨r4, hat4, k1, k2, k3, k4, k5, k6, k7⟩ := hat.ext x3 hH4 hb3
      have hok4 : Ok P c3 w4.heap.size (Instr.endRound l jump) w4 (fun q => q = .ok (.bool jump.isNone) { w4 with heap := w4.heap.setIfInBounds l (.loop { r4 with state := if jump.isNone then .ready else .done, pending := jump }) }) := by
        unfold Instr.endRound Instr.getLoop
        refine Ok.then (a := r4) ?_ ?_
        · refine Ok.then (a := .loop r4) ⟨.inl hat4.2.2.1, .loop r4, hat4.2.2.2, trivial, rfl, rfl⟩ ?_
          exact ok_pure rfl
        · refine Ok.then' (R := fun _ w' => w' = { w4 with heap := w4.heap.setIfInBounds l (.loop { r4 with state := if jump.isNone then .ready else .done, pending := jump }) }) ⟨.inl hat4.2.2.1, rfl, ⟨.loop r4, hat4.2.2.2, trivial⟩, ⟨_, _, rfl, rfl⟩⟩ fun _ w' e => ?_
          subst e
          exact ok_pure rfl
      obtain ⟨qr4, ev4, kp4⟩ := Ok.spec #[] hok4 (Nat.le_refl _)
      rw [qr4] at ev4 kp4
      have hst4 : stepG P main (G (at' b0 tmps3 ds3 todo) (fr :: cs)) w4 = .go (G (fr.finish (.bool jump.isNone)) cs) { w4 with heap := w4.heap.setIfInBounds l (.loop { r4 with state := if jump.isNone then .ready else .done, pending := jump }) } (seen P b0.fn ((Instr.endRound l jump).events P w4 #[])) := by
        rw [hstep w4]
        have hk' : (at' b0 tmps3 ds3 todo).kind = .normal := hkn
        simp only [Sem.runT_eq, qr4, doReturn, hk', GStep.after, G]
        simp
      have hHs4 := (hH4.loopSet (st' := if jump.isNone then .ready else .done) (pend' := jump) (r' := { r4 with state := if jump.isNone then .ready else .done, pending := jump }) hat4 hb3 rfl ⟨k3, k4, k5, k6, k7⟩)
      have hle : c.own.length ≤ h.length := by rw [← hH.len]; exact Nat.le_refl _
      refine ⟨_, _, _, c3.take h.length, hst4, rfl, ⟨kp4, fun _ h => .inl h, fun _ _ h => .inl h, fun _ _ h => h, fun x hx => ?_, fun _ h => .inl h, fun _ h => .inl h, fun _ h => h, rfl, rfl, rfl⟩, ?_⟩
      · rcases ev4 x (mem_seen hx) with h | h
        · simp at h
        · exact h
      refine hcont (.ret (.bool jump.isNone)) _ (c3.take h.length) _ hpost (hHs4.take ?_) (x3.take hle) hn.1 hn.2 _ rfl
      rw [List.take_set]
      refine List.all_eq_true.2 fun x hx => ?_
      rcases List.mem_or_eq_of_mem_set hx with hx | rfl
      · exact List.all_eq_true.1 hbel x hx
      · have : (s3.hp.take h.length)[n.id]? = some (.loop st3 p3 f3 sl3 ps3 a3 b3) := by rw [List.getElem?_take_of_lt hn3]; exact hb3
        have hx := List.all_eq_true.1 hbel _ (List.mem_of_getElem? this)
        exact hx
    have hds3 : ds3 = [] ∨ True := .inr trivial
    cases e with
    | normal => exact fin none [] (fun w4 => by simp only [G, stepG, stepG.exec, at', hro]; rfl) q3
    | exit id => exact fun k' hk => fin (some (.exit id)) _ (fun w4 => by
        have hx : exitTo id k' = none := by rw [hk]; rfl
        simp only [G, stepG, stepG.exec, at', hro, hx, Option.elim_none]; rfl) q3
    | goto lb => exact fun k' hk => fin (some (.goto lb)) _ (fun w4 => by
        have hx : gotoIn lb k' = none := by rw [hk]; rfl
        simp only [G, stepG, stepG.exec, at', hro, hx, Option.elim_none]; rfl) q3
    | ret => exact fun k' => fin (some .ret) _ (fun w4 => by simp only [G, stepG, stepG.exec, at', hro]; rfl) q3
    | panic v =>
      intro V todo hV
      obtain ⟨hdf3, hgh3, hpost⟩ := q3
      have hn := neutral_of r3.gh hgh3
      have hds : ds3 = [] := by have := r3.df; rw [hdf3] at this; exact this
      subst hds
      have hst : ∀ w4, stepG P main (G { at' b0 tmps3 [] todo with mode := .panicking [{ v := V, recovered := false }] } (fr :: cs)) w4 = .go (G (fr.raise [{ v := V, recovered := false }]) cs) w4 #[] := by
        intro w4
        have hc : ({ at' b0 tmps3 [] todo with mode := .panicking [{ v := V, recovered := false }] } : Frame).catches P = false := by
          obtain ⟨fn', hfn'⟩ := Option.isSome_iff_exists.1 hfs
          simp [Frame.catches, at', hfn, hfn']
        generalize hfp : ({ at' b0 tmps3 [] todo with mode := .panicking [{ v := V, recovered := false }] } : Frame) = fp at hc
        have h1 : fp.defers = [] := by rw [← hfp]; rfl
        have h2 : fp.mode = .panicking [{ v := V, recovered := false }] := by rw [← hfp]
        simp [G, stepG, unwind, h1, h2, hc]
      refine Go'.idle rfl rfl hst ?_
      exact hcont (.panic v) _ c3 w3 hpost r3.hp x3 hn.1 hn.2 V hV
end Go.Mac


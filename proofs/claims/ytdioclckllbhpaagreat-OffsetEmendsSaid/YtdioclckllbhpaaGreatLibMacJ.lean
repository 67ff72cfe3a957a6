/- A part of the logic and of the contracts of the functions that the statement reaches; the statement itself is proved in the last text. -/
import Derived.Test.YtdioclckllbhpaaGreatLibMacI

set_option linter.all false
set_option linter.unusedVariables false
set_option linter.unusedSimpArgs false
set_option linter.unnecessarySimpa false
namespace Go.Mac
open Go Go.Conc
def eqAll : List (Option Bool) → Option Bool
  | [] => some true
  | some true :: r => eqAll r
  | some false :: _ => some false
  | none :: _ => none
def eqA (P : Program) : Nat → TypeId → AV → AV → Option Bool
  | 0, _, _, _ => none
  | d + 1, t, x, y =>
    match P.underlying t, x, y with
    | some .bool, .bool a, .bool b => some (a == b)
    | some (.int _), .int k a, .int k' b => if k = k' then some (a == b) else none
    | some .string, .str a, .str b => some (a == b)
    | some (.struct fs), .agg xs, .agg ys =>
      if P.stoodInHeld t then none else eqAll (fs.toList.map fun f => if f.name = "_" then some true else
        match tyT P f.type with
        | some tf => eqA P d f.type (partA tf xs f.offset) (partA tf ys f.offset)
        | none => none)
    | some (.array n e), .agg xs, .agg ys =>
      match tyT P e with
      | some te => eqAll ((List.range n).map fun i => eqA P d e (partA te xs (i * te.sz)) (partA te ys (i * te.sz)))
      | none => none
    | _, _, _ => none
section
variable {P : Program} {c : Cx} {w : World} {h : List Blk} {K : AV → List Blk → Prop}
theorem eqA_any {d : Nat} {t : TypeId} {y : AV} : eqA P d t .any y = none := by
  cases d with
  | zero => rfl
  | succ d => simp only [eqA]; split <;> simp_all
theorem eqA_any' {d : Nat} {t : TypeId} {x : AV} : eqA P d t x .any = none := by
  cases d with
  | zero => rfl
  | succ d => simp only [eqA]; split <;> simp_all
theorem part_any {tf : TF} {cs : List AV} {off : Nat} (h1 : aggD tf.d = false) (h2 : partA tf cs off ≠ .any) : off < cs.length := by
  unfold partA at h2
  rw [h1] at h2
  simp only [Bool.false_eq_true, if_false] at h2
  by_cases hl : off < cs.length
  · exact hl
  · exact absurd (by simp [List.getD, List.getElem?_eq_none (Nat.le_of_not_lt hl)]) h2
theorem ok_asks {n0 : Nat} {α : Type} {body : α → Sem (ForInStep (Option Bool × Unit))} : ∀ {l : List α} {rs : List (Option Bool)} {b : Bool}, rs.length = l.length → eqAll rs = some b →
    (∀ (i : Nat) a x, l[i]? = some a → rs[i]? = some (some x) → Ok P c n0 (body a) w (fun r => r = .ok (if x then .yield (none, ()) else .done (some false, ())) w)) →
    Ok P c n0 (forIn l ((none, ()) : Option Bool × Unit) (fun a _ => body a)) w (fun r => r = .ok (if b then (none, ()) else (some false, ())) w)
  | [], rs, b, hl, he, _ => by
    have : rs = [] := List.length_eq_zero_iff.1 hl
    subst this
    cases he
    simp only [List.forIn_nil]
    exact ok_pure rfl
  | a :: l, [], b, hl, _, _ => by simp at hl
  | a :: l, some true :: rs, b, hl, he, hb => by
    simp only [List.forIn_cons]
    refine Ok.then (hb 0 a true rfl rfl) ?_
    simp only [if_true]
    exact ok_asks (rs := rs) (by simpa using hl) he fun i a x h1 h2 => hb (i + 1) a x (by simpa using h1) (by simpa using h2)
  | a :: l, some false :: rs, b, hl, he, hb => by
    simp only [List.forIn_cons]
    refine Ok.then (hb 0 a false rfl rfl) ?_
    cases he
    exact ok_pure rfl
  | a :: l, none :: rs, b, hl, he, _ => by cases he
theorem forIn_range_list {β : Type} (n : Nat) (b : β) (f : Nat → β → Sem (ForInStep β)) : (forIn [0:n] b fun i r => f i r) = forIn (List.range n) b fun i r => f i r := by
  rw [Std.Legacy.Range.forIn_eq_forIn_range']
  simp [List.range_eq_range']
theorem ok_equalIn : ∀ (d : Nat) {d' : Nat} {t : TypeId} {x y : AV} {X Y : Value} {b : Bool} {n0 : Nat}, d ≤ d' → eqA P d t x y = some b → VR c x X → VR c y Y → Ok P c n0 (Op.equalIn d' t X Y) w (fun r => r = .ok b w)
  | 0, _, _, _, _, _, _, _, _, _, h, _, _ => by cases h
  | d + 1, 0, _, _, _, _, _, _, _, hd, _, _, _ => by omega
  | d + 1, d' + 1, t, x, y, X, Y, b, n0, hd, h, hx, hy => by
    simp only [eqA] at h
    split at h
    · rename_i hu; cases hx; cases hy; cases h
      rw [Op.equalIn]
      exact Ok.then (ok_underlying hu) (ok_pure rfl)
    · rename_i hu; cases hx; cases hy
      split at h
      · rename_i hk; cases h
        rw [Op.equalIn]
        refine Ok.then (ok_underlying hu) ?_
        simp only [hk, if_true]
        exact ok_pure rfl
      · cases h
    · rename_i a b' hu; cases hx; cases hy; cases h
      rw [Op.equalIn]
      refine Ok.then (ok_underlying hu) (ok_pure ?_)
      congr 1
      show (a.toArray == b'.toArray) = (a == b')
      rw [Bool.eq_iff_iff, beq_iff_eq, beq_iff_eq]
      simp
    · rename_i fs xs ys hu
      obtain ⟨lx, rfl, hx⟩ := hx
      obtain ⟨ly, rfl, hy⟩ := hy
      split at h
      · cases h
      · rename_i hst
        rw [Op.equalIn]
        refine Ok.then (ok_underlying hu) ?_
        simp only []
        refine Ok.then (a := P) rfl ?_
        rw [if_neg hst]
        simp only [← Array.forIn_toList]
        refine Ok.then (ok_asks (l := fs.toList) (by simp) h fun i f q h1 h2 => ?_) ?_
        · simp only [List.getElem?_map, h1, Option.map_some, Option.some.injEq] at h2
          split at h2
          · rename_i hn
            cases h2
            simp only [hn, ne_eq, not_true_eq_false, if_false]
            exact ok_pure rfl
          · rename_i hn
            simp only [ne_eq, hn, not_false_eq_true, if_true]
            split at h2
            · rename_i tf htf
              have ha1 : partA tf xs f.offset ≠ .any := fun e => by rw [e, eqA_any] at h2; cases h2
              have ha2 : partA tf ys f.offset ≠ .any := fun e => by rw [e, eqA_any'] at h2; cases h2
              refine Ok.bind' ((ok_part htf hx (fun hg => part_any hg ha1)).mono ?_)
              rintro _ ⟨V1, rfl, hV1⟩
              refine Ok.bind' ((ok_part htf hy (fun hg => part_any hg ha2)).mono ?_)
              rintro _ ⟨V2, rfl, hV2⟩
              refine Ok.then (ok_equalIn d (by omega) h2 hV1 hV2) ?_
              cases q <;> exact ok_pure rfl
            · cases h2
        · cases b <;> exact ok_pure rfl
    · rename_i n e xs ys hu
      obtain ⟨lx, rfl, hx⟩ := hx
      obtain ⟨ly, rfl, hy⟩ := hy
      split at h
      · rename_i te hte
        obtain ⟨i0, g1, g2, g3, _⟩ := tyT_some hte
        rw [Op.equalIn]
        refine Ok.then (ok_underlying hu) ?_
        simp only []
        refine Ok.then (ok_sizeOf g1) ?_
        rw [g3, forIn_range_list]
        refine Ok.then (ok_asks (l := List.range n) (by simp) h fun i j q h1 h2 => ?_) ?_
        · have hji : j = i := by
            have := List.getElem?_eq_some_iff.1 h1
            obtain ⟨q1, q2⟩ := this
            simpa using q2.symm
          subst hji
          simp only [List.getElem?_map, h1, Option.map_some, Option.some.injEq] at h2
          have ha1 : partA te xs (j * te.sz) ≠ .any := fun e => by rw [e, eqA_any] at h2; cases h2
          have ha2 : partA te ys (j * te.sz) ≠ .any := fun e => by rw [e, eqA_any'] at h2; cases h2
          refine Ok.bind' ((ok_part hte hx (fun hg => part_any hg ha1)).mono ?_)
          rintro _ ⟨V1, rfl, hV1⟩
          refine Ok.bind' ((ok_part hte hy (fun hg => part_any hg ha2)).mono ?_)
          rintro _ ⟨V2, rfl, hV2⟩
          refine Ok.then (ok_equalIn d (by omega) h2 hV1 hV2) ?_
          cases q <;> exact ok_pure rfl
        · cases b <;> exact ok_pure rfl
      · cases h
    · cases h
end
end Go.Mac

/- A part of the logic and of the contracts of the functions that the statement reaches; the statement itself is proved in the last text. -/
import Derived.Attr
import Derived.Test.YtdioclckllbhpaaLibMacNZ

set_option linter.all false
set_option linter.unusedVariables false
set_option linter.unusedSimpArgs false
set_option linter.unnecessarySimpa false
namespace Go.Mac
open Go Go.Conc
def newOp (ops : Array Oper) (a : Nat) (e : TypeId) : Bool := match ops[a]? with
  | some o => (match o.op with | .alloc t => t == e | _ => false) && o.guard.isNone
  | none => false
def plainOps (ops : Array Oper) (m : Nat) : Bool := (List.range m).all fun i => match ops[i]? with
  | some o => o.guard.isNone
  | none => false
theorem newOp_ok {ops : Array Oper} {a : Nat} {e : TypeId} (h : newOp ops a e = true) : ∃ o, ops[a]? = some o ∧ o.op = .alloc e ∧ o.guard = none := by
  unfold newOp at h
  split at h
  · rename_i o ho
    rw [Bool.and_eq_true] at h
    obtain ⟨h1, h2⟩ := h
    refine ⟨o, ho, ?_, Option.isNone_iff_eq_none.1 h2⟩
    split at h1
    · rename_i t ht
      rw [ht, beq_iff_eq.1 h1]
    · cases h1
  · cases h
def waitsAt (ops : Array Oper) (c a : Nat) : Bool := match ops[c]? with
  | some o => waitsB o a
  | none => false
theorem waitsAt_ok {ops : Array Oper} {c a b : Nat} (h1 : waitsAt ops c a = true) (h2 : waitsAt ops c b = true) : ∃ o, ops[c]? = some o ∧ waitsB o a = true ∧ waitsB o b = true := by
  unfold waitsAt at h1 h2
  cases ho : ops[c]? with
  | none => rw [ho] at h1; cases h1
  | some o => rw [ho] at h1 h2; exact ⟨o, rfl, h1, h2⟩
def newW (P : Program) (so : Opt) (o : Oper) (sl : List AV) (H H1 H2 : List Blk) (va vb : AV) (K : AV → Prop) : Option Nat → Prop
  | some 0 => K va
  | some 1 => K vb
  | some (_ + 2) => turnW P so o sl H1 H2 K
  | none => quietW P so o sl H fun v => (∀ x y : Blk, quietW P so o sl (H ++ [x, y]) fun v' => v' = v) ∧ K v
def newL (P : Program) (so : Opt) (a b c : Nat) (va vb : AV) (H H1 H2 : List Blk) : Nat → List Oper → (List AV → Prop) → List AV → Prop
  | _, [], K, sl => K sl
  | i, o :: rest, K, sl => newW P so o sl H H1 H2 va vb (fun v => withVH v [] fun v _ => newL P so a b c va vb H H1 H2 (i + 1) rest K (putA sl o.dst v)) ([a, b, c].idxOf? i)
section
variable {P : Program} {fk : FK} {Q : AExit → AS → Prop} {ops : Array Oper}
theorem WP.twoNew {id : Nat} {s : AS} (n n2 : Nat) (hn : s.hp.length = n) (hn2 : n + 1 = n2) (so : Opt) (m a b c : Nat) (e : TypeId) {f : TF} {z : List AV} (z' : List AV) (hgt : s.gh.todo = []) (hm : P.follows .mixedOrders = true) (hok : okRegion ops = true) (htail : tailOk ops m = true) (hmn : m ≤ ops.size)
    (hab : (decide (a < m) && decide (b < m) && decide (a ≠ b) && decide (c < m) && decide (a ≠ c) && decide (b ≠ c) && waitsAt ops c a && waitsAt ops c b && plainOps ops m && newOp ops a e && newOp ops b e) = true) (ht : tyT P e = some f) (hz : f.ze = some z)
    (hw : newL P so a b c (.ptr ⟨n, 1⟩ 0) (.ptr ⟨n2, 1⟩ 0) s.hp (s.hp ++ [.cells 1 z, .cells 1 z]) (s.hp ++ [.cells 1 z', .cells 1 z]) 0 (tag (ops.toList.take m)) (fun sl => runL P so ops (tag (ops.toList.drop m)) Q { s with sl := sl, hp := s.hp ++ [.cells 1 z', .cells 1 z] }) s.sl) : WP P fk (.region id ops true) Q s := by
  subst hn2; subst hn
  simp only [Bool.and_eq_true, decide_eq_true_eq] at hab
  obtain ⟨⟨⟨⟨⟨⟨⟨⟨⟨⟨ha, hb⟩, hne⟩, hc⟩, hac⟩, hbc⟩, hwa⟩, hwb⟩, hpl⟩, hna⟩, hnb⟩ := hab
  obtain ⟨oa, hoa, hopa, hga⟩ := newOp_ok hna
  obtain ⟨ob, hob, hopb, hgb⟩ := newOp_ok hnb
  have hgn : ∀ i o, i < m → ops[i]? = some o → o.guard = none := fun i o hi ho => by
    have := List.all_eq_true.1 hpl i (List.mem_range.2 hi)
    rw [ho] at this
    exact Option.isNone_iff_eq_none.1 this
  obtain ⟨va, hva⟩ : ∃ va, va = AV.ptr ⟨s.hp.length, 1⟩ 0 := ⟨_, rfl⟩
  obtain ⟨vb, hvb⟩ : ∃ vb, vb = AV.ptr ⟨s.hp.length + 1, 1⟩ 0 := ⟨_, rfl⟩
  rw [← hva, ← hvb] at hw
  obtain ⟨H1, hH1⟩ : ∃ H1, H1 = s.hp ++ [Blk.cells 1 z, .cells 1 z] := ⟨_, rfl⟩
  obtain ⟨H2, hH2⟩ : ∃ H2, H2 = s.hp ++ [Blk.cells 1 z', .cells 1 z] := ⟨_, rfl⟩
  rw [← hH1, ← hH2] at hw
  have idx : ∀ i, [a, b, c].idxOf? i = if i = a then some 0 else if i = b then some 1 else if i = c then some 2 else none := fun i => by
    rw [List.idxOf?_cons]
    by_cases e1 : i = a
    · rw [if_pos e1, if_pos (by rw [e1]; exact beq_self_eq_true _)]
    · have h1 : (a == i) = false := by simp; omega
      rw [if_neg e1, if_neg (by simp [h1]), List.idxOf?_cons]
      by_cases e2 : i = b
      · rw [if_pos e2, if_pos (by rw [e2]; exact beq_self_eq_true _)]; rfl
      · have h2 : (b == i) = false := by simp; omega
        rw [if_neg e2, if_neg (by simp [h2]), List.idxOf?_cons]
        by_cases e3 : i = c
        · rw [if_pos e3, if_pos (by rw [e3]; exact beq_self_eq_true _)]; rfl
        · have h3 : (c == i) = false := by simp; omega
          rw [if_neg e3, if_neg (by simp [h3])]; rfl
  let Good (vals : Nat → AV) (i : Nat) (o : Oper) (sl : List AV) : Prop := (i = a → vals i = va) ∧ (i = b → vals i = vb) ∧ (i = c → OneG P so ops o sl H1 (vals i) H2) ∧ (i ≠ a → i ≠ b → i ≠ c → ∀ x y : Blk, OneG P so ops o sl (s.hp ++ [x, y]) (vals i) (s.hp ++ [x, y]))
  have key : ∀ (l : List Oper) (k : Nat) (sl : List AV) (K : List AV → Prop), k + l.length = m → (∀ j, j < l.length → l[j]? = ops[k + j]?) → newL P so a b c va vb s.hp H1 H2 k l K sl →
      ∃ vals : Nat → AV, (∀ vals' : Nat → AV, (∀ i, k ≤ i → vals' i = vals i) → ∀ sl0, slotsL ops vals' (fun _ => true) sl0 k = sl →
        (∀ i o, k ≤ i → i < m → ops[i]? = some o → Good vals' i o (slotsL ops vals' (fun _ => true) sl0 i)) ∧ K (slotsL ops vals' (fun _ => true) sl0 m)) := by
    intro l
    induction l with
    | nil =>
      intro k sl K hk _ hq
      have : k = m := by simpa using hk
      subst this
      exact ⟨fun _ => .any, fun vals' _ sl0 e => ⟨fun i o hi ho => by omega, by rw [e]; exact hq⟩⟩
    | cons o rest ih =>
      intro k sl K hk hl hq
      have ho : ops[k]? = some o := by simpa using (hl 0 (by simp)).symm
      have hrest : ∀ j, j < rest.length → rest[j]? = ops[k + 1 + j]? := fun j hj => by have := hl (j + 1) (by simpa using hj); simpa [Nat.add_assoc, Nat.add_comm 1 j] using this
      have hkm : k < m := by simp at hk; omega
      simp only [newL] at hq
      have fin : ∀ v, (∀ vals : Nat → AV, vals k = v → Good vals k o sl) → newL P so a b c va vb s.hp H1 H2 (k + 1) rest K (putA sl o.dst v) →
            ∃ vals : Nat → AV, (∀ vals' : Nat → AV, (∀ i, k ≤ i → vals' i = vals i) → ∀ sl0, slotsL ops vals' (fun _ => true) sl0 k = sl →
              (∀ i o, k ≤ i → i < m → ops[i]? = some o → Good vals' i o (slotsL ops vals' (fun _ => true) sl0 i)) ∧ K (slotsL ops vals' (fun _ => true) sl0 m)) := by
        intro v h1 h2
        obtain ⟨vals, hv⟩ := ih (k + 1) _ K (by simp at hk; omega) hrest h2
        refine ⟨fun i => if i = k then v else vals i, fun vals' he sl0 hs0 => ?_⟩
        have hk' : vals' k = v := by rw [he k (Nat.le_refl _)]; simp
        have hs1 : slotsL ops vals' (fun _ => true) sl0 (k + 1) = putA sl o.dst v := by
          simp only [slotsL, if_true, hs0, ho, hk']
          rfl
        obtain ⟨g1, g2⟩ := hv vals' (fun i hi => by rw [he i (by omega)]; simp [show ¬ i = k by omega]) sl0 hs1
        refine ⟨fun i o' hi hlt ho' => ?_, g2⟩
        by_cases hik : i = k
        · subst hik
          rw [ho] at ho'
          cases ho'
          rw [hs0]
          exact h1 vals' hk'
        · exact g1 i o' (by omega) hlt ho'
      rw [idx] at hq
      by_cases e1 : k = a
      · rw [if_pos e1] at hq
        exact fin va (fun vals hv => ⟨fun _ => hv, fun e2 => absurd (e1.symm.trans e2) hne, fun e2 => absurd (e1.symm.trans e2) hac, fun e2 => absurd e1 e2⟩) hq
      · rw [if_neg e1] at hq
        by_cases e2 : k = b
        · rw [if_pos e2] at hq
          exact fin vb (fun vals hv => ⟨fun e => absurd e e1, fun _ => hv, fun e => absurd (e2.symm.trans e) hbc, fun _ e => absurd e2 e⟩) hq
        · rw [if_neg e2] at hq
          by_cases e3 : k = c
          · rw [if_pos e3] at hq
            simp only [newW] at hq
            obtain ⟨v, h2, h4⟩ := turnW_one hq
            refine fin v (fun vals hv => ⟨fun e => absurd e e1, fun e => absurd e e2, fun _ => ?_, fun _ _ e => absurd e3 e⟩) h2
            rw [hv]
            unfold OneG guardW guardV
            rw [hgn k o hkm ho]
            exact h4
          · rw [if_neg e3] at hq
            simp only [newW] at hq
            obtain ⟨v, ⟨h1, h2⟩, _⟩ := quietW_one hq
            refine fin v (fun vals hv => ⟨fun e => absurd e e1, fun e => absurd e e2, fun e => absurd e e3, fun _ _ _ x y => ?_⟩) h2
            obtain ⟨v2, h3, h4⟩ := quietW_one (h1 x y)
            rw [h3] at h4
            rw [hv]
            unfold OneG guardW guardV
            rw [hgn k o hkm ho]
            exact h4
  obtain ⟨vals, hv⟩ := key (ops.toList.take m) 0 s.sl _ (by simp; omega) (fun j hj => by
    simp at hj
    rw [List.getElem?_take_of_lt (by omega)]; simp) hw
  obtain ⟨g1, g2⟩ := hv vals (fun _ _ => rfl) s.sl rfl
  refine WPI.turn Turns.reserve (WPI.turn Turns.reserve ?_)
  simp only [List.append_assoc, List.cons_append, List.nil_append]
  refine WP.drawT (so := so) m hgt hm hok htail hmn vals (fun L => s.hp ++ [if L a = true then (if L c = true then .cells 1 z' else .cells 1 z) else .cells 0 [], if L b = true then .cells 1 z else .cells 0 []]) (fun L hL => ?_) (fun i o him ho L hcl hd hLi => ?_) (fun L h1 h2 => ?_)
  · simp only [hL a (by omega), hL b (by omega)]
    rfl
  · obtain ⟨q1, q2, qc, q3⟩ := g1 i o (Nat.zero_le _) him ho
    have hLc : L c = true → L a = true ∧ L b = true := fun h => by
      obtain ⟨oc, hoc, hw1, hw2⟩ := waitsAt_ok hwa hwb
      exact ⟨hcl _ _ hoc h _ hw1, hcl _ _ hoc h _ hw2⟩
    by_cases e1 : i = a
    · right
      subst e1
      rw [hoa] at ho
      cases ho
      have hbi : ¬ b = i := fun h => hne h.symm
      have hci : ¬ c = i := fun h => hac h.symm
      have hcf : L c = false := by
        cases h : L c with
        | false => rfl
        | true => rw [(hLc h).1] at hLi; cases hLi
      have := FreeAt.alloc (P := P) (fk := fk) (h := s.hp ++ [.cells 0 [], if L b = true then .cells 1 z else .cells 0 []]) (r := s.hp.length) (g := 0) hoa hopa hga ht hz (by simp)
      simp only [if_true, hLi, Bool.false_eq_true, if_false, hbi, hci, hcf]
      rw [q1 rfl, hva]
      rw [List.set_append_right _ _ (Nat.le_refl _), Nat.sub_self] at this
      exact this
    · by_cases e2 : i = b
      · right
        subst e2
        rw [hob] at ho
        cases ho
        have hai : ¬ a = i := fun h => e1 h.symm
        have hci : ¬ c = i := fun h => hbc h.symm
        have hcf : L c = false := by
          cases h : L c with
          | false => rfl
          | true => rw [(hLc h).2] at hLi; cases hLi
        have := FreeAt.alloc (P := P) (fk := fk) (h := s.hp ++ [if L a = true then .cells 1 z else .cells 0 [], .cells 0 []]) (r := s.hp.length + 1) (g := 0) hob hopb hgb ht hz (by rw [List.getElem?_append_right (by omega), Nat.add_sub_cancel_left]; rfl)
        simp only [if_true, hLi, Bool.false_eq_true, if_false, hai, hci, hcf]
        rw [q2 rfl, hvb]
        rw [List.set_append_right _ _ (by omega), Nat.add_sub_cancel_left] at this
        exact this
      · left
        by_cases e3 : i = c
        · subst e3
          obtain ⟨oc, hoc, hw1, hw2⟩ := waitsAt_ok hwa hwb
          rw [hoc] at ho
          cases ho
          have hLa := hd _ hw1
          have hLb := hd _ hw2
          have := qc rfl
          rw [hH1, hH2] at this
          simp only [hac, hbc, if_false, hLa, hLb, hLi, if_true, Bool.false_eq_true]
          exact this
        · simp only [show ¬ a = i from fun h => e1 h.symm, show ¬ b = i from fun h => e2 h.symm, show ¬ c = i from fun h => e3 h.symm, if_false]
          exact q3 e1 e2 e3 _ _
  · simp only [h1 a ha, h1 b hb, h1 c hc, if_true]
    have := runL_ok (fk := fk) (ops := ops) (l := ops.toList.drop m) (k := m) (fun j => by rw [List.getElem?_drop, Array.getElem?_toList]) g2
    rw [List.length_drop, Array.length_toList] at this
    rw [hH2] at this
    exact this
end
section
variable {P : Program} {so : Opt} {o : Oper} {rest : List Oper} {K : List AV → Prop} {sl : List AV} {H H1 H2 : List Blk} {i a b c n : Nat} {va vb : AV}
@[congr] theorem newL_congr {l l' : List Oper} (e : l = l') : newL P so a b c va vb H H1 H2 i l K sl = newL P so a b c va vb H H1 H2 i l' K sl := by rw [e]
theorem newL_nil : newL P so a b c va vb H H1 H2 i [] K sl = K sl := rfl
theorem newL_cons : newL P so a b c va vb H H1 H2 i (o :: rest) K sl = newW P so o sl H H1 H2 va vb (fun v => withS (tag (putA sl o.dst v)) fun sl => newL P so a b c va vb H H1 H2 (i + 1) rest K sl) (tag ([a, b, c].idxOf? i)) := rfl
@[congr] theorem newW_congr {x x' : Option Nat} {K : AV → Prop} (e : x = x') : newW P so o sl H H1 H2 va vb K x = newW P so o sl H H1 H2 va vb K x' := by rw [e]
theorem newW_zero {K : AV → Prop} : newW P so o sl H H1 H2 va vb K (some 0) = K va := rfl
theorem newW_one {K : AV → Prop} : newW P so o sl H H1 H2 va vb K (some 1) = K vb := rfl
theorem newW_two {K : AV → Prop} : newW P so o sl H H1 H2 va vb K (some 2) = turnW P so o sl H1 H2 K := rfl
theorem newW_none {K : AV → Prop} : newW P so o sl H H1 H2 va vb K none = quietW P so o sl H fun v => (∀ x y : Blk, quietW P so o sl (H ++ [x, y]) fun v' => v' = v) ∧ K v := rfl
end
attribute [go_sem ↓] newL_nil newL_cons
attribute [go_sem] newW_zero newW_one newW_two newW_none
end Go.Mac

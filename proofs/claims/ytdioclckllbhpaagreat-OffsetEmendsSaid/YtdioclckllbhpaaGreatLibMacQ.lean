/- A part of the logic and of the contracts of the functions that the statement reaches; the statement itself is proved in the last text. -/
import Derived.Test.YtdioclckllbhpaaGreatLibMacP

set_option linter.all false
set_option linter.unusedVariables false
set_option linter.unusedSimpArgs false
set_option linter.unnecessarySimpa false
namespace Go.Mac
open Go Go.Conc
def reachB (ops : Array Oper) : Nat → Nat → Nat → Bool
  | 0, _, _ => false
  | fuel + 1, i, j => match ops[i]? with
    | some o => waitsB o j || (List.range i).any fun k => waitsB o k && reachB ops fuel k j
    | none => false
def tailOk (ops : Array Oper) (m : Nat) : Bool :=
  (List.range ops.size).all fun i => decide (i < m) || (List.range i).all fun j => reachB ops ops.size i j
theorem reachB_closed {ops : Array Oper} {L : Nat → Bool} (hc : closedL ops L) : ∀ {fuel i j : Nat} {o : Oper}, ops[i]? = some o → (∀ k, waitsB o k = true → L k = true) → reachB ops fuel i j = true → L j = true
  | 0, _, _, _, _, _, h => by cases h
  | fuel + 1, i, j, o, ho, hw, h => by
    simp only [reachB, ho, Bool.or_eq_true, List.any_eq_true, Bool.and_eq_true] at h
    rcases h with h | ⟨k, _, h1, h2⟩
    · exact hw j h
    · have hLk := hw k h1
      cases hk : ops[k]? with
      | none => cases fuel <;> simp [reachB, hk] at h2
      | some y => exact reachB_closed hc hk (fun q hq => hc k y hk hLk q hq) h2
section
variable {ops : Array Oper}
theorem tail_all {m : Nat} (ht : tailOk ops m = true) {L : Nat → Bool} (hc : closedL ops L) {i : Nat} {o : Oper} (ho : ops[i]? = some o) (hw : ∀ k, waitsB o k = true → L k = true) (hi : m ≤ i) : ∀ j, j < i → L j = true := by
  intro j hj
  have hlt := (Array.getElem?_eq_some_iff.1 ho).1
  have := List.all_eq_true.1 ht i (List.mem_range.2 hlt)
  simp only [Bool.or_eq_true, decide_eq_true_eq] at this
  rcases this with h | h
  · omega
  · exact reachB_closed hc ho hw (List.all_eq_true.1 h j (List.mem_range.2 hj))
theorem waits_of_ready {listed : Array Bool} {o : Oper} (hdeps : ∀ e ∈ o.after, Region.binds .any e = true → listed.getD e.on false = true) : ∀ k, waitsB o k = true → listed.getD k false = true := by
  intro k hk
  obtain ⟨e, he, hb⟩ : ∃ e ∈ o.after, (Region.binds .any e && e.on == k) = true := by
    unfold waitsB at hk
    rw [Array.any_eq_true] at hk
    obtain ⟨j, hj, h⟩ := hk
    exact ⟨o.after[j], by simp, h⟩
  simp only [Bool.and_eq_true, beq_iff_eq] at hb
  rw [← hb.2]
  exact hdeps e he hb.1
theorem closed_low (hok : okRegion ops = true) {m : Nat} {L : Nat → Bool} (h : ∀ i, L i = decide (i < m)) : closedL ops L := by
  intro j y hj hL k hk
  rw [h] at hL ⊢
  simp only [decide_eq_true_eq] at hL ⊢
  unfold waitsB at hk
  rw [Array.any_eq_true] at hk
  obtain ⟨q, hq, hb⟩ := hk
  simp only [Bool.and_eq_true, beq_iff_eq] at hb
  have := okRegion_waits hok hj y.after[q] (by simp) hb.1
  omega
theorem ready_get {listed : Array Bool} {t i : Nat} (h : i ∈ Region.ready .any ops listed) : ∃ x, (Region.ready .any ops listed)[t % (Region.ready .any ops listed).length]? = some x ∧ x ∈ Region.ready .any ops listed := by
  have hne : 0 < (Region.ready .any ops listed).length := List.length_pos_of_mem h
  have hlt : t % (Region.ready .any ops listed).length < (Region.ready .any ops listed).length := Nat.mod_lt _ hne
  exact ⟨_, List.getElem?_eq_getElem hlt, List.getElem_mem hlt⟩
theorem go_tail (hok : okRegion ops = true) {m0 : Nat} (ht : tailOk ops m0 = true) : ∀ (fuel t m : Nat) (listed : Array Bool), m0 ≤ m → m ≤ ops.size → listed.size = ops.size → (∀ i, listed.getD i false = decide (i < m)) → ops.size - m ≤ fuel →
    Region.linearise.go .any ops fuel t listed [] = List.range' m (ops.size - m)
  | 0, t, m, listed, _, h2, _, _, h5 => by
    have : ops.size - m = 0 := by omega
    simp [Region.linearise.go, this]
  | fuel + 1, t, m, listed, h1, h2, h3, h4, h5 => by
    have hunl : ∀ x, x ∈ Region.ready .any ops listed → x = m ∧ m < ops.size := by
      intro x hx
      obtain ⟨hun, o, ho, hdeps⟩ := mem_ready.1 hx
      have hlt : x < ops.size := (Array.getElem?_eq_some_iff.1 ho).1
      have hLx : listed.getD x false = false := by
        have : x < listed.size := by omega
        simp [this] at hun ⊢; exact hun
      have hxm : ¬ x < m := by rw [h4] at hLx; simpa using hLx
      have hall := tail_all (m := m0) (L := fun i => listed.getD i false) ht (closed_low hok h4) ho (waits_of_ready hdeps) (by omega)
      by_cases hxe : x = m
      · exact ⟨hxe, by omega⟩
      · have := hall m (by omega)
        simp only [h4] at this
        simp at this
    simp only [Region.linearise.go]
    change (match (Region.ready .any ops listed)[t % (Region.ready .any ops listed).length]? with
        | some i => Region.linearise.go .any ops fuel (t / (Region.ready .any ops listed).length) (listed.setIfInBounds i true) [i]
        | none => [].reverse) = _
    by_cases hme : m = ops.size
    · have hnil : Region.ready .any ops listed = [] := by
        apply List.eq_nil_iff_forall_not_mem.2
        intro x hx
        have := hunl x hx
        omega
      rw [hnil]
      simp [hme]
    · have hlt : m < ops.size := by omega
      have hmem : m ∈ Region.ready .any ops listed := by
        refine mem_ready.2 ⟨?_, ops[m], by simp [hlt], fun e he hb => ?_⟩
        · have h0 := h4 m
          have : m < listed.size := by omega
          simp [this] at h0 ⊢; exact h0
        · rw [h4]
          have := okRegion_waits hok (i := m) (x := ops[m]) (by simp [hlt]) e he hb
          simpa using this
      obtain ⟨x, hx, hxm⟩ := ready_get (t := t) hmem
      rw [hx]
      obtain ⟨rfl, _⟩ := hunl x hxm
      simp only []
      rw [linearise_go_acc, List.reverse_singleton, List.singleton_append,
        go_tail hok ht fuel _ (x + 1) (listed.setIfInBounds x true) (by omega) (by omega) (by simpa using h3) (fun i => by
          by_cases hi : i = x
          · subst hi; simp [h3, hlt]
          · have := h4 i
            simp only [Array.getD_eq_getD_getElem?, Array.getElem?_setIfInBounds_ne (Ne.symm hi)] at this ⊢
            rw [this]
            simp only [decide_eq_decide]
            omega) (by omega)]
      rw [show ops.size - x = (ops.size - (x + 1)) + 1 by omega, List.range'_succ]
end
section
variable {P : Program} {fk : FK} {Q : AExit → AS → Prop} {ops : Array Oper} {so : Opt}
def FreeAt (P : Program) (fk : FK) (ops : Array Oper) (i : Nat) (dst : Option Tmp) (h : List Blk) (v : AV) (h' : List Blk) : Prop :=
  ∀ (Q : AExit → AS → Prop) (s : AS) (rest : List Nat), s.hp = h → WPI P fk [.inRegion ops rest] Q { s with sl := putA s.sl dst v, hp := h' } → WPI P fk [.inRegion ops (i :: rest)] Q s
theorem WP.drawT {id : Nat} {s : AS} (m : Nat) (hgt : s.gh.todo = []) (hm : P.follows .mixedOrders = true) (hok : okRegion ops = true) (htail : tailOk ops m = true) (hmn : m ≤ ops.size) (vals : Nat → AV) (Hp : (Nat → Bool) → List Blk)
    (h0 : ∀ L, (∀ i, i < ops.size → L i = false) → Hp L = s.hp)
    (hs : ∀ i o, i < m → ops[i]? = some o → ∀ L, closedL ops L → (∀ k, waitsB o k = true → L k = true) → L i = false →
      OneG P so ops o (slotsL ops vals (fun _ => true) s.sl i) (Hp L) (vals i) (Hp fun j => if j = i then true else L j) ∨ FreeAt P fk ops i o.dst (Hp L) (vals i) (Hp fun j => if j = i then true else L j))
    (he : ∀ L, (∀ i, i < m → L i = true) → (∀ i, m ≤ i → L i = false) → WPI P fk [.inRegion ops (List.range' m (ops.size - m))] Q { s with sl := slotsL ops vals (fun _ => true) s.sl m, hp := Hp L }) : WP P fk (.region id ops true) Q s := by
  refine WP.region_draw hm fun t => ?_
  have key : ∀ (fuel t : Nat) (listed : Array Bool), listed.size = ops.size → (listed.toList.count false) ≤ fuel → closedL ops (fun i => listed.getD i false) → (∀ i, m ≤ i → listed.getD i false = false) →
      WPI P fk [.inRegion ops (Region.linearise.go .any ops fuel t listed [])] Q { s with sl := slotsL ops vals (fun i => listed.getD i false) s.sl ops.size, hp := Hp fun i => listed.getD i false } := by
    intro fuel
    have eqs : ∀ (listed : Array Bool), listed.size = ops.size → (∀ i, i < m → listed.getD i false = true) → (∀ i, m ≤ i → listed.getD i false = false) → slotsL ops vals (fun i => listed.getD i false) s.sl ops.size = slotsL ops vals (fun _ => true) s.sl m := by
      intro listed hsz hall hno
      have e : ∀ n, n ≤ m → slotsL ops vals (fun i => listed.getD i false) s.sl n = slotsL ops vals (fun _ => true) s.sl n := by
        intro n
        induction n with
        | zero => intro _; rfl
        | succ n ih => intro hn; simp only [slotsL, hall n (by omega)]; rw [ih (by omega)]
      have e2 : ∀ n, slotsL ops vals (fun i => listed.getD i false) s.sl (m + n) = slotsL ops vals (fun i => listed.getD i false) s.sl m := by
        intro n
        induction n with
        | zero => rfl
        | succ n ih =>
          have hb := hno (m + n) (by omega)
          show (if listed.getD (m + n) false then _ else slotsL ops vals (fun i => listed.getD i false) s.sl (m + n)) = _
          rw [if_neg (by rw [hb]; simp)]
          exact ih
      rw [show ops.size = m + (ops.size - m) by omega, e2, e m (Nat.le_refl _)]
    have full : ∀ (listed : Array Bool), listed.size = ops.size → (∀ i, i < ops.size → listed.getD i false = true) → (∀ i, m ≤ i → listed.getD i false = false) →
        WPI P fk [.inRegion ops []] Q { s with sl := slotsL ops vals (fun i => listed.getD i false) s.sl ops.size, hp := Hp fun i => listed.getD i false } := by
      intro listed hsz hall hno
      have hmeq : m = ops.size := by
        by_cases h : m < ops.size
        · have a := hall m h
          have b := hno m (Nat.le_refl _)
          rw [a] at b; cases b
        · omega
      have := he (fun i => listed.getD i false) (fun i hi => hall i (by omega)) hno
      rw [eqs listed hsz (fun i hi => hall i (by omega)) hno]
      rw [hmeq] at this
      simp only [Nat.sub_self, List.range'_zero] at this
      rw [hmeq]
      exact this
    induction fuel with
    | zero =>
      intro t listed hsz hcnt hc hno
      refine full listed hsz (fun i hi => ?_) hno
      have hc0 : listed.toList.count false = 0 := by omega
      have hnf : false ∉ listed.toList := List.count_eq_zero.1 hc0
      have hi' : i < listed.size := by omega
      have : listed[i] ∈ listed.toList := by simp
      cases hb : listed[i] with
      | true => simp [hi', hb]
      | false => rw [hb] at this; exact absurd this hnf
    | succ fuel ih =>
      intro t listed hsz hcnt hc hno
      by_cases hdone : ∀ i, i < m → listed.getD i false = true
      · rw [go_tail hok htail (fuel + 1) t m listed (Nat.le_refl _) hmn hsz (fun i => by
          by_cases hi : i < m
          · rw [hdone i hi]; simp [hi]
          · rw [hno i (by omega)]; simp [hi]) (by
          have hcount : ops.size - m ≤ listed.toList.count false := by
            have e : listed.toList = listed.toList.take m ++ listed.toList.drop m := by simp
            have hlen : (listed.toList.drop m).length = ops.size - m := by simp [hsz]
            have hf : ∀ x ∈ listed.toList.drop m, x = false := by
              intro x hx
              obtain ⟨j, hj⟩ := List.mem_iff_getElem?.1 hx
              rw [List.getElem?_drop] at hj
              have := hno (m + j) (by omega)
              rw [Array.getElem?_toList] at hj
              simp [hj] at this
              exact this
            rw [e, List.count_append, (List.count_eq_length (a := false) (l := listed.toList.drop m)).2 (fun b hb => (hf b hb).symm), hlen]
            omega
          omega)]
        have := he (fun i => listed.getD i false) hdone hno
        rw [eqs listed hsz hdone hno]
        exact this
      · simp only [Region.linearise.go]
        change WPI P fk [.inRegion ops (match (Region.ready .any ops listed)[t % (Region.ready .any ops listed).length]? with
          | some i => Region.linearise.go .any ops fuel (t / (Region.ready .any ops listed).length) (listed.setIfInBounds i true) [i]
          | none => [].reverse)] Q _
        cases hi : (Region.ready .any ops listed)[t % (Region.ready .any ops listed).length]? with
        | none =>
          have hnil : Region.ready .any ops listed = [] := by
            cases hr : Region.ready .any ops listed with
            | nil => rfl
            | cons x xs =>
              rw [hr] at hi
              have hlt : t % (x :: xs).length < (x :: xs).length := Nat.mod_lt _ (by simp)
              simp at hi
              simp at hlt
              omega
          simp only [List.reverse_nil]
          refine full listed hsz (fun i => ?_) hno
          induction i using Nat.strongRecOn with
          | _ i hind =>
            intro hlt
            cases hb : listed.getD i false with
            | true => rfl
            | false =>
              exfalso
              have ho : ops[i]? = some ops[i] := by simp [hlt]
              have : i ∈ Region.ready .any ops listed := mem_ready.2 ⟨by
                have : i < listed.size := by omega
                simp [this] at hb ⊢; exact hb, ops[i], ho, fun e he hbd => hind e.on (okRegion_waits hok ho e he hbd) (by have := okRegion_waits hok ho e he hbd; omega)⟩
              rw [hnil] at this
              cases this
        | some i =>
          simp only []
          rw [linearise_go_acc, List.reverse_singleton, List.singleton_append]
          obtain ⟨hun, o, ho, hdeps⟩ := mem_ready.1 (List.mem_of_getElem? hi)
          have hlt : i < ops.size := (Array.getElem?_eq_some_iff.1 ho).1
          have hlt' : i < listed.size := by omega
          have hLi : listed.getD i false = false := by simp [hlt'] at hun ⊢; exact hun
          have hd := waits_of_ready hdeps
          have him : i < m := by
            apply Classical.byContradiction
            intro hge
            exact hdone fun j hj => tail_all (L := fun i => listed.getD i false) htail hc ho hd (by omega) j (by omega)
          have hset : (fun j => (listed.setIfInBounds i true).getD j false) = fun j => if j = i then true else listed.getD j false := by
            funext j
            by_cases hji : j = i
            · subst hji; simp [hlt']
            · simp [hji, Array.getElem?_setIfInBounds, Ne.symm hji]
          have hput := slotsL_put (vals := vals) (sl := s.sl) hok hc ho hLi ops.size hlt
          have ihh := ih (t / (Region.ready .any ops listed).length) (listed.setIfInBounds i true) (by simpa using hsz) (by
            have hm : false ∈ listed.toList := by
              have : listed[i] = false := by simpa [hlt'] using hLi
              rw [← this]; simp
            have hcs := List.count_set (a := true) (b := false) (l := listed.toList) (i := i) (h := by simpa using hlt')
            have hpos := List.count_pos_iff.2 hm
            have hfi : listed[i] = false := by simpa [hlt'] using hLi
            simp only [Array.toList_setIfInBounds]
            simp [hfi] at hcs
            rw [hcs]
            simp at hcnt
            omega) (by
            rw [hset]
            intro j y hj hL k hk
            by_cases hji : j = i
            · subst hji
              rw [ho] at hj
              cases hj
              have := hd k hk
              simp only
              split
              · rfl
              · exact this
            · simp only [hji, if_false] at hL
              have := hc j y hj hL k hk
              simp only
              split
              · rfl
              · exact this) (fun j hj => by
            have := congrFun hset j
            rw [show (listed.setIfInBounds i true).getD j false = if j = i then true else listed.getD j false from this, if_neg (by omega)]
            exact hno j hj)
          rw [hset] at ihh
          rw [hput] at ihh
          rcases hs i o him ho _ hc hd hLi with hone | hfree
          · refine WPI.one (so := so) hgt ho (v := vals i) (h' := Hp fun j => if j = i then true else listed.getD j false) ?_ ihh
            refine OneG_congr (fun t ht => ?_) hone
            have := slotsL_seen (vals := vals) (sl := s.sl) hok hc ho hd hLi ht ops.size
            rw [Nat.min_eq_right (by omega)] at this
            exact this.symm
          · exact hfree Q _ _ rfl ihh
  have h1 := key ops.size t (Array.replicate ops.size false) (by simp) (by simp [List.count_replicate]) (by intro j y hj hL; simp [Array.getElem?_replicate] at hL; split at hL <;> simp at hL) (by intro i _; simp only [Array.getD_eq_getD_getElem?, Array.getElem?_replicate]; split <;> rfl)
  have e0 : ∀ i, (Array.replicate ops.size false).getD i false = false := by
    intro i
    simp only [Array.getD_eq_getD_getElem?, Array.getElem?_replicate]
    split <;> rfl
  have e1 : ∀ n, slotsL ops vals (fun i => (Array.replicate ops.size false).getD i false) s.sl n = s.sl := by
    intro n
    induction n with
    | zero => rfl
    | succ n ih => simp only [slotsL, e0 n]; rw [ih]; simp
  rw [e1, h0 _ (fun i _ => e0 i)] at h1
  exact h1
theorem WP.quietS {id : Nat} {s : AS} (so : Opt) (m : Nat) (hgt : s.gh.todo = []) (hm : P.follows .mixedOrders = true) (hok : okRegion ops = true) (htail : tailOk ops m = true) (hmn : m ≤ ops.size)
    (hw : quietL P so ops s.hp (ops.toList.take m) (fun sl => WPI P fk [.inRegion ops (List.range' m (ops.size - m))] Q { s with sl := sl }) s.sl) : WP P fk (.region id ops true) Q s := by
  have key : ∀ (l : List Oper) (k : Nat) (sl : List AV) (K : List AV → Prop), k + l.length = m → (∀ j, j < l.length → l[j]? = ops[k + j]?) → quietL P so ops s.hp l K sl →
      ∃ vals : Nat → AV, (∀ vals' : Nat → AV, (∀ i, k ≤ i → vals' i = vals i) → ∀ sl0, slotsL ops vals' (fun _ => true) sl0 k = sl →
        (∀ i o, k ≤ i → i < m → ops[i]? = some o → OneG P so ops o (slotsL ops vals' (fun _ => true) sl0 i) s.hp (vals' i) s.hp) ∧ K (slotsL ops vals' (fun _ => true) sl0 m)) := by
    intro l
    induction l with
    | nil =>
      intro k sl K hk _ hq
      have : k = m := by simpa using hk
      subst this
      exact ⟨fun _ => .any, fun vals' _ sl0 e => ⟨fun i o hi ho => by omega, by rw [e]; exact hq⟩⟩
    | cons o rest ih =>
      intro k sl K hk hl hq
      have ho : ops[k]? = some o := by simpa using (hl 0 (by simp)).symm
      have hrest : ∀ j, j < rest.length → rest[j]? = ops[k + 1 + j]? := fun j hj => by have := hl (j + 1) (by simpa using hj); simpa [Nat.add_assoc, Nat.add_comm 1 j] using this
      simp only [quietL] at hq
      have fin : ∀ v, OneG P so ops o sl s.hp v s.hp → quietL P so ops s.hp rest K (putA sl o.dst v) →
            ∃ vals : Nat → AV, (∀ vals' : Nat → AV, (∀ i, k ≤ i → vals' i = vals i) → ∀ sl0, slotsL ops vals' (fun _ => true) sl0 k = sl →
              (∀ i o, k ≤ i → i < m → ops[i]? = some o → OneG P so ops o (slotsL ops vals' (fun _ => true) sl0 i) s.hp (vals' i) s.hp) ∧ K (slotsL ops vals' (fun _ => true) sl0 m)) := by
        intro v h1 h2
        obtain ⟨vals, hv⟩ := ih (k + 1) _ K (by simp at hk; omega) hrest h2
        refine ⟨fun i => if i = k then v else vals i, fun vals' he sl0 hs0 => ?_⟩
        have hk' : vals' k = v := by rw [he k (Nat.le_refl _)]; simp
        have hs1 : slotsL ops vals' (fun _ => true) sl0 (k + 1) = putA sl o.dst v := by
          simp only [slotsL, if_true, hs0, ho, hk']
          rfl
        obtain ⟨g1, g2⟩ := hv vals' (fun i hi => by rw [he i (by omega)]; simp [show ¬ i = k by omega]) sl0 hs1
        refine ⟨fun i o' hi hlt ho' => ?_, g2⟩
        by_cases hik : i = k
        · subst hik
          rw [ho] at ho'
          cases ho'
          rw [hs0, hk']
          exact h1
        · exact g1 i o' (by omega) hlt ho'
      unfold guardW guardV at hq
      split at hq
      · rename_i hg
        obtain ⟨v, h1, h2⟩ := quietW_one hq
        unfold withVH at h1; replace h1 := cutV_ok h1
        exact fin v (by unfold OneG guardW; simp only [hg]; exact h2) h1
      · rename_i j want hg
        split at hq
        · rename_i d hd
          split at hq
          · rename_i t ht
            by_cases he : t = want
            · obtain ⟨v, h1, h2⟩ := quietW_one (guardB_yes hq he)
              unfold withVH at h1; replace h1 := cutV_ok h1
              refine fin v ?_ h1
              unfold OneG guardW guardV
              simp only [hg, hd, ht]
              exact guardB_of (fun _ => h2) (fun q => absurd he q)
            · refine fin (.tup []) ?_ (guardB_no hq he)
              unfold OneG guardW guardV
              simp only [hg, hd, ht]
              exact guardB_of (fun q => absurd q he) (fun _ => by simp)
          · rename_i ht
            refine fin (.tup []) ?_ hq
            unfold OneG guardW guardV
            simp only [hg, hd, ht]
            simp
          · exact hq.elim
        · exact hq.elim
  obtain ⟨vals, hv⟩ := key (ops.toList.take m) 0 s.sl _ (by simp; omega) (fun j hj => by
    simp at hj
    rw [List.getElem?_take_of_lt (by omega)]; simp) hw
  obtain ⟨g1, g2⟩ := hv vals (fun _ _ => rfl) s.sl rfl
  exact WP.drawT (so := so) m hgt hm hok htail hmn vals (fun _ => s.hp) (fun _ _ => rfl) (fun i o hi ho L _ _ _ => .inl (g1 i o (Nat.zero_le _) hi ho)) (fun L _ _ => g2)
theorem WP.quietT {id : Nat} {s : AS} (so : Opt) (m : Nat) (hgt : s.gh.todo = []) (hm : P.follows .mixedOrders = true) (hok : okRegion ops = true) (htail : tailOk ops m = true)
    (hw : quietL P so ops s.hp (ops.toList.take m) (fun sl => runL P so ops (ops.toList.drop m) Q { s with sl := sl }) s.sl) : WP P fk (.region id ops true) Q s := by
  by_cases hmn : m ≤ ops.size
  case neg =>
    have e1 : ops.toList.take m = ops.toList := List.take_of_length_le (by simp; omega)
    have e2 : ops.toList.drop m = [] := List.drop_eq_nil_of_le (by simp; omega)
    rw [e1, e2] at hw
    exact WP.quiet so hgt hm hok hw
  have key : ∀ (l : List Oper) (k : Nat) (sl : List AV) (K : List AV → Prop), k + l.length = m → (∀ j, j < l.length → l[j]? = ops[k + j]?) → quietL P so ops s.hp l K sl →
      ∃ vals : Nat → AV, (∀ vals' : Nat → AV, (∀ i, k ≤ i → vals' i = vals i) → ∀ sl0, slotsL ops vals' (fun _ => true) sl0 k = sl →
        (∀ i o, k ≤ i → i < m → ops[i]? = some o → OneG P so ops o (slotsL ops vals' (fun _ => true) sl0 i) s.hp (vals' i) s.hp) ∧ K (slotsL ops vals' (fun _ => true) sl0 m)) := by
    intro l
    induction l with
    | nil =>
      intro k sl K hk _ hq
      have : k = m := by simpa using hk
      subst this
      exact ⟨fun _ => .any, fun vals' _ sl0 e => ⟨fun i o hi ho => by omega, by rw [e]; exact hq⟩⟩
    | cons o rest ih =>
      intro k sl K hk hl hq
      have ho : ops[k]? = some o := by simpa using (hl 0 (by simp)).symm
      have hrest : ∀ j, j < rest.length → rest[j]? = ops[k + 1 + j]? := fun j hj => by have := hl (j + 1) (by simpa using hj); simpa [Nat.add_assoc, Nat.add_comm 1 j] using this
      simp only [quietL] at hq
      have fin : ∀ v, OneG P so ops o sl s.hp v s.hp → quietL P so ops s.hp rest K (putA sl o.dst v) →
            ∃ vals : Nat → AV, (∀ vals' : Nat → AV, (∀ i, k ≤ i → vals' i = vals i) → ∀ sl0, slotsL ops vals' (fun _ => true) sl0 k = sl →
              (∀ i o, k ≤ i → i < m → ops[i]? = some o → OneG P so ops o (slotsL ops vals' (fun _ => true) sl0 i) s.hp (vals' i) s.hp) ∧ K (slotsL ops vals' (fun _ => true) sl0 m)) := by
        intro v h1 h2
        obtain ⟨vals, hv⟩ := ih (k + 1) _ K (by simp at hk; omega) hrest h2
        refine ⟨fun i => if i = k then v else vals i, fun vals' he sl0 hs0 => ?_⟩
        have hk' : vals' k = v := by rw [he k (Nat.le_refl _)]; simp
        have hs1 : slotsL ops vals' (fun _ => true) sl0 (k + 1) = putA sl o.dst v := by
          simp only [slotsL, if_true, hs0, ho, hk']
          rfl
        obtain ⟨g1, g2⟩ := hv vals' (fun i hi => by rw [he i (by omega)]; simp [show ¬ i = k by omega]) sl0 hs1
        refine ⟨fun i o' hi hlt ho' => ?_, g2⟩
        by_cases hik : i = k
        · subst hik
          rw [ho] at ho'
          cases ho'
          rw [hs0, hk']
          exact h1
        · exact g1 i o' (by omega) hlt ho'
      unfold guardW guardV at hq
      split at hq
      · rename_i hg
        obtain ⟨v, h1, h2⟩ := quietW_one hq
        unfold withVH at h1; replace h1 := cutV_ok h1
        exact fin v (by unfold OneG guardW; simp only [hg]; exact h2) h1
      · rename_i j want hg
        split at hq
        · rename_i d hd
          split at hq
          · rename_i t ht
            by_cases he : t = want
            · obtain ⟨v, h1, h2⟩ := quietW_one (guardB_yes hq he)
              unfold withVH at h1; replace h1 := cutV_ok h1
              refine fin v ?_ h1
              unfold OneG guardW guardV
              simp only [hg, hd, ht]
              exact guardB_of (fun _ => h2) (fun q => absurd he q)
            · refine fin (.tup []) ?_ (guardB_no hq he)
              unfold OneG guardW guardV
              simp only [hg, hd, ht]
              exact guardB_of (fun q => absurd q he) (fun _ => by simp)
          · rename_i ht
            refine fin (.tup []) ?_ hq
            unfold OneG guardW guardV
            simp only [hg, hd, ht]
            simp
          · exact hq.elim
        · exact hq.elim
  obtain ⟨vals, hv⟩ := key (ops.toList.take m) 0 s.sl _ (by simp; omega) (fun j hj => by
    simp at hj
    rw [List.getElem?_take_of_lt (by omega)]; simp) hw
  obtain ⟨g1, g2⟩ := hv vals (fun _ _ => rfl) s.sl rfl
  refine WP.drawT (so := so) m hgt hm hok htail hmn vals (fun _ => s.hp) (fun _ _ => rfl) (fun i o hi ho L _ _ _ => .inl (g1 i o (Nat.zero_le _) hi ho)) (fun L _ _ => ?_)
  have := runL_ok (fk := fk) (ops := ops) (l := ops.toList.drop m) (k := m) (fun j => by rw [List.getElem?_drop, Array.getElem?_toList]) g2
  rwa [List.length_drop, Array.length_toList] at this
end
end Go.Mac

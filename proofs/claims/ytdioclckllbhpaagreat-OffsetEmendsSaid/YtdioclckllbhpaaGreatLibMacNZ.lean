/- A part of the logic and of the contracts of the functions that the statement reaches; the statement itself is proved in the last text. -/
import Derived.Attr
import Derived.Test.YtdioclckllbhpaaGreatLibMacRX

set_option linter.all false
set_option linter.unusedVariables false
set_option linter.unusedSimpArgs false
set_option linter.unnecessarySimpa false
namespace Go.Mac
open Go Go.Conc
def nzOk (ops : Array Oper) (m : Nat) (nz lo hi : List Nat) : Bool :=
  ((List.range nz.length).all fun a => decide (nz.getD a 0 < m) && (match ops[nz.getD a 0]? with | some o => o.guard.isNone | none => false) && (List.range a).all fun b => decide (nz.getD b 0 < nz.getD a 0) && reachB ops ops.size (nz.getD a 0) (nz.getD b 0)) &&
  (List.range m).all fun i => nz.contains i || (decide (lo.getD i 0 ≤ nz.length) && (List.range nz.length).all fun a => (decide (lo.getD i 0 ≤ a) || reachB ops ops.size i (nz.getD a 0)) && (decide (a < hi.getD i 0) || reachB ops ops.size (nz.getD a 0) i))
def sameQ (P : Program) (so : Opt) (o : Oper) (sl : List AV) (Hs : List (List Blk)) (v : AV) : List Nat → Prop
  | [] => True
  | a :: l => quietW P so o sl (Hs.getD a []) (fun v' => v' = v) ∧ sameQ P so o sl Hs v l
def TurnCalls (P : Program) (g : FuncId) (args : List AV) (h H' : List Blk) (K : AV → Prop) : Prop := ∃ v, CallsA P g args h (fun e h' => e = .ret v ∧ h' = H') ∧ K v
@[congr] theorem TurnCalls_congr {P : Program} {g : FuncId} {args args' : List AV} {h H' : List Blk} {K : AV → Prop} (e : args = args') : TurnCalls P g args h H' K = TurnCalls P g args' h H' K := by rw [e]
theorem TurnCalls.use {P : Program} {g : FuncId} {args : List AV} {h H' : List Blk} {v : AV} {K : AV → Prop} (c : CallsA P g args h fun e h' => e = .ret v ∧ h' = H') (hk : K v) : TurnCalls P g args h H' K := ⟨v, c, hk⟩
def turnC (P : Program) (f : AV) (args : List AV) (h H' : List Blk) (K : AV → Prop) : Prop :=
  match f with
  | .fn (.func g) first cap => callable P g ∧ TurnCalls P g (first ++ args ++ cap) h H' K
  | _ => False
@[congr] theorem turnC_congr {P : Program} {f f' : AV} {args args' : List AV} {h H' : List Blk} {K : AV → Prop} (e1 : f = f') (e2 : args = args') : turnC P f args h H' K = turnC P f' args' h H' K := by rw [e1, e2]
theorem turnC_fn {P : Program} {g : FuncId} {first cap args : List AV} {h H' : List Blk} {K : AV → Prop} : turnC P (.fn (.func g) first cap) args h H' K = (callable P g ∧ TurnCalls P g (tag (first ++ args ++ cap)) h H' (held K (.mk K))) := rfl
def turnW (P : Program) (so : Opt) (o : Oper) (sl : List AV) (h H' : List Blk) (K : AV → Prop) : Prop :=
  match o.op with
  | .call cl => match cl.callee with
    | .value f => turnC P (evA sl f) (cl.args.toList.map (evA sl)) h H' K
    | .builtin .panic => False
    | _ => quietK (opE P o.op (evA sl) h) H' K
  | .buildSlice t len parts => sealed so o = false ∧ quietK (opE P (.buildSlice t len parts) (evA sl) h) H' K
  | .panic _ | .defer _ => False
  | _ => quietK (opE P o.op (evA sl) h) H' K
theorem turnW_mk {P : Program} {so : Opt} {o : Oper} {sl : List AV} {h H' : List Blk} {K : AV → Prop} : turnW P so o sl h H' K = match o.op with
  | .call cl => match cl.callee with
    | .value f => turnC P (tag (evA sl f)) (cl.args.toList.map (evA sl)) h H' K
    | .builtin .panic => False
    | _ => quietK (tag (opE P o.op (evA sl) h)) H' K
  | .buildSlice t len parts => sealed so o = false ∧ quietK (tag (opE P (.buildSlice t len parts) (evA sl) h)) H' K
  | .panic _ | .defer _ => False
  | _ => quietK (tag (opE P o.op (evA sl) h)) H' K := rfl
theorem turnW_one {P : Program} {so : Opt} {o : Oper} {sl : List AV} {h H' : List Blk} {K : AV → Prop} (hw : turnW P so o sl h H' K) : ∃ v, K v ∧ oneW P so o sl h fun v2 h2 => v2 = v ∧ h2 = H' := by
  have plain : ∀ {r : Option (Prop × AV × List Blk)}, quietK r H' K → ∃ v, K v ∧ stepK r fun v2 h2 => v2 = v ∧ h2 = H' := fun {r} q => by
    cases r with
    | none => exact q.elim
    | some x => obtain ⟨c, v, h'⟩ := x; exact ⟨v, q.2.2, q.1, rfl, q.2.1⟩
  obtain ⟨dst, op, ty, pos, after, guard⟩ := o
  cases op
  case call cl =>
    obtain ⟨callee, args, ats⟩ := cl
    cases callee with
    | value f =>
      simp only [turnW, oneW, stepW, callW, turnC] at *
      split at hw
      · rename_i g first cap hfv
        obtain ⟨h1, v, h2, h3⟩ := hw
        simp only [hfv]
        exact ⟨v, h3, trivial, h1, h2.mono fun e h' q => by rw [q.1]; exact ⟨rfl, q.2⟩⟩
      · exact hw.elim
    | invoke r m => simp only [turnW, oneW, stepW] at *; exact plain hw
    | builtin b =>
      by_cases hb : b = .panic
      · subst hb; exact hw.elim
      · cases b <;> first | exact absurd rfl hb | (simp only [turnW, oneW, stepW] at *; exact plain hw)
  case buildSlice t len parts =>
    simp only [turnW, oneW, stepW] at *
    obtain ⟨h1, h2⟩ := hw
    simp only [h1]
    exact plain h2
  case panic x => exact hw.elim
  case defer x => exact hw.elim
  all_goals (simp only [turnW, oneW, stepW] at *; exact plain hw)
def noisyW (P : Program) (so : Opt) (o : Oper) (sl : List AV) (Hs : List (List Blk)) (lo hi : Nat) (K : AV → Prop) : Option Nat → Prop
  | some a => turnW P so o sl (Hs.getD a []) (Hs.getD (a + 1) []) K
  | none => quietW P so o sl (Hs.getD lo []) fun v => sameQ P so o sl Hs v (List.range' (lo + 1) (hi - lo)) ∧ K v
def noisyL (P : Program) (so : Opt) (ops : Array Oper) (Hs : List (List Blk)) (nz lo hi : List Nat) : Nat → List Oper → (List AV → Prop) → List AV → Prop
  | _, [], K, sl => K sl
  | i, o :: rest, K, sl => guardW ops o sl (noisyW P so o sl Hs (lo.getD i 0) (hi.getD i 0) (fun v => withVH v [] fun v h => cutV (cuts so o) v h fun v _ => noisyL P so ops Hs nz lo hi (i + 1) rest K (putA sl o.dst v)) (nz.idxOf? i)) (noisyL P so ops Hs nz lo hi (i + 1) rest K (putA sl o.dst (.tup [])))
theorem sameQ_get {P : Program} {so : Opt} {o : Oper} {sl : List AV} {Hs : List (List Blk)} {v : AV} : ∀ {l : List Nat}, sameQ P so o sl Hs v l → ∀ a ∈ l, quietW P so o sl (Hs.getD a []) (fun v' => v' = v)
  | [], _, _, h => by cases h
  | b :: l, q, a, h => by
    rcases List.mem_cons.1 h with rfl | h
    · exact q.1
    · exact sameQ_get q.2 a h
section
variable {P : Program} {fk : FK} {Q : AExit → AS → Prop} {ops : Array Oper} {so : Opt}
def cntL (nz : List Nat) (L : Nat → Bool) : Nat := (nz.filter L).length
theorem cnt_take {nz : List Nat} {L : Nat → Bool} {c : Nat} (hc : c ≤ nz.length) (h1 : ∀ a, a < c → L (nz.getD a 0) = true) (h2 : ∀ a, c ≤ a → a < nz.length → L (nz.getD a 0) = false) : cntL nz L = c := by
  unfold cntL
  induction nz generalizing c with
  | nil => simp at hc; simp [hc]
  | cons x nz ih =>
    cases c with
    | zero =>
      have hx := h2 0 (Nat.le_refl _) (by simp)
      simp only [List.getD_cons_zero] at hx
      rw [List.filter_cons_of_neg (by simp [hx])]
      exact ih (c := 0) (Nat.zero_le _) (fun a h => by omega) fun a _ hl => by have := h2 (a + 1) (by omega) (by simpa using hl); simpa using this
    | succ c =>
      have hx := h1 0 (by omega)
      simp only [List.getD_cons_zero] at hx
      rw [List.filter_cons_of_pos hx, List.length_cons, ih (c := c) (by simpa using hc) (fun a h => by have := h1 (a + 1) (by omega); simpa using this) fun a h hl => by have := h2 (a + 1) (by omega) (by simpa using hl); simpa using this]
theorem WP.noisy {id : Nat} {s : AS} (so : Opt) (m : Nat) (nz lo hi : List Nat) (Hs : List (List Blk)) (hgt : s.gh.todo = []) (hm : P.follows .mixedOrders = true) (hok : okRegion ops = true) (htail : tailOk ops m = true) (hmn : m ≤ ops.size) (hnz : nzOk ops m nz lo hi = true) (hH0 : Hs.getD 0 [] = s.hp)
    (hw : noisyL P so ops Hs nz lo hi 0 (tag (ops.toList.take m)) (fun sl => runL P so ops (tag (ops.toList.drop m)) Q { s with sl := sl, hp := Hs.getD nz.length [] }) s.sl) : WP P fk (.region id ops true) Q s := by
  unfold nzOk at hnz
  rw [Bool.and_eq_true, List.all_eq_true, List.all_eq_true] at hnz
  obtain ⟨hz1, hz2⟩ := hnz
  have zlt : ∀ a, a < nz.length → nz.getD a 0 < m := fun a ha => by have := hz1 a (List.mem_range.2 ha); simp only [Bool.and_eq_true, decide_eq_true_eq] at this; exact this.1.1
  have zg : ∀ a, a < nz.length → ∀ o, ops[nz.getD a 0]? = some o → o.guard = none := fun a ha o ho => by
    have := hz1 a (List.mem_range.2 ha); simp only [Bool.and_eq_true, ho] at this
    exact Option.isNone_iff_eq_none.1 this.1.2
  have zr : ∀ a b, a < nz.length → b < a → nz.getD b 0 < nz.getD a 0 ∧ reachB ops ops.size (nz.getD a 0) (nz.getD b 0) = true := fun a b ha hb => by
    have := hz1 a (List.mem_range.2 ha); simp only [Bool.and_eq_true, List.all_eq_true] at this
    have := this.2 b (List.mem_range.2 hb)
    simpa using this
  have zq : ∀ i, i < m → nz.contains i = false → ∀ a, a < nz.length → (lo.getD i 0 ≤ a ∨ reachB ops ops.size i (nz.getD a 0) = true) ∧ (a < hi.getD i 0 ∨ reachB ops ops.size (nz.getD a 0) i = true) := fun i hi hc a ha => by
    have := hz2 i (List.mem_range.2 hi)
    rw [hc, Bool.false_or, Bool.and_eq_true, List.all_eq_true] at this
    have := this.2 a (List.mem_range.2 ha)
    simpa using this
  have zl : ∀ i, i < m → nz.contains i = false → lo.getD i 0 ≤ nz.length := fun i hi hc => by
    have := hz2 i (List.mem_range.2 hi)
    rw [hc, Bool.false_or, Bool.and_eq_true] at this
    simpa using this.1
  have zop : ∀ a, a < nz.length → ∃ o, ops[nz.getD a 0]? = some o := fun a ha => ⟨_, Array.getElem?_eq_getElem (Nat.lt_of_lt_of_le (zlt a ha) hmn)⟩
  have first : ∀ L, closedL ops L → ∀ a b, a < nz.length → b < a → L (nz.getD a 0) = true → L (nz.getD b 0) = true := fun L hc a b ha hb hL => by
    obtain ⟨o, ho⟩ := zop a ha
    exact reachB_closed hc ho (fun k hk => hc _ _ ho hL k hk) (zr a b ha hb).2
  have idx : ∀ i a, nz.idxOf? i = some a → a < nz.length ∧ nz.getD a 0 = i := fun i a h => by
    rw [List.idxOf?_eq_some_iff] at h
    obtain ⟨h1, h2, _⟩ := h
    exact ⟨h1, by simpa [List.getD, h1] using h2⟩
  have idxn : ∀ i, nz.idxOf? i = none → nz.contains i = false := fun i h => by
    rw [List.idxOf?_eq_none_iff] at h
    simpa using h
  have sorted : ∀ a b, a < nz.length → b < nz.length → nz.getD a 0 = nz.getD b 0 → a = b := fun a b ha hb e => by
    rcases Nat.lt_trichotomy a b with h | h | h
    · have := (zr b a hb h).1; omega
    · exact h
    · have := (zr a b ha h).1; omega
  have cnt : ∀ L, closedL ops L → ∃ c, c ≤ nz.length ∧ cntL nz L = c ∧ (∀ a, a < c → L (nz.getD a 0) = true) ∧ (∀ a, c ≤ a → a < nz.length → L (nz.getD a 0) = false) := fun L hc => by
    have : ∀ n, n ≤ nz.length → ∃ c, c ≤ n ∧ (∀ a, a < c → L (nz.getD a 0) = true) ∧ (∀ a, c ≤ a → a < n → L (nz.getD a 0) = false) := by
      intro n
      induction n with
      | zero => exact fun _ => ⟨0, Nat.le_refl _, fun a h => by omega, fun a _ h => by omega⟩
      | succ n ih =>
        intro hn
        obtain ⟨c, h1, h2, h3⟩ := ih (by omega)
        by_cases hL : L (nz.getD n 0) = true
        · refine ⟨n + 1, Nat.le_refl _, fun a ha => ?_, fun a h1 h2 => by omega⟩
          by_cases e : a = n
          · rw [e]; exact hL
          · exact first L hc n a (by omega) (by omega) hL
        · refine ⟨c, by omega, h2, fun a h4 h5 => ?_⟩
          by_cases e : a = n
          · rw [e]; simpa using hL
          · exact h3 a h4 (by omega)
    obtain ⟨c, h1, h2, h3⟩ := this nz.length (Nat.le_refl _)
    exact ⟨c, h1, cnt_take h1 h2 h3, h2, h3⟩
  let Good (vals : Nat → AV) (i : Nat) (o : Oper) (sl : List AV) : Prop := match nz.idxOf? i with
    | some a => OneG P so ops o sl (Hs.getD a []) (vals i) (Hs.getD (a + 1) [])
    | none => ∀ a, lo.getD i 0 ≤ a → a ≤ hi.getD i 0 → OneG P so ops o sl (Hs.getD a []) (vals i) (Hs.getD a [])
  have key : ∀ (l : List Oper) (k : Nat) (sl : List AV) (K : List AV → Prop), k + l.length = m → (∀ j, j < l.length → l[j]? = ops[k + j]?) → noisyL P so ops Hs nz lo hi k l K sl →
      ∃ vals : Nat → AV, (∀ vals' : Nat → AV, (∀ i, k ≤ i → vals' i = vals i) → ∀ sl0, slotsL ops vals' (fun _ => true) sl0 k = sl →
        (∀ i o, k ≤ i → i < m → ops[i]? = some o → Good vals' i o (slotsL ops vals' (fun _ => true) sl0 i)) ∧ K (slotsL ops vals' (fun _ => true) sl0 m)) := by
    intro l
    induction l with
    | nil =>
      intro k sl K hk _ hq
      have : k = m := by simpa using hk
      subst this
      exact ⟨fun _ => .any, fun vals' _ sl0 e => ⟨fun i o hi ho => by omega, by rw [e]; exact hq⟩⟩
    | cons o rest ih =>
      intro k sl K hk hl hq
      have ho : ops[k]? = some o := by simpa using (hl 0 (by simp)).symm
      have hrest : ∀ j, j < rest.length → rest[j]? = ops[k + 1 + j]? := fun j hj => by have := hl (j + 1) (by simpa using hj); simpa [Nat.add_assoc, Nat.add_comm 1 j] using this
      simp only [noisyL] at hq
      have fin : ∀ v, (∀ vals : Nat → AV, vals k = v → Good vals k o sl) → noisyL P so ops Hs nz lo hi (k + 1) rest K (putA sl o.dst v) →
            ∃ vals : Nat → AV, (∀ vals' : Nat → AV, (∀ i, k ≤ i → vals' i = vals i) → ∀ sl0, slotsL ops vals' (fun _ => true) sl0 k = sl →
              (∀ i o, k ≤ i → i < m → ops[i]? = some o → Good vals' i o (slotsL ops vals' (fun _ => true) sl0 i)) ∧ K (slotsL ops vals' (fun _ => true) sl0 m)) := by
        intro v h1 h2
        obtain ⟨vals, hv⟩ := ih (k + 1) _ K (by simp at hk; omega) hrest h2
        refine ⟨fun i => if i = k then v else vals i, fun vals' he sl0 hs0 => ?_⟩
        have hk' : vals' k = v := by rw [he k (Nat.le_refl _)]; simp
        have hs1 : slotsL ops vals' (fun _ => true) sl0 (k + 1) = putA sl o.dst v := by
          simp only [slotsL, if_true, hs0, ho, hk']
          rfl
        obtain ⟨g1, g2⟩ := hv vals' (fun i hi => by rw [he i (by omega)]; simp [show ¬ i = k by omega]) sl0 hs1
        refine ⟨fun i o' hi hlt ho' => ?_, g2⟩
        by_cases hik : i = k
        · subst hik
          rw [ho] at ho'
          cases ho'
          rw [hs0]
          exact h1 vals' hk'
        · exact g1 i o' (by omega) hlt ho'
      have go : ∀ (K' : AV → Prop), noisyW P so o sl Hs (lo.getD k 0) (hi.getD k 0) K' (nz.idxOf? k) → (∀ h v h', oneW P so o sl h (fun v2 h2 => v2 = v ∧ h2 = h') → OneG P so ops o sl h v h') → ∃ v, (∀ vals : Nat → AV, vals k = v → Good vals k o sl) ∧ K' v := by
        intro K' hn hone
        cases hx : nz.idxOf? k with
        | some a =>
          rw [hx] at hn
          simp only [noisyW] at hn
          obtain ⟨v, h1, h2⟩ := turnW_one hn
          refine ⟨v, fun vals hv => ?_, h1⟩
          simp only [Good, hx]
          rw [hv]
          exact hone _ _ _ h2
        | none =>
          rw [hx] at hn
          simp only [noisyW] at hn
          obtain ⟨v, ⟨h1, h2⟩, h3⟩ := quietW_one hn
          refine ⟨v, fun vals hv => ?_, h2⟩
          simp only [Good, hx]
          intro a ha hb
          rw [hv]
          by_cases e : a = lo.getD k 0
          · rw [e]; exact hone _ _ _ h3
          · obtain ⟨v2, h4, h5⟩ := quietW_one (sameQ_get h1 a (by rw [List.mem_range'_1]; omega))
            rw [h4] at h5
            exact hone _ _ _ h5
      unfold guardW guardV at hq
      split at hq
      · rename_i hg
        obtain ⟨v, h1, h2⟩ := go _ hq fun h v h' q => by unfold OneG guardW; simp only [hg]; exact q
        unfold withVH at h2; replace h2 := cutV_ok h2
        exact fin v h1 h2
      · rename_i j want hg
        split at hq
        · rename_i d hd
          split at hq
          · rename_i t ht
            by_cases he : t = want
            · obtain ⟨v, h1, h2⟩ := go _ (guardB_yes hq he) fun h v h' q => by
                unfold OneG guardW guardV
                simp only [hg, hd, ht]
                exact guardB_of (fun _ => q) (fun q => absurd he q)
              unfold withVH at h2; replace h2 := cutV_ok h2
              exact fin v h1 h2
            · refine fin (.tup []) (fun vals hv => ?_) (guardB_no hq he)
              have hout : ∀ h, OneG P so ops o sl h (vals k) h := fun h => by
                unfold OneG guardW guardV
                simp only [hg, hd, ht, hv]
                exact guardB_of (fun q => absurd q he) (fun _ => by simp)
              simp only [Good]
              split
              · rename_i a hx
                exfalso
                obtain ⟨e1, e2⟩ := idx _ _ hx
                have := zg a e1 o (by rw [e2]; exact ho)
                rw [this] at hg; cases hg
              · exact fun a _ _ => hout _
          · rename_i ht
            refine fin (.tup []) (fun vals hv => ?_) hq
            have hout : ∀ h, OneG P so ops o sl h (vals k) h := fun h => by
              unfold OneG guardW guardV
              simp only [hg, hd, ht, hv]
              simp
            simp only [Good]
            split
            · rename_i a hx
              exfalso
              obtain ⟨e1, e2⟩ := idx _ _ hx
              have := zg a e1 o (by rw [e2]; exact ho)
              rw [this] at hg; cases hg
            · exact fun a _ _ => hout _
          · exact hq.elim
        · exact hq.elim
  obtain ⟨vals, hv⟩ := key (ops.toList.take m) 0 s.sl _ (by simp; omega) (fun j hj => by
    simp at hj
    rw [List.getElem?_take_of_lt (by omega)]; simp) hw
  obtain ⟨g1, g2⟩ := hv vals (fun _ _ => rfl) s.sl rfl
  refine WP.drawT (so := so) m hgt hm hok htail hmn vals (fun L => Hs.getD (cntL nz L) []) (fun L hL => ?_) (fun i o him ho L hc hd hLi => .inl ?_) (fun L h1 h2 => ?_)
  · rw [cnt_take (c := 0) (Nat.zero_le _) (fun a h => by omega) (fun a _ ha => hL _ (Nat.lt_of_lt_of_le (zlt a ha) hmn))]
    exact hH0
  · have hg := g1 i o (Nat.zero_le _) him ho
    obtain ⟨c, c1, c2, c3, c4⟩ := cnt L hc
    have hreach : ∀ j, reachB ops ops.size i j = true → L j = true := fun j hj => reachB_closed hc ho hd hj
    cases hx : nz.idxOf? i with
    | some a =>
      simp only [Good, hx] at hg
      obtain ⟨e1, e2⟩ := idx _ _ hx
      have ec : c = a := by
        rcases Nat.lt_trichotomy c a with h | h | h
        · have := c4 c (Nat.le_refl _) (by omega)
          have h3 := hreach (nz.getD c 0) (by rw [← e2]; exact (zr a c e1 h).2)
          rw [this] at h3; cases h3
        · exact h
        · have := c3 a h
          rw [e2, hLi] at this; cases this
      have ec2 : cntL nz (fun j => if j = i then true else L j) = a + 1 := by
        refine cnt_take (by omega) (fun b hb => ?_) (fun b hb hb2 => ?_)
        · by_cases e : nz.getD b 0 = i
          · exact if_pos e
          · simp only [e, if_false]
            have : b ≠ a := fun e' => e (by rw [e', e2])
            exact c3 b (by omega)
        · have : nz.getD b 0 ≠ i := fun e => by have := sorted b a hb2 e1 (by rw [e, e2]); omega
          simp only [this, if_false]
          exact c4 b (by omega) hb2
      simp only [c2, ec, ec2]
      exact hg
    | none =>
      simp only [Good, hx] at hg
      have hni := idxn i hx
      have ec2 : cntL nz (fun j => if j = i then true else L j) = c := by
        refine cnt_take c1 (fun b hb => ?_) (fun b hb hb2 => ?_)
        · split
          · rfl
          · exact c3 b hb
        · have : nz.getD b 0 ≠ i := fun e => by
            have : i ∈ nz := by rw [← e]; simp [List.getD, hb2]
            have h3 : nz.contains i = true := by simpa using this
            rw [hni] at h3; cases h3
          simp only [this, if_false]
          exact c4 b hb hb2
      simp only [c2, ec2]
      refine hg c ?_ ?_
      · refine Classical.byContradiction fun h => ?_
        have hlt : c < lo.getD i 0 := by omega
        by_cases hcl : c < nz.length
        · rcases (zq i him hni c hcl).1 with h5 | h5
          · omega
          · have h6 := hreach _ h5
            rw [c4 c (Nat.le_refl _) hcl] at h6; cases h6
        · have := zl i him hni; omega
      · refine Classical.byContradiction fun h => ?_
        have hlt : hi.getD i 0 < c := by omega
        rcases (zq i him hni (c - 1) (by omega)).2 with h5 | h5
        · omega
        · obtain ⟨o2, ho2⟩ := zop (c - 1) (by omega)
          have hL1 := c3 (c - 1) (by omega)
          have h6 := reachB_closed hc ho2 (fun k hk => hc _ _ ho2 hL1 k hk) h5
          rw [hLi] at h6; cases h6
  · have e : cntL nz L = nz.length := cnt_take (Nat.le_refl _) (fun a ha => h1 _ (zlt a ha)) (fun a h2 h3 => by omega)
    rw [e]
    have := runL_ok (fk := fk) (ops := ops) (l := ops.toList.drop m) (k := m) (fun j => by rw [List.getElem?_drop, Array.getElem?_toList]) g2
    rwa [List.length_drop, Array.length_toList] at this
end
section
variable {P : Program} {so : Opt} {ops : Array Oper} {o : Oper} {rest : List Oper} {K : List AV → Prop} {sl : List AV} {Hs : List (List Blk)} {nz lo hi : List Nat} {i a : Nat} {v : AV} {l : List Nat}
@[congr] theorem noisyL_congr {l l' : List Oper} (e : l = l') : noisyL P so ops Hs nz lo hi i l K sl = noisyL P so ops Hs nz lo hi i l' K sl := by rw [e]
theorem noisyL_nil : noisyL P so ops Hs nz lo hi i [] K sl = K sl := rfl
theorem noisyL_cons : noisyL P so ops Hs nz lo hi i (o :: rest) K sl = guardU (tag o.guard) ops sl (noisyW P so o sl Hs (lo.getD i 0) (hi.getD i 0) (fun v => cutV (tag (cuts so o)) v [] fun v _ => withS (tag (putA sl o.dst v)) fun sl => noisyL P so ops Hs nz lo hi (i + 1) rest K sl) (tag (nz.idxOf? i))) (withS (tag (putA sl o.dst (.tup []))) fun sl => noisyL P so ops Hs nz lo hi (i + 1) rest K sl) := rfl
@[congr] theorem noisyW_congr {b b' : Option Nat} {lo lo' hi hi' : Nat} {K : AV → Prop} (e0 : lo = lo') (e1 : hi = hi') (e : b = b') : noisyW P so o sl Hs lo hi K b = noisyW P so o sl Hs lo' hi' K b' := by rw [e0, e1, e]
theorem noisyW_some {lo hi : Nat} {K : AV → Prop} : noisyW P so o sl Hs lo hi K (some a) = turnW P so o sl (Hs.getD a []) (Hs.getD (a + 1) []) K := rfl
theorem noisyW_none {lo hi : Nat} {K : AV → Prop} : noisyW P so o sl Hs lo hi K none = quietW P so o sl (Hs.getD lo []) fun v => sameQ P so o sl Hs v (tag (List.range' (lo + 1) (hi - lo))) ∧ K v := rfl
@[congr] theorem sameQ_congr {l l' : List Nat} (e : l = l') : sameQ P so o sl Hs v l = sameQ P so o sl Hs v l' := by rw [e]
theorem sameQ_nil : sameQ P so o sl Hs v [] = True := rfl
theorem sameQ_cons : sameQ P so o sl Hs v (a :: l) = (quietW P so o sl (Hs.getD a []) (fun v' => v' = v) ∧ sameQ P so o sl Hs v l) := rfl
end
attribute [go_sem ↓] noisyL_nil noisyL_cons turnW_mk
attribute [go_sem] noisyW_some noisyW_none sameQ_nil sameQ_cons turnC_fn List.range'_zero List.range'_succ Nat.reduceSub List.idxOf?_cons List.idxOf?_nil
theorem WP.rangeIterN {P : Program} {fk : FK} {Q : AExit → AS → Prop} {s : AS} {f : Operand} {params : Array Tmp} {assign body : Code} {g : FuncId} {cap : List AV} {xs : List (List AV)} (nm : Nat) (hnm : s.hp.length + 1 = nm) (so : Opt) (hm : P.follows .mixedOrders = true) (hda : drawsOk so assign = true) (hdb : drawsOk so body = true) (hrnd : fk.rnd = false) (hf : evA s.sl f = .fn (.func g) [] cap) (hc : callable P g) (hgt : s.gh.todo = []) (hfs : (P.funcs[fk.fn]?).isSome = true)
    (hit : IterA P g cap xs) (hx : ∀ x ∈ xs, x.length = params.size) (I : Nat → List Blk → Prop) (T : Code → List Blk → Prop)
    (hI : ∀ k h, s.hp.all (belowBlk s.hp.length) = true → I k h → h.length = s.hp.length ∧ h.all (belowBlk s.hp.length) = true) (hT : ∀ c h, s.hp.all (belowBlk s.hp.length) = true → T c h → h.length = s.hp.length ∧ h.all (belowBlk s.hp.length) = true)
    (h0 : I 0 s.hp)
    (hround : ∀ k h own (hk : k < xs.length), I k h → h.length = s.hp.length → wp P so ⟨fk.fn, true, h.length + (2 + own.length)⟩ assign
      (asgK P so ⟨fk.fn, true, h.length + (2 + own.length)⟩ ⟨nm, 0⟩ body (roundP (fun hp h1 => ∃ extra, hp = loopH h1 .busy none fk.fn s.sl params assign body (own ++ extra)) (I (k + 1)) T))
      ⟨setParams s.sl params.toList xs[k], [], loopH h .ready none fk.fn s.sl params assign body own, {}⟩)
    (hend : ∀ h, I xs.length h → Q .normal { s with df := .mark ⟨s.hp.length, 0⟩ :: s.df, hp := h ++ [.defd, .dead] })
    (hstop : ∀ c h, T c h → jumpQ Q (some c) { s with df := .mark ⟨s.hp.length, 0⟩ :: s.df, hp := h ++ [.defd, .dead] }) : WP P fk (.rangeFunc f params assign body) Q s := by
  subst hnm
  exact WP.rangeIter so hm hda hdb hrnd hf hc hgt hfs hit hx I T hI hT h0 hround hend hstop
end Go.Mac

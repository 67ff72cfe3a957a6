/- A part of the logic and of the contracts of the functions that the statement reaches; the statement itself is proved in the last text. -/
import Derived.Orders
import Derived.Test.YtdioclckllbhpaaGreatLibMacN

set_option linter.all false
set_option linter.unusedVariables false
set_option linter.unusedSimpArgs false
set_option linter.unnecessarySimpa false
namespace Go.Mac
open Go Go.Conc
section
variable {P : Program} {h : List Blk} {K : AV → List Blk → Prop}
theorem map_snd_congr {ρ ρ' : Operand → AV} {l : List (Nat × Operand)} (e : ∀ x ∈ l.map (·.2), ρ x = ρ' x) : (l.map fun p => (p.1, ρ p.2)) = l.map fun p => (p.1, ρ' p.2) :=
  List.map_congr_left fun p hp => by rw [e p.2 (List.mem_map_of_mem hp)]
theorem opE_congr {op : Op} {ρ ρ' : Operand → AV} (e : ∀ x ∈ op.operands, ρ x = ρ' x) : opE P op ρ h = opE P op ρ' h := by
  cases op
  all_goals try (simp only [Op.operands, Array.mem_def, List.mem_cons, List.not_mem_nil, or_false, forall_eq_or_imp, forall_eq] at e)
  all_goals try (first | rfl | (simp only [opE]; simp only [e]; done))
  case build t parts => simp only [opE]; rw [map_snd_congr e]
  case buildSlice t len parts => simp only [opE]; rw [map_snd_congr e]
  case makeFunc fn first cap =>
    simp only [opE]
    rw [List.map_congr_left (f := ρ) (g := ρ') (l := first.toList) fun x hx => e x (by simp at hx ⊢; exact .inl hx), List.map_congr_left (f := ρ) (g := ρ') (l := cap.toList) fun x hx => e x (by simp at hx ⊢; exact .inr hx)]
  case makeMap t r => cases r <;> rfl
  case slice t x lo hi mx =>
    cases mx with
    | some m =>
      have e1 : ρ x = ρ' x := e x (by simp)
      have e2 : lo.map ρ = lo.map ρ' := by cases lo with | none => rfl | some y => simp [e y (by simp)]
      have e3 : hi.map ρ = hi.map ρ' := by cases hi with | none => rfl | some y => simp [e y (by simp)]
      have e4 : ρ m = ρ' m := e m (by simp)
      simp only [opE]
      rw [e1, e2, e3, e4]
    | none =>
      have e1 : ρ x = ρ' x := e x (by simp)
      have e2 : lo.map ρ = lo.map ρ' := by cases lo with | none => rfl | some y => simp [e y (by simp)]
      have e3 : hi.map ρ = hi.map ρ' := by cases hi with | none => rfl | some y => simp [e y (by simp)]
      simp only [opE]
      rw [e1, e2, e3]
  case next x b =>
    cases b with
    | false => rfl
    | true => simp only [opE]; rw [e]
  case typeAssert x t at_ ok =>
    cases ok with
    | false => rfl
    | true => simp only [opE]; rw [e]
  case call cl =>
    simp only [opE]
    cases hc : cl.callee <;> simp only
    · rw [List.map_congr_left (f := ρ) (g := ρ') (l := cl.args.toList) fun x hx => e x (by simp only [Call.operands, hc]; simpa using hx)]
theorem evA_congr {sl sl' : List AV} {ts : List Tmp} (e : ∀ t ∈ ts, sl[t]? = sl'[t]?) {x : Operand} (hx : ∀ t, x = .tmp t → t ∈ ts) : evA sl x = evA sl' x := by
  cases x with
  | tmp t => simp only [evA, List.getD]; rw [e t (hx t rfl)]
  | const v => rfl
  | global g => rfl
  | func f => rfl
def oneW (P : Program) (so : Opt) (o : Oper) (sl : List AV) (h : List Blk) (K : AV → List Blk → Prop) : Prop := stepW P so o { sl := sl, df := [], hp := h } (fun _ _ => False) K
theorem oneW_congr {so : Opt} {o : Oper} {sl sl' : List AV} (e : ∀ x ∈ o.op.operands, evA sl x = evA sl' x) (hw : oneW P so o sl h K) : oneW P so o sl' h K := by
  unfold oneW stepW at *
  revert hw
  split
  · rename_i cl hcl
    intro hw
    rw [hcl] at e
    have hm : cl.args.toList.map (evA sl) = cl.args.toList.map (evA sl') := List.map_congr_left fun x hx => e x (by simp only [Op.operands, Call.operands]; rw [Array.mem_append]; exact .inr (by simpa using hx))
    revert hw
    split
    · rename_i f hf
      intro hw
      have hf' : evA sl f = evA sl' f := e f (by simp [Op.operands, Call.operands, hf])
      simp only [hm, hf'] at hw
      exact ⟨rfl, hw.2⟩
    · rename_i hb
      intro hw
      simp only [hm] at hw
      exact hw
    · rename_i h1 h2
      intro hw
      simp only [hcl] at hw ⊢
      rw [← opE_congr (ρ := evA sl) (ρ' := evA sl') e]
      exact hw
  · rename_i x hx
    intro hw
    rw [hx] at e
    simp only at hw ⊢
    rw [e x (by simp [Op.operands])] at hw
    exact hw
  · exact fun h => h
  · rename_i t len parts hb
    intro hw
    split at hw
    · rename_i hs
      simp only [hs, if_true]
      simp only [hb] at e
      rw [← map_snd_congr (ρ := evA sl) (ρ' := evA sl') (fun x hx => e x (by simp only [Op.operands]; simpa using hx))]
      exact hw
    · rename_i hs
      simp only [hs, Bool.false_eq_true, if_false]
      rw [← opE_congr (ρ := evA sl) (ρ' := evA sl') e]
      exact hw
  · rename_i h1 h2 h3 h4
    intro hw
    rw [← opE_congr (ρ := evA sl) (ρ' := evA sl') e]
    exact hw
def OneG (P : Program) (so : Opt) (ops : Array Oper) (o : Oper) (sl : List AV) (h : List Blk) (v : AV) (h' : List Blk) : Prop :=
  guardW ops o sl (oneW P so o sl h fun v2 h2 => v2 = v ∧ h2 = h') (v = .tup [] ∧ h' = h)
theorem mem_looksAt {ops : Array Oper} {o : Oper} {t : Tmp} (h : .tmp t ∈ o.op.operands) : t ∈ o.looksAt ops := by
  unfold Oper.looksAt
  rw [List.mem_append]
  exact .inl (List.mem_filterMap.2 ⟨.tmp t, by simpa using h, rfl⟩)
theorem OneG_congr {so : Opt} {ops : Array Oper} {o : Oper} {sl sl' : List AV} {v : AV} {h' : List Blk} (e : ∀ t ∈ o.looksAt ops, sl[t]? = sl'[t]?) (hw : OneG P so ops o sl h v h') : OneG P so ops o sl' h v h' := by
  have key : ∀ x ∈ o.op.operands, evA sl x = evA sl' x := fun x hx => evA_congr (ts := o.looksAt ops) e fun t ht => mem_looksAt (by rw [← ht]; exact hx)
  unfold OneG guardW guardV at *
  revert hw
  split
  · rename_i hg; exact oneW_congr key
  · rename_i j want hg
    split
    · rename_i d hd
      intro hw
      have : sl[d]? = sl'[d]? := e d (by
        unfold Oper.looksAt
        rw [List.mem_append]
        right
        simp only [hg, hd]
        simp)
      have this2 : evA sl (.tmp d) = evA sl' (.tmp d) := by simp only [evA, List.getD, this]
      rw [← this2]
      split at hw
      · exact guardB_of (fun he => oneW_congr key (guardB_yes hw he)) (fun he => guardB_no hw he)
      · exact hw
      · exact hw.elim
    · exact fun h => h
end
def waitsB (x : Oper) (j : Nat) : Bool := x.after.any fun e => Region.binds .any e && e.on == j
def okRegion (ops : Array Oper) : Bool :=
  (List.range ops.size).all fun i => match ops[i]? with
    | none => false
    | some x => x.after.all (fun e => !Region.binds .any e || decide (e.on < i)) && (List.range i).all fun j => match ops[j]? with
      | none => false
      | some y => Oper.apart ops y x || waitsB x j
def slotsL (ops : Array Oper) (vals : Nat → AV) (L : Nat → Bool) (sl : List AV) : Nat → List AV
  | 0 => sl
  | n + 1 => if L n then putA (slotsL ops vals L sl n) ((ops[n]?).bind (·.dst)) (vals n) else slotsL ops vals L sl n
section
variable {ops : Array Oper} {vals : Nat → AV} {L : Nat → Bool} {sl : List AV}
theorem okRegion_waits (hok : okRegion ops = true) {i : Nat} {x : Oper} (hi : ops[i]? = some x) : ∀ e ∈ x.after, Region.binds .any e = true → e.on < i := by
  have hlt := (Array.getElem?_eq_some_iff.1 hi).1
  have := List.all_eq_true.1 hok i (List.mem_range.2 hlt)
  simp only [hi, Bool.and_eq_true] at this
  intro e he hb
  have h2 := Array.all_eq_true_iff_forall_mem.1 this.1 e he
  simpa [hb] using h2
theorem okRegion_apart (hok : okRegion ops = true) {i j : Nat} {x y : Oper} (hi : ops[i]? = some x) (hj : ops[j]? = some y) (hji : j < i) : Oper.apart ops y x = true ∨ waitsB x j = true := by
  have hlt := (Array.getElem?_eq_some_iff.1 hi).1
  have := List.all_eq_true.1 hok i (List.mem_range.2 hlt)
  simp only [hi, Bool.and_eq_true] at this
  have h2 := List.all_eq_true.1 this.2 j (List.mem_range.2 hji)
  simpa [hj] using h2
def closedL (ops : Array Oper) (L : Nat → Bool) : Prop := ∀ j y, ops[j]? = some y → L j = true → ∀ k, waitsB y k = true → L k = true
@[simp] theorem putA_length (sl : List AV) (d : Option Tmp) (v : AV) : (putA sl d v).length = sl.length := by cases d <;> simp [putA]
@[simp] theorem slotsL_length : ∀ n, (slotsL ops vals L sl n).length = sl.length
  | 0 => rfl
  | n + 1 => by
    simp only [slotsL]
    split
    · rw [putA_length, slotsL_length n]
    · exact slotsL_length n
theorem putA_ne {sl : List AV} {d : Option Tmp} {v : AV} {t : Tmp} (h : d ≠ some t) : (putA sl d v)[t]? = sl[t]? := by
  cases d with
  | none => rfl
  | some d => exact List.getElem?_set_ne (by rintro rfl; exact h rfl)
theorem putA_eq {sl sl' : List AV} {d : Option Tmp} {v : AV} {t : Tmp} (hl : sl.length = sl'.length) (h : d = some t) : (putA sl d v)[t]? = (putA sl' d v)[t]? := by
  subst h
  simp [putA, List.getElem?_set, hl]
theorem slotsL_seen (hok : okRegion ops = true) (hc : closedL ops L) {i : Nat} {x : Oper} (hi : ops[i]? = some x) (hd : ∀ k, waitsB x k = true → L k = true) (hL : L i = false) {t : Tmp} (ht : t ∈ x.looksAt ops) :
    ∀ n, (slotsL ops vals L sl n)[t]? = (slotsL ops vals (fun _ => true) sl (min n i))[t]? := by
  intro n
  induction n with
  | zero => simp [slotsL]
  | succ n ih =>
    by_cases hni : n < i
    · rw [Nat.min_eq_left (by omega)] at ih ⊢
      simp only [slotsL, if_true]
      by_cases hdst : (ops[n]?).bind (·.dst) = some t
      · cases hn : ops[n]? with
        | none => rw [hn] at hdst; cases hdst
        | some y =>
          rw [hn] at hdst
          have hyd : y.dst = some t := hdst
          have hLn : L n = true := by
            rcases okRegion_apart hok hi hn hni with h | h
            · exact absurd ht ((Oper.apart_spec h).1 t hyd)
            · exact hd n h
          rw [if_pos hLn]
          exact putA_eq (by simp) hdst
      · rw [putA_ne hdst]
        split
        · rw [putA_ne hdst]; exact ih
        · exact ih
    · rw [Nat.min_eq_right (by omega)] at ih ⊢
      simp only [slotsL]
      split
      · rename_i hLn
        by_cases hdst : (ops[n]?).bind (·.dst) = some t
        · exfalso
          cases hn : ops[n]? with
          | none => rw [hn] at hdst; cases hdst
          | some y =>
            rw [hn] at hdst
            have hyd : y.dst = some t := hdst
            have hne : n ≠ i := by rintro rfl; rw [hL] at hLn; cases hLn
            rcases okRegion_apart hok hn hi (by omega) with h | h
            · exact (Oper.apart_spec h).2.2 t hyd ht
            · have := hc n y hn hLn i h; rw [hL] at this; cases this
        · rw [putA_ne hdst]; exact ih
      · exact ih
theorem putA_comm {sl : List AV} {d d' : Option Tmp} {v v' : AV} (h : ∀ t, d = some t → d' ≠ some t) : putA (putA sl d v) d' v' = putA (putA sl d' v') d v := by
  cases d with
  | none => rfl
  | some d => cases d' with
    | none => rfl
    | some d' => simp only [putA]; exact List.set_comm _ _ (by rintro rfl; exact h _ rfl rfl)
theorem slotsL_put (hok : okRegion ops = true) (hc : closedL ops L) {i : Nat} {x : Oper} (hi : ops[i]? = some x) (hL : L i = false) :
    ∀ n, i < n → slotsL ops vals (fun j => if j = i then true else L j) sl n = putA (slotsL ops vals L sl n) x.dst (vals i) := by
  have low : ∀ n, n ≤ i → slotsL ops vals (fun j => if j = i then true else L j) sl n = slotsL ops vals L sl n := by
    intro n
    induction n with
    | zero => intro _; rfl
    | succ n ih => intro hn; simp only [slotsL]; rw [ih (by omega)]; simp only [show ¬ n = i by omega, if_false]
  intro n
  induction n with
  | zero => intro h; omega
  | succ n ih =>
    intro hn
    by_cases hni : n = i
    · subst hni
      simp only [slotsL, if_true, hL, Bool.false_eq_true, if_false]
      rw [low n (Nat.le_refl _), hi]
      rfl
    · simp only [slotsL, hni, if_false]
      rw [ih (by omega)]
      split
      · rename_i hLn
        refine putA_comm fun t ht hdst => ?_
        cases hn' : ops[n]? with
        | none => rw [hn'] at hdst; cases hdst
        | some y =>
          rw [hn'] at hdst
          rcases okRegion_apart hok hn' hi (by omega) with h | h
          · exact (Oper.apart_spec h).2.1 t ht hdst
          · have := hc n y hn' hLn i h; rw [hL] at this; cases this
      · rfl
end
section
variable {P : Program} {fk : FK} {Q : AExit → AS → Prop} {ops : Array Oper} {so : Opt}
theorem WPI.one {i : Nat} {rest : List Nat} {o : Oper} {s : AS} {v : AV} {h' : List Blk} (hgt : s.gh.todo = []) (ho : ops[i]? = some o) (hw : OneG P so ops o s.sl s.hp v h') (hk : WPI P fk [.inRegion ops rest] Q { s with sl := putA s.sl o.dst v, hp := h' }) :
    WPI P fk [.inRegion ops (i :: rest)] Q s := by
  have step : oneW P so o s.sl s.hp (fun v2 h2 => v2 = v ∧ h2 = h') → stepW P so o s Q (fun v2 h2 => v2 = v ∧ h2 = h') := by
    intro q
    unfold oneW stepW at q
    unfold stepW
    revert q
    split
    · rename_i cl hcl
      split
      · rename_i f hf
        unfold callW
        intro q
        refine ⟨hgt, ?_⟩
        replace q := q.2
        split at q
        · rename_i g first cap hfv
          rw [hfv]
          exact ⟨q.1, q.2.mono fun e h2 r => by cases e with | ret v => exact r | panic v => exact r.elim⟩
        · rename_i n hfv
          rw [hfv]
          exact ⟨q.1, q.2.1, q.2.2.mono fun e h2 r => by cases e with | ret v => exact r | panic v => exact r.elim⟩
        · exact q.elim
      · unfold panicW
        split <;> exact fun q => q.elim
      · exact fun q => q
    · unfold panicW; split <;> exact fun q => q.elim
    · exact fun q => q.elim
    · exact fun q => q
    · exact fun q => q
  unfold OneG guardW guardV at hw
  split at hw
  · rename_i hg
    exact stepW_ok ho (fun _ _ _ => by simp [Region.wanted, hg]) (fun v2 h2 q => by rw [q.1, q.2]; exact hk) (step hw)
  · rename_i j want hg
    split at hw
    · rename_i d hd
      split at hw
      · rename_i t ht
        replace ht := evA_bool ht
        have hj : ∃ oj, ops[j]? = some oj ∧ oj.dst = some d := by
          cases hoj : ops[j]? with
          | none => rw [hoj] at hd; cases hd
          | some oj => rw [hoj] at hd; exact ⟨oj, rfl, hd⟩
        obtain ⟨oj, hj1, hj2⟩ := hj
        by_cases he : t = want
        · exact stepW_ok ho (fun c tmps hv => by simp [Region.wanted, hg, yielded_of hv hj1 hj2 ht, he]) (fun v2 h2 q => by rw [q.1, q.2]; exact hk) (step (guardB_yes hw he))
        · have h3 := guardB_no hw he
          rw [h3.1, h3.2] at hk
          exact WPI.op_out ho hg hj1 hj2 ht he hk
      · rename_i ht
        replace ht := evA_out ht
        have hj : ∃ oj, ops[j]? = some oj ∧ oj.dst = some d := by
          cases hoj : ops[j]? with
          | none => rw [hoj] at hd; cases hd
          | some oj => rw [hoj] at hd; exact ⟨oj, rfl, hd⟩
        obtain ⟨oj, hj1, hj2⟩ := hj
        rw [hw.1, hw.2] at hk
        exact WPI.op_none ho hg hj1 hj2 ht hk
      · exact hw.elim
    · exact hw.elim
theorem WP.region_draw {id : Nat} {s : AS} (hm : P.follows .mixedOrders = true) (h : ∀ t, WPI P fk [.inRegion ops (Region.linearise .any ops t)] Q s) : WP P fk (.region id ops true) Q s := by
  intro main Stop b k cs base c w tmps ds h1 h2 h3 h4
  refine Go'.of_step rfl fun w1 r => ?_
  have hst : stepG P main (G (at' b tmps ds ([.code (.region id ops true)] ++ k)) cs) w1 =
      .go (G (at' b tmps ds ([.inRegion ops (Region.linearise .any ops (w1.tape w1.drawn (.order b.fn id)))] ++ k)) cs) { w1 with drawn := w1.drawn + 1 } #[] := by
    simp [G, stepG, stepG.exec, at', choose, Sem.run, Question.forced, Question.cut, Region.schedule, hm]
  refine ⟨_, _, _, c, hst, rfl, ⟨⟨Nat.le_refl _, fun _ _ _ => rfl, rfl, rfl, rfl⟩, fun _ h => .inl h, fun _ _ h => .inl h, fun _ _ h => h, by simp, fun _ h => .inl h, fun _ h => .inl h, fun _ h => h, rfl, rfl, rfl⟩, ?_⟩
  exact h _ main Stop b k cs base c _ tmps ds h1 h2 ((h3.rely r).rely (RL.at c w1 _)) h4
theorem WP.draw {id : Nat} {s : AS} (hgt : s.gh.todo = []) (hm : P.follows .mixedOrders = true) (hok : okRegion ops = true) (vals : Nat → AV) (Hp : (Nat → Bool) → List Blk)
    (h0 : ∀ L, (∀ i, i < ops.size → L i = false) → Hp L = s.hp)
    (hs : ∀ i o, ops[i]? = some o → ∀ L, closedL ops L → (∀ k, waitsB o k = true → L k = true) → L i = false →
      OneG P so ops o (slotsL ops vals (fun _ => true) s.sl i) (Hp L) (vals i) (Hp fun j => if j = i then true else L j))
    (he : ∀ L, (∀ i, i < ops.size → L i = true) → Q .normal { s with sl := slotsL ops vals (fun _ => true) s.sl ops.size, hp := Hp L }) : WP P fk (.region id ops true) Q s := by
  refine WP.region_draw hm fun t => ?_
  have key : ∀ (fuel t : Nat) (listed : Array Bool), listed.size = ops.size → (listed.toList.count false) ≤ fuel → closedL ops (fun i => listed.getD i false) →
      WPI P fk [.inRegion ops (Region.linearise.go .any ops fuel t listed [])] Q { s with sl := slotsL ops vals (fun i => listed.getD i false) s.sl ops.size, hp := Hp fun i => listed.getD i false } := by
    intro fuel
    have fin : ∀ (listed : Array Bool), listed.size = ops.size → (∀ i, i < ops.size → listed.getD i false = true) →
        WPI P fk [.inRegion ops []] Q { s with sl := slotsL ops vals (fun i => listed.getD i false) s.sl ops.size, hp := Hp fun i => listed.getD i false } := by
      intro listed hsz hall
      refine WPI.region_end ?_
      have e : ∀ n, n ≤ ops.size → slotsL ops vals (fun i => listed.getD i false) s.sl n = slotsL ops vals (fun _ => true) s.sl n := by
        intro n
        induction n with
        | zero => intro _; rfl
        | succ n ih => intro hn; simp only [slotsL, hall n (by omega)]; rw [ih (by omega)]
      rw [e _ (Nat.le_refl _)]
      exact he _ hall
    induction fuel with
    | zero =>
      intro t listed hsz hcnt hc
      refine fin listed hsz fun i hi => ?_
      have hc0 : listed.toList.count false = 0 := by omega
      have hnf : false ∉ listed.toList := List.count_eq_zero.1 hc0
      have hi' : i < listed.size := by omega
      have : listed[i] ∈ listed.toList := by simp
      cases hb : listed[i] with
      | true => simp [hi', hb]
      | false => rw [hb] at this; exact absurd this hnf
    | succ fuel ih =>
      intro t listed hsz hcnt hc
      simp only [Region.linearise.go]
      change WPI P fk [.inRegion ops (match (Region.ready .any ops listed)[t % (Region.ready .any ops listed).length]? with
        | some i => Region.linearise.go .any ops fuel (t / (Region.ready .any ops listed).length) (listed.setIfInBounds i true) [i]
        | none => [].reverse)] Q _
      cases hi : (Region.ready .any ops listed)[t % (Region.ready .any ops listed).length]? with
      | none =>
        have hnil : Region.ready .any ops listed = [] := by
          cases hr : Region.ready .any ops listed with
          | nil => rfl
          | cons x xs =>
            rw [hr] at hi
            have hlt : t % (x :: xs).length < (x :: xs).length := Nat.mod_lt _ (by simp)
            simp at hi
            simp at hlt
            omega
        simp only [List.reverse_nil]
        refine fin listed hsz fun i => ?_
        induction i using Nat.strongRecOn with
        | _ i hind =>
          intro hlt
          cases hb : listed.getD i false with
          | true => rfl
          | false =>
            exfalso
            have ho : ops[i]? = some ops[i] := by simp [hlt]
            have : i ∈ Region.ready .any ops listed := mem_ready.2 ⟨by
              have : i < listed.size := by omega
              simp [this] at hb ⊢; exact hb, ops[i], ho, fun e he hbd => hind e.on (okRegion_waits hok ho e he hbd) (by have := okRegion_waits hok ho e he hbd; omega)⟩
            rw [hnil] at this
            cases this
      | some i =>
        simp only []
        rw [linearise_go_acc, List.reverse_singleton, List.singleton_append]
        obtain ⟨hun, o, ho, hdeps⟩ := mem_ready.1 (List.mem_of_getElem? hi)
        have hlt : i < ops.size := (Array.getElem?_eq_some_iff.1 ho).1
        have hlt' : i < listed.size := by omega
        have hLi : listed.getD i false = false := by simp [hlt'] at hun ⊢; exact hun
        have hd : ∀ k, waitsB o k = true → listed.getD k false = true := by
          intro k hk
          obtain ⟨e, he, hb⟩ : ∃ e ∈ o.after, (Region.binds .any e && e.on == k) = true := by
            unfold waitsB at hk
            rw [Array.any_eq_true] at hk
            obtain ⟨j, hj, h⟩ := hk
            exact ⟨o.after[j], by simp, h⟩
          simp only [Bool.and_eq_true, beq_iff_eq] at hb
          rw [← hb.2]
          exact hdeps e he hb.1
        have hset : (fun j => (listed.setIfInBounds i true).getD j false) = fun j => if j = i then true else listed.getD j false := by
          funext j
          by_cases hji : j = i
          · subst hji; simp [hlt']
          · simp [hji, Array.getElem?_setIfInBounds, Ne.symm hji]
        refine WPI.one (so := so) hgt ho (v := vals i) (h' := Hp fun j => if j = i then true else listed.getD j false) ?_ ?_
        · refine OneG_congr (fun t ht => ?_) (hs i o ho _ hc hd hLi)
          have := slotsL_seen (vals := vals) (sl := s.sl) hok hc ho hd hLi ht ops.size
          rw [Nat.min_eq_right (by omega)] at this
          exact this.symm
        · have hput := slotsL_put (vals := vals) (sl := s.sl) hok hc ho hLi ops.size hlt
          have ihh := ih (t / (Region.ready .any ops listed).length) (listed.setIfInBounds i true) (by simpa using hsz) (by
            have hm : false ∈ listed.toList := by
              have : listed[i] = false := by simpa [hlt'] using hLi
              rw [← this]; simp
            have hcs := List.count_set (a := true) (b := false) (l := listed.toList) (i := i) (h := by simpa using hlt')
            have hpos := List.count_pos_iff.2 hm
            have hfi : listed[i] = false := by simpa [hlt'] using hLi
            simp only [Array.toList_setIfInBounds]
            simp [hfi] at hcs
            rw [hcs]
            simp at hcnt
            omega) (by
            rw [hset]
            intro j y hj hL k hk
            by_cases hji : j = i
            · subst hji
              rw [ho] at hj
              cases hj
              have := hd k hk
              simp only
              split
              · rfl
              · exact this
            · simp only [hji, if_false] at hL
              have := hc j y hj hL k hk
              simp only
              split
              · rfl
              · exact this)
          rw [hset] at ihh
          rw [hput] at ihh
          exact ihh
  have h1 := key ops.size t (Array.replicate ops.size false) (by simp) (by simp [List.count_replicate]) (by intro j y hj hL; simp [Array.getElem?_replicate] at hL; split at hL <;> simp at hL)
  have e0 : ∀ i, (Array.replicate ops.size false).getD i false = false := by
    intro i
    simp only [Array.getD_eq_getD_getElem?, Array.getElem?_replicate]
    split <;> rfl
  have e1 : ∀ n, slotsL ops vals (fun i => (Array.replicate ops.size false).getD i false) s.sl n = s.sl := by
    intro n
    induction n with
    | zero => rfl
    | succ n ih => simp only [slotsL, e0 n]; rw [ih]; simp
  rw [e1, h0 _ (fun i _ => e0 i)] at h1
  exact h1
end
def quietK (r : Option (Prop × AV × List Blk)) (h : List Blk) (K : AV → Prop) : Prop :=
  match r with
  | some (c, v, h') => c ∧ h' = h ∧ K v
  | none => False
@[congr] theorem quietK_congr {r r' : Option (Prop × AV × List Blk)} {h : List Blk} {K : AV → Prop} (e : r = r') : quietK r h K = quietK r' h K := by rw [e]
theorem quietK_some {c : Prop} {v : AV} {h' h : List Blk} {K : AV → Prop} : quietK (some (c, v, h')) h K = (c ∧ h' = h ∧ K v) := rfl
def QuietCalls (P : Program) (g : FuncId) (args : List AV) (h : List Blk) (K : AV → Prop) : Prop := ∃ v, CallsA P g args h (fun e h' => e = .ret v ∧ h' = h) ∧ K v
@[congr] theorem QuietCalls_congr {P : Program} {g : FuncId} {args args' : List AV} {h : List Blk} {K : AV → Prop} (e2 : args = args') : QuietCalls P g args h K = QuietCalls P g args' h K := by rw [e2]
theorem QuietCalls.use {P : Program} {g : FuncId} {args : List AV} {h : List Blk} {v : AV} {K : AV → Prop} (c : PureA P g args v) (hk : K v) : QuietCalls P g args h K := ⟨v, c h, hk⟩
def quietC (P : Program) (f : AV) (args : List AV) (h : List Blk) (K : AV → Prop) : Prop :=
  match f with
  | .fn (.func g) first cap => callable P g ∧ ∃ v, CallsA P g (first ++ args ++ cap) h (fun e h' => e = .ret v ∧ h' = h) ∧ K v
  | _ => False
@[congr] theorem quietC_congr {P : Program} {f f' : AV} {args args' : List AV} {h : List Blk} {K : AV → Prop} (e1 : f = f') (e2 : args = args') : quietC P f args h K = quietC P f' args' h K := by rw [e1, e2]
theorem quietC_fn {P : Program} {g : FuncId} {first cap args : List AV} {h : List Blk} {K : AV → Prop} : quietC P (.fn (.func g) first cap) args h K = (callable P g ∧ QuietCalls P g (first ++ args ++ cap) h K) := rfl
def quietW (P : Program) (so : Opt) (o : Oper) (sl : List AV) (h : List Blk) (K : AV → Prop) : Prop :=
  match o.op with
  | .call cl => match cl.callee with
    | .value f => quietC P (evA sl f) (cl.args.toList.map (evA sl)) h K
    | .builtin .panic => False
    | _ => quietK (opE P o.op (evA sl) h) h K
  | .buildSlice t len parts => sealed so o = true ∧ quietK (buildSealE P t len (parts.toList.map fun p => (p.1, evA sl p.2)) h) h K
  | .panic _ | .defer _ => False
  | _ => quietK (opE P o.op (evA sl) h) h K
theorem quietW_one {P : Program} {so : Opt} {o : Oper} {sl : List AV} {h : List Blk} {K : AV → Prop} (hw : quietW P so o sl h K) : ∃ v, K v ∧ oneW P so o sl h fun v2 h2 => v2 = v ∧ h2 = h := by
  have plain : ∀ {r : Option (Prop × AV × List Blk)}, quietK r h K → ∃ v, K v ∧ stepK r fun v2 h2 => v2 = v ∧ h2 = h := fun {r} q => by
    cases r with
    | none => exact q.elim
    | some x => obtain ⟨c, v, h'⟩ := x; exact ⟨v, q.2.2, q.1, rfl, q.2.1⟩
  obtain ⟨dst, op, ty, pos, after, guard⟩ := o
  cases op
  case call cl =>
    obtain ⟨callee, args, ats⟩ := cl
    cases callee with
    | value f =>
      simp only [quietW, oneW, stepW, callW, quietC] at *
      split at hw
      · rename_i g first cap hfv
        obtain ⟨h1, v, h2, h3⟩ := hw
        simp only [hfv]
        exact ⟨v, h3, trivial, h1, h2.mono fun e h' q => by rw [q.1]; exact ⟨rfl, q.2⟩⟩
      · exact hw.elim
    | invoke r m => simp only [quietW, oneW, stepW] at *; exact plain hw
    | builtin b =>
      by_cases hb : b = .panic
      · subst hb; exact hw.elim
      · cases b <;> first | exact absurd rfl hb | (simp only [quietW, oneW, stepW] at *; exact plain hw)
  case buildSlice t len parts =>
    simp only [quietW, oneW, stepW] at *
    obtain ⟨h1, h2⟩ := hw
    simp only [h1]
    exact plain h2
  case panic x => exact hw.elim
  case defer x => exact hw.elim
  all_goals (simp only [quietW, oneW, stepW] at *; exact plain hw)
def quietL (P : Program) (so : Opt) (ops : Array Oper) (h : List Blk) : List Oper → (List AV → Prop) → List AV → Prop
  | [], K, sl => K sl
  | o :: rest, K, sl => guardW ops o sl (quietW P so o sl h fun v => withVH v h fun v h => cutV (cuts so o) v h fun v _ => quietL P so ops h rest K (putA sl o.dst v)) (quietL P so ops h rest K (putA sl o.dst (.tup [])))
theorem WP.quiet {P : Program} {fk : FK} {Q : AExit → AS → Prop} {ops : Array Oper} {id : Nat} {s : AS} (so : Opt) (hgt : s.gh.todo = []) (hm : P.follows .mixedOrders = true) (hok : okRegion ops = true)
    (hw : quietL P so ops s.hp ops.toList (fun sl => Q .normal { s with sl := sl }) s.sl) : WP P fk (.region id ops true) Q s := by
  have key : ∀ (l : List Oper) (k : Nat) (sl : List AV) (K : List AV → Prop), k + l.length = ops.size → (∀ j, l[j]? = ops[k + j]?) → quietL P so ops s.hp l K sl →
      ∃ vals : Nat → AV, (∀ vals' : Nat → AV, (∀ i, k ≤ i → vals' i = vals i) → ∀ sl0, slotsL ops vals' (fun _ => true) sl0 k = sl →
        (∀ i o, k ≤ i → ops[i]? = some o → OneG P so ops o (slotsL ops vals' (fun _ => true) sl0 i) s.hp (vals' i) s.hp) ∧ K (slotsL ops vals' (fun _ => true) sl0 ops.size)) := by
    intro l
    induction l with
    | nil =>
      intro k sl K hk _ hq
      have : k = ops.size := by simpa using hk
      subst this
      refine ⟨fun _ => .any, fun vals' _ sl0 e => ⟨fun i o hi ho => ?_, by rw [e]; exact hq⟩⟩
      have := (Array.getElem?_eq_some_iff.1 ho).1
      omega
    | cons o rest ih =>
      intro k sl K hk hl hq
      have ho : ops[k]? = some o := by simpa using (hl 0).symm
      have hrest : ∀ j, rest[j]? = ops[k + 1 + j]? := fun j => by have := hl (j + 1); simpa [Nat.add_assoc, Nat.add_comm 1 j] using this
      simp only [quietL] at hq
      · have fin : ∀ v, OneG P so ops o sl s.hp v s.hp → quietL P so ops s.hp rest K (putA sl o.dst v) →
            ∃ vals : Nat → AV, (∀ vals' : Nat → AV, (∀ i, k ≤ i → vals' i = vals i) → ∀ sl0, slotsL ops vals' (fun _ => true) sl0 k = sl →
              (∀ i o, k ≤ i → ops[i]? = some o → OneG P so ops o (slotsL ops vals' (fun _ => true) sl0 i) s.hp (vals' i) s.hp) ∧ K (slotsL ops vals' (fun _ => true) sl0 ops.size)) := by
          intro v h1 h2
          obtain ⟨vals, hv⟩ := ih (k + 1) _ K (by simp at hk; omega) hrest h2
          refine ⟨fun i => if i = k then v else vals i, fun vals' he sl0 hs0 => ?_⟩
          have hk' : vals' k = v := by rw [he k (Nat.le_refl _)]; simp
          have hs1 : slotsL ops vals' (fun _ => true) sl0 (k + 1) = putA sl o.dst v := by
            simp only [slotsL, if_true, hs0, ho, hk']
            rfl
          obtain ⟨g1, g2⟩ := hv vals' (fun i hi => by rw [he i (by omega)]; simp [show ¬ i = k by omega]) sl0 hs1
          refine ⟨fun i o' hi ho' => ?_, g2⟩
          by_cases hik : i = k
          · subst hik
            rw [ho] at ho'
            cases ho'
            rw [hs0, hk']
            exact h1
          · exact g1 i o' (by omega) ho'
        unfold guardW guardV at hq
        split at hq
        · rename_i hg
          obtain ⟨v, h1, h2⟩ := quietW_one hq
          unfold withVH at h1; replace h1 := cutV_ok h1
          exact fin v (by unfold OneG guardW; simp only [hg]; exact h2) h1
        · rename_i j want hg
          split at hq
          · rename_i d hd
            split at hq
            · rename_i t ht
              by_cases he : t = want
              · obtain ⟨v, h1, h2⟩ := quietW_one (guardB_yes hq he)
                unfold withVH at h1; replace h1 := cutV_ok h1
                refine fin v ?_ h1
                unfold OneG guardW guardV
                simp only [hg, hd, ht]
                exact guardB_of (fun _ => h2) (fun q => absurd he q)
              · refine fin (.tup []) ?_ (guardB_no hq he)
                unfold OneG guardW guardV
                simp only [hg, hd, ht]
                exact guardB_of (fun q => absurd q he) (fun _ => by simp)
            · rename_i ht
              refine fin (.tup []) ?_ hq
              unfold OneG guardW guardV
              simp only [hg, hd, ht]
              simp
            · exact hq.elim
          · exact hq.elim
  obtain ⟨vals, hv⟩ := key ops.toList 0 s.sl _ (by simp) (by simp) hw
  obtain ⟨g1, g2⟩ := hv vals (fun _ _ => rfl) s.sl rfl
  exact WP.draw (so := so) hgt hm hok vals (fun _ => s.hp) (fun _ _ => rfl) (fun i o ho L _ _ _ => g1 i o (Nat.zero_le _) ho) (fun L _ => g2)
end Go.Mac

/- A part of the logic and of the contracts of the functions that the statement reaches; the statement itself is proved in the last text. -/
import Derived.Test.YtdioclckllbhpaaGreatLibMacG

set_option linter.all false
set_option linter.unusedVariables false
set_option linter.unusedSimpArgs false
set_option linter.unnecessarySimpa false
namespace Go.Mac
open Go Go.Conc
def Cx.rebind (c : Cx) (i : Nat) (e : Ent) : Cx := { c with own := c.own.set i e, mine := fun x => c.mine x ∨ ∃ k, e.seat = some (x, k) }
theorem Ext.rebind {c : Cx} {i : Nat} {e e' : Ent} (he : c.own[i]? = some e) (hg : e.gen < e'.gen) : Ext c (c.rebind i e') where
  own j ej hj := by
    by_cases hij : i = j
    · subst hij
      rw [he] at hj
      cases hj
      exact ⟨e', by simp only [Cx.rebind]; rw [List.getElem?_set_self (List.getElem?_eq_some_iff.1 he).1], by omega, fun h => by omega⟩
    · exact ⟨ej, by simp only [Cx.rebind]; rw [List.getElem?_set_ne hij]; exact hj, Nat.le_refl _, fun _ => rfl⟩
  imm _ _ h := h
theorem HR.rebind {c : Cx} {w w' : World} {h : List Blk} (x : HR c w h) {i : Nat} {e e' : Ent} {old new : Blk} (he : c.own[i]? = some e) (hg : e.gen < e'.gen) (ho : h[i]? = some old)
    (hs : ∀ b k, e'.seat = some (b, k) → b < w'.heap.size ∧ c.imm b = none ∧
      ∀ (j : Nat) (ej : Ent) (bj : Blk) (y : Nat × Nat), j ≠ i → c.own[j]? = some ej → h[j]? = some bj → bj.live = true → ej.seat = some y → y.1 ≠ b)
    (hsz : w.heap.size ≤ w'.heap.size) (hw : ∀ j, j < w.heap.size → (∀ k, e'.seat ≠ some (j, k)) → w'.heap[j]? = w.heap[j]?)
    (hch : ∀ b k, e'.seat = some (b, k) → ¬ c.com.chans b) (hn : BR (c.rebind i e') w' e' new) : HR (c.rebind i e') w' (h.set i new) where
  len := by simp [Cx.rebind, x.len]
  blk j ej bj h1 h2 := by
    simp only [Cx.rebind] at h1
    by_cases hij : i = j
    · subst hij
      rw [List.getElem?_set_self (List.getElem?_eq_some_iff.1 ho).1] at h2
      rw [List.getElem?_set_self (List.getElem?_eq_some_iff.1 he).1] at h1
      cases h1; cases h2
      exact hn
    · rw [List.getElem?_set_ne hij] at h1 h2
      have hb := x.blk j ej bj h1 h2
      have hx := Ext.rebind he hg
      cases hl : bj.live with
      | false => cases bj with | dead => trivial | role m => exact hb | _ => cases hl
      | true =>
        have key : ∀ y, ej.seat = some y → w'.heap[y.1]? = w.heap[y.1]? := fun y hy =>
          hw _ (x.seat_lt hb hl hy) fun k hk => (hs _ _ hk).2.2 j ej bj y (fun h => hij h.symm) h1 h2 hl hy rfl
        cases bj with
        | dead => cases hl
        | cells g cs =>
          obtain ⟨h0, h1 | ⟨b, k, arr, el, l, h1, h2, h3, h4, h5, h6⟩⟩ := hb
          · exact ⟨h0, .inl h1⟩
          · exact ⟨h0, .inr ⟨b, k, arr, el, l, h1, .inl h2, by rw [key _ h1]; exact h3, h4, h5.ext hx, h6⟩⟩
        | map ks vs => obtain ⟨h0, b, k, ents, clk, h1, h2, h3, h4, h5⟩ := hb; exact ⟨h0, b, k, ents, clk, h1, .inl h2, by rw [key _ h1]; exact h3, h4.ext hx, h5.ext hx⟩
        | loop st pend fn slots params assign body => obtain ⟨h0, b, k, tm, d, h1, h2, h3, h4⟩ := hb; exact ⟨h0, b, k, tm, d, h1, .inl h2, by rw [key _ h1]; exact h3, h4.ext hx⟩
        | defd => obtain ⟨h0, b, k, h1, h2, h3⟩ := hb; exact ⟨h0, b, k, h1, .inl h2, by rw [key _ h1]; exact h3⟩
        | iter s pos => obtain ⟨h0, b, k, h1, h2, h3⟩ := hb; exact ⟨h0, b, k, h1, .inl h2, by rw [key _ h1]; exact h3⟩
        | chan g => exact hb
        | role m => exact hb
  apart i1 j1 e1 e2 b1 b2 y1 y2 hne h1 h2 h3 h4 l1 l2 s1 s2 := by
    simp only [Cx.rebind] at h1 h2
    have key : ∀ (m : Nat) (em : Ent) (bm : Blk) (y : Nat × Nat), (c.own.set i e')[m]? = some em → (h.set i new)[m]? = some bm → bm.live = true → em.seat = some y →
        (m = i ∧ e'.seat = some y) ∨ (m ≠ i ∧ c.own[m]? = some em ∧ h[m]? = some bm ∧ ∀ b k, e'.seat = some (b, k) → y.1 ≠ b) := by
      intro m em bm y g1 g2 g3 g4
      by_cases him : i = m
      · subst him
        rw [List.getElem?_set_self (List.getElem?_eq_some_iff.1 he).1] at g1
        cases g1
        exact .inl ⟨rfl, g4⟩
      · rw [List.getElem?_set_ne him] at g1 g2
        exact .inr ⟨fun h => him h.symm, g1, g2, fun b k hk => (hs b k hk).2.2 m em bm y (fun h => him h.symm) g1 g2 g3 g4⟩
    rcases key i1 e1 b1 y1 h1 h3 l1 s1 with ⟨a1, a2⟩ | ⟨a1, a2, a3, a4⟩ <;> rcases key j1 e2 b2 y2 h2 h4 l2 s2 with ⟨g1, g2⟩ | ⟨g1, g2, g3, g4⟩
    · omega
    · exact fun h => g4 _ _ a2 h.symm
    · exact a4 _ _ g2
    · exact x.apart i1 j1 e1 e2 b1 b2 y1 y2 hne a2 g2 a3 g3 l1 l2 s1 s2
  mine b hb := by
    rcases hb with hb | ⟨k, hk⟩
    · exact Nat.lt_of_lt_of_le (x.mine b hb) hsz
    · exact (hs b k hk).1
  imm b o hb := by
    obtain ⟨h1, h2⟩ := x.imm b o hb
    have hb' : c.imm b = some o := hb
    have hne : ∀ k, e'.seat ≠ some (b, k) := fun k hk => by have := (hs b k hk).2.1; rw [hb'] at this; cases this
    exact ⟨by rintro (h | ⟨k, h⟩); exact h1 h; exact hne k h, by rw [hw b (Array.getElem?_eq_some_iff.1 h2).1 hne]; exact h2⟩
  chan r hr := by
    obtain ⟨h1, h2, h3⟩ := x.chan r hr
    have hne : ∀ k, e'.seat ≠ some (r, k) := fun k hk => hch r k hk hr
    exact ⟨by rintro (h | ⟨k, h⟩); exact h1 h; exact hne k h, h2, by unfold OpenChan; rw [hw r h3.lt hne]; exact h3⟩
section
variable {P : Program} {c : Cx} {w : World} {h : List Blk} {K : AV → List Blk → Prop}
def srcA (h : List Blk) (sz : Nat) : AV → Option (List AV × Nat)
  | .nilsl => some ([], 0)
  | .psl cells len => some (cells.take (len * sz), len)
  | .sl n _ off len => match h[n.id]? with
    | some (.cells g cs) => if g = n.gen then some ((cs.drop off).take (len * sz), len) else none
    | _ => none
  | .str s => some (s.map fun b => .int .u8 b.toNat, s.length)
  | _ => none
theorem src_ok {sz m : Nat} {a : AV} {X : Value} {cs : List AV} (hs : srcA h sz a = some (cs, m)) (hl : cs.length = m * sz) (hsz : ∀ s, a = .str s → sz = 1) (hv : VR c a X) (hH : HR c w h) :
    (∀ n0, Ok P c n0 (Builtin.lenOf X) w (fun r => r = .ok m w)) ∧
    ∃ L, VRL c cs L ∧ ∀ q, q ≤ m → Ok P c w.heap.size (Builtin.firstCells sz q X) w (fun r => r = .ok (L.take (q * sz)).toArray w) := by
  cases a <;> simp only [srcA, reduceCtorEq, Option.some.injEq, Prod.mk.injEq] at hs
  case nilsl =>
    obtain ⟨rfl, rfl⟩ := hs
    cases hv
    exact ⟨fun _ => rfl, [], rfl, fun q hq => ok_pure (by simp)⟩
  case str s =>
    obtain ⟨rfl, rfl⟩ := hs
    cases hv
    have h1 := hsz s rfl
    subst h1
    refine ⟨fun _ => ok_pure (by simp [ByteArray.size]), s.map fun b => .int .u8 b.toNat, ?_, fun q hq => ok_pure ?_⟩
    · clear hl hsz
      induction s with
      | nil => rfl
      | cons b s ih => exact ⟨_, _, rfl, rfl, ih⟩
    · simp [List.map_take]
  case psl cells len =>
    obtain ⟨rfl, rfl⟩ := hs
    rcases hv with ⟨rfl, rfl, a, rfl⟩ | ⟨b, o, arr, el, fz, l, cap, rfl, hc1, hi, hr, hp⟩
    · refine ⟨fun _ => rfl, [], by simp, fun q hq => ?_⟩
      have : q = 0 := by omega
      subst this
      cases a with
      | none => exact ok_pure (by simp)
      | some a =>
        show Ok P c w.heap.size (loadCells a (0 * sz)) w _
        rw [Nat.zero_mul]
        exact ok_pure (by simp)
    · have hlen : len * sz ≤ l.length := by
        rw [hr.length]
        simp at hl; omega
      refine ⟨fun _ => rfl, l.take (len * sz), hr.take _, fun q hq => ?_⟩
      have hq' : q * sz ≤ len * sz := Nat.mul_le_mul_right _ hq
      refine (ok_loadCells (l := (l.take (len * sz)).take (q * sz)) (.inr (.inr (by rw [hi]; rfl))) (hH.imm b _ hi).2 (by simp; omega) ?_)
      exact (List.take_prefix _ _).trans ((List.take_prefix _ _).trans hp)
  case sl n sz' off len =>
    split at hs
    · rename_i g cs' hb
      split at hs
      · rename_i hg
        subst hg
        simp only [Option.some.injEq, Prod.mk.injEq] at hs
        obtain ⟨rfl, rfl⟩ := hs
        obtain ⟨e, he, hg, hp, hx⟩ := own_cells hH hb hv.2
        rcases hp with ⟨rfl, rfl, rfl⟩ | ⟨b, kk, cap, hs, rfl, hc1, hc2⟩
        · refine ⟨fun _ => rfl, [], by simp, fun q hq => ?_⟩
          have : q = 0 := by omega
          subst this
          exact ok_pure (by simp)
        · rcases hx with ⟨hx, _⟩ | ⟨b', k', arr, el, l, hx, hm, hw, hk, hr, hp⟩
          · rw [hx] at hs; cases hs
          rw [hx] at hs
          cases hs
          have hlen : len * sz ≤ (cs'.drop off).length := by simp only [List.length_take] at hl; omega
          have hdl : (l.drop off).length = (cs'.drop off).length := (hr.drop off).length
          refine ⟨fun _ => rfl, (l.drop off).take (len * sz), (hr.drop off).take _, fun q hq => ?_⟩
          have hq' : q * sz ≤ len * sz := Nat.mul_le_mul_right _ hq
          by_cases ho : off ≤ l.length
          · refine (ok_loadCells (l := ((l.drop off).take (len * sz)).take (q * sz)) (.inl hm) hw (by simp only [List.length_take]; omega) ?_)
            exact (List.take_prefix _ _).trans ((List.take_prefix _ _).trans (drop_prefix hp off ho))
          · have hz : len * sz = 0 := by simp at hlen hdl; omega
            have hq0 : q * sz = 0 := by omega
            rw [hq0, List.take_zero]
            exact ok_loadCells (l := []) (.inl hm) hw (by simp [hq0]) List.nil_prefix
      · cases hs
    · cases hs
theorem growBy_le (newLen : Nat) : ∀ (r cc : Nat), 256 ≤ cc → cc ≤ newLen → Builtin.growBy newLen r cc ≤ 2 * newLen + 768
  | 0, cc, _, h => by simp only [Builtin.growBy]; omega
  | r + 1, cc, h1, h => by
    simp only [Builtin.growBy]
    split
    · omega
    · by_cases h2 : cc + (cc + 768) / 4 ≤ newLen
      · exact growBy_le newLen r _ (by omega) h2
      · cases r with
        | zero => simp only [Builtin.growBy]; omega
        | succ r => simp only [Builtin.growBy]; rw [if_pos (by omega)]; omega
theorem nextcap_le {need cap : Nat} (hc : cap < need) : Builtin.nextslicecap need cap ≤ 2 * need + 768 := by
  unfold Builtin.nextslicecap
  split
  · omega
  · split
    · omega
    · exact growBy_le need 4 cap (by omega) (by omega)
theorem setMany_end : ∀ (vs l t : List Value), vs.length ≤ t.length → Mac.setMany (l ++ t) l.length vs = l ++ vs ++ t.drop vs.length
  | [], l, t, _ => by simp [Mac.setMany]
  | v :: vs, l, [], h => by simp at h
  | v :: vs, l, x :: t, h => by
    simp only [Mac.setMany]
    have e : (l ++ x :: t).set l.length v = (l ++ [v]) ++ t := by simp
    have e2 : l.length + 1 = (l ++ [v]).length := by simp
    rw [e, e2, setMany_end vs (l ++ [v]) t (by simpa using h)]
    simp
theorem zeroCells_size (z : Array Value) (n : Nat) : (Builtin.zeroCells z n).size = n * z.size := by simp [Builtin.zeroCells]
theorem opk_append {st xt ty e : TypeId} {f fe fx : TF} {z : List AV} {n : Nm} {len m : Nat} {cs new : List AV} {a : AV} {S X : Value} (ht : tyT P st = some f) (hd : f.d = .slice e) (hte : tyT P e = some fe) (hz : fe.ze = some z) (hzl : z.length = fe.sz)
    (htx : tyT P xt = some fx) (hxd : ∀ k, fx.d ≠ .int k) (hb : h[n.id]? = some (.cells n.gen cs)) (hcs : cs.length = len * fe.sz) (hs : srcA h fe.sz a = some (new, m)) (hl : new.length = m * fe.sz) (hsz : ∀ s, a = .str s → fe.sz = 1)
    (hleaf : new.all leafA = true) (hbd : len + m ≤ 4294967296) (hby : fe.bytes ≤ 4096) (hS : VR c (.sl n fe.sz 0 len) S) (hX : VR c a X) (hH : HR c w h)
    (hK : K (.sl ⟨n.id, n.gen + 1⟩ fe.sz 0 (len + m)) (h.set n.id (.cells (n.gen + 1) (cs ++ new)))) : VOk P (Builtin.append_ #[st, xt] ty #[S, X]) K c w := by
  obtain ⟨i, h1, h2, h3, h4, h5⟩ := tyT_some ht
  obtain ⟨ie, g1, g2, g3, g4, g5⟩ := tyT_some hte
  obtain ⟨ix, x1, x2, _⟩ := tyT_some htx
  obtain ⟨hlen, L, hL, hfc⟩ := src_ok (P := P) hs hl hsz hX hH
  have hLl : L.length = m * fe.sz := by rw [hL.length, hl]
  have hfull : Ok P c w.heap.size (Builtin.firstCells fe.sz m X) w (fun r => r = .ok L.toArray w) := (hfc m (Nat.le_refl _)).mono fun r e => by rw [e, List.take_of_length_le (by omega)]
  obtain ⟨en, he, hg, hp, hx⟩ := own_cells hH hb hS.2
  have hsep : ∀ (b k : Nat), en.seat = some (b, k) → ∀ (j : Nat) (ej : Ent) (bj : Blk) (y : Nat × Nat), j ≠ n.id → c.own[j]? = some ej → h[j]? = some bj → bj.live = true → ej.seat = some y → y.1 ≠ b :=
    fun b k hs j ej bj y hj q1 q2 q3 q4 => hH.apart j n.id ej en bj _ y (b, k) hj q1 he q2 hb q3 rfl q4 hs
  have hnone : n.id < h.length := (List.getElem?_eq_some_iff.1 hb).1
  unfold Builtin.append_
  simp only [List.getElem?_toArray, List.getElem?_cons_zero, List.getElem?_cons_succ]
  refine Ok.then (ok_underlying h2) ?_
  simp only [hd]
  obtain ⟨base, sCap, rfl⟩ : ∃ base sCap, S = .slice base len sCap := by
    rcases hp with ⟨rfl, _, rfl⟩ | ⟨b, kk, cap, _, rfl, _⟩ <;> exact ⟨_, _, rfl⟩
  simp only []
  refine Ok.then (ok_sizeOf g1) ?_
  rw [g3]
  refine Ok.then (ok_underlying x2) ?_
  refine Ok.then (a := false) ?_ ?_
  · cases hfx : fx.d with
    | int k => exact absurd hfx (hxd k)
    | _ => exact ok_pure rfl
  simp only [Bool.false_eq_true, if_false, Bool.not_false, if_true]
  refine Ok.then (hlen _) ?_
  have hTurn : ∀ (e' : Ent) (w' : World), (∀ b k, e'.seat = some (b, k) → c.mine b ∨ w.heap.size ≤ b) → e'.gen = en.gen + 1 → TurnOk c (c.rebind n.id e') w.heap.size := fun e' w' hm hge =>
    ⟨Ext.rebind he (by omega), fun b hb => by rcases hb with hb | ⟨k, hk⟩; exact .inl hb; exact hm b k hk, fun b o hb => .inl hb, rfl⟩
  by_cases hroom : len + m ≤ sCap
  ·
    simp only [hroom, if_true]
    refine Ok.then hfull ?_
    rcases hp with ⟨rfl, _, hv⟩ | ⟨b, kk, cap, hs', hv, hc1, hc2⟩
    · cases hv
      have hm0 : m = 0 := by omega
      subst hm0
      have hnew : new = [] := List.length_eq_zero_iff.1 (by omega)
      subst hnew
      have hcs0 : cs = [] := List.length_eq_zero_iff.1 (by omega)
      subst hcs0
      have hL0 : L = [] := List.length_eq_zero_iff.1 (by omega)
      subst hL0
      have hB : BR (c.rebind n.id ⟨n.gen + 1, en.seat⟩) w ⟨n.gen + 1, en.seat⟩ (.cells (n.gen + 1) ([] ++ [])) := by
        refine ⟨rfl, ?_⟩
        rcases hx with ⟨hx, _⟩ | ⟨b, k, arr, el, l, hx, hm, hw, hk, hr, hp⟩
        · exact .inl ⟨hx, rfl⟩
        · exact .inr ⟨b, k, arr, el, [], hx, .inl hm, hw, hk, rfl, List.nil_prefix⟩
      have hsm : ∀ b k, en.seat = some (b, k) → c.mine b := fun b k hs => by
        rcases hx with ⟨hx, _⟩ | ⟨b', k', arr, el, l, hx, hm, _⟩
        · rw [hx] at hs; cases hs
        · rw [hx] at hs; cases hs; exact hm
      refine ok_pure ⟨_, w, c.rebind n.id ⟨n.gen + 1, en.seat⟩, _, _, rfl, hK, ?_, ?_, hTurn _ w (fun b k hs => .inl (hsm b k hs)) (by simp [hg])⟩
      · exact ⟨⟨_, _, _, rfl⟩, ⟨n.gen + 1, en.seat⟩, by simp only [Cx.rebind]; rw [List.getElem?_set_self (List.getElem?_eq_some_iff.1 he).1], Nat.le_refl _, fun _ => .inl ⟨rfl, rfl, rfl⟩⟩
      · refine hH.rebind he (by simp [hg]) hb (fun b k hs => ⟨hH.mine b (hsm b k hs), ?_, hsep b k hs⟩) (Nat.le_refl _) (fun _ _ _ => rfl) (fun b k hs hc => (hH.chan b hc).1 (hsm b k hs)) hB
        cases hi : c.imm b with
        | none => rfl
        | some o => exact absurd (hsm b k hs) (hH.imm b o hi).1
    · cases hv
      rcases hx with ⟨hx, _⟩ | ⟨b', k', arr, el, l, hx, hm, hw, hk, hr, hp'⟩
      · rw [hx] at hs'; cases hs'
      rw [hx] at hs'
      cases hs'
      simp only [add_eq, Nat.zero_add]
      have hll : l.length = len * fe.sz := by rw [hr.length, hcs]
      have hcapsz : len * fe.sz + m * fe.sz ≤ arr.size := by
        rw [← Nat.add_mul, hk]
        exact Nat.le_trans (Nat.mul_le_mul_right _ hroom) (by omega)
      have hb'' : b < w.heap.size := (Array.getElem?_eq_some_iff.1 hw).1
      have hst : Ok P c w.heap.size (storeCells ⟨b, len * fe.sz, none⟩ L) w (fun r => r = .ok () (putBlk w b (.cells (Mac.setMany arr.toList (len * fe.sz) L).toArray el (0, 0)))) :=
        ok_storeCells (.inl hm) L (len * fe.sz) 0 w arr hw (by omega) (leaf_all hleaf hL)
      refine Ok.bind' (hst.mono fun r e => ?_)
      subst e
      simp only [thenOk]
      have hse : (⟨n.gen + 1, en.seat⟩ : Ent).seat = some (b, kk) := hx
      refine ok_pure ⟨_, _, c.rebind n.id ⟨n.gen + 1, en.seat⟩, _, _, rfl, hK, ?_, ?_, hTurn _ w (fun b2 k2 hs => .inl (by rw [hx] at hs; cases hs; exact hm)) (by simp [hg])⟩
      · refine ⟨⟨_, _, _, rfl⟩, ⟨n.gen + 1, en.seat⟩, by simp only [Cx.rebind]; rw [List.getElem?_set_self (List.getElem?_eq_some_iff.1 he).1], Nat.le_refl _, fun _ => .inr ⟨b, kk, sCap, hx, rfl, hroom, hc2⟩⟩
      · refine hH.rebind he (by simp [hg]) hb (fun b2 k2 hs => ?_) (by simp) (fun j hj hne => putBlk_other (fun hjb => hne kk (by rw [hse, hjb]))) (fun b2 k2 hs hc => by rw [hse] at hs; cases hs; exact (hH.chan _ hc).1 hm) ?_
        · rw [hse] at hs
          cases hs
          refine ⟨by simpa using hb'', ?_, hsep b kk hx⟩
          cases hi : c.imm b with
          | none => rfl
          | some o => exact absurd hm (hH.imm b o hi).1
        · refine ⟨rfl, .inr ⟨b, kk, _, el, l ++ L, hx, .inl hm, putBlk_same hb'', by simpa using hk, (hr.append hL).ext (Ext.rebind he (by simp [hg])), ?_⟩⟩
          obtain ⟨t, ht⟩ := hp'
          have htl : L.length ≤ t.length := by
            have : arr.size = l.length + t.length := by rw [← List.length_append, ht]; simp
            omega
          have e := setMany_end L l t htl
          rw [ht, hll] at e
          show l ++ L <+: (Mac.setMany arr.toList (len * fe.sz) L).toArray.toList
          rw [List.toList_toArray, e]
          exact List.prefix_append _ _
  ·
    simp only [hroom, if_false]
    have hneed : sCap < len + m := by omega
    have hcapb : ¬ (((len + m : Nat) : Int) > IntKind.i64.max ∧ (False ∨ ie.bytes = 0)) := by
      have e3 : IntKind.i64.max = 9223372036854775807 := by decide
      rw [e3]; omega
    have hbig : ¬ Builtin.nextslicecap (len + m) sCap * ie.bytes > 2 ^ 48 := by
      have h1' := nextcap_le hneed
      have h2' : Builtin.nextslicecap (len + m) sCap * ie.bytes ≤ (2 * (len + m) + 768) * 4096 := Nat.mul_le_mul h1' (by omega)
      omega
    refine Ok.then (ok_typeInfo g1) ?_
    rw [if_neg hcapb]
    refine Ok.then (ok_typeInfo g1) ?_
    rw [if_neg hbig]
    show Ok P c w.heap.size (Sem.choose (.appendCap (len + m) sCap e) _) w _
    intro newCap _ hcap d
    obtain ⟨t0, hnew⟩ := hcap rfl
    have hge : len + m ≤ newCap := by rw [hnew]; simp only [Question.cut]; omega
    generalize hw2 : ({ w with drawn := d } : World) = w2
    have hheap : w2.heap = w.heap := by rw [← hw2]
    have hH2 : HR c w2 h := by rw [← hw2]; exact hH.rely (RL.at c w d)
    obtain ⟨_, L2, hL2, hfc2⟩ := src_ok (P := P) hs hl hsz hX hH2
    have hL2l : L2.length = m * fe.sz := by rw [hL2.length, hl]
    have hfull2 : Ok P c w.heap.size (Builtin.firstCells fe.sz m X) w2 (fun r => r = .ok L2.toArray w2) := by
      have := hfc2 m (Nat.le_refl _)
      rw [hheap] at this
      exact this.mono fun r e => by rw [e, List.take_of_length_le (by omega)]
    have hold : ∃ l0, VRL c cs l0 ∧ Ok P c w.heap.size (Builtin.firstCells fe.sz len (.slice base len sCap)) w2 (fun r => r = .ok l0.toArray w2) := by
      rcases hp with ⟨rfl, _, hv⟩ | ⟨b, kk, cap, hs', hv, hc1, hc2⟩
      · cases hv
        have hcs0 : cs = [] := List.length_eq_zero_iff.1 (by omega)
        subst hcs0
        exact ⟨[], rfl, rfl⟩
      · cases hv
        rcases hx with ⟨hx, _⟩ | ⟨b', k', arr, el, l, hx, hm, hw, hk, hr, hp'⟩
        · rw [hx] at hs'; cases hs'
        rw [hx] at hs'
        cases hs'
        have hll : l.length = len * fe.sz := by rw [hr.length, hcs]
        exact ⟨l, hr, ok_loadCells (.inl hm) (by rw [hheap]; exact hw) hll (by simpa using hp')⟩
    obtain ⟨l0, hl0, hold⟩ := hold
    cases hiz : ie.zero with
    | none => rw [hiz] at g4; rw [hz] at g4; cases g4
    | some Z =>
      rw [hiz, hz] at g4
      simp only [Option.map_some, Option.some.injEq] at g4
      have hZs : Z.cells.size = fe.sz := by rw [← hzl, ← g4]; simp
      refine Ok.then (a := newCap) rfl (Ok.then (ok_typeInfo g1) (Ok.then (a := ()) ?_ ?_))
      · unfold askRoom
        split
        · exact ⟨rfl, rfl⟩
        · exact ok_pure rfl
      refine Ok.then hold (Ok.then hfull2 (Ok.then (ok_zeroValue g1 hiz) ?_))
      have hsize : w2.heap.size = w.heap.size := by rw [hheap]
      show Ok P c w.heap.size (Sem.new (.cells (l0.toArray ++ L2.toArray ++ Builtin.zeroCells Z.cells (newCap - (len + m))) e) _) w2 _
      refine ⟨_, _, c.rebind n.id ⟨n.gen + 1, some (w2.heap.size, (l0.toArray ++ L2.toArray ++ Builtin.zeroCells Z.cells (newCap - (len + m))).size)⟩, _, _, rfl, hK, ?_, ?_,
        hTurn _ w (fun b k hs => by cases hs; exact .inr (by omega)) (by simp [hg])⟩
      · refine ⟨⟨_, _, _, rfl⟩, ⟨n.gen + 1, _⟩, by simp only [Cx.rebind]; rw [List.getElem?_set_self (List.getElem?_eq_some_iff.1 he).1], Nat.le_refl _, fun _ => .inr ⟨_, _, newCap, rfl, rfl, hge, ?_⟩⟩
        have e1 : l0.length = len * fe.sz := by rw [hl0.length, hcs]
        simp only [Array.size_append, List.size_toArray, e1, hL2l, zeroCells_size, hZs]
        rw [← Nat.add_mul, ← Nat.add_mul]
        exact Nat.le_of_eq (by rw [Nat.zero_add]; congr 1; omega)
      · refine hH2.rebind he (by simp [hg]) hb (fun b k hs => ?_) (by simp) (fun j hj _ => heap_alloc_old w2 _ hj) (fun b k hs hc => by cases hs; exact absurd (hH2.chan _ hc).2.2.lt (Nat.lt_irrefl _)) ?_
        · cases hs
          refine ⟨by simp, ?_, fun j ej bj y hj q1 q2 q3 q4 hyb => ?_⟩
          · cases hi : c.imm w2.heap.size with
            | none => rfl
            | some o => exact absurd (Array.getElem?_eq_some_iff.1 (hH2.imm _ o hi).2).1 (Nat.lt_irrefl _)
          · have := hH2.seat_lt (hH2.blk j ej bj q1 q2) q3 q4
            omega
        · refine ⟨rfl, .inr ⟨_, _, _, e, l0 ++ L2, rfl, .inr ⟨_, rfl⟩, heap_alloc_self w2 _, rfl, (hl0.append hL2).ext (Ext.rebind he (by simp [hg])), ?_⟩⟩
          simp only [Array.toList_append]
          exact List.prefix_append _ _
end
end Go.Mac

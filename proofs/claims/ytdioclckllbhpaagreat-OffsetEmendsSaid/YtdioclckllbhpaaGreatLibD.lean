/- A part of the logic and of the contracts of the functions that the statement reaches; the statement itself is proved in the last text. -/
import Derived.Test.YtdioclckllbhpaaGreatLibB
import Derived.Test.YtdioclckllbhpaaGreatLibC

set_option linter.all false
set_option linter.unusedVariables false
set_option linter.unusedSimpArgs false
set_option linter.unnecessarySimpa false
namespace Go.Mac
open Go Go.Conc Go.Proofs
set_option maxRecDepth 4000
theorem wpi_shut {P : Program} {fk : FK} {its : List Item} {Q : AExit → AS → Prop} {sl : List AV} {df : List ADef} {hp : List Blk} {gh : Gst} (ds : List Nat) (h : shutK ds sl hp fun sl hp => WPI P fk its Q ⟨sl, df, hp, gh⟩) : WPI P fk its Q ⟨sl, df, hp, gh⟩ := by
  obtain ⟨⟨sl', df', hp', gh'⟩, t, h1, h2, h3⟩ := shutK_turns (n0 := fk.low) (s := ⟨sl, df, hp, gh⟩) h
  simp only at h1 h2 h3
  subst h1; subst h2
  exact WPI.turn t h3
theorem WPI.region_one {P : Program} {fk : FK} {K : AExit → AS → Prop} {s : AS} {ops : Array Oper} {i : Nat} {o : Oper} (so : Opt) (ho : ops[i]? = some o) (h : runL P so ops [o] K s) : WPI P fk [.inRegion ops [i]] K s := by
  simp only [runL] at h
  unfold guardW guardV at h
  split at h
  · rename_i hg
    exact stepW_ok (K := K) (rest := []) ho (fun _ _ _ => by simp [Region.wanted, hg]) (fun v h' q => by unfold withVH at q; exact WPI.region_end (cutV_ok q)) h
  · rename_i j want hg
    split at h
    · rename_i d hd
      split at h
      · rename_i t ht
        replace ht := evA_bool ht
        have hj : ∃ oj, ops[j]? = some oj ∧ oj.dst = some d := by
          cases hoj : ops[j]? with
          | none => rw [hoj] at hd; cases hd
          | some oj => rw [hoj] at hd; exact ⟨oj, rfl, hd⟩
        obtain ⟨oj, hj1, hj2⟩ := hj
        by_cases he : t = want
        · exact stepW_ok (K := K) (rest := []) ho (fun c tmps hv => by simp [Region.wanted, hg, yielded_of hv hj1 hj2 ht, he]) (fun v h' q => by unfold withVH at q; exact WPI.region_end (cutV_ok q)) (guardB_yes h he)
        · exact WPI.op_out ho hg hj1 hj2 ht he (WPI.region_end (guardB_no h he))
      · rename_i ht
        replace ht := evA_out ht
        have hj : ∃ oj, ops[j]? = some oj ∧ oj.dst = some d := by
          cases hoj : ops[j]? with
          | none => rw [hoj] at hd; cases hd
          | some oj => rw [hoj] at hd; exact ⟨oj, rfl, hd⟩
        obtain ⟨oj, hj1, hj2⟩ := hj
        exact WPI.op_none ho hg hj1 hj2 ht (WPI.region_end h)
      · exact h.elim
    · exact h.elim
theorem WPI.region_from {P : Program} {fk : FK} {K : AExit → AS → Prop} {s : AS} {ops : Array Oper} (so : Opt) (k : Nat) {rest : List Nat} (hr : rest = List.range' k (ops.size - k)) (h : runL P so ops (tag (ops.toList.drop k)) K s) : WPI P fk [.inRegion ops rest] K s := by
  subst hr
  have := runL_ok (fk := fk) (ops := ops) (l := ops.toList.drop k) (k := k) (fun j => by rw [List.getElem?_drop, Array.getElem?_toList]) h
  rwa [List.length_drop, Array.length_toList] at this
theorem WPI.selectN {P : Program} {fk : FK} {Q : AExit → AS → Prop} {ops : Array Oper} {rest : List Nat} {o : Oper} {x0 x1 : Operand} {e0 e1 : TypeId} {f0 f1 : TF} {n0 n1 : Nm} {ri d : Nat} {sl : List AV} {df : List ADef} {hp : List Blk} {out : List (Nm × Value)} {todo : List (List (Nm × Value))} (hro : hp[ri]? = some (.role true)) (ho : ops[0]? = some o) (hop : o.op = .select #[⟨x0, none, e0⟩, ⟨x1, none, e1⟩] true) (hog : o.guard = none) (hod : o.dst = some d)
    (hx0 : evA sl x0 = .chan n0) (hx1 : evA sl x1 = .chan n1) (h0 : hp[n0.id]? = some (.chan n0.gen)) (h1 : hp[n1.id]? = some (.chan n1.gen)) (hne : n0.id ≠ n1.id)
    (ht0 : tyT P e0 = some f0) (ht1 : tyT P e1 = some f1) (hz0 : f0.d = .bool) (hz1 : f1.d = .bool) (hzz0 : f0.ze = some [.bool false]) (hzz1 : f1.ze = some [.bool false]) (hf0 : zeroFits P e0 = true) (hf1 : zeroFits P e1 = true)
    (hnil : todo ≠ []) (hall : ∀ ms ∈ todo, ∃ n b r, ms = (n, .bool b) :: r ∧ (n = n0 ∨ n = n1))
    (h : ∀ T1 n b r T2, todo = T1 ++ ((n, .bool b) :: r) :: T2 →
      (n = n0 → WPI P fk [.inRegion ops rest] Q ⟨setN d (.tup [.int .i64 0, .bool true, .bool b, .bool false]) sl, df, hp, ⟨out, T1 ++ restA r ++ T2⟩⟩) ∧
      (n = n1 → WPI P fk [.inRegion ops rest] Q ⟨setN d (.tup [.int .i64 1, .bool true, .bool false, .bool b]) sl, df, hp, ⟨out, T1 ++ restA r ++ T2⟩⟩)) : WPI P fk [.inRegion ops (0 :: rest)] Q ⟨sl, df, hp, ⟨out, todo⟩⟩ := by
  refine WPI.select hro ho hop hog hod hx0 hx1 h0 h1 hne ht0 ht1 hz0 hz1 hzz0 hzz1 hf0 hf1 hnil hall fun T1 n b r T2 e => ?_
  obtain ⟨g1, g2⟩ := h T1 n b r T2 e
  have es : ∀ v, sl.set d v = setN d v sl := fun v => by have := putA_some (l := sl) (d := d) (v := v); simpa [putA] using this
  refine ⟨fun e => ?_, fun e => ?_⟩
  · simp only [es]; exact g1 e
  · simp only [es]; exact g2 e
theorem WPI.goN {P : Program} {fk : FK} {K : AExit → AS → Prop} {ops : Array Oper} {i : Nat} {o : Oper} {f : Operand} {ats : Array TypeId} {g : FuncId} {cap sl : List AV} {df : List ADef} {hp : List Blk} {out : List (Nm × Value)} {todo : List (List (Nm × Value))} {ri : Nat} (O : List (Nm × Value)) (hro : hp[ri]? = some (.role true)) (ho : ops[i]? = some o) (hop : o.op = .go { callee := .value f, args := #[], argTypes := ats }) (hog : o.guard = none) (hod : o.dst = none) (hf : evA sl f = .fn (.func g) [] cap)
    (hO : O ≠ []) (hch : ∀ m ∈ O, hp[m.1.id]? = some (.chan m.1.gen)) (hs : SendA P g cap (hp.map shareB) O) (h : K .normal ⟨sl, df, hp, ⟨out, todo ++ [O]⟩⟩) : WPI P fk [.inRegion ops [i]] K ⟨sl, df, hp, ⟨out, todo⟩⟩ := by
  refine WPI.go O hro ho hop hog hf hO hch hs (WPI.region_end ?_)
  rw [hod]; exact h
theorem msgs_mem {met done : Nm} {bs : List Bool} {x : Nm × Value} (h : x ∈ msgs met done bs) : x.1 = met ∨ x.1 = done := by
  rcases List.mem_append.1 h with h | h
  · obtain ⟨y, _, rfl⟩ := List.mem_map.1 h; exact .inl rfl
  · rw [List.mem_singleton.1 h]; exact .inr rfl
def facesOf (b : Board) (m : List (Int × Int)) (p : Nat) : List (List Int) := (ways b m p).map Prod.snd
theorem facesOf_len (b : Board) (m : List (Int × Int)) (p : Nat) : (facesOf b m p).length = 18 := by simp [facesOf, ways_len]
theorem facesOf_face {b : Board} {m : List (Int × Int)} {p : Nat} : ∀ y ∈ facesOf b m p, y.length = 12 := by
  intro y hy
  obtain ⟨x, hx, rfl⟩ := List.mem_map.1 hy
  obtain ⟨n, _, rfl⟩ := List.mem_map.1 hx
  exact face_len _ _ _ _
theorem facesOf_get {b : Board} {m : List (Int × Int)} {p k : Nat} (hk : k < 18) : (facesOf b m p)[k]'(by rw [facesOf_len]; exact hk) = faceB m (b.pages.getD p []) b.cells (layN p k) := by simp [facesOf, ways, wayN]
def bitsAll (cs : List (List Trace)) (p q : Int) (one two : List (List Int)) (n : Nat) : List (List Bool) := (List.range n).map fun i => bitsFrom cs p q (one.getD i []) i 0 two
theorem bitsAll_succ (cs : List (List Trace)) (p q : Int) (one two : List (List Int)) (n : Nat) : bitsAll cs p q one two (n + 1) = bitsAll cs p q one two n ++ [bitsFrom cs p q (one.getD n []) n 0 two] := by simp [bitsAll, List.range_succ]
theorem bitsAll_len (cs : List (List Trace)) (p q : Int) (one two : List (List Int)) (n : Nat) : (bitsAll cs p q one two n).length = n := by simp [bitsAll]
def countT (l : List (List Bool)) : Nat := (l.map fun x => x.count true).sum
theorem bitsFrom_len (cs : List (List Trace)) (p q : Int) (x : List Int) (i : Nat) : ∀ (k : Nat) (fs : List (List Int)), (bitsFrom cs p q x i k fs).length ≤ fs.length
  | _, [] => Nat.le_refl _
  | k, y :: ys => by
    have := bitsFrom_len cs p q x i (k + 1) ys
    rw [bitsFrom, List.length_append, List.length_cons]
    split
    · simp only [List.length_cons, List.length_nil]; omega
    · simp only [List.length_nil]; omega
theorem countT_le {n : Nat} : ∀ {l : List (List Bool)}, (∀ x ∈ l, x.length ≤ n) → countT l ≤ l.length * n
  | [], _ => Nat.zero_le _
  | x :: l, h => by
    have h1 := countT_le (l := l) fun y hy => h y (by simp [hy])
    have h2 := h x (by simp)
    have h3 : x.count true ≤ x.length := List.count_le_length
    simp only [countT, List.map_cons, List.sum_cons, List.length_cons, Nat.succ_mul] at *
    omega
def doubleB (b : Board) (m : List (Int × Int)) (p q : Nat) : Nat := countT (bitsAll b.cells p q (facesOf b m p) (facesOf b m q) 18)
theorem doubleB_le (b : Board) (m : List (Int × Int)) (p q : Nat) : doubleB b m p q ≤ 324 := by
  have h := countT_le (n := 18) (l := bitsAll b.cells p q (facesOf b m p) (facesOf b m q) 18) fun x hx => by
    obtain ⟨i, _, rfl⟩ := List.mem_map.1 hx
    have := bitsFrom_len b.cells p q ((facesOf b m p).getD i []) i 0 (facesOf b m q)
    rwa [facesOf_len] at this
  rw [bitsAll_len] at h
  exact h
def dblH (b : Board) (m : List (Int × Int)) (p q : Nat) (L : Nat) (l1 l2 : List (List Int)) : List Blk :=
  [.cells 0 (bdA b m), .cells 0 [.int .i64 p], .cells 0 [.int .i64 q], .cells 0 [.sl ⟨L + 5, l1.length⟩ 12 0 l1.length], .cells 0 [.sl ⟨L + 6, l2.length⟩ 12 0 l2.length], .cells l1.length (l1.flatMap cF), .cells l2.length (l2.flatMap cF)]
theorem dblH_below (b : Board) (m : List (Int × Int)) (p q L : Nat) (l1 l2 : List (List Int)) {n : Nat} (hn : L + 7 ≤ n) : (dblH b m p q L l1 l2).all (belowBlk n) = true := by
  have h1 : belowBlk n (.cells 0 (bdA b m)) = true := belowL_mono (Nat.zero_le n) _ (bdA_below b m)
  have h2 : ∀ l : List (List Int), belowBlk n (.cells l.length (l.flatMap cF)) = true := fun l => belowL_flat (f := cF) (fun _ => nums_below _) l
  simp only [dblH, List.all_cons, List.all_nil, h1, h2]
  simp only [belowBlk, belowL, below, Bool.and_true, Bool.true_and, decide_eq_true_eq, Bool.and_eq_true]
  omega
theorem loop_cut7 {h own e : List Blk} {a b c d f k g l i : Blk} : h ++ a :: b :: c :: d :: f :: k :: g :: i :: l :: (own ++ e) = (h ++ [a, b, c, d, f, k, g]) ++ i :: l :: (own ++ e) := by simp
theorem loop_cut9 {h own e : List Blk} {a b c d f k g l i m n : Blk} : h ++ a :: b :: c :: d :: f :: k :: g :: m :: n :: i :: l :: (own ++ e) = (h ++ [a, b, c, d, f, k, g, m, n]) ++ i :: l :: (own ++ e) := by simp
theorem cF_len {l : List (List Int)} (h : ∀ y ∈ l, y.length = 12) : (l.flatMap cF).length = l.length * 12 := length_rowsM fun y hy => by rw [cF, nums12_len, h y hy]
theorem take_face {l : List (List Int)} (h : ∀ y ∈ l, y.length = 12) (k : Nat) : ∀ y ∈ l.take k, y.length = 12 := fun y hy => h y (List.mem_of_mem_take hy)
def chB (x : Bool) : Blk := if x then .chan 1 else .cells 0 []
def varB (x y : Bool) (n : Nm) : Blk := if y then .cells 1 [.chan n] else if x then .cells 1 [.any] else .cells 0 []
def dblD (b : Board) (m : List (Int × Int)) (p q : Nat) (h : List Blk) (c0 c1 v0 v1 : Blk) : List Blk := h ++ (dblH b m p q h.length (facesOf b m p) (facesOf b m q) ++ [.defd, .dead, .defd, .dead, c0, c1, v0, v1])
section
variable {b : Board} {m : List (Int × Int)} {p q : Nat} {h : List Blk} {c0 c1 v0 v1 x : Blk}
theorem dblD_set0 : (dblD b m p q h c0 c1 v0 v1).set (h.length + 11) x = dblD b m p q h x c1 v0 v1 := by simp [dblD, dblH, hset]
theorem dblD_set1 : (dblD b m p q h c0 c1 v0 v1).set (h.length + 12) x = dblD b m p q h c0 x v0 v1 := by simp [dblD, dblH, hset]
theorem dblD_set2 : (dblD b m p q h c0 c1 v0 v1).set (h.length + 13) x = dblD b m p q h c0 c1 x v1 := by simp [dblD, dblH, hset]
theorem dblD_set3 : (dblD b m p q h c0 c1 v0 v1).set (h.length + 14) x = dblD b m p q h c0 c1 v0 x := by simp [dblD, dblH, hset]
theorem dblD_get0 : (dblD b m p q h c0 c1 v0 v1)[h.length + 11]? = some c0 := by unfold dblD; rw [hget]; rfl
theorem dblD_get1 : (dblD b m p q h c0 c1 v0 v1)[h.length + 12]? = some c1 := by unfold dblD; rw [hget]; rfl
theorem dblD_get2 : (dblD b m p q h c0 c1 v0 v1)[h.length + 13]? = some v0 := by unfold dblD; rw [hget]; rfl
theorem dblD_get3 : (dblD b m p q h c0 c1 v0 v1)[h.length + 14]? = some v1 := by unfold dblD; rw [hget]; rfl
end
theorem double_ok (b : Board) (m : List (Int × Int)) (ok : okBoard b) (p q : Nat) (hp : p < b.pages.length) (hq : q < b.pages.length) (h : List Blk) (hro : h[0]? = some (.role true)) : QuietAt 93 [.agg (bdA b m), .int .i64 p, .int .i64 q] h (.int .i64 (doubleB b m p q)) := by
  unfold QuietAt
  refine CallsA.of_wpe [] { shut := [27, 36], hand := [8, 9] } 63 mixed Tryz.func93 (by kernel_rfl) rfl (by kernel_rfl) fun j hB hA => ?_; simp only [junk_succ, junk_zero, List.cons_append, List.nil_append, List.length_cons, List.length_nil, Nat.reduceAdd]
  simp (implicitDefEqProofs := false) (dsimp := false) only [go_sem, bdA]
  (first | refine CallsA.use (laysOf_ok b m p) ?_ | refine QuietCalls.use (laysOf_ok b m p) ?_)
  simp (implicitDefEqProofs := false) (dsimp := false) only [go_sem]
  refine WPI.turn (Turns.nilCell (i := h.length + 3) (j := 0) (sz := 12) (by simp only; rw [hget]; rfl) rfl) ?_
  refine WPI.turn (Turns.nilCell (i := h.length + 4) (j := 0) (sz := 12) (by simp only [List.append_assoc]; rw [hset, List.append_assoc, hget]; rfl) rfl) ?_
  simp only [hset, List.append_assoc, List.set_cons_succ, List.set_cons_zero, List.cons_append, List.nil_append, List.length_append, List.length_cons, List.length_nil, Nat.zero_add, Nat.reduceAdd]
  refine WP.rangeIterN (h.length + 8) (by simp <;> omega)  (so := { shut := [27, 36], hand := [8, 9] }) mixed (by kernel_rfl) (by kernel_rfl) rfl rfl (call_laysOf1) rfl rfl (iter_ways b m p hp ok) (encW_len) (fun k h1 => h1 = h ++ dblH b m p q h.length ((facesOf b m p).take k) []) (fun _ _ => False) ?_ ?_ ?_ ?_ ?_ ?_
  · rintro k _ _ rfl
    exact mine_ok hB (by simp [dblH]) (dblH_below _ _ _ _ _ _ _ (by simp))
  · rintro _ _ _ ⟨⟩
  · simp [dblH, bdA, sliceOf]
  · rintro k _ own hk rfl hl2
    rw [List.length_map, ways_len] at hk
    have ex : ((ways b m p).map encW)[k]'(by rw [List.length_map, ways_len]; exact hk) = [.agg (cLay (layN p k)), .agg (nums12 (faceB m b.pages[p] b.cells (layN p k)))] := by simp [ways, wayN, encW, List.getD, hp]
    rw [ex]
    dsimp only
    have e12 : (faceB m b.pages[p] b.cells (layN p k)).length = 12 := face_len _ _ _ _
    have hl : (facesOf b m p).take (k + 1) = (facesOf b m p).take k ++ [faceB m b.pages[p] b.cells (layN p k)] := by
      rw [List.take_add_one, List.getElem?_eq_getElem (by rw [facesOf_len]; exact hk), facesOf_get hk]
      simp [List.getD, hp]
    rw [hl]
    have hcl := cF_len (take_face (facesOf_face (b := b) (m := m) (p := p)) k)
    have hkl : ((facesOf b m p).take k).length = k := by rw [List.length_take, facesOf_len]; omega
    simp (implicitDefEqProofs := false) (dsimp := false) only [go_sem, dblH, bdA, setM12 e12, nums_take e12, nums_leaf, nums12_len, e12, Nat.le_refl, hcl, hkl, nums_belowN]
    exact ⟨by omega, _, ⟨_, loop_cut7⟩, by simp [cF]⟩
  · rintro _ rfl
    rw [List.length_map, ways_len, List.take_of_length_le (by rw [facesOf_len]; exact Nat.le_refl _)]
    simp (implicitDefEqProofs := false) (dsimp := false) only [go_sem, dblH, bdA, facesOf_len]
    (first | refine CallsA.use (laysOf_ok b m q) ?_ | refine QuietCalls.use (laysOf_ok b m q) ?_)
    simp (implicitDefEqProofs := false) (dsimp := false) only [go_sem]
    refine WP.rangeIterN (h.length + 10) (by simp <;> omega)  (so := { shut := [27, 36], hand := [8, 9] }) mixed (by kernel_rfl) (by kernel_rfl) rfl rfl (call_laysOf1) rfl rfl (iter_ways b m q hq ok) (encW_len) (fun k h1 => h1 = h ++ (dblH b m p q h.length (facesOf b m p) ((facesOf b m q).take k) ++ [.defd, .dead])) (fun _ _ => False) ?_ ?_ ?_ ?_ ?_ ?_
    · rintro k _ _ rfl
      refine mine_ok hB (by simp [dblH]) ?_
      rw [List.all_append, dblH_below _ _ _ _ _ _ _ (by simp)]
      rfl
    · rintro _ _ _ ⟨⟩
    · simp [dblH, bdA, sliceOf, facesOf_len]
    · rintro k _ own hk rfl hl2
      rw [List.length_map, ways_len] at hk
      have ex : ((ways b m q).map encW)[k]'(by rw [List.length_map, ways_len]; exact hk) = [.agg (cLay (layN q k)), .agg (nums12 (faceB m b.pages[q] b.cells (layN q k)))] := by simp [ways, wayN, encW, List.getD, hq]
      rw [ex]
      dsimp only
      have e12 : (faceB m b.pages[q] b.cells (layN q k)).length = 12 := face_len _ _ _ _
      have hl : (facesOf b m q).take (k + 1) = (facesOf b m q).take k ++ [faceB m b.pages[q] b.cells (layN q k)] := by
        rw [List.take_add_one, List.getElem?_eq_getElem (by rw [facesOf_len]; exact hk), facesOf_get hk]
        simp [List.getD, hq]
      rw [hl]
      have hcl := cF_len (take_face (facesOf_face (b := b) (m := m) (p := q)) k)
      have hkl : ((facesOf b m q).take k).length = k := by rw [List.length_take, facesOf_len]; omega
      simp (implicitDefEqProofs := false) (dsimp := false) only [go_sem, dblH, bdA, setM12 e12, nums_take e12, nums_leaf, nums12_len, e12, Nat.le_refl, hcl, hkl, nums_belowN]
      exact ⟨by omega, _, ⟨_, loop_cut9⟩, by simp [cF]⟩
    · rintro _ rfl
      rw [List.length_map, ways_len, List.take_of_length_le (by rw [facesOf_len]; exact Nat.le_refl _)]
      simp (implicitDefEqProofs := false) (dsimp := false) only [go_sem, dblH, bdA, facesOf_len]
      refine WPI.turn Turns.reserve (WPI.turn Turns.reserve (WPI.turn Turns.reserve (WPI.turn Turns.reserve ?_)))
      simp only [List.append_assoc, List.cons_append, List.nil_append]
      refine WP.drawT (so := {}) 5 rfl mixed (by kernel_rfl) (by kernel_rfl) (by decide) (fun i => match i with | 0 => .chan ⟨h.length + 11, 1⟩ | 1 => .chan ⟨h.length + 12, 1⟩ | 2 => .ptr ⟨h.length + 13, 1⟩ 0 | 3 => .ptr ⟨h.length + 14, 1⟩ 0 | _ => .tup []) (fun L => dblD b m p q h (chB (L 0)) (chB (L 1)) (varB (L 2) (L 4) ⟨h.length + 11, 1⟩) (varB (L 3) false ⟨h.length + 12, 1⟩)) ?_ ?_ ?_
      · intro L hL
        rw [hL 0 (by decide), hL 1 (by decide), hL 2 (by decide), hL 3 (by decide), hL 4 (by decide)]
        simp [dblD, dblH, chB, varB, bdA, sliceOf, facesOf_len]
      · intro i o hi ho L hcl hw hLi
        have hi5 : i = 0 ∨ i = 1 ∨ i = 2 ∨ i = 3 ∨ i = 4 := by omega
        rcases hi5 with rfl | rfl | rfl | rfl | rfl
        · obtain rfl := Option.some.inj (show some _ = some o from ho)
          right
          have := FreeAt.makeChan (P := Tryz.prog) (fk := ⟨93, false, h.length⟩) ho rfl rfl ty190 rfl ty4 (dblD_get0 (b := b) (m := m) (p := p) (q := q) (h := h) (c0 := .cells 0 []) (c1 := chB (L 1)) (v0 := varB (L 2) (L 4) ⟨h.length + 11, 1⟩) (v1 := varB (L 3) false ⟨h.length + 12, 1⟩))
          rw [dblD_set0] at this
          rw [hLi]
          exact this
        · obtain rfl := Option.some.inj (show some _ = some o from ho)
          right
          have := FreeAt.makeChan (P := Tryz.prog) (fk := ⟨93, false, h.length⟩) ho rfl rfl ty190 rfl ty4 (dblD_get1 (b := b) (m := m) (p := p) (q := q) (h := h) (c0 := chB (L 0)) (c1 := .cells 0 []) (v0 := varB (L 2) (L 4) ⟨h.length + 11, 1⟩) (v1 := varB (L 3) false ⟨h.length + 12, 1⟩))
          rw [dblD_set1] at this
          rw [hLi]
          exact this
        · obtain rfl := Option.some.inj (show some _ = some o from ho)
          right
          have h4 : L 4 = false := by
            cases e : L 4 with
            | false => rfl
            | true => have := hcl 4 _ rfl e 2 (by kernel_rfl); rw [hLi] at this; cases this
          have := FreeAt.alloc (P := Tryz.prog) (fk := ⟨93, false, h.length⟩) ho rfl rfl ty190 rfl (dblD_get2 (b := b) (m := m) (p := p) (q := q) (h := h) (c0 := chB (L 0)) (c1 := chB (L 1)) (v0 := .cells 0 []) (v1 := varB (L 3) false ⟨h.length + 12, 1⟩))
          rw [dblD_set2] at this
          show FreeAt _ _ _ _ _ _ _ (dblD b m p q h (chB (L 0)) (chB (L 1)) (varB true (L 4) ⟨h.length + 11, 1⟩) (varB (L 3) false ⟨h.length + 12, 1⟩))
          rw [hLi, h4]
          exact this
        · obtain rfl := Option.some.inj (show some _ = some o from ho)
          right
          have := FreeAt.alloc (P := Tryz.prog) (fk := ⟨93, false, h.length⟩) ho rfl rfl ty190 rfl (dblD_get3 (b := b) (m := m) (p := p) (q := q) (h := h) (c0 := chB (L 0)) (c1 := chB (L 1)) (v0 := varB (L 2) (L 4) ⟨h.length + 11, 1⟩) (v1 := .cells 0 []))
          rw [dblD_set3] at this
          rw [hLi]
          exact this
        · obtain rfl := Option.some.inj (show some _ = some o from ho)
          left
          show OneG _ _ _ _ _ _ _ (dblD b m p q h (chB (L 0)) (chB (L 1)) (varB (L 2) true ⟨h.length + 11, 1⟩) (varB (L 3) false ⟨h.length + 12, 1⟩))
          rw [hw 0 (by kernel_rfl), hw 2 (by kernel_rfl), hw 3 (by kernel_rfl), hLi]
          show stepK (opE Tryz.prog (.store 190 (.tmp 13) (.tmp 38)) (evA _) _) _
          show stepK (storeE Tryz.prog 190 (.ptr ⟨h.length + 13, 1⟩ 0) (.chan ⟨h.length + 11, 1⟩) _) _
          simp only [storeE, ty190, valCells, dblD_get2, varB, if_true, Bool.false_eq_true, if_false, setMany, List.set_cons_zero, dblD_set2, stepK_some, List.all_cons, leafA, List.all_nil, List.length_cons, List.length_nil]
          simp
      · intro L h1 h2
        rw [h1 0 (by decide), h1 1 (by decide), h1 2 (by decide), h1 3 (by decide), h1 4 (by decide)]
        refine WPI.region_one (so := {}) (i := 5) rfl ?_
        simp only [slotsL, if_true, List.getElem?_toArray, List.getElem?_cons_zero, List.getElem?_cons_succ, Option.bind_some, putA_some, setN_16, setN_four, setN_one, setN_zero, dblD, dblH, chB, varB, Bool.false_eq_true, if_false, facesOf_len, List.cons_append, List.nil_append]
        simp (implicitDefEqProofs := false) (dsimp := false) only [go_sem, List.getElem_toArray, List.getElem_cons_succ, List.getElem_cons_zero]
        have hF1 := cF_len (facesOf_face (b := b) (m := m) (p := p))
        have hF2 := cF_len (facesOf_face (b := b) (m := m) (p := q))
        rw [facesOf_len] at hF1 hF2
        refine WPI.turn (Turns.seal_cell (i := h.length + 3) (g := 0) (j := 0) (a := .sl ⟨h.length + 5, 18⟩ 12 0 18) (a' := .psl ((facesOf b m p).flatMap cF) 18) (by simp only; rw [hget]; rfl) rfl (by simp only [sealV]; rw [hget]; simp only [List.getElem?_cons_succ, List.getElem?_cons_zero, if_true, List.drop_zero]; rw [List.take_of_length_le (by rw [hF1]; exact Nat.le_refl _)]) (by simp [nmOf])) ?_
        simp only [nmOf, hset, List.set_cons_succ, List.set_cons_zero]
        refine WPI.turn (Turns.seal_cell (i := h.length + 4) (g := 0) (j := 0) (a := .sl ⟨h.length + 6, 18⟩ 12 0 18) (a' := .psl ((facesOf b m q).flatMap cF) 18) (by simp only; rw [hget]; rfl) rfl (by simp only [sealV]; rw [hget]; simp only [List.getElem?_cons_succ, List.getElem?_cons_zero, if_true, List.drop_zero]; rw [List.take_of_length_le (by rw [hF2]; exact Nat.le_refl _)]) (by simp [nmOf])) ?_
        simp only [nmOf, hset, List.set_cons_succ, List.set_cons_zero]
        refine wp_shut [3, 4, 5, 7, 8, 13, 14] (so := { shut := [27, 36], }) mixed _ (by kernel_rfl) ?_
        simp (implicitDefEqProofs := false) (dsimp := false) only [go_sem]
        refine WP.loopI (fun (i : Nat) s => (i ≤ 18) ∧ s.sl.length = 66 ∧ s.df = [.mark ⟨h.length + 9, 0⟩, .mark ⟨h.length + 7, 0⟩] ∧ s.gh = { todo := (bitsAll b.cells p q (facesOf b m p) (facesOf b m q) i).map (msgs ⟨h.length + 11, 1⟩ ⟨h.length + 12, 1⟩) } ∧ (∃ k, s.hp = h ++ .dead :: .dead :: .dead :: .dead :: .dead :: .dead :: .dead :: .defd :: .dead :: .defd :: .dead :: .chan 1 :: .chan 1 :: k) ∧ evA s.sl (.tmp 3) = .pptr (bdA b m) ∧ evA s.sl (.tmp 4) = .pptr [.int .i64 p] ∧ evA s.sl (.tmp 5) = .pptr [.int .i64 q] ∧ evA s.sl (.tmp 7) = .pptr [.psl ((facesOf b m p).flatMap cF) 18] ∧ evA s.sl (.tmp 8) = .pptr [.psl ((facesOf b m q).flatMap cF) 18] ∧ evA s.sl (.tmp 13) = .pptr [.chan ⟨h.length + 11, 1⟩] ∧ evA s.sl (.tmp 14) = .pptr [.chan ⟨h.length + 12, 1⟩] ∧ evA s.sl (.tmp 40) = .psl ((facesOf b m p).flatMap cF) 18 ∧ evA s.sl (.tmp 41) = .int .i64 18 ∧ evA s.sl (.tmp 42) = .int .i64 i) (fun (i : Nat) => 18 - i) (0) ?_ ?_
        · simp (implicitDefEqProofs := false) (dsimp := false) only [go_sem, bdA, Nat.zero_le]
          rfl
        · rintro i ⟨sl, df, hp, gh⟩ ⟨ab, al, rfl, rfl, ah, a3, a4, a5, a7, a8, a13, a14, a40, a41, a42⟩
          simp only at ab al ah a3 a4 a5 a7 a8 a13 a14 a40 a41 a42
          obtain ⟨j, rfl⟩ := slots_lit al; clear al; simp only [junk_succ, junk_zero, evA_tmp, nth_16, nth_four, nth_one, nth_zero, Nat.zero_add, Nat.reduceAdd] at  a3 a4 a5 a7 a8 a13 a14 a40 a41 a42 ⊢
          refine wp_ok (so := { shut := [27, 36], hand := [8, 9] }) mixed _ (by kernel_rfl) ?_
          obtain ⟨k, rfl⟩ := ah
          by_cases hi : i < 18
          · have hs : ((i : Int) < 18) = True := eq_true (by omega)
            have hil : i < (facesOf b m p).length := by rw [facesOf_len]; exact hi
            have hy := facesOf_face _ (List.getElem_mem hil)
            have hcl : ∀ y ∈ facesOf b m p, (cF y).length = 12 := fun y hy => by rw [cF, nums12_len, facesOf_face y hy]
            have hr := drop_rowsM hcl hil
            have hrl : i * 12 ≤ ((facesOf b m p).flatMap cF).length := by rw [length_rowsM hcl]; omega
            have hTk : ∀ R, (nums12 (facesOf b m p)[i] ++ R).take 12 = nums12 (facesOf b m p)[i] := fun R => List.take_left' (by rw [nums12_len, hy])
            simp (implicitDefEqProofs := false) (dsimp := false) only [go_sem, a3, a4, a5, a7, a8, a13, a14, a40, a41, a42, bdA, hs, decide_true, hr, hrl, cF, hTk, nums12_len, hy, nums_leaf, setM12 hy, Nat.le_refl]
            refine ⟨by omega, ?_⟩
            refine wpi_shut [15, 16] ?_
            simp (implicitDefEqProofs := false) (dsimp := false) only [go_sem]
            refine WP.region_splitN (so := { shut := [27, 36], }) 1 [1] rfl (by decide) ?_
            simp (implicitDefEqProofs := false) (dsimp := false) only [go_sem]
            have hd := double1_ok b m ok.cells p q i _ hy (facesOf b m q) facesOf_face (by rw [facesOf_len]; omega) (by omega) ⟨h.length + 11, 1⟩ ⟨h.length + 12, 1⟩ ((h ++ .dead :: .dead :: .dead :: .dead :: .dead :: .dead :: .dead :: .defd :: .dead :: .defd :: .dead :: .chan 1 :: .chan 1 :: (k ++ [.dead, .dead]) : List Blk).map shareB) (by rw [List.map_append, List.getElem?_append_left (by simp; exact (List.getElem?_eq_some_iff.1 hro).1), List.getElem?_map, hro]; rfl) (by rw [List.getElem?_map, hget]; rfl) (by rw [List.getElem?_map, hget]; rfl)
            rw [sliceOf, facesOf_len] at hd
            refine WPI.goN (ri := 0) _ (by rw [List.getElem?_append_left (List.getElem?_eq_some_iff.1 hro).1]; exact hro) rfl rfl rfl rfl rfl (msgs_ne _ _ _) (fun x hx => ?_) hd ?_
            · rcases msgs_mem hx with e | e <;> rw [e, hget] <;> rfl
            · simp (implicitDefEqProofs := false) (dsimp := false) only [go_sem]
              refine ⟨i + 1, ⟨by omega, ?_, wrap_succ (by omega)⟩, by omega⟩
              rw [bitsAll_succ, List.map_append]
              simp [List.getD, hil]
          · have hs : ((i : Int) < 18) = False := eq_false (by omega)
            have ei : i = 18 := by omega
            subst ei
            simp (implicitDefEqProofs := false) (dsimp := false) only [go_sem, a3, a4, a5, a7, a8, a13, a14, a40, a41, a42, bdA, hs, decide_false]
            refine WP.loopI (fun (y : Nat × List (List Bool)) s => (y.1 + countT y.2 = doubleB b m p q ∧ y.2.length ≤ 18) ∧ s.sl.length = 66 ∧ s.df = [.mark ⟨h.length + 9, 0⟩, .mark ⟨h.length + 7, 0⟩] ∧ s.gh = { todo := y.2.map (msgs ⟨h.length + 11, 1⟩ ⟨h.length + 12, 1⟩) } ∧ (∃ k, s.hp = h ++ .dead :: .dead :: .dead :: .dead :: .dead :: .dead :: .dead :: .defd :: .dead :: .defd :: .dead :: .chan 1 :: .chan 1 :: k) ∧ evA s.sl (.tmp 13) = .pptr [.chan ⟨h.length + 11, 1⟩] ∧ evA s.sl (.tmp 14) = .pptr [.chan ⟨h.length + 12, 1⟩] ∧ evA s.sl (.tmp 17) = .int .i64 y.1 ∧ evA s.sl (.tmp 18) = .int .i64 y.2.length) (fun (y : Nat × List (List Bool)) => (y.2.map fun l => l.length + 1).sum) ((0, bitsAll b.cells p q (facesOf b m p) (facesOf b m q) 18)) ?_ ?_
            · simp (implicitDefEqProofs := false) (dsimp := false) only [go_sem, bitsAll_len]
              rfl
            · rintro ⟨n, Ls⟩ ⟨sl, df, hp, gh⟩ ⟨eb, el, rfl, rfl, eh, e13, e14, e17, e18⟩
              simp only at eb el eh e13 e14 e17 e18
              obtain ⟨j, rfl⟩ := slots_lit el; clear el; simp only [junk_succ, junk_zero, evA_tmp, nth_16, nth_four, nth_one, nth_zero, Nat.zero_add, Nat.reduceAdd] at  e13 e14 e17 e18 ⊢
              refine wp_ok (so := { shut := [27, 36], hand := [8, 9] }) mixed _ (by kernel_rfl) ?_
              obtain ⟨k, rfl⟩ := eh
              obtain ⟨eb, el18⟩ := eb
              cases Ls with
              | nil =>
                simp (implicitDefEqProofs := false) (dsimp := false) only [go_sem, e13, e14, e17, e18, List.map_nil]
                have hn : n = doubleB b m p q := by simpa [countT] using eb
                rw [hn]
                exact quiet_fine hB rfl
              | cons l0 Ls0 =>
                have hgt : ((((l0 :: Ls0).length : Nat) : Int) > 0) = True := eq_true (by simp)
                simp (implicitDefEqProofs := false) (dsimp := false) only [go_sem, e13, e14, e17, e18, hgt, decide_true]
                refine ⟨fun _ => ?_, fun hc => absurd (by omega : ((Ls0.length + 1 : Nat) : Int) > 0) hc⟩
                refine WP.region ?_
                show WPI _ _ [.inRegion _ [0, 1, 2, 3]] _ _
                refine WPI.selectN (ri := 0) (n0 := ⟨h.length + 11, 1⟩) (n1 := ⟨h.length + 12, 1⟩) (by rw [List.getElem?_append_left (List.getElem?_eq_some_iff.1 hro).1]; exact hro) rfl rfl rfl rfl rfl rfl (by rw [hget]; rfl) (by rw [hget]; rfl) (by simp) ty4 ty4 rfl rfl rfl rfl (by kernel_rfl) (by kernel_rfl) (by simp) ?_ ?_
                · intro ms hms
                  rw [← List.map_cons] at hms
                  obtain ⟨l, _, rfl⟩ := List.mem_map.1 hms
                  cases l with
                  | nil => exact ⟨_, _, _, rfl, .inr rfl⟩
                  | cons b l => exact ⟨_, _, _, rfl, .inl rfl⟩
                · intro T1 nn bv r T2 heq
                  rw [← List.map_cons] at heq
                  obtain ⟨L1, Lr, hL, rfl, hr⟩ := List.map_eq_append_iff.1 heq
                  obtain ⟨l, L2, rfl, hms, rfl⟩ := List.map_eq_cons_iff.1 hr
                  have hlen : L1.length + (L2.length + 1) = Ls0.length + 1 := by have := congrArg List.length hL; simpa using this.symm
                  have hcnt : countT (l0 :: Ls0) = countT L1 + (l.count true + countT L2) := by rw [hL]; simp [countT]
                  have hmea : ((l0 :: Ls0).map fun l => l.length + 1).sum = (L1.map fun l => l.length + 1).sum + (l.length + 1 + (L2.map fun l => l.length + 1).sum) := by rw [hL]; simp
                  refine ⟨?_, ?_⟩
                  · rintro rfl
                    cases l with
                    | nil => simp [msgs] at hms
                    | cons x l =>
                      rw [msgs_cons] at hms
                      simp only [List.cons.injEq, Prod.mk.injEq, true_and, Value.bool.injEq] at hms
                      obtain ⟨rfl, rfl⟩ := hms
                      rw [restA, if_neg (msgs_ne _ _ _)]
                      refine WPI.region_from (so := {}) 1 rfl ?_
                      simp (implicitDefEqProofs := false) (dsimp := false) only [go_sem]
                      have hmx : countT (L1 ++ l :: L2) + (if x = true then 1 else 0) = countT (l0 :: Ls0) := by
                        rw [hcnt]
                        simp only [countT, List.map_append, List.map_cons, List.sum_append, List.sum_cons, List.count_cons]
                        cases x <;> simp <;> omega
                      have hme : ((L1 ++ l :: L2).map fun l => l.length + 1).sum < ((l0 :: Ls0).map fun l => l.length + 1).sum := by
                        rw [hmea]
                        simp only [List.map_append, List.map_cons, List.sum_append, List.sum_cons, List.length_cons]
                        omega
                      have hln : (L1 ++ l :: L2).length = Ls0.length + 1 := by simp only [List.length_append, List.length_cons]; omega
                      have hbd := doubleB_le b m p q
                      simp only [List.map_cons] at hme
                      refine ⟨fun hx => ?_, fun hx => ?_⟩
                      · rw [if_pos hx] at hmx
                        exact ⟨(n + 1, L1 ++ l :: L2), ⟨⟨by simp only; omega, by simp only; rw [hln]; simpa using el18⟩, by simp, wrap_succ (by omega), by simp only; rw [hln]⟩, hme⟩
                      · rw [if_neg (by simp [hx])] at hmx
                        exact ⟨(n, L1 ++ l :: L2), ⟨⟨by simp only; omega, by simp only; rw [hln]; simpa using el18⟩, by simp, rfl, by simp only; rw [hln]⟩, hme⟩
                  · rintro rfl
                    cases l with
                    | cons x l => simp [msgs] at hms
                    | nil =>
                      simp only [msgs, List.map_nil, List.nil_append, List.cons.injEq, Prod.mk.injEq, true_and, Value.bool.injEq] at hms
                      obtain ⟨rfl, rfl⟩ := hms
                      rw [restA, if_pos rfl]
                      refine WPI.region_from (so := {}) 1 rfl ?_
                      simp (implicitDefEqProofs := false) (dsimp := false) only [go_sem]
                      have hmx : countT (L1 ++ L2) = countT (l0 :: Ls0) := by
                        rw [hcnt]
                        simp [countT]
                      have hme : ((L1 ++ L2).map fun l => l.length + 1).sum < ((l0 :: Ls0).map fun l => l.length + 1).sum := by
                        rw [hmea]
                        simp only [List.map_append, List.sum_append, List.length_nil]
                        omega
                      have hln : (L1 ++ L2).length = Ls0.length := by simp only [List.length_append]; omega
                      simp only [List.map_cons] at hme
                      have h18 : Ls0.length + 1 ≤ 18 := by simpa using el18
                      exact ⟨(n, L1 ++ L2), ⟨⟨by simp only; omega, by simp only; omega⟩, by simp, rfl, by simp only; rw [hln, wrap64 (by omega) (by omega)]; omega⟩, hme⟩
    · rintro _ _ ⟨⟩
  · rintro _ _ ⟨⟩
end Go.Mac
namespace Go.Mac
open Go Go.Conc Go.Proofs
set_option maxRecDepth 4000
def inPages (b : Board) (p : Int) : Bool := decide (0 ≤ p) && decide (p < b.pages.length)
def DoubleR (b : Board) (p q : Int) : Int × Int :=
  if boardErr b ≠ 0 then (0, boardErr b) else if inPages b p = false ∨ inPages b q = false then (0, 3) else (doubleB b (mapB b.glyphs) p.toNat q.toNat, 0)
def pairA (x : Int × Int) : AV := .tup [.int .i64 x.1, .int .i64 x.2]
theorem Double_ok (b : Board) (p q : Int) (h : List Blk) (hro : h[0]? = some (.role true)) : QuietAt 38 [.agg (brdA b), .int .i64 p, .int .i64 q] h (pairA (DoubleR b p q)) := by
  unfold QuietAt
  refine CallsA.of_wpe [] { cut := [22] } 29 mixed Tryz.func38 (by kernel_rfl) rfl (by kernel_rfl) fun j hB hA => ?_; simp only [junk_succ, junk_zero, List.cons_append, List.nil_append, List.length_cons, List.length_nil, Nat.reduceAdd]
  simp (implicitDefEqProofs := false) (dsimp := false) only [go_sem, brdA]
  refine open_use (fun e0 => ?_) (fun e1 e2 x y z t f1 f2 f3 f4 => ?_)
  · simp (implicitDefEqProofs := false) (dsimp := false) only [go_sem, bdA]
    (first | refine CallsA.use (hasPage_ok b _ p) ?_ | refine QuietCalls.use (hasPage_ok b _ p) ?_)
    simp (implicitDefEqProofs := false) (dsimp := false) only [go_sem, e0]
    refine ⟨fun c1 => ?_, fun c1 => ?_⟩
    · have c2 : inPages b p = false := by simpa only [inPages, Bool.not_eq_true'] using c1
      rw [show DoubleR b p q = (0, 3) by rw [DoubleR, if_neg (by simp [e0]), if_pos (.inl c2)]]
      exact quiet_fine hB rfl
    · have c2 : inPages b p = true := by simpa only [inPages, Bool.not_eq_false'] using c1
      (first | refine CallsA.use (hasPage_ok b _ q) ?_ | refine QuietCalls.use (hasPage_ok b _ q) ?_)
      simp (implicitDefEqProofs := false) (dsimp := false) only [go_sem, e0]
      refine ⟨fun d1 => ?_, fun d1 => ?_⟩
      · have d2 : inPages b q = false := by simpa only [inPages, Bool.not_eq_true'] using d1
        rw [show DoubleR b p q = (0, 3) by rw [DoubleR, if_neg (by simp [e0]), if_pos (.inr d2)]]
        exact quiet_fine hB rfl
      · have d2 : inPages b q = true := by simpa only [inPages, Bool.not_eq_false'] using d1
        have hR : DoubleR b p q = ((doubleB b (mapB b.glyphs) p.toNat q.toNat : Int), 0) := by rw [DoubleR, if_neg (by simp [e0]), if_neg (by simp [c2, d2])]
        rw [hR]
        simp only [inPages, Bool.and_eq_true, decide_eq_true_eq] at c2 d2
        obtain ⟨p, rfl⟩ : ∃ n : Nat, p = n := ⟨p.toNat, by omega⟩
        obtain ⟨q, rfl⟩ : ∃ n : Nat, q = n := ⟨q.toNat, by omega⟩
        refine QuietAt.use (double_ok b _ (okBoard.of e0) p q (by omega) (by omega) _ (by rw [List.getElem?_append_left (List.getElem?_eq_some_iff.1 hro).1]; exact hro)) ?_
        simp (implicitDefEqProofs := false) (dsimp := false) only [go_sem]
        exact quiet_fine hB rfl
  · simp only [leafA] at f1 f2 f3 f4
    simp (implicitDefEqProofs := false) (dsimp := false) only [go_sem, f1, f2, f3, f4, e2]
    rw [show DoubleR b p q = (0, boardErr b) by rw [DoubleR, if_pos e1]]
    exact quiet_fine hB rfl
end Go.Mac
namespace Go.Mac
open Go Go.Conc Go.Proofs
set_option maxRecDepth 4000
def updI : List (Int × Int) → Int → Int → List (Int × Int)
  | [], v, x => [(v, x)]
  | p :: m, v, x => if v == p.1 then (v, x) :: m else p :: updI m v x
theorem inkB_cons (p : Int × Int) (m : List (Int × Int)) (w : Int) : inkB (p :: m) w = if w == p.1 then p.2 else inkB m w := by
  unfold inkB
  rw [List.find?_cons]
  cases w == p.1 <;> rfl
theorem inkB_upd {v x w : Int} : ∀ {m : List (Int × Int)}, inkB (updI m v x) w = if w = v then x else inkB m w
  | [] => by
    rw [updI, inkB_cons]
    simp only [beq_iff_eq]
  | p :: m => by
    rw [updI]
    by_cases h : v = p.1
    · subst h
      simp only [beq_self_eq_true, if_true]
      rw [inkB_cons, inkB_cons]
      simp only [beq_iff_eq]
      split <;> simp_all
    · simp only [beq_iff_eq, h, if_false]
      rw [inkB_cons, inkB_cons, inkB_upd]
      simp only [beq_iff_eq]
      by_cases hw : w = p.1
      · subst hw
        have h' : ¬ p.1 = v := fun e => h e.symm
        simp [h']
      · simp [hw]
theorem updI_some {v x : Int} : ∀ {m : List (Int × Int)} {j : Nat}, m.findIdx? (fun p => v == p.1) = some j → updI m v x = m.set j (v, x) ∧ (m.map fun p => (AV.int .i64 p.1))[j]? = some (.int .i64 v) ∧ ((m.set j (v, x)).map fun p => (AV.int .i64 p.1)) = m.map fun p => .int .i64 p.1
  | [], j, h => by cases h
  | p :: m, j, h => by
    rw [List.findIdx?_cons] at h
    by_cases hv : v = p.1
    · subst hv
      simp only [beq_self_eq_true, if_true, Option.some.injEq] at h
      subst h
      simp [updI]
    · simp only [beq_iff_eq, hv, if_false, Option.map_eq_some_iff] at h
      obtain ⟨i, hi, rfl⟩ := h
      obtain ⟨h1, h2, h3⟩ := updI_some (x := x) hi
      simp only [updI, beq_iff_eq, hv, if_false, h1]
      refine ⟨rfl, by simpa using h2, ?_⟩
      simp only [List.set_cons_succ, List.map_cons, h3]
theorem updI_none {v x : Int} : ∀ {m : List (Int × Int)}, m.findIdx? (fun p => v == p.1) = none → updI m v x = m ++ [(v, x)]
  | [], _ => rfl
  | p :: m, h => by
    rw [List.findIdx?_cons] at h
    by_cases hv : v = p.1
    · subst hv; simp at h
    · simp only [beq_iff_eq, hv, if_false, Option.map_eq_none_iff] at h
      simp only [updI, beq_iff_eq, hv, if_false, updI_none h, List.cons_append]
def kI (m : List (Int × Int)) : List AV := m.map fun p => .int .i64 p.1
def vI (m : List (Int × Int)) : List AV := m.map fun p => .int .i64 p.2
theorem fits3 : zeroFits Tryz.prog 3 = true := by kernel_rfl
theorem lookI {m : List (Int × Int)} {c : Int} {h : List Blk} {n : Nat} (hn : h[n]? = some (.map (kI m) (vI m))) : lookupE Tryz.prog 123 (.map ⟨n, 0⟩) (.int .i64 c) false h = some (True, .int .i64 (inkB m c), h) := by
  simp only [lookupE, ty123, ty110, ty3, mapOf, hn, kI, vI, findA_int (g := fun p : Int × Int => p.1) ty110 rfl, fits3, eqA_int (n := 5) ty110 rfl, beq_self_eq_true, zeroA, aggD, and_self, Bool.false_eq_true, if_false, List.getD_cons_zero, gotA_ink, if_true]
theorem updMapI {m : List (Int × Int)} {c v : Int} {h : List Blk} {n : Nat} (hn : h[n]? = some (.map (kI m) (vI m))) :
    mapUpdateE Tryz.prog 123 (.map ⟨n, 0⟩) (.int .i64 c) (.int .i64 v) h = some (True, .tup [], h.set n (.map (kI (updI m c v)) (vI (updI m c v)))) := by
  simp only [mapUpdateE, ty123, ty110, hn, eqA_int (n := 5) ty110 rfl, beq_self_eq_true, and_self]
  have hf : findA Tryz.prog 110 (.int .i64 c) (kI m) 0 = some ((m.findIdx? fun p => c == p.1).map (· + 0)) := findA_int (g := fun p : Int × Int => p.1) ty110 rfl
  cases hx : m.findIdx? fun p => c == p.1 with
  | none =>
    rw [hf, hx, updI_none hx]
    simp [kI, vI]
  | some j =>
    obtain ⟨h1, h2, h3⟩ := updI_some (x := v) hx
    rw [hf, hx, h1]
    simp only [Option.map_some, Nat.add_zero, kI, vI]
    rw [h3]
    simp [h2, List.map_set]
def mostTo (l : List Int) (k : Nat) : Nat := (List.range k).foldl (fun a i => max a ((l.take (i + 1)).count (l.getD i 0))) 0
theorem mostTo_succ (l : List Int) (k : Nat) : mostTo l (k + 1) = max (mostTo l k) ((l.take (k + 1)).count (l.getD k 0)) := by simp [mostTo, List.range_succ]
theorem mostTo_le (l : List Int) : ∀ k, mostTo l k ≤ k
  | 0 => by simp [mostTo]
  | k + 1 => by
    rw [mostTo_succ]
    have h1 := mostTo_le l k
    have h2 : (l.take (k + 1)).count (l.getD k 0) ≤ (l.take (k + 1)).length := List.count_le_length
    have h3 : (l.take (k + 1)).length ≤ k + 1 := by simp; omega
    omega
def atC (fs : List (List Int)) (i : Nat) : List Int := fs.map fun f => f.getD i 0
theorem next1_ok (fs : List (List Int)) (hf : ∀ f ∈ fs, f.length = 12) (hl : fs.length ≤ 1000) (r c : Nat) (hr : r < 3) (hc : c < 4) : PureA Tryz.prog 73 [.agg [.int .i64 r, .int .i64 c], .pptr [sliceOf cF fs]] (.int .i64 (mostTo (atC fs (4 * r + c)) fs.length)) := by
  refine PureA.of_wpp {} 32 mixed Tryz.func73 (by kernel_rfl) rfl (by kernel_rfl) (rfl) fun h j hB => ?_
  simp only [junk_succ, junk_zero, List.cons_append, List.nil_append, List.length_cons, List.length_nil, Nat.reduceAdd]
  simp (implicitDefEqProofs := false) (dsimp := false) only [go_sem]
  refine WP.loopI (fun (k : Nat) s => (k ≤ fs.length) ∧ s.sl.length = 34 ∧ s.df = [] ∧ s.gh = {} ∧ (∃ m e, s.hp = h ++ .cells 0 [.int .i64 r, .int .i64 c] :: .map (kI m) (vI m) :: e ∧ ∀ v, inkB m v = (((atC fs (4 * r + c)).take k).count v : Nat)) ∧ evA s.sl (.tmp 2) = .ptr ⟨h.length, 0⟩ 0 ∧ evA s.sl (.tmp 4) = .map ⟨h.length + 1, 0⟩ ∧ evA s.sl (.tmp 5) = .int .i64 (mostTo (atC fs (4 * r + c)) k) ∧ evA s.sl (.tmp 10) = sliceOf cF fs ∧ evA s.sl (.tmp 11) = .int .i64 fs.length ∧ evA s.sl (.tmp 12) = .int .i64 k) (fun (k : Nat) => fs.length - k) (0) ?_ ?_
  · simp (implicitDefEqProofs := false) (dsimp := false) only [go_sem, Nat.zero_le]
    exact ⟨⟨[], [], ⟨rfl, rfl⟩, fun v => rfl⟩, rfl⟩
  · rintro k ⟨sl, df, hp, gh⟩ ⟨ab, al, rfl, rfl, ah, a2, a4, a5, a10, a11, a12⟩
    simp only at ab al ah a2 a4 a5 a10 a11 a12
    obtain ⟨j, rfl⟩ := slots_lit al; clear al; simp only [junk_succ, junk_zero, evA_tmp, nth_16, nth_four, nth_one, nth_zero, Nat.zero_add, Nat.reduceAdd] at  a2 a4 a5 a10 a11 a12 ⊢
    refine wp_ok (so := {}) mixed _ (by kernel_rfl) ?_
    obtain ⟨m, e, rfl, hm⟩ := ah
    by_cases hk : k < fs.length
    · have hy := hf _ (List.getElem_mem hk)
      have hcl : ∀ y ∈ fs, (cF y).length = 12 := fun y hy => by rw [cF, nums12_len, hf y hy]
      have hd := drop_rowsM hcl hk
      have hrl : k * 12 ≤ (fs.flatMap cF).length := by rw [length_rowsM hcl]; omega
      have hTk : ∀ R, (nums12 fs[k] ++ R).take 12 = nums12 fs[k] := fun R => List.take_left' (by rw [nums12_len, hy])
      have hat := nums12_at hy (show r * 4 + c < 12 by omega)
      simp (implicitDefEqProofs := false) (dsimp := false) only [go_sem, a2, a4, a5, a10, a11, a12, nat_lt hk, decide_true, hd, hrl, cF, hTk, nums12_len, hy, nums_leaf, setM12 hy, Nat.le_refl, hat, lookI (m := m), updMapI (m := m), lookI (m := updI m (fs[k].getD (r * 4 + c) 0) (IntKind.i64.wrap (inkB m (fs[k].getD (r * 4 + c) 0) + 1))), inkB_upd]
      have hat2 : (atC fs (4 * r + c)).getD k 0 = fs[k].getD (r * 4 + c) 0 := by
        rw [show r * 4 + c = 4 * r + c by omega]
        simp [atC, List.getD, hk]
      have hak : k < (atC fs (4 * r + c)).length := by simpa [atC] using hk
      have htk : (atC fs (4 * r + c)).take (k + 1) = (atC fs (4 * r + c)).take k ++ [fs[k].getD (r * 4 + c) 0] := by
        rw [List.take_add_one, List.getElem?_eq_getElem hak]
        rw [List.getD_eq_getElem?_getD, List.getElem?_eq_getElem hak] at hat2
        simp only [Option.getD_some] at hat2
        rw [hat2]; rfl
      have hcnt : ∀ v, ((atC fs (4 * r + c)).take (k + 1)).count v = ((atC fs (4 * r + c)).take k).count v + if fs[k].getD (r * 4 + c) 0 = v then 1 else 0 := fun v => by
        rw [htk, List.count_append, List.count_singleton]
        simp
      have hle : ∀ v, ((atC fs (4 * r + c)).take k).count v ≤ k := fun v => by
        have h1 : ((atC fs (4 * r + c)).take k).count v ≤ ((atC fs (4 * r + c)).take k).length := List.count_le_length
        have h2 : ((atC fs (4 * r + c)).take k).length ≤ k := by simp; omega
        omega
      have hml := mostTo_le (atC fs (4 * r + c)) k
      generalize fs[k].getD (r * 4 + c) 0 = v0 at *
      have hw : IntKind.i64.wrap (inkB m v0 + 1) = (((atC fs (4 * r + c)).take (k + 1)).count v0 : Nat) := by
        have := hle v0
        rw [hm, wrap_succ (by omega), hcnt]; simp
      rw [hw]
      refine ⟨by omega, by omega, by omega, k + 1, ⟨by omega, ⟨_, _, ⟨rfl, rfl⟩, fun v => ?_⟩, ?_, wrap_succ (by omega)⟩, by omega⟩
      · rw [inkB_upd]
        split
        · rename_i e; subst e; rfl
        · rename_i e; rw [hm, hcnt, if_neg (fun x => e x.symm)]; rfl
      · rw [mostTo_succ, hat2]
        simp only [List.foldl_cons, List.foldl_nil]
        split <;> omega
    · have hs : ((k : Int) < (fs.length : Int)) = False := eq_false (by omega)
      have ek : k = fs.length := by omega
      subst ek
      simp (implicitDefEqProofs := false) (dsimp := false) only [go_sem, a2, a4, a5, a10, a11, a12, hs, decide_false]
def countF (fs : List (List Int)) : AV := .fn (.func 73) [] [.pptr [sliceOf cF fs]]
def few2 (fs : List (List Int)) : Option (Nat × Nat × Nat) → List AV
  | some (r, c, n) => [.int .i64 r, .int .i64 c, .int .i64 n, .bool true, countF fs]
  | none => [.int .i64 0, .int .i64 0, .int .i64 0, .bool false, countF fs]
def take2 (o : Option (Nat × Nat × Nat)) (r c n : Nat) : Option (Nat × Nat × Nat) :=
  match o with
  | none => some (r, c, n)
  | some (r', c', n') => if n < n' then some (r, c, n) else some (r', c', n')
theorem countF_below (fs : List (List Int)) (n : Nat) : below n (countF fs) = true := by
  have := belowL_flat (n := n) (f := cF) (fun _ => nums_below _) fs
  simp [countF, below, belowL, sliceOf, this]
theorem few2_below (fs : List (List Int)) (o : Option (Nat × Nat × Nat)) (n : Nat) : belowBlk n (.cells 0 (few2 fs o)) = true := by
  have := countF_below fs n
  cases o with
  | none => simp [belowBlk, few2, below, belowL, this]
  | some e => obtain ⟨r, c, k⟩ := e; simp [belowBlk, few2, below, belowL, this]
theorem call_next1 : callable Tryz.prog 73 = True := eq_true ⟨_, Tryz.func73, rfl, rfl⟩
theorem take2_ok (n : Nat) (fs : List (List Int)) (hf : ∀ f ∈ fs, f.length = 12) (hl : fs.length ≤ 1000) (r c : Nat) (hr : r < 3) (hc : c < 4) (o : Option (Nat × Nat × Nat)) (h : List Blk) (hn : h[n]? = some (.cells 0 (few2 fs o))) : CallsA Tryz.prog 74 [.ptr ⟨n, 0⟩ 0, .agg [.int .i64 r, .int .i64 c]] h fun e h' => e = .ret (.tup []) ∧ h' = h.set n (.cells 0 (few2 fs (take2 o r c (mostTo (atC fs (4 * r + c)) fs.length)))) := by
  have hlt : n < h.length := (List.getElem?_eq_some_iff.1 hn).1
  refine CallsA.of_wpe [] { cut := [16], tail := [(1, 5)] } 33 mixed Tryz.func74 (by kernel_rfl) rfl (by kernel_rfl) fun j hB hA => ?_; simp only [junk_succ, junk_zero, List.cons_append, List.nil_append, List.length_cons, List.length_nil, Nat.reduceAdd]
  have hn2 : ∀ k, (h ++ k)[n]? = some (.cells 0 (few2 fs o)) := fun k => by rw [List.getElem?_append_left hlt]; exact hn
  have hg2 : ∀ b k, (h.set n b ++ k)[n]? = some b := fun b k => by rw [List.getElem?_append_left (by simpa using hlt), List.getElem?_set_self hlt]
  have hs2 : ∀ k b, (h ++ k).set n b = h.set n b ++ k := fun k b => by rw [List.set_append_left _ _ hlt]
  have hs3 : ∀ k a b, (h.set n a ++ k).set n b = h.set n b ++ k := fun k a b => by rw [List.set_append_left _ _ (by simpa using hlt), List.set_set]
  have hone := next1_ok fs hf hl r c hr hc
  generalize mostTo (atC fs (4 * r + c)) fs.length = mm at hone ⊢
  cases o with
  | none =>
    simp only [few2] at hn2
    simp (implicitDefEqProofs := false) (dsimp := false) only [go_sem, hn2, countF, call_next1]
    (first | refine CallsA.use (hone) ?_ | refine QuietCalls.use (hone) ?_)
    simp (implicitDefEqProofs := false) (dsimp := false) only [go_sem, hn2, hs2, hg2, hs3, countF]
    exact set_fine (b := .cells 0 (few2 fs (some (r, c, mm)))) (v := .tup []) hB (few2_below _ _ _) rfl
  | some e =>
    obtain ⟨r', c', n'⟩ := e
    simp only [few2] at hn2
    simp (implicitDefEqProofs := false) (dsimp := false) only [go_sem, hn2, countF, call_next1]
    (first | refine CallsA.use (hone) ?_ | refine QuietCalls.use (hone) ?_)
    simp (implicitDefEqProofs := false) (dsimp := false) only [go_sem, hn2, hs2, hg2, hs3, countF]
    refine ⟨fun hc => ?_, fun hc => ?_⟩
    · have e : take2 (some (r', c', n')) r c mm = some (r, c, mm) := if_pos (by omega)
      rw [e]
      exact set_fine (b := .cells 0 (few2 fs (some (r, c, mm)))) (v := .tup []) hB (few2_below _ _ _) rfl
    · have e : take2 (some (r', c', n')) r c mm = some (r', c', n') := if_neg (by omega)
      rw [e, set_same hn]
      exact quiet_fine hB rfl
def nextTo (fs : List (List Int)) (w k : Nat) : Option (Nat × Nat × Nat) := (List.range k).foldl (fun o i => if i % 4 < w then take2 o (i / 4) (i % 4) (mostTo (atC fs i) fs.length) else o) none
theorem nextTo_succ (fs : List (List Int)) (w k : Nat) : nextTo fs w (k + 1) = if k % 4 < w then take2 (nextTo fs w k) (k / 4) (k % 4) (mostTo (atC fs k) fs.length) else nextTo fs w k := by simp [nextTo, List.range_succ]
theorem nextTo_skip {fs : List (List Int)} {w n : Nat} : ∀ {m : Nat}, (∀ k, n ≤ k → k < n + m → ¬ k % 4 < w) → nextTo fs w (n + m) = nextTo fs w n
  | 0, _ => rfl
  | m + 1, h => by
    rw [← Nat.add_assoc, nextTo_succ, if_neg (h (n + m) (by omega) (by omega))]
    exact nextTo_skip fun k h1 h2 => h k h1 (by omega)
def NextR (b : Board) : Int × Int × Int × Int :=
  if boardErr b ≠ 0 then (0, 0, 0, boardErr b) else if (laysB b).length = 0 then (0, 0, 0, 9) else
    match nextTo ((laysB b).map Prod.snd) (b.cells.headD []).length (4 * b.cells.length) with
    | some (r, c, n) => if n = (laysB b).length then (0, 0, 0, 11) else (r, c, n, 0)
    | none => (0, 0, 0, 0)
def quadA (x : Int × Int × Int × Int) : AV := .tup [.int .i64 x.1, .int .i64 x.2.1, .int .i64 x.2.2.1, .int .i64 x.2.2.2]
theorem face_slice (l : List (Lay × List Int)) : sliceOf cFaceF l = sliceOf cF (l.map Prod.snd) := by
  simp only [sliceOf, List.length_map, List.flatMap_map]
  rfl
theorem Next_ok (b : Board) : PureA Tryz.prog 25 [.agg (brdA b)] (quadA (NextR b)) := by
  refine PureA.of_wpp { hand := [7] } 65 mixed Tryz.func25 (by kernel_rfl) rfl (by kernel_rfl) (rfl) fun h j hB => ?_
  simp only [junk_succ, junk_zero, List.cons_append, List.nil_append, List.length_cons, List.length_nil, Nat.reduceAdd]
  simp (implicitDefEqProofs := false) (dsimp := false) only [go_sem, brdA]
  refine open_use (fun e0 => ?_) (fun e1 e2 x y z t f1 f2 f3 f4 => ?_)
  · simp (implicitDefEqProofs := false) (dsimp := false) only [go_sem, bdA]
    have ok := okBoard.of e0
    have hok := rights_ok b (mapB b.glyphs) ok
    rw [face_slice, show rightsB b (mapB b.glyphs) = laysB b from rfl] at hok
    have hfl : ((laysB b).map Prod.snd).length = (laysB b).length := List.length_map _
    have hff : ∀ f ∈ (laysB b).map Prod.snd, f.length = 12 := by
      intro f hf
      obtain ⟨x, hx, rfl⟩ := List.mem_map.1 hf
      obtain ⟨i, hi, rfl⟩ := List.mem_iff_getElem.1 (List.mem_filter.1 hx).1
      exact allWays_face i hi
    have hll : (laysB b).length ≤ 72 := by
      have h1 : (laysB b).length ≤ (allWays b (mapB b.glyphs)).length := List.length_filter_le _ _
      rw [allWays_len] at h1
      have := ok.most
      omega
    (first | refine CallsA.use (hok) ?_ | refine QuietCalls.use (hok) ?_)
    simp (implicitDefEqProofs := false) (dsimp := false) only [go_sem, e0, hfl, len_eq0]
    refine ⟨fun c0 => ?_, fun c0 => ?_⟩
    · rw [NextR, if_neg (by simp [e0]), if_pos c0]
      rfl
    have c0' : (laysB b).length ≠ 0 := by simpa using c0
    have hNR : NextR b = match nextTo ((laysB b).map Prod.snd) (b.cells.headD []).length (4 * b.cells.length) with
        | some (r, c, n) => if n = (laysB b).length then (0, 0, 0, 11) else (r, c, n, 0)
        | none => (0, 0, 0, 0) := by rw [NextR, if_neg (by simp [e0]), if_neg c0']
    rw [← hfl] at c0' hNR
    have hll' : ((laysB b).map Prod.snd).length ≤ 1000 := by omega
    generalize hfs : (laysB b).map Prod.snd = fs at *
    refine wp_shut [8] (so := { }) mixed _ (by kernel_rfl) ?_
    simp (implicitDefEqProofs := false) (dsimp := false) only [go_sem, call_next1]
    have q1 := ok.cells.most
    have q2 := ok.cells.wmost
    refine WP.loopI (fun (i : Nat) s => (i ≤ b.cells.length) ∧ s.sl.length = 66 ∧ s.df = [] ∧ s.gh = {} ∧ (s.hp = h ++ [.cells 0 (brdA b), .cells 0 (bdA b (mapB b.glyphs)), .dead, .cells 0 (few2 fs (nextTo fs (b.cells.headD []).length (4 * i)))]) ∧ evA s.sl (.tmp 6) = .ptr ⟨h.length + 1, 0⟩ 0 ∧ evA s.sl (.tmp 8) = .pptr [.psl (fs.flatMap cF) (laysB b).length] ∧ evA s.sl (.tmp 9) = .ptr ⟨h.length + 3, 0⟩ 0 ∧ evA s.sl (.tmp 33) = .int .i64 b.cells.length ∧ evA s.sl (.tmp 34) = .int .i64 i) (fun (i : Nat) => b.cells.length - i) (0) ?_ ?_
    · simp (implicitDefEqProofs := false) (dsimp := false) only [go_sem, brdA, bdA, Nat.zero_le]
      rw [← hfl]
      rfl
    · rintro i ⟨sl, df, hp, gh⟩ ⟨ab, al, rfl, rfl, rfl, a6, a8, a9, a33, a34⟩
      simp only at ab al a6 a8 a9 a33 a34
      obtain ⟨j, rfl⟩ := slots_lit al; clear al; simp only [junk_succ, junk_zero, evA_tmp, nth_16, nth_four, nth_one, nth_zero, Nat.zero_add, Nat.reduceAdd] at  a6 a8 a9 a33 a34 ⊢
      refine wp_ok (so := { hand := [7] }) mixed _ (by kernel_rfl) ?_
      by_cases hi : i < b.cells.length
      · have hw := ok.cells.row hi
        simp (implicitDefEqProofs := false) (dsimp := false) only [go_sem, a6, a8, a9, a33, a34, bdA, nat_lt hi, decide_true, row1 cTraces_len hi, row1_le cTraces_len hi, hi, cTraces]
        refine WP.loopI (fun (c : Nat) s => (c ≤ (b.cells.headD []).length) ∧ s.sl.length = 66 ∧ s.df = [] ∧ s.gh = {} ∧ (s.hp = h ++ [.cells 0 (brdA b), .cells 0 (bdA b (mapB b.glyphs)), .dead, .cells 0 (few2 fs (nextTo fs (b.cells.headD []).length (4 * i + c)))]) ∧ evA s.sl (.tmp 6) = .ptr ⟨h.length + 1, 0⟩ 0 ∧ evA s.sl (.tmp 8) = .pptr [.psl (fs.flatMap cF) (laysB b).length] ∧ evA s.sl (.tmp 9) = .ptr ⟨h.length + 3, 0⟩ 0 ∧ evA s.sl (.tmp 10) = .int .i64 i ∧ evA s.sl (.tmp 33) = .int .i64 b.cells.length ∧ evA s.sl (.tmp 34) = .int .i64 i ∧ evA s.sl (.tmp 43) = .int .i64 (b.cells.headD []).length ∧ evA s.sl (.tmp 44) = .int .i64 c) (fun (c : Nat) => (b.cells.headD []).length - c) (0) ?_ ?_
        · simp (implicitDefEqProofs := false) (dsimp := false) only [go_sem, brdA, bdA, Nat.zero_le, hw]
        · rintro c ⟨sl, df, hp, gh⟩ ⟨eb, el, rfl, rfl, rfl, e6, e8, e9, e10, e33, e34, e43, e44⟩
          simp only at eb el e6 e8 e9 e10 e33 e34 e43 e44
          obtain ⟨j, rfl⟩ := slots_lit el; clear el; simp only [junk_succ, junk_zero, evA_tmp, nth_16, nth_four, nth_one, nth_zero, Nat.zero_add, Nat.reduceAdd] at  e6 e8 e9 e10 e33 e34 e43 e44 ⊢
          refine wp_ok (so := { hand := [7] }) mixed _ (by kernel_rfl) ?_
          by_cases hc : c < (b.cells.headD []).length
          · simp (implicitDefEqProofs := false) (dsimp := false) only [go_sem, e6, e8, e9, e10, e33, e34, e43, e44, bdA, nat_lt hc, decide_true]
            refine (take2_ok _ fs hff hll' i c (by omega) (by omega) (nextTo fs (b.cells.headD []).length (4 * i + c)) _ (by rw [hget]; rfl)).mono ?_
            rintro _ _ ⟨rfl, rfl⟩
            simp (implicitDefEqProofs := false) (dsimp := false) only [go_sem, bdA]
            refine ⟨c + 1, ⟨by omega, ?_, wrap_succ (by omega)⟩, by omega⟩
            rw [← Nat.add_assoc, nextTo_succ, if_pos (by omega), show (4 * i + c) / 4 = i by omega, show (4 * i + c) % 4 = c by omega]
          · have hs : ((c : Int) < ((b.cells.headD []).length : Int)) = False := eq_false (by omega)
            simp (implicitDefEqProofs := false) (dsimp := false) only [go_sem, e6, e8, e9, e10, e33, e34, e43, e44, bdA, hs, decide_false]
            refine ⟨i + 1, ⟨by omega, ?_, wrap_succ (by omega)⟩, by omega⟩
            rw [show 4 * (i + 1) = 4 * i + c + (4 - c) by omega, nextTo_skip (n := 4 * i + c) (m := 4 - c) (by intro k _ _; omega)]
      · have hs : ((i : Int) < (b.cells.length : Int)) = False := eq_false (by omega)
        have ei : i = b.cells.length := by omega
        subst ei
        generalize nextTo fs (b.cells.headD []).length (4 * b.cells.length) = o at *
        cases o with
        | none =>
          simp (implicitDefEqProofs := false) (dsimp := false) only [go_sem, a6, a8, a9, a33, a34, bdA, hs, decide_false, few2]
          rw [hNR]
          exact ⟨fun hc => by omega, fun _ => rfl⟩
        | some x =>
          obtain ⟨r, c, n⟩ := x
          simp (implicitDefEqProofs := false) (dsimp := false) only [go_sem, a6, a8, a9, a33, a34, bdA, hs, decide_false, few2]
          rw [hNR]
          refine ⟨fun hc => ?_, fun hc => ?_⟩
          · simp only
            rw [if_pos (by omega)]; rfl
          · simp only
            rw [if_neg (by rw [beq_eq_false_iff_ne] at hc; omega)]; rfl
  · simp only [leafA] at f1 f2 f3 f4
    simp (implicitDefEqProofs := false) (dsimp := false) only [go_sem, f1, f2, f3, f4, e2]
    rw [NextR, if_pos e1]
    rfl
end Go.Mac
namespace Go.Mac
open Go Go.Conc Go.Proofs
set_option maxRecDepth 4000
def noGoto (Q : AExit → AS → Prop) : AExit → AS → Prop
  | .goto _, _ => False
  | e, s => Q e s
theorem WP.scope {P : Program} {fn : FK} {Q : AExit → AS → Prop} {s : AS} {a : Code} (h : WP P fn a (noGoto Q) s) : WP P fn (.scope a) Q s := by
  refine WPI.idle [.code a, .inScope a] (fun _ _ _ _ _ _ _ _ _ => by simp [G, stepG, stepG.exec, at']) ?_
  intro main Stop b k cs base c w tmps ds h1 h2 h3 h4
  refine h main Stop b (.inScope a :: k) cs base c w tmps ds h1 h2 h3 fun e s' c' w' tmps' ds' q r y => ?_
  cases e with
  | normal => exact Go'.idle rfl rfl (fun w1 => by simp [G, stepG, stepG.exec, at']) (h4 .normal s' c' w' tmps' ds' q r y)
  | exit id' =>
    have x := h4 (.exit id') s' c' w' tmps' ds' q r y
    exact fun k' hk => x k' (by rw [hk]; simp [exitTo])
  | goto l => exact q.elim
  | ret => exact h4 .ret s' c' w' tmps' ds' q r y
  | panic v => exact h4 (.panic v) s' c' w' tmps' ds' q r y
section
variable {P : Program} {so : Opt} {k : FK} {K : AExit → AS → Prop} {s : AS}
theorem wp_scope {a : Code} : wp P so k (.scope a) K s = WPI P k [.code (.scope a)] K (tag s) := by simp only [wp]; rfl
theorem wp_label {l : Nat} : wp P so k (.label l) K s = K .normal s := by simp only [wp]
theorem noGoto_normal : noGoto K .normal s = K .normal s := rfl
theorem noGoto_exit {id : Nat} : noGoto K (.exit id) s = K (.exit id) s := rfl
theorem noGoto_ret : noGoto K .ret s = K .ret s := rfl
theorem noGoto_panic {v : AV} : noGoto K (.panic v) s = K (.panic v) s := rfl
end
attribute [go_sem ↓] wp_scope wp_label noGoto_normal noGoto_exit noGoto_ret noGoto_panic
theorem eqAll_some : ∀ l : List Bool, eqAll (l.map some) = some (l.all id)
  | [] => rfl
  | true :: l => by simp only [List.map_cons, eqAll, eqAll_some l, List.all_cons, id, Bool.true_and]
  | false :: l => rfl
theorem under_ty {P : Program} {t : TypeId} {f : TF} (h : tyT P t = some f) : P.underlying t = some f.d := (tyT_some h).choose_spec.2.1
theorem eqRow {d : Nat} {a0 a1 a2 a3 b0 b1 b2 b3 : Int} : eqA Tryz.prog (d + 2) 111 (.agg [.int .i64 a0, .int .i64 a1, .int .i64 a2, .int .i64 a3]) (.agg [.int .i64 b0, .int .i64 b1, .int .i64 b2, .int .i64 b3]) = some (a0 == b0 && (a1 == b1 && (a2 == b2 && a3 == b3))) := by
  have hu := under_ty ty111
  have e : ∀ a b : Int, eqA Tryz.prog (d + 1) 110 (.int .i64 a) (.int .i64 b) = some (a == b) := fun a b => eqA_int ty110 rfl
  have hl : List.range 4 = [0, 1, 2, 3] := rfl
  have hq := eqAll_some [a0 == b0, a1 == b1, a2 == b2, a3 == b3]
  simp only [List.map_cons, List.map_nil] at hq
  unfold eqA
  simp only [hu, ty111, ty110, hl, List.map_cons, List.map_nil, partA, aggD, Bool.false_eq_true, if_false, Nat.zero_mul, Nat.one_mul, Nat.mul_one, List.getD_cons_zero, List.getD_cons_succ, e]
  rw [hq]
  simp
theorem lit12 {f : List Int} (h : f.length = 12) : ∃ a0 a1 a2 a3 a4 a5 a6 a7 a8 a9 a10 a11, f = [a0, a1, a2, a3, a4, a5, a6, a7, a8, a9, a10, a11] := by
  match f, h with
  | [a0, a1, a2, a3, a4, a5, a6, a7, a8, a9, a10, a11], _ => exact ⟨_, _, _, _, _, _, _, _, _, _, _, _, rfl⟩
theorem eqFace {d : Nat} {f g : List Int} (hf : f.length = 12) (hg : g.length = 12) : eqA Tryz.prog (d + 3) 113 (.agg (nums12 f)) (.agg (nums12 g)) = some (f == g) := by
  obtain ⟨a0, a1, a2, a3, a4, a5, a6, a7, a8, a9, a10, a11, rfl⟩ := lit12 hf
  obtain ⟨b0, b1, b2, b3, b4, b5, b6, b7, b8, b9, b10, b11, rfl⟩ := lit12 hg
  have hu := under_ty ty113
  have hl : List.range 3 = [0, 1, 2] := rfl
  have hq := fun x y z : Bool => eqAll_some [x, y, z]
  simp only [List.map_cons, List.map_nil] at hq
  unfold eqA
  simp only [hu, ty113, nums12, List.map_cons, List.map_nil, hl, ty111, partA, aggD, if_true, Nat.zero_mul, Nat.one_mul, Nat.reduceMul, List.drop_zero, List.drop_succ_cons, List.take_succ_cons, List.take_zero, eqRow]
  rw [hq]
  congr 1
  rw [Bool.eq_iff_iff]
  simp [and_assoc]
theorem findFace {y : List Int} (hy : y.length = 12) : ∀ {l : List (List Int)} {i : Nat}, (∀ f ∈ l, f.length = 12) → findA Tryz.prog 113 (.agg (nums12 y)) (l.map fun f => .agg (nums12 f)) i = some ((l.findIdx? fun f => y == f).map (· + i))
  | [], i, _ => rfl
  | f :: l, i, h => by
    simp only [List.map_cons, findA, eqFace (d := 3) hy (h f (by simp)), List.findIdx?_cons]
    cases hc : (y == f) with
    | true => simp
    | false =>
      simp only [findFace hy (l := l) fun g hg => h g (by simp [hg]), Bool.false_eq_true, if_false, Option.map_map]
      congr 2
      funext x
      simp only [Function.comp]
      omega
def kF (l : List (List Int)) : List AV := l.map fun f => .agg (nums12 f)
def vF (l : List (List Int)) : List AV := l.map fun _ => .bool true
theorem fits4 : zeroFits Tryz.prog 4 = true := by kernel_rfl
theorem gotF {y : List Int} : ∀ {l : List (List Int)}, gotA ((l.findIdx? fun f => y == f).map (· + 0)) (vF l) (.bool false) = .bool (l.contains y)
  | [] => rfl
  | f :: l => by
    rw [List.findIdx?_cons, List.contains_cons]
    cases hc : (y == f) with
    | true => rfl
    | false =>
      have := gotF (y := y) (l := l)
      simp only [Bool.false_eq_true, if_false, Bool.false_or]
      rw [← this]
      cases hi : l.findIdx? (fun f => y == f) <;> simp [gotA, vF]
theorem lookF {l : List (List Int)} {y : List Int} {h : List Blk} {n : Nat} (hy : y.length = 12) (hl : ∀ f ∈ l, f.length = 12) (hn : h[n]? = some (.map (kF l) (vF l))) : lookupE Tryz.prog 109 (.map ⟨n, 0⟩) (.agg (nums12 y)) false h = some (True, .bool (l.contains y), h) := by
  simp only [lookupE, ty109, ty113, ty4, mapOf, hn, kF, findFace hy hl, fits4, eqFace (d := 3) hy hy, beq_self_eq_true, zeroA, aggD, and_self, Bool.false_eq_true, if_false, List.getD_cons_zero, gotF, if_true]
def insF (l : List (List Int)) (y : List Int) : List (List Int) := if l.contains y then l else l ++ [y]
theorem updF {l : List (List Int)} {y : List Int} {h : List Blk} {n : Nat} (hy : y.length = 12) (hl : ∀ f ∈ l, f.length = 12) (hn : h[n]? = some (.map (kF l) (vF l))) :
    mapUpdateE Tryz.prog 109 (.map ⟨n, 0⟩) (.agg (nums12 y)) (.bool true) h = some (True, .tup [], h.set n (.map (kF (insF l y)) (vF (insF l y)))) := by
  simp only [mapUpdateE, ty109, ty113, hn, eqFace (d := 3) hy hy, beq_self_eq_true, and_self]
  have hf : findA Tryz.prog 113 (.agg (nums12 y)) (kF l) 0 = some ((l.findIdx? fun f => y == f).map (· + 0)) := findFace hy hl
  cases hx : l.findIdx? fun f => y == f with
  | none =>
    rw [hf, hx]
    have hc : l.contains y = false := by
      rw [List.findIdx?_eq_none_iff] at hx
      rw [← Bool.not_eq_true, List.contains_iff_mem]
      intro hm
      have := hx y hm
      simp at this
    simp only [Option.map_none, insF, hc, Bool.false_eq_true, if_false, kF, vF, List.map_append, List.map_cons, List.map_nil]
  | some j =>
    rw [hf, hx]
    obtain ⟨h1, h2, _⟩ := List.findIdx?_eq_some_iff_getElem.1 hx
    have hyj : y = l[j] := by simpa using h2
    have hc : l.contains y = true := by rw [List.contains_iff_mem, hyj]; exact List.getElem_mem h1
    have hv : (vF l).set j (.bool true) = vF l := by
      apply List.ext_getElem?
      intro i
      rw [List.getElem?_set]
      by_cases hij : j = i
      · subst hij; simp [vF, h1]
      · simp [hij]
    simp only [Option.map_some, Nat.add_zero, hv, insF, hc, if_true]
    simp [kF, h1, ← hyj]
def marksIn (L : Nat) (k : List Blk) : Nat → List ADef → Prop
  | _, [] => True
  | hi, .mark n :: df => n.gen = 0 ∧ ∃ i, n.id = L + i ∧ i < hi ∧ k[i]? = some .defd ∧ marksIn L k i df
  | _, .call .. :: _ => False
theorem marksIn_more {L : Nat} {k x : List Blk} : ∀ {hi hi' : Nat} {df : List ADef}, hi ≤ hi' → hi ≤ k.length → marksIn L k hi df → marksIn L (k ++ x) hi' df
  | _, _, [], _, _, _ => trivial
  | _, _, .mark n :: df, h1, h2, ⟨q1, i, q2, q3, q4, q5⟩ => ⟨q1, i, q2, by omega, by rw [List.getElem?_append_left (by omega)]; exact q4, marksIn_more (Nat.le_refl _) (by omega) q5⟩
  | _, _, .call .. :: _, _, _, q => q.elim
theorem marksIn_at {h k : List Blk} {a b c d : Blk} : ∀ {hi : Nat} {df : List ADef}, marksIn (h.length + 4) k hi df → marksAt (h.length + 4) (h ++ a :: b :: c :: d :: k) (h.length + 4 + hi) df
  | _, [], _ => trivial
  | _, .mark n :: df, ⟨q1, i, q2, q3, q4, q5⟩ => by
    refine ⟨q1, by omega, by omega, ?_, ?_⟩
    · rw [q2, show h.length + 4 + i = h.length + (i + 4) by omega, hget]
      exact q4
    · rw [q2]; exact marksIn_at q5
  | _, .call .. :: _, q => q.elim
theorem marksIn_loop {L : Nat} {k x y : List Blk} {df : List ADef} {n : Nat} (hm : marksIn L k k.length df) (hn : n = L + (k ++ x).length) (hxy : x.length = y.length) : marksIn L (k ++ (y ++ [Blk.defd, Blk.dead])) (k ++ (y ++ [Blk.defd, Blk.dead])).length (.mark ⟨n, 0⟩ :: df) := by
  refine ⟨rfl, (k ++ x).length, hn, by simp [hxy], ?_, marksIn_more (by simp) (Nat.le_refl _) hm⟩
  rw [List.length_append, hxy, List.getElem?_append_right (by omega), Nat.add_sub_cancel_left, hget0]; rfl
def z12 : List Int := [0, 0, 0, 0, 0, 0, 0, 0, 0, 0, 0, 0]
def alikeP (b : Board) (m : List (Int × Int)) (p q : Nat) : Bool := (facesOf b m q).any fun y => y != z12 && (facesOf b m p).contains y
def alikeRow (b : Board) (m : List (Int × Int)) (p n : Nat) : List (Int × Int) := ((List.range' (p + 1) n).filter (alikeP b m p)).map fun (q : Nat) => ((p : Int), (q : Int))
def alikeTo (b : Board) (m : List (Int × Int)) (n : Nat) : List (Int × Int) := (List.range n).flatMap fun p => alikeRow b m p (b.pages.length - (p + 1))
def alikeB (b : Board) (m : List (Int × Int)) : List (Int × Int) := alikeTo b m b.pages.length
theorem alikeTo_succ (b : Board) (m : List (Int × Int)) (n : Nat) : alikeTo b m (n + 1) = alikeTo b m n ++ alikeRow b m n (b.pages.length - (n + 1)) := by simp [alikeTo, List.range_succ]
theorem alikeRow_succ (b : Board) (m : List (Int × Int)) (p n : Nat) : alikeRow b m p (n + 1) = alikeRow b m p n ++ if alikeP b m p (p + 1 + n) = true then [((p : Int), ((p + 1 + n : Nat) : Int))] else [] := by
  unfold alikeRow
  rw [List.range'_concat, List.filter_append, List.map_append]
  congr 1
  rw [Nat.one_mul, List.filter_cons]
  split <;> simp
theorem alikeRow_len (b : Board) (m : List (Int × Int)) (p n : Nat) : (alikeRow b m p n).length ≤ n := by
  unfold alikeRow
  rw [List.length_map]
  have := List.length_filter_le (alikeP b m p) (List.range' (p + 1) n)
  simpa using this
theorem alikeTo_len (b : Board) (m : List (Int × Int)) (n : Nat) : (alikeTo b m n).length ≤ n * b.pages.length := by
  induction n with
  | zero => simp [alikeTo]
  | succ n ih =>
    rw [alikeTo_succ, List.length_append, Nat.succ_mul]
    have := alikeRow_len b m n (b.pages.length - (n + 1))
    omega
def alikeH (b : Board) (l : List (Int × Int)) (L : Nat) (k : List Blk) : List Blk :=
  .cells 0 (brdA b) :: .cells 0 (bdA b (mapB b.glyphs)) :: .cells 0 [.sl ⟨L + 3, l.length⟩ 1 0 l.length] :: .cells l.length (l.flatMap cPair) :: k
theorem all_swap {P : Blk → Bool} {h k x y : List Blk} {a b c d : Blk} (hb : (h ++ a :: b :: c :: d :: (k ++ x)).all P = true) (hy : y.all P = true) : (h ++ a :: b :: c :: d :: (k ++ y)).all P = true := by
  simp only [List.all_append, List.all_cons, Bool.and_eq_true] at *
  exact ⟨hb.1, hb.2.1, hb.2.2.1, hb.2.2.2.1, hb.2.2.2.2.1, hb.2.2.2.2.2.1, hy⟩
theorem all_swap2 {P : Blk → Bool} {h x : List Blk} {a b c d c' d' : Blk} (hb : (h ++ a :: b :: c :: d :: x).all P = true) (hc : P c' = true) (hd : P d' = true) : (h ++ a :: b :: c' :: d' :: x).all P = true := by
  simp only [List.all_append, List.all_cons, Bool.and_eq_true] at *
  exact ⟨hb.1, hb.2.1, hb.2.2.1, hc, hd, hb.2.2.2.2.2⟩
theorem marksIn_snoc {L : Nat} {k e w : List Blk} {x y z : Blk} {df : List ADef} (h : marksIn L (k ++ x :: y :: z :: e) (k ++ x :: y :: z :: e).length df) : marksIn L (k ++ x :: y :: z :: (e ++ w)) (k ++ x :: y :: z :: (e ++ w)).length df := by
  have e1 : k ++ x :: y :: z :: (e ++ w) = (k ++ x :: y :: z :: e) ++ w := by simp
  rw [e1]
  exact marksIn_more (by simp) (Nat.le_refl _) h
theorem kF_below (l : List (List Int)) {n : Nat} : belowL n (kF l) = true := by
  rw [belowL_all, List.all_eq_true]; intro x hx
  obtain ⟨f, _, rfl⟩ := List.mem_map.1 hx
  simp only [below]; exact nums_belowN f
theorem vF_below (l : List (List Int)) {n : Nat} : belowL n (vF l) = true := by
  rw [belowL_all, List.all_eq_true]; intro x hx
  obtain ⟨f, _, rfl⟩ := List.mem_map.1 hx
  rfl
theorem eqGuardF : (Tryz.prog.eqGuardType Tryz.prog.depth 113 = false) = True := eq_true (by kernel_rfl)
theorem loop_cutK {h k own e : List Blk} {a b c d x y z g l : Blk} : h ++ a :: b :: c :: d :: (k ++ x :: y :: z :: g :: l :: (own ++ e)) = (h ++ a :: b :: c :: d :: (k ++ [x, y, z])) ++ g :: l :: (own ++ e) := by simp
theorem loop_cutE {h k own e m : List Blk} {a b c d x y z w g l : Blk} : h ++ a :: b :: c :: d :: (k ++ x :: y :: z :: (m ++ w :: g :: l :: (own ++ e))) = (h ++ a :: b :: c :: d :: (k ++ x :: y :: z :: (m ++ [w]))) ++ g :: l :: (own ++ e) := by simp
theorem mem_insF {l : List (List Int)} {y v : List Int} : v ∈ insF l y ↔ v ∈ l ∨ v = y := by
  unfold insF
  split
  · rename_i h
    rw [List.contains_iff_mem] at h
    exact ⟨.inl, fun e => e.elim id fun e => e ▸ h⟩
  · simp
def alikeR (b : Board) : List (Int × Int) := if boardErr b = 0 then alikeB b (mapB b.glyphs) else []
theorem Alike_ok (b : Board) : PureA Tryz.prog 20 [.agg (brdA b)] (.tup [sliceOf cPair (alikeR b), .int .i64 (boardErr b)]) := by
  refine PureA.of_wpe [2] { shut := [61, 62] } 66 mixed Tryz.func20 (by kernel_rfl) rfl (by kernel_rfl) (by simp only [below, belowL, below_psl (f := cPair) (fun _ => rfl) _, Bool.and_self]) fun h j hB => ?_
  simp only [junk_succ, junk_zero, List.cons_append, List.nil_append, List.length_cons, List.length_nil, Nat.reduceAdd]
  simp (implicitDefEqProofs := false) (dsimp := false) only [go_sem, brdA]
  refine open_use (fun e0 => ?_) (fun e1 e2 x y z t f1 f2 f3 f4 => ?_)
  · simp (implicitDefEqProofs := false) (dsimp := false) only [go_sem, bdA, e0]
    have ok := okBoard.of e0
    rw [show alikeR b = alikeB b (mapB b.glyphs) from if_pos e0]
    refine WPI.turn (Turns.nilCell (i := h.length + 2) (j := 0) (sz := 1) (by simp only; rw [hget]; rfl) rfl) ?_
    simp only [hset, List.append_assoc, List.set_cons_succ, List.set_cons_zero, List.cons_append, List.nil_append, List.length_append, List.length_cons, List.length_nil, Nat.zero_add, Nat.reduceAdd]
    have q1 := ok.most
    refine WP.loopI (fun (p : Nat) s => (p ≤ b.pages.length) ∧ s.sl.length = 67 ∧ True ∧ s.gh = {} ∧ (∃ k, s.hp = h ++ alikeH b (alikeTo b (mapB b.glyphs) p) h.length k ∧ marksIn (h.length + 4) k k.length s.df) ∧ evA s.sl (.tmp 4) = .ptr ⟨h.length + 1, 0⟩ 0 ∧ evA s.sl (.tmp 6) = .ptr ⟨h.length + 2, 0⟩ 0 ∧ evA s.sl (.tmp 25) = .int .i64 b.pages.length ∧ evA s.sl (.tmp 26) = .int .i64 p) (fun (p : Nat) => b.pages.length - p) (0) ?_ ?_
    · simp (implicitDefEqProofs := false) (dsimp := false) only [go_sem, bdA, Nat.zero_le, alikeH]
      exact ⟨[], ⟨rfl, rfl, ⟨rfl, rfl⟩, rfl⟩, trivial⟩
    · rintro p ⟨sl, df, hp, gh⟩ ⟨ab, al, ad, rfl, ah, a4, a6, a25, a26⟩
      simp only at ab al ah ad a4 a6 a25 a26
      obtain ⟨j, rfl⟩ := slots_lit al; clear al; simp only [junk_succ, junk_zero, evA_tmp, nth_16, nth_four, nth_one, nth_zero, Nat.zero_add, Nat.reduceAdd] at  a4 a6 a25 a26 ⊢
      refine wp_ok (so := { shut := [61, 62] }) mixed _ (by kernel_rfl) ?_
      obtain ⟨k, rfl, hmk⟩ := ah
      have hlen := alikeTo_len b (mapB b.glyphs) p
      by_cases hp : p < b.pages.length
      · simp (implicitDefEqProofs := false) (dsimp := false) only [go_sem, a4, a6, a25, a26, alikeH, bdA, nat_lt hp, decide_true]
        refine WP.scope ?_
        refine wp_ok (so := { shut := [61, 62] }) mixed _ (by kernel_rfl) ?_
        simp (implicitDefEqProofs := false) (dsimp := false) only [go_sem]
        (first | refine CallsA.use (laysOf_ok b _ p) ?_ | refine QuietCalls.use (laysOf_ok b _ p) ?_)
        simp (implicitDefEqProofs := false) (dsimp := false) only [go_sem]
        refine WP.rangeIterN (h.length + (k.length + 4 + 1 + 1 + 1 + 1)) (by simp <;> omega)  (so := { shut := [61, 62] }) mixed (by kernel_rfl) (by kernel_rfl) rfl rfl (call_laysOf1) rfl rfl (iter_ways b _ p hp ok) (encW_len) (fun n h1 => ∃ S : List (List Int), h1 = h ++ alikeH b (alikeTo b (mapB b.glyphs) p) h.length (k ++ [.cells 0 [.int .i64 p], .map (kF S) (vF S), .cells 0 [.map ⟨h.length + (k.length + 1 + 1 + 1 + 1 + 1), 0⟩]]) ∧ ∀ y, y ∈ S ↔ y ≠ z12 ∧ y ∈ (facesOf b (mapB b.glyphs) p).take n) (fun _ _ => False) ?_ ?_ ?_ ?_ ?_ ?_
        · rintro n _ hb ⟨S, rfl, _⟩
          refine ⟨by simp [alikeH], all_swap hb ?_⟩
          simp only [List.all_cons, List.all_nil, belowBlk, kF_below, vF_below, belowL, below, Bool.and_true, Bool.true_and, decide_eq_true_eq, List.length_append, List.length_cons, List.length_nil]
          omega
        · rintro _ _ _ ⟨⟩
        · exact ⟨[], by simp [alikeH, kF, vF, bdA, sliceOf], by simp⟩
        · rintro n _ own hn ⟨S, rfl, hS⟩ hl2
          rw [List.length_map, ways_len] at hn
          have ex : ((ways b (mapB b.glyphs) p).map encW)[n]'(by rw [List.length_map, ways_len]; exact hn) = [.agg (cLay (layN p n)), .agg (nums12 (faceB (mapB b.glyphs) b.pages[p] b.cells (layN p n)))] := by simp [ways, wayN, encW, List.getD, hp]
          rw [ex]
          dsimp only
          have e12 : (faceB (mapB b.glyphs) b.pages[p] b.cells (layN p n)).length = 12 := face_len _ _ _ _
          have hl : (facesOf b (mapB b.glyphs) p).take (n + 1) = (facesOf b (mapB b.glyphs) p).take n ++ [faceB (mapB b.glyphs) b.pages[p] b.cells (layN p n)] := by
            rw [List.take_add_one, List.getElem?_eq_getElem (by rw [facesOf_len]; exact hn), facesOf_get hn]
            simp [List.getD, hp]
          rw [hl]
          have hS12 : ∀ f ∈ S, f.length = 12 := fun f hf => facesOf_face _ (List.mem_of_mem_take ((hS f).1 hf).2)
          have zeq : [AV.int .i64 0, .int .i64 0, .int .i64 0, .int .i64 0, .int .i64 0, .int .i64 0, .int .i64 0, .int .i64 0, .int .i64 0, .int .i64 0, .int .i64 0, .int .i64 0] = nums12 z12 := rfl
          generalize faceB (mapB b.glyphs) b.pages[p] b.cells (layN p n) = y at e12 ⊢
          have hq := eqFace (d := 3) e12 (show z12.length = 12 from rfl)
          simp (implicitDefEqProofs := false) (dsimp := false) only [go_sem, alikeH, bdA, setM12 e12, nums_take e12, nums_leaf, nums12_len, e12, Nat.le_refl, zeq, setMany12 (t := nums12 z12) rfl e12, hq, eqGuardF, show z12.length = 12 from rfl, lookF e12 hS12, updF e12 hS12]
          refine ⟨fun hc => ⟨_, ⟨_, loop_cutK⟩, insF S y, rfl, fun v => ?_⟩, fun hc => ⟨_, ⟨_, loop_cutK⟩, S, rfl, fun v => ?_⟩⟩
          · have hc' : y ≠ z12 := by simpa using hc
            rw [mem_insF, hS v, List.mem_append, List.mem_singleton]
            constructor
            · rintro (⟨h1, h2⟩ | rfl)
              · exact ⟨h1, .inl h2⟩
              · exact ⟨hc', .inr rfl⟩
            · rintro ⟨h1, h2 | rfl⟩
              · exact .inl ⟨h1, h2⟩
              · exact .inr rfl
          · have hc' : y = z12 := by simpa using hc
            rw [hS v, List.mem_append, List.mem_singleton]
            constructor
            · rintro ⟨h1, h2⟩; exact ⟨h1, .inl h2⟩
            · rintro ⟨h1, h2 | rfl⟩
              · exact ⟨h1, h2⟩
              · exact absurd hc' h1
        · rintro _ ⟨S, rfl, hS⟩
          rw [List.length_map, ways_len, List.take_of_length_le (by rw [facesOf_len]; exact Nat.le_refl _)] at hS
          simp (implicitDefEqProofs := false) (dsimp := false) only [go_sem, alikeH]
          have hS12 : ∀ f ∈ S, f.length = 12 := fun f hf => facesOf_face _ ((hS f).1 hf).2
          refine WP.loopI (fun (y : Nat × Nat) s => (y.1 ≤ b.pages.length - (p + 1)) ∧ s.sl.length = 67 ∧ True ∧ s.gh = {} ∧ (∃ e : List Blk, s.hp = h ++ alikeH b (alikeTo b (mapB b.glyphs) p ++ alikeRow b (mapB b.glyphs) p y.1) h.length (k ++ .cells 0 [.int .i64 p] :: .map (kF S) (vF S) :: .cells 0 [.map ⟨h.length + (k.length + 1 + 1 + 1 + 1 + 1), 0⟩] :: (e ++ [.cells 0 [.int .i64 (p + 1 + y.1 : Nat)]])) ∧ e.length = y.2 ∧ marksIn (h.length + 4) (k ++ .cells 0 [.int .i64 p] :: .map (kF S) (vF S) :: .cells 0 [.map ⟨h.length + (k.length + 1 + 1 + 1 + 1 + 1), 0⟩] :: e) (k ++ .cells 0 [.int .i64 p] :: .map (kF S) (vF S) :: .cells 0 [.map ⟨h.length + (k.length + 1 + 1 + 1 + 1 + 1), 0⟩] :: e).length s.df) ∧ evA s.sl (.tmp 4) = .ptr ⟨h.length + 1, 0⟩ 0 ∧ evA s.sl (.tmp 6) = .ptr ⟨h.length + 2, 0⟩ 0 ∧ evA s.sl (.tmp 7) = .ptr ⟨h.length + (k.length + 1 + 1 + 1 + 1), 0⟩ 0 ∧ evA s.sl (.tmp 8) = .ptr ⟨h.length + (k.length + 2 + 1 + 1 + 1 + 1), 0⟩ 0 ∧ evA s.sl (.tmp 11) = .ptr ⟨h.length + (k.length + (y.2 + 1 + 1 + 1) + 1 + 1 + 1 + 1), 0⟩ 0 ∧ evA s.sl (.tmp 25) = .int .i64 b.pages.length ∧ evA s.sl (.tmp 26) = .int .i64 p) (fun (y : Nat × Nat) => b.pages.length - (p + 1) - y.1) ((0, 2)) ?_ ?_
          · simp (implicitDefEqProofs := false) (dsimp := false) only [go_sem, alikeH, Nat.zero_le]
            have hr0 : alikeRow b (mapB b.glyphs) p 0 = [] := rfl
            rw [hr0, List.append_nil]
            refine ⟨[.defd, .dead], ⟨rfl, ⟨rfl, rfl⟩, by rw [wrap_succ (by omega)]; rfl⟩, rfl, ?_⟩
            have := marksIn_loop (x := [.dead, .dead, .dead]) (y := [.cells 0 [.int .i64 p], .map (kF S) (vF S), .cells 0 [.map ⟨h.length + (k.length + 1 + 1 + 1 + 1 + 1), 0⟩]]) (n := h.length + (k.length + 3 + 1 + 1 + 1 + 1)) hmk (by simp; omega) rfl
            simpa using this
          · rintro ⟨r, ne⟩ ⟨sl, df, hp, gh⟩ ⟨eb, el, ed, rfl, eh, e4, e6, e7, e8, e11, e25, e26⟩
            simp only at eb el eh ed e4 e6 e7 e8 e11 e25 e26
            obtain ⟨j, rfl⟩ := slots_lit el; clear el; simp only [junk_succ, junk_zero, evA_tmp, nth_16, nth_four, nth_one, nth_zero, Nat.zero_add, Nat.reduceAdd] at  e4 e6 e7 e8 e11 e25 e26 ⊢
            refine wp_ok (so := { shut := [61, 62] }) mixed _ (by kernel_rfl) ?_
            obtain ⟨e, rfl, hne, hme⟩ := eh
            have hrl := alikeRow_len b (mapB b.glyphs) p r
            have hpp : p * b.pages.length ≤ 4 * 4 := Nat.mul_le_mul (by omega) q1
            have hll : (alikeTo b (mapB b.glyphs) p ++ alikeRow b (mapB b.glyphs) p r).length ≤ 24 := by rw [List.length_append]; omega
            generalize hl0 : alikeTo b (mapB b.glyphs) p ++ alikeRow b (mapB b.glyphs) p r = l at hll ⊢
            by_cases hr : r < b.pages.length - (p + 1)
            · have hq : p + 1 + r < b.pages.length := by omega
              have hlt : (((p + 1 + r : Nat) : Int) < (b.pages.length : Int)) = True := eq_true (by omega)
              simp (implicitDefEqProofs := false) (dsimp := false) only [go_sem, e4, e6, e7, e8, e11, e25, e26, alikeH, bdA, getL hne, getL0 hne, hlt, decide_true]
              (first | refine CallsA.use (laysOf_ok b _ _) ?_ | refine QuietCalls.use (laysOf_ok b _ _) ?_)
              simp (implicitDefEqProofs := false) (dsimp := false) only [go_sem]
              refine WP.rangeIterN (h.length + (k.length + (ne + 2 + 1 + 1 + 1) + 1 + 1 + 1 + 1)) (by simp <;> omega)  (so := { shut := [61, 62] }) mixed (by kernel_rfl) (by kernel_rfl) rfl rfl (call_laysOf1) rfl rfl (iter_ways b _ (p + 1 + r) hq ok) (encW_len) (fun n h1 => h1 = h ++ alikeH b l h.length (k ++ .cells 0 [.int .i64 p] :: .map (kF S) (vF S) :: .cells 0 [.map ⟨h.length + (k.length + 1 + 1 + 1 + 1 + 1), 0⟩] :: (e ++ [.cells 0 [.int .i64 (p + 1 + r : Nat)]])) ∧ ∀ v ∈ (facesOf b (mapB b.glyphs) (p + 1 + r)).take n, v ∉ S) (fun c h1 => c = .exit 5 ∧ h1 = h ++ alikeH b (l ++ [((p : Int), ((p + 1 + r : Nat) : Int))]) h.length (k ++ .cells 0 [.int .i64 p] :: .map (kF S) (vF S) :: .cells 0 [.map ⟨h.length + (k.length + 1 + 1 + 1 + 1 + 1), 0⟩] :: (e ++ [.cells 0 [.int .i64 (p + 1 + r : Nat)]])) ∧ ∃ v ∈ facesOf b (mapB b.glyphs) (p + 1 + r), v ∈ S) ?_ ?_ ?_ ?_ ?_ ?_
              · rintro n _ hb ⟨rfl, _⟩
                exact ⟨by simp [alikeH], hb⟩
              · rintro _ _ hb ⟨_, rfl, _⟩
                refine ⟨by simp [alikeH], all_swap2 hb ?_ ?_⟩
                · simp only [belowBlk, belowL, below, Bool.and_true, decide_eq_true_eq, List.length_append, List.length_cons, List.length_nil]
                  omega
                · exact belowL_flat (f := cPair) (fun _ => rfl) _
              · exact ⟨rfl, by simp⟩
              · rintro n _ own hn ⟨rfl, hno⟩ hl2
                rw [List.length_map, ways_len] at hn
                have ex : ((ways b (mapB b.glyphs) (p + 1 + r)).map encW)[n]'(by rw [List.length_map, ways_len]; exact hn) = [.agg (cLay (layN (p + 1 + r : Nat) n)), .agg (nums12 (faceB (mapB b.glyphs) b.pages[p + 1 + r] b.cells (layN (p + 1 + r : Nat) n)))] := by simp [ways, wayN, encW, List.getD, hq]
                rw [ex]
                dsimp only
                have e12 : (faceB (mapB b.glyphs) b.pages[p + 1 + r] b.cells (layN (p + 1 + r : Nat) n)).length = 12 := face_len _ _ _ _
                have hget : (facesOf b (mapB b.glyphs) (p + 1 + r))[n]'(by rw [facesOf_len]; exact hn) = faceB (mapB b.glyphs) b.pages[p + 1 + r] b.cells (layN (p + 1 + r : Nat) n) := by
                  rw [facesOf_get hn]; simp [List.getD, hq]
                have hl : (facesOf b (mapB b.glyphs) (p + 1 + r)).take (n + 1) = (facesOf b (mapB b.glyphs) (p + 1 + r)).take n ++ [faceB (mapB b.glyphs) b.pages[p + 1 + r] b.cells (layN (p + 1 + r : Nat) n)] := by
                  rw [List.take_add_one, List.getElem?_eq_getElem (by rw [facesOf_len]; exact hn), hget]; rfl
                have hmem : faceB (mapB b.glyphs) b.pages[p + 1 + r] b.cells (layN (p + 1 + r : Nat) n) ∈ facesOf b (mapB b.glyphs) (p + 1 + r) := by
                  rw [← hget]; exact List.getElem_mem _
                rw [hl]
                generalize faceB (mapB b.glyphs) b.pages[p + 1 + r] b.cells (layN (p + 1 + r : Nat) n) = y at e12 hmem ⊢
                cases hcc : S.contains y with
                | true =>
                  simp (implicitDefEqProofs := false) (dsimp := false) only [go_sem, alikeH, bdA, getL hne, getL0 hne, setL hne, setL0 hne, setM12 e12, nums_take e12, nums_leaf, nums12_len, e12, Nat.le_refl, lookF e12 hS12, hcc, length_rows cPair_len]
                  have hy : y ∈ S := by rw [← List.contains_iff_mem]; exact hcc
                  refine ⟨by omega, _, ⟨_, loop_cutE⟩, ?_, y, hmem, hy⟩
                  simp [cPair]
                | false =>
                  simp (implicitDefEqProofs := false) (dsimp := false) only [go_sem, alikeH, bdA, getL hne, getL0 hne, setL hne, setL0 hne, setM12 e12, nums_take e12, nums_leaf, nums12_len, e12, Nat.le_refl, lookF e12 hS12, hcc]
                  have hy : y ∉ S := by rw [← List.contains_iff_mem, hcc]; simp
                  refine ⟨_, ⟨_, loop_cutE⟩, rfl, fun v hv => ?_⟩
                  rcases List.mem_append.1 hv with hv | hv
                  · exact hno v hv
                  · rw [List.mem_singleton.1 hv]; exact hy
              · rintro _ ⟨rfl, hno⟩
                rw [List.length_map, ways_len, List.take_of_length_le (by rw [facesOf_len]; exact Nat.le_refl _)] at hno
                simp (implicitDefEqProofs := false) (dsimp := false) only [go_sem, alikeH, bdA, getL hne, getL0 hne, setL hne, setL0 hne]
                have hrow : alikeTo b (mapB b.glyphs) p ++ alikeRow b (mapB b.glyphs) p (r + 1) = l := by
                  have hP : alikeP b (mapB b.glyphs) p (p + 1 + r) = false := by
                    rw [alikeP, List.any_eq_false]
                    intro v hv hc
                    have h1 := hno v hv
                    rw [hS] at h1
                    simp at hc
                    exact h1 hc
                  rw [alikeRow_succ, hP]
                  simpa using hl0
                refine ⟨(r + 1, ne + 3), ⟨by simp only; omega, ⟨e ++ [.cells 0 [.int .i64 (p + 1 + r : Nat)], .defd, .dead], ?_, by simp [hne], ?_⟩, by rw [hne]⟩, by simp only; omega⟩
                · simp only
                  rw [← List.length_append, hrow, wrap_succ (by omega)]
                  refine ⟨by rfl, ⟨by rfl, rfl⟩, ?_⟩
                  simp
                  omega
                · have := marksIn_loop (x := [.dead]) (y := [.cells 0 [.int .i64 (p + 1 + r : Nat)]]) (n := h.length + (k.length + (e.length + 1 + 1 + 1 + 1) + 1 + 1 + 1 + 1)) hme (by simp; omega) rfl
                  simpa using this
              · rintro _ _ ⟨rfl, rfl, v, hv1, hv2⟩
                simp (implicitDefEqProofs := false) (dsimp := false) only [go_sem, alikeH, bdA, getL hne, getL0 hne, setL hne, setL0 hne]
                have hrow : alikeTo b (mapB b.glyphs) p ++ alikeRow b (mapB b.glyphs) p (r + 1) = l ++ [((p : Int), ((p + 1 + r : Nat) : Int))] := by
                  have hP : alikeP b (mapB b.glyphs) p (p + 1 + r) = true := by
                    rw [alikeP, List.any_eq_true]
                    have h1 := (hS v).1 hv2
                    exact ⟨v, hv1, by simpa using h1⟩
                  rw [alikeRow_succ, hP, ← hl0, if_pos rfl, List.append_assoc]
                refine ⟨(r + 1, ne + 3), ⟨by simp only; omega, ⟨e ++ [.cells 0 [.int .i64 (p + 1 + r : Nat)], .defd, .dead], ?_, by simp [hne], ?_⟩, by rw [hne]⟩, by simp only; omega⟩
                · simp only
                  rw [← List.length_append, hrow, wrap_succ (by omega)]
                  refine ⟨by simp, ⟨by simp, rfl⟩, ?_⟩
                  simp
                  omega
                · have := marksIn_loop (x := [.dead]) (y := [.cells 0 [.int .i64 (p + 1 + r : Nat)]]) (n := h.length + (k.length + (e.length + 1 + 1 + 1 + 1) + 1 + 1 + 1 + 1)) hme (by simp; omega) rfl
                  simpa using this
            · have hs : (((p + 1 + r : Nat) : Int) < (b.pages.length : Int)) = False := eq_false (by omega)
              simp (implicitDefEqProofs := false) (dsimp := false) only [go_sem, e4, e6, e7, e8, e11, e25, e26, alikeH, bdA, getL hne, getL0 hne, hs, decide_false]
              have er : r = b.pages.length - (p + 1) := by omega
              subst er
              rw [← alikeTo_succ] at hl0
              subst hl0
              exact ⟨p + 1, ⟨by omega, ⟨_, ⟨rfl, ⟨rfl, rfl⟩, rfl⟩, marksIn_snoc hme⟩, wrap_succ (by omega)⟩, by omega⟩
        · rintro _ _ ⟨⟩
      · have hs : ((p : Int) < (b.pages.length : Int)) = False := eq_false (by omega)
        have ep : p = b.pages.length := by omega
        subst ep
        simp (implicitDefEqProofs := false) (dsimp := false) only [go_sem, a4, a6, a25, a26, alikeH, hs, decide_false]
        refine unmarkK_marks (marksIn_at hmk) fun h' e1 e2 => ⟨?_, h'.drop h.length, ?_⟩
        · rw [List.take_of_length_le (by rw [length_rows cPair_len]; omega)]
          rfl
        · have e3 : h'.take h.length = h := by
            have := congrArg (List.take h.length) e2
            rw [List.take_take, List.take_take, show min h.length (h.length + 4) = h.length by omega, List.take_left] at this
            exact this
          conv => lhs; rw [← List.take_append_drop h.length h', e3]
  · simp only [leafA] at f1 f2 f3 f4
    rw [show alikeR b = [] from if_neg e1]
    simp (implicitDefEqProofs := false) (dsimp := false) only [go_sem, f1, f2, f3, f4, e2]
    rfl
end Go.Mac
namespace Go.Mac
open Go Go.Conc Go.Proofs
set_option maxRecDepth 4000
def boardB (a b c d : Trace) : Board := ⟨[⟨[98], 9⟩, ⟨[99], 4⟩, ⟨[100], 6⟩, ⟨[105], 48⟩, ⟨[111], 12⟩], [[[98, 99], [45, 105]], [[99, 100], [105, 45]], [[111, 111]]], [[a, b], [c, d]]⟩
def openB : Board := boardB ⟨8, 0⟩ ⟨0, 0⟩ ⟨0, 0⟩ ⟨0, 0⟩
def extraB : Board := boardB ⟨9, 0⟩ ⟨2, 0⟩ ⟨16, 0⟩ ⟨0, 0⟩
theorem open_valid : boardErr openB = 0 := by kernel_rfl
theorem extra_valid : boardErr extraB = 0 := by kernel_rfl
theorem open_lays : (laysB openB).map Prod.fst = [⟨0, false, 0, 0⟩, ⟨1, false, 0, -1⟩, ⟨1, false, 0, 0⟩, ⟨1, true, -1, -1⟩, ⟨2, false, 0, -1⟩, ⟨2, false, 0, 0⟩] := by kernel_rfl
theorem extra_emend : emendR extraB 0 = (some ⟨[[98, 100], [45, 105]], 1, ⟨0, false, 0, 0⟩⟩, 0) := by kernel_rfl
theorem extra_double : DoubleR extraB 0 1 = (3, 0) := by kernel_rfl
theorem open_next : NextR openB = (0, 0, 2, 0) := by kernel_rfl
theorem open_alike : alikeR openB = [(0, 1)] := by kernel_rfl
theorem lay_ok (p d r : Int) : PureA Tryz.prog 52 [.int .i64 p, .int .i64 d, .int .i64 r] (.agg (cLay ⟨p, false, d, r⟩)) := by
  refine PureA.of_wpp {} 8 mixed Tryz.func52 (by kernel_rfl) rfl (by kernel_rfl) (rfl) fun h j hB => ?_
  simp only [junk_succ, junk_zero, List.cons_append, List.nil_append, List.length_cons, List.length_nil, Nat.reduceAdd]
  simp (implicitDefEqProofs := false) (dsimp := false) only [go_sem]
  rfl
theorem half_ok (p d r : Int) : PureA Tryz.prog 53 [.int .i64 p, .int .i64 d, .int .i64 r] (.agg (cLay ⟨p, true, d, r⟩)) := by
  refine PureA.of_wpp {} 11 mixed Tryz.func53 (by kernel_rfl) rfl (by kernel_rfl) (rfl) fun h j hB => ?_
  simp only [junk_succ, junk_zero, List.cons_append, List.nil_append, List.length_cons, List.length_nil, Nat.reduceAdd]
  simp (implicitDefEqProofs := false) (dsimp := false) only [go_sem]
  (first | refine CallsA.use (lay_ok p d r) ?_ | refine QuietCalls.use (lay_ok p d r) ?_)
  simp (implicitDefEqProofs := false) (dsimp := false) only [go_sem, cLay]
theorem brdA_belowA (b : Board) : below 0 (.agg (brdA b)) = true := slices_below b
theorem board_ok (a b c d : Trace) : PureA Tryz.prog 102 [.agg (cTrace a), .agg (cTrace b), .agg (cTrace c), .agg (cTrace d)] (.agg (brdA (boardB a b c d))) := by
  refine PureA.of_wpp { shut := [14, 15, 16, 17, 18, 21, 24, 25] } 23 mixed Tryz.func102 (by kernel_rfl) rfl (by kernel_rfl) (brdA_belowA _) fun h j hB => ?_
  simp only [junk_succ, junk_zero, List.cons_append, List.nil_append, List.length_cons, List.length_nil, Nat.reduceAdd]
  simp (implicitDefEqProofs := false) (dsimp := false) only [go_sem, cTrace]
  rfl
theorem openB_ok : PureA Tryz.prog 50 [] (.agg (brdA openB)) := by
  refine PureA.of_wpp {} 6 mixed Tryz.func50 (by kernel_rfl) rfl (by kernel_rfl) (brdA_belowA _) fun h j hB => ?_
  simp only [junk_succ, junk_zero, List.cons_append, List.nil_append, List.length_cons, List.length_nil, Nat.reduceAdd]
  simp (implicitDefEqProofs := false) (dsimp := false) only [go_sem]
  (first | refine CallsA.use (board_ok ⟨8, 0⟩ ⟨0, 0⟩ ⟨0, 0⟩ ⟨0, 0⟩) ?_ | refine QuietCalls.use (board_ok ⟨8, 0⟩ ⟨0, 0⟩ ⟨0, 0⟩ ⟨0, 0⟩) ?_)
  simp (implicitDefEqProofs := false) (dsimp := false) only [go_sem, brdA]
  rfl
theorem extraB_ok : PureA Tryz.prog 51 [] (.agg (brdA extraB)) := by
  refine PureA.of_wpp {} 6 mixed Tryz.func51 (by kernel_rfl) rfl (by kernel_rfl) (brdA_belowA _) fun h j hB => ?_
  simp only [junk_succ, junk_zero, List.cons_append, List.nil_append, List.length_cons, List.length_nil, Nat.reduceAdd]
  simp (implicitDefEqProofs := false) (dsimp := false) only [go_sem]
  (first | refine CallsA.use (board_ok ⟨9, 0⟩ ⟨2, 0⟩ ⟨16, 0⟩ ⟨0, 0⟩) ?_ | refine QuietCalls.use (board_ok ⟨9, 0⟩ ⟨2, 0⟩ ⟨16, 0⟩ ⟨0, 0⟩) ?_)
  simp (implicitDefEqProofs := false) (dsimp := false) only [go_sem, brdA]
  rfl
theorem eqLay {d : Nat} {a0 a2 a3 b0 b2 b3 : Int} {a1 b1 : Bool} : eqA Tryz.prog (d + 2) 38 (.agg [.int .i64 a0, .bool a1, .int .i64 a2, .int .i64 a3]) (.agg [.int .i64 b0, .bool b1, .int .i64 b2, .int .i64 b3]) = some (decide (Lay.mk a0 a1 a2 a3 = Lay.mk b0 b1 b2 b3)) := by
  have hu := under_ty ty38
  have e : ∀ a b : Int, eqA Tryz.prog (d + 1) 3 (.int .i64 a) (.int .i64 b) = some (a == b) := fun a b => eqA_int ty3 rfl
  have eb : ∀ a b : Bool, eqA Tryz.prog (d + 1) 4 (.bool a) (.bool b) = some (a == b) := fun a b => by
    simp only [eqA, under_ty ty4, ty4]
  have hs : (Tryz.prog.stoodInHeld 38) = false := by kernel_rfl
  have hq := eqAll_some [a0 == b0, a1 == b1, a2 == b2, a3 == b3]
  simp only [List.map_cons, List.map_nil] at hq
  unfold eqA
  simp only [hu, ty38, hs, ty3, ty4, List.map_cons, List.map_nil, Bool.false_eq_true, if_false, partA, aggD, List.getD_cons_zero, List.getD_cons_succ, e, eb]
  rw [if_neg (by decide), if_neg (by decide), if_neg (by decide), if_neg (by decide), hq]
  congr 1
  rw [Bool.eq_iff_iff]
  simp [and_assoc]
theorem eqGuardL : (Tryz.prog.eqGuardType Tryz.prog.depth 38 = false) = True := eq_true (by kernel_rfl)
theorem eqLays_ok (a b : List Lay) (hla : a.length < 9223372036854775807) : PureA Tryz.prog 49 [sliceOf cLay a, sliceOf cLay b] (.bool (decide (a = b))) := by
  refine PureA.of_wpp {} 24 mixed Tryz.func49 (by kernel_rfl) rfl (by kernel_rfl) (rfl) fun h j hB => ?_
  simp only [junk_succ, junk_zero, List.cons_append, List.nil_append, List.length_cons, List.length_nil, Nat.reduceAdd]
  simp (implicitDefEqProofs := false) (dsimp := false) only [go_sem]
  refine ⟨fun e => ?_, fun e => ?_⟩
  · symm
    rw [decide_eq_false_iff_not]
    rintro rfl
    simp at e
  have e1 : a.length = b.length := by simp at e; omega
  refine WP.loopI (fun (i : Nat) s => (i ≤ a.length ∧ a.take i = b.take i) ∧ s.sl.length = 26 ∧ s.df = [] ∧ s.gh = {} ∧ (s.hp = h) ∧ evA s.sl (.tmp 0) = sliceOf cLay a ∧ evA s.sl (.tmp 1) = sliceOf cLay b ∧ evA s.sl (.tmp 5) = .int .i64 i) (fun (i : Nat) => a.length - i) (0) ?_ ?_
  · simp (implicitDefEqProofs := false) (dsimp := false) only [go_sem, Nat.zero_le, List.take_zero]
  · rintro i ⟨sl, df, hp, gh⟩ ⟨xb, xl, rfl, rfl, rfl, x0, x1, x5⟩
    simp only at xb xl x0 x1 x5
    obtain ⟨j, rfl⟩ := slots_lit xl; clear xl; simp only [junk_succ, junk_zero, evA_tmp, nth_16, nth_four, nth_one, nth_zero, Nat.zero_add, Nat.reduceAdd] at  x0 x1 x5 ⊢
    refine wp_ok (so := {}) mixed _ (by kernel_rfl) ?_
    obtain ⟨h1, e2⟩ := xb
    by_cases hi : i < a.length
    · have hib : i < b.length := by omega
      simp (implicitDefEqProofs := false) (dsimp := false) only [go_sem, x0, x1, x5, rowN cLay_len hi, rowN cLay_len hib, rowN_le cLay_len hi, rowN_le cLay_len hib, nat_lt hi, decide_true, wrap_succ (show i < 9223372036854775807 by omega), cLay, eqLay, eqGuardL]
      refine ⟨by omega, fun e => ?_, fun e => ?_⟩
      · symm
        rw [decide_eq_false_iff_not]
        rintro rfl
        simp at e
      · have e3 : a[i] = b[i] := by simp at e; obtain ⟨q1, q2, q3, q4⟩ := e; cases ha : a[i]; cases hb : b[i]; simp_all
        exact ⟨i + 1, ⟨⟨hi, by rw [take_eq_succ hi hib e2]; exact e3⟩, rfl⟩, by omega⟩
    · have hs : ((i : Int) < (a.length : Int)) = False := eq_false (by omega)
      simp (implicitDefEqProofs := false) (dsimp := false) only [go_sem, x0, x1, x5, hs, decide_false]
      have : i = a.length := by omega
      subst this
      rw [List.take_length, e1, List.take_length] at e2
      simp [e2]
def openL : List Lay := [⟨0, false, 0, 0⟩, ⟨1, false, 0, -1⟩, ⟨1, false, 0, 0⟩, ⟨1, true, -1, -1⟩, ⟨2, false, 0, -1⟩, ⟨2, false, 0, 0⟩]
def extraP : List (List UInt8) := [[98, 100], [45, 105]]
theorem slice_map {α β : Type} (f : α → β) (g : β → List AV) (l : List α) : sliceOf g (l.map f) = sliceOf (fun x => g (f x)) l := by
  simp only [sliceOf, List.length_map, List.flatMap_map]
theorem Lays_open : PureA Tryz.prog 43 [.agg (brdA openB)] (.tup [sliceOf cLay openL, .int .i64 0]) := by
  have := Lays_ok openB
  rw [open_valid, show unlessErr 0 (sliceOf cLayF (laysB openB)) = sliceOf cLay openL by rw [openL, ← open_lays, slice_map]; rfl] at this
  exact this
theorem Emend_extra (h : List Blk) : QuietAt 16 [.agg (brdA extraB), .int .i64 0] h (.tup [sliceOf cStr extraP, .int .i64 1, .agg [.int .i64 0, .bool false, .int .i64 0, .int .i64 0], .int .i64 0]) := by
  have := Emend_ok extraB 0
  rw [extra_emend] at this
  exact QuietAt.of this h
theorem Next_open : PureA Tryz.prog 25 [.agg (brdA openB)] (.tup [.int .i64 0, .int .i64 0, .int .i64 2, .int .i64 0]) := by
  have := Next_ok openB
  rw [open_next] at this
  exact this
theorem Alike_open : PureA Tryz.prog 20 [.agg (brdA openB)] (.tup [sliceOf cPair [(0, 1)], .int .i64 0]) := by
  have := Alike_ok openB
  rw [open_alike, open_valid] at this
  exact this
theorem Double_extra (h : List Blk) (hro : h[0]? = some (.role true)) : QuietAt 38 [.agg (brdA extraB), .int .i64 0, .int .i64 1] h (.tup [.int .i64 3, .int .i64 0]) := by
  have := Double_ok extraB 0 1 h hro
  rw [extra_double] at this
  exact this
theorem Turn_4 : PureA Tryz.prog 30 [.int .i64 4] (.tup [.int .i64 2, .int .i64 0]) := turn_ok 4
section
variable {P : Program} {so : Opt} {ops : Array Oper} {h : List Blk} {K : List AV → Prop} {sl : List AV}
theorem quietL_app1 {o : Oper} {l r : List Oper} : quietL P so ops h (List.append (o :: l) r) K sl = quietL P so ops h (o :: List.append l r) K sl := rfl
theorem quietL_app0 {r : List Oper} : quietL P so ops h (List.append [] r) K sl = quietL P so ops h r K sl := rfl
end
attribute [go_sem ↓] quietL_app1 quietL_app0
theorem app_get0 {α : Type} {a : α} {l r : List α} : (List.append (a :: l) r)[0]? = some a := rfl
theorem app_getS {α : Type} {a : α} {l r : List α} {i : Nat} : (List.append (a :: l) r)[i + 1]? = (List.append l r)[i]? := rfl
theorem app_getN {α : Type} {r : List α} {i : Nat} : (List.append [] r)[i]? = r[i]? := rfl
attribute [go_sem ↓] app_get0 app_getS app_getN
theorem lay_lit (p d r : Int) : PureA Tryz.prog 52 [.int .i64 p, .int .i64 d, .int .i64 r] (.agg [.int .i64 p, .bool false, .int .i64 d, .int .i64 r]) := lay_ok p d r
theorem half_lit (p d r : Int) : PureA Tryz.prog 53 [.int .i64 p, .int .i64 d, .int .i64 r] (.agg [.int .i64 p, .bool true, .int .i64 d, .int .i64 r]) := half_ok p d r
theorem eqLays_open : PureA Tryz.prog 49 [.psl (openL.flatMap cLay) openL.length, .psl [.int .i64 0, .bool false, .int .i64 0, .int .i64 0, .int .i64 1, .bool false, .int .i64 0, .int .i64 (-1), .int .i64 1, .bool false, .int .i64 0, .int .i64 0, .int .i64 1, .bool true, .int .i64 (-1), .int .i64 (-1), .int .i64 2, .bool false, .int .i64 0, .int .i64 (-1), .int .i64 2, .bool false, .int .i64 0, .int .i64 0] 6] (.bool true) := by
  have := eqLays_ok openL openL (by decide)
  rw [show decide (openL = openL) = true by simp] at this
  exact this
theorem eqStrings_extra : PureA Tryz.prog 18 [.psl (extraP.flatMap cStr) extraP.length, .psl [.str [98, 100], .str [45, 105]] 2] (.bool true) := by
  have := eqStrings_ok extraP extraP (by decide) (by decide) (by decide)
  rw [show (extraP == extraP) = true by decide] at this
  exact this
theorem eqLists_open : PureA Tryz.prog 22 [.psl ([((0 : Int), (1 : Int))].flatMap cPair) 1, .psl [.psl [.int .i64 0, .int .i64 1] 2] 1] (.bool true) := by
  have := eqLists_ok [[0, 1]] [[0, 1]] (by decide) (by decide)
  exact this
theorem pressed_ok (h : List Blk) (hro : h[0]? = some (.role true)) : QuietAt 11 [] h (.bool true) := by
  unfold QuietAt
  refine CallsA.of_wpe [] { shut := [109, 114, 119, 120], cut := [52, 56, 60, 64, 68, 72, 76, 81, 85, 89, 93, 97, 101, 112, 117] } 123 mixed Tryz.func11 (by kernel_rfl) rfl (by kernel_rfl) fun j hB hA => ?_; simp only [junk_succ, junk_zero, List.cons_append, List.nil_append, List.length_cons, List.length_nil, Nat.reduceAdd]
  simp (implicitDefEqProofs := false) (dsimp := false) only [go_sem]
  (first | refine CallsA.use (openB_ok) ?_ | refine QuietCalls.use (openB_ok) ?_)
  simp (implicitDefEqProofs := false) (dsimp := false) only [go_sem]
  (first | refine CallsA.use (Lays_open) ?_ | refine QuietCalls.use (Lays_open) ?_)
  simp (implicitDefEqProofs := false) (dsimp := false) only [go_sem]
  (first | refine CallsA.use (extraB_ok) ?_ | refine QuietCalls.use (extraB_ok) ?_)
  simp (implicitDefEqProofs := false) (dsimp := false) only [go_sem]
  refine QuietAt.use (Emend_extra _) ?_
  simp (implicitDefEqProofs := false) (dsimp := false) only [go_sem]
  (first | refine CallsA.use (extraB_ok) ?_ | refine QuietCalls.use (extraB_ok) ?_)
  simp (implicitDefEqProofs := false) (dsimp := false) only [go_sem]
  refine QuietAt.use (Double_extra _ (by rw [List.getElem?_append_left (List.getElem?_eq_some_iff.1 hro).1]; exact hro)) ?_
  simp (implicitDefEqProofs := false) (dsimp := false) only [go_sem]
  (first | refine CallsA.use (openB_ok) ?_ | refine QuietCalls.use (openB_ok) ?_)
  simp (implicitDefEqProofs := false) (dsimp := false) only [go_sem]
  (first | refine CallsA.use (Next_open) ?_ | refine QuietCalls.use (Next_open) ?_)
  simp (implicitDefEqProofs := false) (dsimp := false) only [go_sem]
  (first | refine CallsA.use (openB_ok) ?_ | refine QuietCalls.use (openB_ok) ?_)
  simp (implicitDefEqProofs := false) (dsimp := false) only [go_sem]
  (first | refine CallsA.use (Alike_open) ?_ | refine QuietCalls.use (Alike_open) ?_)
  simp (implicitDefEqProofs := false) (dsimp := false) only [go_sem]
  (first | refine CallsA.use (Turn_4) ?_ | refine QuietCalls.use (Turn_4) ?_)
  simp (implicitDefEqProofs := false) (dsimp := false) only [go_sem, eqLay, eqGuardL]
  (first | refine CallsA.use (lay_lit 0 0 0) ?_ | refine QuietCalls.use (lay_lit 0 0 0) ?_)
  simp (implicitDefEqProofs := false) (dsimp := false) only [go_sem, eqLay, eqGuardL, eq_self, decide_true]
  (first | refine CallsA.use (lay_lit 0 0 0) ?_ | refine QuietCalls.use (lay_lit 0 0 0) ?_)
  simp (implicitDefEqProofs := false) (dsimp := false) only [go_sem]
  (first | refine CallsA.use (lay_lit 1 0 (-1)) ?_ | refine QuietCalls.use (lay_lit 1 0 (-1)) ?_)
  simp (implicitDefEqProofs := false) (dsimp := false) only [go_sem]
  (first | refine CallsA.use (lay_lit 1 0 0) ?_ | refine QuietCalls.use (lay_lit 1 0 0) ?_)
  simp (implicitDefEqProofs := false) (dsimp := false) only [go_sem]
  (first | refine CallsA.use (half_lit 1 (-1) (-1)) ?_ | refine QuietCalls.use (half_lit 1 (-1) (-1)) ?_)
  simp (implicitDefEqProofs := false) (dsimp := false) only [go_sem]
  (first | refine CallsA.use (lay_lit 2 0 (-1)) ?_ | refine QuietCalls.use (lay_lit 2 0 (-1)) ?_)
  simp (implicitDefEqProofs := false) (dsimp := false) only [go_sem]
  (first | refine CallsA.use (lay_lit 2 0 0) ?_ | refine QuietCalls.use (lay_lit 2 0 0) ?_)
  simp (implicitDefEqProofs := false) (dsimp := false) only [go_sem]
  (first | refine CallsA.use (eqLays_open) ?_ | refine QuietCalls.use (eqLays_open) ?_)
  simp (implicitDefEqProofs := false) (dsimp := false) only [go_sem]
  (first | refine CallsA.use (eqStrings_extra) ?_ | refine QuietCalls.use (eqStrings_extra) ?_)
  simp (implicitDefEqProofs := false) (dsimp := false) only [go_sem]
  (first | refine CallsA.use (eqLists_open) ?_ | refine QuietCalls.use (eqLists_open) ?_)
  simp (implicitDefEqProofs := false) (dsimp := false) only [go_sem]
  exact quiet_fine hB rfl
end Go.Mac

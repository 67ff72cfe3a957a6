/- Part 42 of the logic and of the contracts of the functions that the statement reaches; the statement itself is proved in the last text. -/
import Derived.Test.YtdioclckllbhpaaRows
import Derived.Conc.LeavingOf
import Derived.Test.YtdioclckllbhpaaLibMacNZ

set_option linter.all false
set_option linter.unusedVariables false
set_option linter.unusedSimpArgs false
set_option linter.unnecessarySimpa false
namespace Go.Mac
open Go Go.Conc Go.Proofs
set_option maxRecDepth 4000
structure okBoard (b : Board) : Prop where
  pos : 0 < b.pages.length
  most : b.pages.length ≤ 4
  page : ∀ p ∈ b.pages, okPage p
  cells : okCells b.cells
def wayN (b : Board) (m : List (Int × Int)) (p n : Nat) : Lay × List Int := (layN p n, faceB m (b.pages.getD p []) b.cells (layN p n))
def ways (b : Board) (m : List (Int × Int)) (p : Nat) : List (Lay × List Int) := (List.range 18).map (wayN b m p)
def allWays (b : Board) (m : List (Int × Int)) : List (Lay × List Int) := (List.range b.pages.length).flatMap (ways b m)
def encW (x : Lay × List Int) : List AV := [.agg (cLay x.1), .agg (nums12 x.2)]
theorem ways_len (b : Board) (m : List (Int × Int)) (p : Nat) : (ways b m p).length = 18 := by simp [ways]
theorem allWays_len (b : Board) (m : List (Int × Int)) : (allWays b m).length = b.pages.length * 18 := by
  rw [allWays, length_rows (ways_len b m), List.length_range]
theorem ways18_eq {b : Board} {m : List (Int × Int)} {p : Nat} (hp : p < b.pages.length) : ways18 m b.pages[p] b.cells p = (ways b m p).map encW := by
  simp [ways18, ways, wayN, wayA, encW, List.getD, hp, Function.comp_def]
theorem allWays_at {b : Board} {m : List (Int × Int)} {p k : Nat} (hp : p < b.pages.length) (hk : k < 18) : (allWays b m)[p * 18 + k]? = some (wayN b m p k) := by
  have h := drop_rows (f := ways b m) (n := 18) (ways_len b m) (List.range b.pages.length) p (by simpa using hp)
  have e : (allWays b m)[p * 18 + k]? = ((allWays b m).drop (p * 18))[k]? := by rw [List.getElem?_drop]
  rw [e]
  unfold allWays
  rw [h, List.getElem?_append_left (by rw [ways_len]; exact hk)]
  simp [ways, hk]
theorem iter_ways (b : Board) (m : List (Int × Int)) (p : Nat) (hpl : p < b.pages.length) (ok : okBoard b) : IterA Try.prog 104 [.pptr [.int .i64 p], .pptr (bdA b m)] ((ways b m p).map encW) := by
  rw [← ways18_eq hpl]
  exact laysOf1_ok b m p hpl (ok.page _ (List.getElem_mem hpl)) ok.cells
theorem call_laysOf1 : callable Try.prog 104 := ⟨_, Try.func104, rfl, rfl⟩
theorem encW_len {l : List (Lay × List Int)} : ∀ x ∈ l.map encW, x.length = 2 := by
  intro x hx
  obtain ⟨y, _, rfl⟩ := List.mem_map.1 hx
  rfl
theorem own_ok {h1 h2 own : List Blk} {L : Nat} (e1 : h1.length = L) (e2 : h2.length = L) (b2 : h2.all (belowBlk L) = true) (hb : (h1 ++ own).all (belowBlk (h1 ++ own).length) = true) : (h2 ++ own).length = (h1 ++ own).length ∧ (h2 ++ own).all (belowBlk (h1 ++ own).length) = true := by
  rw [List.all_append, Bool.and_eq_true] at *
  exact ⟨by simp [e1, e2], allBelow_mono (by simp [e1]) b2, hb.2⟩
theorem getL {h bs : List Blk} {L i : Nat} (e : h.length = L) : (h ++ bs)[L + i]? = bs[i]? := by rw [← e]; exact hget _ _ _
theorem getL0 {h bs : List Blk} {L : Nat} (e : h.length = L) : (h ++ bs)[L]? = bs[0]? := by rw [← e]; exact hget0 _ _
theorem setL {h bs : List Blk} {L i : Nat} {b : Blk} (e : h.length = L) : (h ++ bs).set (L + i) b = h ++ bs.set i b := by rw [← e]; exact hset _ _ _ _
theorem setL0 {h bs : List Blk} {L : Nat} {b : Blk} (e : h.length = L) : (h ++ bs).set L b = h ++ bs.set 0 b := by rw [← e]; exact hset0 _ _ _
theorem cLay_leaf (l : Lay) : (cLay l).all leafA = true := rfl
@[simp] theorem cLay_len (l : Lay) : (cLay l).length = 4 := rfl
theorem cLay_take (l : Lay) : (cLay l).take 4 = cLay l := rfl
theorem face_len (m : List (Int × Int)) (p : List (List UInt8)) (cs : List (List Trace)) (l : Lay) : (faceB m p cs l).length = 12 := part12_len _ _
theorem setMany12 {t : List AV} {f : List Int} (ht : t.length = 12) (hf : f.length = 12) : setMany t 0 (nums12 f) = nums12 f := setMany_whole (by rw [nums12_len, hf, ht])
theorem same_tail {h1 h2 k x : List Blk} {L : Nat} (e1 : h1.length = L) (e2 : h2.length = L) : ∀ i, L ≤ i → i < (h1 ++ k).length → (h2 ++ (k ++ x))[i]? = (h1 ++ k)[i]? := fun i hi hlt => by
  rw [List.length_append] at hlt
  rw [List.getElem?_append_right (l₁ := h2) (by omega), List.getElem?_append_right (l₁ := h1) (by omega), List.getElem?_append_left (by omega), e1, e2]
theorem marks_loop {h1 h2 k : List Blk} {L hi : Nat} {df : List ADef} (e1 : h1.length = L) (e2 : h2.length = L) (hm : marksAt L (h1 ++ k) (h1 ++ k).length df) (hh : L + k.length < hi) : marksAt L (h2 ++ (k ++ [.defd, .dead])) hi (.mark ⟨L + k.length, 0⟩ :: df) := by
  refine marksAt_more hm rfl (by simp only; omega) (by simp only [List.length_append]; omega) ?_ (same_tail e1 e2) (by simp only; omega)
  simp only
  rw [getL e2, hget0]; rfl
theorem loop_cut {h k own e : List Blk} {c d l : Blk} : h ++ c :: (k ++ d :: l :: (own ++ e)) = (h ++ c :: k) ++ d :: l :: (own ++ e) := by simp
theorem setMany4 {a b c d : AV} {l : Lay} : setMany [a, b, c, d] 0 (cLay l) = cLay l := rfl
theorem setM12 {a0 a1 a2 a3 a4 a5 a6 a7 a8 a9 a10 a11 : AV} {f : List Int} (hf : f.length = 12) : setMany [a0, a1, a2, a3, a4, a5, a6, a7, a8, a9, a10, a11] 0 (nums12 f) = nums12 f := setMany12 rfl hf
theorem lays1_ok (b : Board) (m : List (Int × Int)) (ok : okBoard b) : IterA Try.prog 112 [.pptr (bdA b m)] ((allWays b m).map encW) := by
  intro n L J S hg hJ hS hY h h0
  have hlen : ((allWays b m).map encW).length = b.pages.length * 18 := by rw [List.length_map, allWays_len]
  have hL := (hJ 0 h h0).1
  refine CallsA.of_wpe [] {} 22 mixed Try.func112 (by kernel_rfl) rfl (by kernel_rfl) fun j hB hA => ?_; simp only [junk_succ, junk_zero, List.cons_append, List.nil_append, List.length_cons, List.length_nil, Nat.reduceAdd]
  simp (implicitDefEqProofs := false) (dsimp := false) only [go_sem, bdA]
  refine WP.loopI (fun (i : Nat) s => (i ≤ b.pages.length) ∧ s.sl.length = 24 ∧ True ∧ s.gh = {} ∧ (∃ h1 k, s.hp = h1 ++ .cells 0 [.yield n] :: k ∧ J (i * 18) h1 ∧ marksAt L s.hp s.hp.length s.df) ∧ evA s.sl (.tmp 1) = .pptr (bdA b m) ∧ evA s.sl (.tmp 2) = .ptr ⟨L, 0⟩ 0 ∧ evA s.sl (.tmp 9) = .int .i64 b.pages.length ∧ evA s.sl (.tmp 10) = .int .i64 i) (fun (i : Nat) => b.pages.length - i) (0) ?_ ?_
  · simp (implicitDefEqProofs := false) (dsimp := false) only [go_sem, bdA, Nat.zero_le]
    exact ⟨⟨h, [], by simp, h0, trivial⟩, by rw [hL]⟩
  · rintro i ⟨sl, df, hp, gh⟩ ⟨ab, al, ad, rfl, ah, a1, a2, a9, a10⟩
    simp only at ab al ah ad a1 a2 a9 a10
    obtain ⟨j, rfl⟩ := slots_lit al; clear al; simp only [junk_succ, junk_zero, evA_tmp, nth_16, nth_four, nth_one, nth_zero, Nat.zero_add, Nat.reduceAdd] at  a1 a2 a9 a10 ⊢
    refine wp_ok (so := {}) mixed _ (by kernel_rfl) ?_
    obtain ⟨h1, k, rfl, hj, hmk⟩ := ah
    obtain ⟨g1, g2, g3, g4⟩ := hJ _ _ hj
    by_cases hi : i < b.pages.length
    · have gL0 : ∀ bs : List Blk, (h1 ++ bs)[L]? = bs[0]? := fun bs => by rw [← g1]; exact hget0 _ _
      simp (implicitDefEqProofs := false) (dsimp := false) only [go_sem, a1, a2, a9, a10, bdA, nat_lt hi, decide_true]
      (first | refine CallsA.use (laysOf_ok b m i) ?_ | refine QuietCalls.use (laysOf_ok b m i) ?_)
      simp (implicitDefEqProofs := false) (dsimp := false) only [go_sem]
      refine WP.rangeIter (so := {}) mixed (by kernel_rfl) (by kernel_rfl) rfl rfl (call_laysOf1) rfl rfl (iter_ways b m i hi ok) (encW_len) (fun k2 h => ∃ h2, h = h2 ++ .cells 0 [.yield n] :: k ∧ J (i * 18 + k2) h2) (fun c h => c = .ret ∧ ∃ h2, h = h2 ++ .cells 0 [.yield n] :: k ∧ S h2) ?_ ?_ ?_ ?_ ?_ ?_
      · rintro k2 h hb ⟨h2, rfl, hj2⟩
        obtain ⟨q1, q2, _⟩ := hJ _ _ hj2
        exact own_ok g1 q1 q2 hb
      · rintro c h hb ⟨_, h2, rfl, hj2⟩
        obtain ⟨q1, q2⟩ := hS _ hj2
        exact own_ok g1 q1 q2 hb
      · exact ⟨h1, rfl, hj⟩
      · rintro k2 h own hk ⟨h2, rfl, hj2⟩ hl2
        rw [List.length_map, ways_len] at hk
        have ex : ((ways b m i).map encW)[k2]'(by rw [List.length_map, ways_len]; exact hk) = [.agg (cLay (layN i k2)), .agg (nums12 (faceB m b.pages[i] b.cells (layN i k2)))] := by simp [ways, wayN, encW, List.getD, hi]
        rw [ex]
        dsimp only
        obtain ⟨q1, q2, q3, q4⟩ := hJ _ _ hj2
        have aL : ∀ a, L + a + 1 = L + (a + 1) := fun a => Nat.add_assoc L a 1
        simp (implicitDefEqProofs := false) (dsimp := false) only [go_sem, a1, a2, a9, a10, bdA, g1, q1, aL, getL q1, getL0 q1, setL q1, setL0 q1, cLay_leaf, cLay_len, cLay_take, setMany4, setM12 (face_len _ _ _ _), nums_take (face_len _ _ _ _), nums_leaf, nums12_len, face_len, Nat.le_refl]
        refine ⟨hg, ?_, ?_⟩
        · rw [loopAr_append _ (by omega), q4 (by rw [hlen]; omega)]
          rw [encW_len _ (List.getElem_mem _)]
        · have ex2 : ((allWays b m).map encW)[i * 18 + k2]'(by rw [hlen]; omega) = [.agg (cLay (layN i k2)), .agg (nums12 (faceB m b.pages[i] b.cells (layN i k2)))] := by
            rw [List.getElem_map]
            have := allWays_at (b := b) (m := m) hi hk
            rw [List.getElem?_eq_getElem (by rw [allWays_len]; omega)] at this
            rw [Option.some.inj this]
            simp [wayN, encW, List.getD, hi]
          have hy := fun own => hY (i * 18 + k2) h2 own (by rw [hlen]; omega) hj2
          rw [ex2] at hy
          refine YieldA.mono (hy _) ?_
          rintro e h' ⟨q, h3, rfl, rfl, hq⟩
          cases q with
          | true =>
            simp (implicitDefEqProofs := false) (dsimp := false) only [go_sem]
            exact ⟨_, ⟨_, loop_cut⟩, h3, rfl, hq⟩
          | false =>
            simp (implicitDefEqProofs := false) (dsimp := false) only [go_sem]
            exact ⟨_, ⟨_, loop_cut⟩, h3, rfl, hq⟩
      · rintro h ⟨h2, rfl, hj2⟩
        rw [List.length_map, ways_len] at hj2
        simp (implicitDefEqProofs := false) (dsimp := false) only [go_sem, bdA]
        refine ⟨i + 1, ⟨by omega, ⟨h2, _, rfl, by rw [show (i + 1) * 18 = i * 18 + 18 by omega]; exact hj2, ?_⟩, wrap_succ (by have := ok.most; omega)⟩, by omega⟩
        rw [g1]
        exact marks_loop (k := .cells 0 [.yield n] :: k) g1 ((hJ _ _ hj2).1) hmk (by rw [(hJ _ _ hj2).1]; simp)
      · rintro c h ⟨rfl, h2, rfl, hj2⟩
        simp (implicitDefEqProofs := false) (dsimp := false) only [go_sem]
        obtain ⟨r1, r2⟩ := hS _ hj2
        rw [g1, ← unmarkK_mark (n := ⟨L + (k.length + 1), 0⟩)]
        refine unmarkK_marks (marks_loop (k := .cells 0 [.yield n] :: k) (hi := L + k.length + 3) g1 r1 hmk (by simp; omega)) fun h' e1 e2 => ⟨_, L, rfl, by omega, rfl, ?_⟩
        rw [e2, List.take_left' r1]
        exact ⟨r2, rfl, .inr hj2⟩
    · have hs : ((i : Int) < (b.pages.length : Int)) = False := eq_false (by omega)
      simp (implicitDefEqProofs := false) (dsimp := false) only [go_sem, a1, a2, a9, a10, hs, decide_false]
      have ei : i = b.pages.length := by omega
      refine unmarkK_marks hmk fun h' e1 e2 => ⟨_, L, rfl, by omega, rfl, ?_⟩
      rw [e2, List.take_left' g1, hlen]
      exact ⟨g2, rfl, .inl (by rw [← ei]; exact hj)⟩
end Go.Mac
namespace Go.Mac
open Go Go.Conc Go.Proofs
set_option maxRecDepth 4000
def rightB (b : Board) (x : Lay × List Int) : Bool := (misB x.2 b.cells).length == 0
def rightsB (b : Board) (m : List (Int × Int)) : List (Lay × List Int) := (allWays b m).filter (rightB b)
def rightsTo (b : Board) (m : List (Int × Int)) (k : Nat) : List (Lay × List Int) := ((allWays b m).take k).filter (rightB b)
def cLayF (x : Lay × List Int) : List AV := cLay x.1
def cFaceF (x : Lay × List Int) : List AV := nums12 x.2
theorem belowL_flat {α : Type} {f : α → List AV} {n : Nat} (h : ∀ x, belowL 0 (f x) = true) (l : List α) : belowL n (l.flatMap f) = true := by
  refine belowL_mono (Nat.zero_le n) _ ?_
  rw [belowL_all, List.all_flatMap, List.all_eq_true]
  intro x _
  have := h x
  rwa [belowL_all] at this
theorem nums_below (f : List Int) : belowL 0 (nums12 f) = true := by
  rw [belowL_all, List.all_eq_true]; intro x hx
  obtain ⟨y, _, rfl⟩ := List.mem_map.1 hx
  rfl
theorem allWays_face {b : Board} {m : List (Int × Int)} (k : Nat) (hk : k < (allWays b m).length) : (allWays b m)[k].2.length = 12 := by
  have h : ∀ x ∈ allWays b m, x.2.length = 12 := by
    intro x hx
    obtain ⟨p, _, hx⟩ := List.mem_flatMap.1 hx
    obtain ⟨n, _, rfl⟩ := List.mem_map.1 hx
    exact face_len _ _ _ _
  exact h _ (List.getElem_mem hk)
theorem call_lays1 : callable Try.prog 112 := ⟨_, Try.func112, rfl, rfl⟩
theorem rightsTo_succ {b : Board} {m : List (Int × Int)} {k : Nat} (hk : k < (allWays b m).length) : rightsTo b m (k + 1) = rightsTo b m k ++ if rightB b (allWays b m)[k] = true then [(allWays b m)[k]] else [] := by
  unfold rightsTo
  rw [List.take_add_one, List.getElem?_eq_getElem hk, List.filter_append]
  congr 1
  simp only [Option.toList_some, List.filter_cons, List.filter_nil]
@[simp] theorem cLayF_len (x) : (cLayF x).length = 4 := rfl
theorem cFaceF_len12 (x : Lay × List Int) (h : x.2.length = 12) : (cFaceF x).length = 12 := by rw [cFaceF, nums12_len, h]
theorem faces_len : ∀ (l : List (Lay × List Int)), (∀ x ∈ l, x.2.length = 12) → (l.flatMap cFaceF).length = l.length * 12
  | [], _ => rfl
  | x :: l, h => by
    rw [List.flatMap_cons, List.length_append, faces_len l (fun y hy => h y (by simp [hy])), cFaceF_len12 x (h x (by simp)), List.length_cons]
    omega
theorem rightsTo_face {b : Board} {m : List (Int × Int)} {k : Nat} (x) (hx : x ∈ rightsTo b m k) : x.2.length = 12 := by
  have h1 := List.mem_of_mem_take (List.mem_filter.1 hx).1
  obtain ⟨i, hi, rfl⟩ := List.mem_iff_getElem.1 h1
  exact allWays_face i hi
theorem rightsTo_le {b : Board} {m : List (Int × Int)} (ok : okBoard b) (k : Nat) : (rightsTo b m k).length ≤ 72 := by
  have h1 : (rightsTo b m k).length ≤ ((allWays b m).take k).length := List.length_filter_le _ _
  rw [List.length_take, allWays_len] at h1
  have := ok.most
  omega
theorem cLay_below {n : Nat} (l : Lay) : belowL n (cLay l) = true := belowL_mono (Nat.zero_le n) _ rfl
theorem nums_belowN {n : Nat} (f : List Int) : belowL n (nums12 f) = true := belowL_mono (Nat.zero_le n) _ (nums_below f)
theorem loop_cut5 {h own e : List Blk} {a b c d f g l : Blk} : h ++ a :: b :: c :: d :: f :: g :: l :: (own ++ e) = (h ++ [a, b, c, d, f]) ++ g :: l :: (own ++ e) := by simp
def rightsH (b : Board) (m : List (Int × Int)) (L : Nat) (l : List (Lay × List Int)) : List Blk :=
  [.cells 0 (bdA b m), .cells 0 [.sl ⟨L + 3, l.length⟩ 4 0 l.length], .cells 0 [.sl ⟨L + 4, l.length⟩ 12 0 l.length], .cells l.length (l.flatMap cLayF), .cells l.length (l.flatMap cFaceF)]
theorem mine_ok {h bs : List Blk} {n : Nat} (hB : h.all (belowBlk h.length) = true) (hn : n = h.length + bs.length) (hb : bs.all (belowBlk n) = true) : (h ++ bs).length = n ∧ (h ++ bs).all (belowBlk n) = true := by
  refine ⟨by rw [List.length_append, hn], ?_⟩
  rw [List.all_append, hb, allBelow_mono (by omega) hB]; rfl
theorem rightsH_below (b : Board) (m : List (Int × Int)) (L : Nat) (l : List (Lay × List Int)) {n : Nat} (hn : n = L + 5) : (rightsH b m L l).all (belowBlk n) = true := by
  have := belowL_mono (Nat.zero_le n) _ (bdA_below b m)
  subst hn
  simp only [rightsH, List.all_cons, List.all_nil, belowBlk, this, belowL, below, belowL_flat (f := cLayF) (fun _ => rfl), belowL_flat (f := cFaceF) (fun _ => nums_below _)]
  simp
theorem rights_ok (b : Board) (m : List (Int × Int)) (ok : okBoard b) : PureA Try.prog 63 [.agg (bdA b m)] (.tup [sliceOf cLayF (rightsB b m), sliceOf cFaceF (rightsB b m)]) := by
  refine PureA.of_wpe [2,3] { shut := [19, 23], hand := [7] } 26 mixed Try.func63 (by kernel_rfl) rfl (by kernel_rfl) (by simp only [below, belowL, sliceOf, belowL_flat (f := cLayF) (fun _ => rfl), belowL_flat (f := cFaceF) (fun _ => nums_below _), Bool.and_self]) fun h j hB => ?_
  simp only [junk_succ, junk_zero, List.cons_append, List.nil_append, List.length_cons, List.length_nil, Nat.reduceAdd]
  simp (implicitDefEqProofs := false) (dsimp := false) only [go_sem, bdA]
  (first | refine CallsA.use (lays_ok b m) ?_ | refine QuietCalls.use (lays_ok b m) ?_)
  simp (implicitDefEqProofs := false) (dsimp := false) only [go_sem]
  refine WPI.turn (Turns.nilCell (i := h.length + 1) (j := 0) (sz := 4) (by simp only; rw [hget]; rfl) rfl) ?_
  refine WPI.turn (Turns.nilCell (i := h.length + 2) (j := 0) (sz := 12) (by simp only [List.append_assoc]; rw [hset, List.append_assoc, hget]; rfl) rfl) ?_
  simp only [hset, List.append_assoc, List.set_cons_succ, List.set_cons_zero, List.cons_append, List.nil_append, List.length_append, List.length_cons, List.length_nil, Nat.zero_add, Nat.reduceAdd]
  refine WP.rangeIterN (h.length + 6) (by simp <;> omega)  (so := { shut := [19, 23], hand := [7] }) mixed (by kernel_rfl) (by kernel_rfl) rfl rfl (call_lays1) rfl rfl (lays1_ok b m ok) (encW_len) (fun k h1 => h1 = h ++ rightsH b m h.length (rightsTo b m k)) (fun _ _ => False) ?_ ?_ ?_ ?_ ?_ ?_
  · rintro k _ _ rfl
    exact mine_ok hB (by simp [rightsH]) (rightsH_below _ _ _ _ (by simp))
  · rintro _ _ _ ⟨⟩
  · simp [rightsH, rightsTo, bdA, sliceOf]
  · rintro k _ own hk rfl hl2
    rw [List.length_map] at hk
    have ex : ((allWays b m).map encW)[k]'(by rw [List.length_map]; exact hk) = [.agg (cLay (allWays b m)[k].1), .agg (nums12 (allWays b m)[k].2)] := by simp [encW]
    rw [ex]
    dsimp only
    have e12 := allWays_face (b := b) (m := m) k hk
    simp (implicitDefEqProofs := false) (dsimp := false) only [go_sem, rightsH, bdA, cLay_leaf, cLay_len, cLay_take, setMany4, setM12 e12, nums_take e12, nums_leaf, nums12_len, e12, Nat.le_refl]
    (first | refine CallsA.use (misfits_ok b m _ e12 ok.cells) ?_ | refine QuietCalls.use (misfits_ok b m _ e12 ok.cells) ?_)
    simp (implicitDefEqProofs := false) (dsimp := false) only [go_sem, len_eq0]
    refine ⟨fun hr => ?_, fun hr => ?_⟩
    · have hl : (rightsTo b m (k + 1)) = rightsTo b m k ++ [(allWays b m)[k]] := by
        rw [rightsTo_succ hk, rightB, hr]; rfl
      refine WP.noisy (so := { shut := [19, 23], }) 8 [3, 7] [0, 0, 0, 0, 0, 0, 0, 0] [0, 0, 0, 0, 1, 1, 1, 0] ((fun T => [h ++ .cells 0 (bdA b m) :: .cells 0 [.sl ⟨h.length + 3, (rightsTo b m k).length⟩ 4 0 (rightsTo b m k).length] :: .cells 0 [.sl ⟨h.length + 4, (rightsTo b m k).length⟩ 12 0 (rightsTo b m k).length] :: .cells (rightsTo b m k).length ((rightsTo b m k).flatMap cLayF) :: .cells (rightsTo b m k).length ((rightsTo b m k).flatMap cFaceF) :: T, h ++ .cells 0 (bdA b m) :: .cells 0 [.sl ⟨h.length + 3, (rightsTo b m k).length⟩ 4 0 (rightsTo b m k).length] :: .cells 0 [.sl ⟨h.length + 4, (rightsTo b m k).length⟩ 12 0 (rightsTo b m k).length] :: .cells ((rightsTo b m k).length + 1) ((rightsTo b m k).flatMap cLayF ++ cLay (allWays b m)[k].1) :: .cells (rightsTo b m k).length ((rightsTo b m k).flatMap cFaceF) :: T, h ++ .cells 0 (bdA b m) :: .cells 0 [.sl ⟨h.length + 3, (rightsTo b m k).length⟩ 4 0 (rightsTo b m k).length] :: .cells 0 [.sl ⟨h.length + 4, (rightsTo b m k).length⟩ 12 0 (rightsTo b m k).length] :: .cells ((rightsTo b m k).length + 1) ((rightsTo b m k).flatMap cLayF ++ cLay (allWays b m)[k].1) :: .cells ((rightsTo b m k).length + 1) ((rightsTo b m k).flatMap cFaceF ++ nums12 (allWays b m)[k].2) :: T]) _) rfl mixed (by kernel_rfl) (by kernel_rfl) (by decide) (by kernel_rfl) rfl ?_
      have hF := faces_len (rightsTo b m k) (fun x hx => rightsTo_face x hx)
      have hN := rightsTo_le (m := m) ok k
      simp (implicitDefEqProofs := false) (dsimp := false) only [go_sem, bdA, length_rows cLayF_len, hF, cLay_leaf, cLay_len, cLay_take, setMany4, setM12 e12, nums_take e12, nums_leaf, nums12_len, e12, Nat.le_refl, cLay_below, nums_belowN]
      refine ⟨by omega, by omega, _, ⟨_, loop_cut5⟩, ?_⟩
      rw [hl]
      simp [cLayF, cFaceF, rightsH, bdA, sliceOf]
    · have hl : (rightsTo b m (k + 1)) = rightsTo b m k := by
        rw [rightsTo_succ hk, rightB, hr]; simp
      rw [hl]
      exact ⟨_, ⟨_, loop_cut5⟩, rfl⟩
  · rintro _ rfl
    simp (implicitDefEqProofs := false) (dsimp := false) only [go_sem, rightsH]
    have hl : rightsTo b m ((allWays b m).map encW).length = rightsB b m := by rw [List.length_map, rightsTo, List.take_length]; rfl
    have hF := faces_len (rightsTo b m ((allWays b m).map encW).length) (fun x hx => rightsTo_face x hx)
    rw [List.take_of_length_le (by rw [length_rows cLayF_len]; exact Nat.le_refl _), List.take_of_length_le (by rw [hF]; exact Nat.le_refl _), hl]
    exact ⟨rfl, rfl⟩
  · rintro _ _ ⟨⟩
end Go.Mac
namespace Go.Mac
open Go Go.Conc Go.Proofs
set_option maxRecDepth 4000
theorem rowsErr_zero {m : List (Int × Int)} {w : Nat} : ∀ {l : List (List UInt8)}, rowsErr m w l = 0 → ∀ r ∈ l, sizedB r.length 4 = 0 ∧ r.length = w ∧ charsErr m r = 0
  | [], _, r, hr => by cases hr
  | row :: l, h, r, hr => by
    unfold rowsErr at h
    by_cases c1 : sizedB row.length 4 = 0
    · rw [if_neg (by simp [c1])] at h
      by_cases c2 : row.length = w
      · rw [if_neg (by simp [c2])] at h
        by_cases c3 : charsErr m row = 0
        · rw [if_neg (by simp [c3])] at h
          rcases List.mem_cons.1 hr with rfl | hr
          · exact ⟨c1, c2, c3⟩
          · exact rowsErr_zero h r hr
        · rw [if_pos c3] at h; cases h
      · rw [if_pos c2] at h; cases h
    · rw [if_pos c1] at h; exact absurd h c1
theorem headD_get {α : Type} {l : List α} {d : α} (h : 0 < l.length) : l.headD d = l[0] := by cases l with | nil => simp at h | cons a l => rfl
theorem okPage.of {m : List (Int × Int)} {p : List (List UInt8)} (h : pageErr m p = 0) : okPage p := by
  unfold pageErr at h
  by_cases c1 : sizedB p.length 3 = 0
  · rw [if_neg (by simp [c1])] at h
    have h1 := sizedB_zero c1
    have h2 := rowsErr_zero h
    have h3 := sizedB_zero (h2 _ (List.getElem_mem (show 0 < p.length by omega))).1
    have h4 := headD_get (d := ([] : List UInt8)) (show 0 < p.length by omega)
    exact ⟨by omega, by omega, fun r hr => (h2 r hr).2.1, by rw [h4]; omega, by rw [h4]; omega⟩
  · rw [if_pos c1] at h; exact absurd h c1
theorem pagesErr_zero {m : List (Int × Int)} : ∀ {l : List (List (List UInt8))}, pagesErr m l = 0 → ∀ p ∈ l, pageErr m p = 0
  | [], _, r, hr => by cases hr
  | q :: l, h, p, hp => by
    unfold pagesErr at h
    by_cases c : pageErr m q = 0
    · rw [if_neg (by simp [c])] at h
      rcases List.mem_cons.1 hp with rfl | hp
      · exact c
      · exact pagesErr_zero h p hp
    · rw [if_pos c] at h; exact absurd h c
theorem cellRowsErr_zero {w : Nat} : ∀ {l : List (List Trace)}, cellRowsErr w l = 0 → ∀ r ∈ l, sizedB r.length 4 = 0 ∧ r.length = w ∧ tracesErr r = 0
  | [], _, r, hr => by cases hr
  | row :: l, h, r, hr => by
    unfold cellRowsErr at h
    by_cases c1 : sizedB row.length 4 = 0
    · rw [if_neg (by simp [c1])] at h
      by_cases c2 : row.length = w
      · rw [if_neg (by simp [c2])] at h
        by_cases c3 : tracesErr row = 0
        · rw [if_neg (by simp [c3])] at h
          rcases List.mem_cons.1 hr with rfl | hr
          · exact ⟨c1, c2, c3⟩
          · exact cellRowsErr_zero h r hr
        · rw [if_pos c3] at h; exact absurd h c3
      · rw [if_pos c2] at h; cases h
    · rw [if_pos c1] at h; exact absurd h c1
theorem okCells.of {p : List (List Trace)} (h : cellsErr p = 0) : okCells p := by
  unfold cellsErr at h
  by_cases c1 : sizedB p.length 3 = 0
  · rw [if_neg (by simp [c1])] at h
    have h1 := sizedB_zero c1
    have h2 := cellRowsErr_zero h
    have h3 := sizedB_zero (h2 _ (List.getElem_mem (show 0 < p.length by omega))).1
    have h4 := headD_get (d := ([] : List Trace)) (show 0 < p.length by omega)
    exact ⟨by omega, by omega, fun r hr => (h2 r hr).2.1, by rw [h4]; omega, by rw [h4]; omega⟩
  · rw [if_pos c1] at h; exact absurd h c1
theorem boardErr_zero {b : Board} (h : boardErr b = 0) : glyphsErr b.glyphs = 0 ∧ sizedB b.pages.length 4 = 0 ∧ pagesErr (mapB b.glyphs) b.pages = 0 ∧ cellsErr b.cells = 0 := by
  unfold boardErr at h
  by_cases c1 : glyphsErr b.glyphs = 0
  · rw [if_neg (by simp [c1])] at h
    by_cases c2 : sizedB b.pages.length 4 = 0
    · rw [if_neg (by simp [c2])] at h
      by_cases c3 : pagesErr (mapB b.glyphs) b.pages = 0
      · rw [if_neg (by simp [c3])] at h
        exact ⟨c1, c2, c3, h⟩
      · rw [if_pos c3] at h; exact absurd h c3
    · rw [if_pos c2] at h; exact absurd h c2
  · rw [if_pos c1] at h; exact absurd h c1
theorem okBoard.of {b : Board} (h : boardErr b = 0) : okBoard b := by
  obtain ⟨_, h2, h3, h4⟩ := boardErr_zero h
  have := sizedB_zero h2
  exact ⟨by omega, by omega, fun p hp => okPage.of (pagesErr_zero h3 p hp), okCells.of h4⟩
theorem leaf4 {x y z t : AV} (h : [x, y, z, t].all leafA = true) : leafA x = true ∧ leafA y = true ∧ leafA z = true ∧ leafA t = true := by
  simp only [List.all_cons, List.all_nil, Bool.and_true, Bool.and_eq_true] at h
  exact ⟨h.1, h.2.1, h.2.2.1, h.2.2.2⟩
theorem open_use {b : Board} {h : List Blk} {Post : AEnd → List Blk → Prop} (h1 : boardErr b = 0 → Post (.ret (.tup [.agg (bdA b (mapB b.glyphs)), .int .i64 0])) h) (h2 : boardErr b ≠ 0 → (boardErr b != 0) = true → ∀ x y z t, leafA x = true → leafA y = true → leafA z = true → leafA t = true → Post (.ret (.tup [.agg [x, y, z, t], .int .i64 (boardErr b)])) h) : CallsA Try.prog 62 [.agg (brdA b)] h Post :=
  (open_ok b h).mono fun e h' q => by
    obtain ⟨rfl, ⟨e0, rfl⟩ | ⟨e1, x, y, z, t, hf, rfl⟩⟩ := q
    · exact h1 e0
    · obtain ⟨f1, f2, f3, f4⟩ := leaf4 hf
      exact h2 e1 (by simpa using e1) x y z t f1 f2 f3 f4
def laysB (b : Board) : List (Lay × List Int) := rightsB b (mapB b.glyphs)
def unlessErr (e : Int) (v : AV) : AV := if e = 0 then v else .nilsl
theorem unless_ok {e : Int} {v : AV} (h : e = 0) : unlessErr e v = v := if_pos h
theorem unless_bad {e : Int} {v : AV} (h : e ≠ 0) : unlessErr e v = .nilsl := if_neg h
theorem unless_below {e : Int} {v : AV} (h : below 0 v = true) : below 0 (unlessErr e v) = true := by
  unfold unlessErr; split
  · exact h
  · rfl
theorem Lays_ok (b : Board) : PureA Try.prog 22 [.agg (brdA b)] (.tup [unlessErr (boardErr b) (sliceOf cLayF (laysB b)), .int .i64 (boardErr b)]) := by
  refine PureA.of_wpp {} 21 mixed Try.func22 (by kernel_rfl) rfl (by kernel_rfl) (by simp only [below, belowL, unless_below (v := sliceOf cLayF (laysB b)) (below_psl (fun _ => rfl) _), Bool.and_self]) fun h j hB => ?_
  simp only [junk_succ, junk_zero, List.cons_append, List.nil_append, List.length_cons, List.length_nil, Nat.reduceAdd]
  simp (implicitDefEqProofs := false) (dsimp := false) only [go_sem, brdA]
  refine open_use (fun e0 => ?_) (fun e1 e2 x y z t f1 f2 f3 f4 => ?_)
  · simp (implicitDefEqProofs := false) (dsimp := false) only [go_sem, bdA]
    (first | refine CallsA.use (rights_ok b _ (okBoard.of e0)) ?_ | refine QuietCalls.use (rights_ok b _ (okBoard.of e0)) ?_)
    simp (implicitDefEqProofs := false) (dsimp := false) only [go_sem, e0, unless_ok e0]
    rfl
  · simp only [leafA] at f1 f2 f3 f4
    simp (implicitDefEqProofs := false) (dsimp := false) only [go_sem, f1, f2, f3, f4, e2, unless_bad e1]
end Go.Mac
namespace Go.Mac
open Go Go.Conc Go.Proofs
set_option maxRecDepth 4000
def cByte (n : Nat) : List AV := [.int .u8 n]
@[simp] theorem cByte_len (n) : (cByte n).length = 1 := rfl
def nameL (gs : List Glyph) : List Nat := 45 :: gs.map gkey
def changeB (m : List (Int × Int)) (gs : List Glyph) (l : Lay) (t : Trace) : Option Nat := (nameL gs).find? fun n => fitsB (asB l (inkB m n)) t
def changeA : Option Nat → AV
  | some n => .tup [.int .u8 n, .bool true]
  | none => .tup [.int .u8 0, .bool false]
theorem changeA_below (o : Option Nat) : below 0 (changeA o) = true := by cases o <;> rfl
def one12 (k : Nat) (v : Int) : List Int := part12 (fun i => if i = k then v else 0) 12
theorem one12_len (k : Nat) (v : Int) : (one12 k v).length = 12 := part12_len _ _
theorem one12_get {k : Nat} {v : Int} (h : k < 12) : (one12 k v).getD k 0 = v := by
  simp [one12, part12, List.getD, h]
theorem zeros_set {k : Nat} {v : Int} (h : k < 12) : [AV.int .i64 0, .int .i64 0, .int .i64 0, .int .i64 0, .int .i64 0, .int .i64 0, .int .i64 0, .int .i64 0, .int .i64 0, .int .i64 0, .int .i64 0, .int .i64 0].set k (.int .i64 v) = nums12 (one12 k v) := by
  apply List.ext_getElem?
  intro i
  by_cases hi : i < 12
  · have e : [AV.int .i64 0, .int .i64 0, .int .i64 0, .int .i64 0, .int .i64 0, .int .i64 0, .int .i64 0, .int .i64 0, .int .i64 0, .int .i64 0, .int .i64 0, .int .i64 0] = List.replicate 12 (.int .i64 0) := rfl
    rw [e, List.getElem?_set]
    simp only [List.length_replicate, h, if_true, nums12, one12, part12, List.getElem?_map, List.getElem?_range hi, hi, Option.map_some, List.getElem?_replicate]
    by_cases hk : k = i
    · subst hk; simp
    · rw [if_neg hk, if_neg (fun e : i = k => hk e.symm)]
  · rw [List.getElem?_eq_none (by simp; omega), List.getElem?_eq_none (by rw [nums12_len, one12_len]; omega)]
theorem name_wrap {gs : List Glyph} (h : okGlyphs gs) {x : Nat} (hx : x < (nameL gs).length) : IntKind.i32.wrap ((nameL gs)[x] : Int) = (((nameL gs)[x] : Nat) : Int) := by
  have hn : ∀ n ∈ nameL gs, n ≤ 122 := by
    intro n hn
    rcases List.mem_cons.1 hn with rfl | hn
    · decide
    · obtain ⟨g, hg, rfl⟩ := List.mem_map.1 hn
      exact (h.one g hg).2.2.1
  have := hn _ (List.getElem_mem hx)
  exact wrap32 (by omega) (by omega)
theorem change_ok (b : Board) (m : List (Int × Int)) (l : Lay) (okg : okGlyphs b.glyphs) (okc : okCells b.cells) (r c : Nat) (hr : r < b.cells.length) (hc : c < (b.cells.headD []).length) : PureA Try.prog 107 [.agg (bdA b m), .agg (cLay l), .int .i64 r, .int .i64 c] (changeA (changeB m b.glyphs l (traceAt b.cells r c))) := by
  refine PureA.of_wpp { shut := [29], tail := [(11, 10)] } 52 mixed Try.func107 (by kernel_rfl) rfl (by kernel_rfl) (changeA_below _) fun h j hB => ?_
  simp only [junk_succ, junk_zero, List.cons_append, List.nil_append, List.length_cons, List.length_nil, Nat.reduceAdd]
  have q1 := okc.most
  have q2 := okc.wmost
  have q3 := okg.most
  simp (implicitDefEqProofs := false) (dsimp := false) only [go_sem, bdA]
  refine WP.loopI (fun (i : Nat) s => (i ≤ b.glyphs.length) ∧ s.sl.length = 56 ∧ s.df = [] ∧ s.gh = {} ∧ (∃ k, s.hp = h ++ .cells 0 (bdA b m) :: .cells 0 (cLay l) :: .cells i ((nameL (b.glyphs.take i)).flatMap cByte) :: k) ∧ evA s.sl (.tmp 2) = .int .i64 r ∧ evA s.sl (.tmp 3) = .int .i64 c ∧ evA s.sl (.tmp 4) = .ptr ⟨h.length, 0⟩ 0 ∧ evA s.sl (.tmp 5) = .ptr ⟨h.length + 1, 0⟩ 0 ∧ evA s.sl (.tmp 10) = .sl ⟨h.length + 2, i⟩ 1 0 (i + 1) ∧ evA s.sl (.tmp 19) = sliceOf cGlyph b.glyphs ∧ evA s.sl (.tmp 20) = .int .i64 b.glyphs.length ∧ evA s.sl (.tmp 21) = .int .i64 i) (fun (i : Nat) => b.glyphs.length - i) (0) ?_ ?_
  · simp (implicitDefEqProofs := false) (dsimp := false) only [go_sem, bdA, Nat.zero_le]
    exact ⟨_, rfl, rfl⟩
  · rintro i ⟨sl, df, hp, gh⟩ ⟨ab, al, rfl, rfl, ah, a2, a3, a4, a5, a10, a19, a20, a21⟩
    simp only at ab al ah a2 a3 a4 a5 a10 a19 a20 a21
    obtain ⟨j, rfl⟩ := slots_lit al; clear al; simp only [junk_succ, junk_zero, evA_tmp, nth_16, nth_four, nth_one, nth_zero, Nat.zero_add, Nat.reduceAdd] at  a2 a3 a4 a5 a10 a19 a20 a21 ⊢
    refine wp_ok (so := { shut := [29], tail := [(11, 10)] }) mixed _ (by kernel_rfl) ?_
    obtain ⟨k, rfl⟩ := ah
    by_cases hi : i < b.glyphs.length
    · obtain ⟨c', hc', hk'⟩ := one_name (okg.one _ (List.getElem_mem hi)).1
      have hl : (nameL (b.glyphs.take i)).length = i + 1 := by simp [nameL]; omega
      simp (implicitDefEqProofs := false) (dsimp := false) only [go_sem, a2, a3, a4, a5, a10, a19, a20, a21, bdA, nat_lt hi, decide_true, rowN cGlyph_len hi, rowN_le cGlyph_len hi, hi, cGlyph, hc', length_rows cByte_len, hl]
      refine ⟨by omega, i + 1, ⟨by omega, ⟨_, ⟨rfl, ?_⟩, rfl⟩, rfl, wrap_succ (by omega)⟩, by omega⟩
      have ht : b.glyphs.take (i + 1) = b.glyphs.take i ++ [b.glyphs[i]] := by rw [List.take_add_one, List.getElem?_eq_getElem hi]; rfl
      rw [ht]
      simp only [nameL, List.map_append, List.map_cons, List.map_nil, List.flatMap_cons, List.flatMap_append, List.flatMap_nil, List.append_nil, cByte, hk', List.cons_append, List.nil_append]
    · have hs : ((i : Int) < (b.glyphs.length : Int)) = False := eq_false (by omega)
      have ei : i = b.glyphs.length := by omega
      subst ei
      rw [List.take_length]
      simp (implicitDefEqProofs := false) (dsimp := false) only [go_sem, a2, a3, a4, a5, a10, a19, a20, a21, bdA, hs, decide_false]
      have hl : (nameL b.glyphs).length = b.glyphs.length + 1 := by simp [nameL]
      refine WP.loopI (fun (x : Nat) s => (x ≤ b.glyphs.length + 1 ∧ ((nameL b.glyphs).drop x).find? (fun n : Nat => fitsB (asB l (inkB m n)) (traceAt b.cells r c)) = changeB m b.glyphs l (traceAt b.cells r c)) ∧ s.sl.length = 56 ∧ s.df = [] ∧ s.gh = {} ∧ (∃ k, s.hp = h ++ .cells 0 (bdA b m) :: .cells 0 (cLay l) :: .cells b.glyphs.length ((nameL b.glyphs).flatMap cByte) :: k) ∧ evA s.sl (.tmp 2) = .int .i64 r ∧ evA s.sl (.tmp 3) = .int .i64 c ∧ evA s.sl (.tmp 4) = .ptr ⟨h.length, 0⟩ 0 ∧ evA s.sl (.tmp 5) = .ptr ⟨h.length + 1, 0⟩ 0 ∧ evA s.sl (.tmp 32) = .sl ⟨h.length + 2, b.glyphs.length⟩ 1 0 (b.glyphs.length + 1) ∧ evA s.sl (.tmp 33) = .int .i64 (b.glyphs.length + 1 : Nat) ∧ evA s.sl (.tmp 34) = .int .i64 x) (fun (x : Nat) => b.glyphs.length + 1 - x) (0) ?_ ?_
      · simp (implicitDefEqProofs := false) (dsimp := false) only [go_sem, bdA, Nat.zero_le]
        rfl
      · rintro x ⟨sl, df, hp, gh⟩ ⟨eb, el, rfl, rfl, eh, e2, e3, e4, e5, e32, e33, e34⟩
        simp only at eb el eh e2 e3 e4 e5 e32 e33 e34
        obtain ⟨j, rfl⟩ := slots_lit el; clear el; simp only [junk_succ, junk_zero, evA_tmp, nth_16, nth_four, nth_one, nth_zero, Nat.zero_add, Nat.reduceAdd] at  e2 e3 e4 e5 e32 e33 e34 ⊢
        refine wp_ok (so := { shut := [29], tail := [(11, 10)] }) mixed _ (by kernel_rfl) ?_
        obtain ⟨k, rfl⟩ := eh
        obtain ⟨eb, eq⟩ := eb
        by_cases hx : x < b.glyphs.length + 1
        · have hx2 : x < (nameL b.glyphs).length := by omega
          rw [drop_get hx2] at eq
          have hg := row1 cByte_len hx2
          simp (implicitDefEqProofs := false) (dsimp := false) only [go_sem, e2, e3, e4, e5, e32, e33, e34, bdA, nat_lt hx, decide_true, hg, cByte, length_rows cByte_len, hl, name_wrap okg hx2, look92, cLay_len, cLay_take, Nat.le_refl]
          (first | refine CallsA.use (as_ok l _) ?_ | refine QuietCalls.use (as_ok l _) ?_)
          simp (implicitDefEqProofs := false) (dsimp := false) only [go_sem, zeros_set (k := r * 4 + c) (by omega), bdA, nums12_len, one12_len, Nat.le_refl, nums_take (one12_len _ _)]
          refine ⟨by omega, by omega, by omega, ?_⟩
          have hr1 := right_ok b m (one12 (r * 4 + c) (asB l (inkB m (nameL b.glyphs)[x]))) (one12_len _ _) okc r c hr hc
          rw [show 4 * r + c = r * 4 + c by omega, one12_get (by omega)] at hr1
          (first | refine CallsA.use (hr1) ?_ | refine QuietCalls.use (hr1) ?_)
          cases hf : fitsB (asB l (inkB m (nameL b.glyphs)[x])) (traceAt b.cells r c) with
          | true =>
            simp (implicitDefEqProofs := false) (dsimp := false) only [go_sem]
            simp only [List.find?_cons, hf] at eq
            rw [← eq]; rfl
          | false =>
            simp (implicitDefEqProofs := false) (dsimp := false) only [go_sem, bdA]
            simp only [List.find?_cons, hf] at eq
            exact ⟨x + 1, ⟨⟨by omega, eq⟩, wrap_succ (by omega)⟩, by omega⟩
        · have hs : ((x : Int) < ((b.glyphs.length + 1 : Nat) : Int)) = False := eq_false (by omega)
          simp (implicitDefEqProofs := false) (dsimp := false) only [go_sem, e2, e3, e4, e5, e32, e33, e34, bdA, hs, decide_false]
          rw [List.drop_eq_nil_of_le (by omega)] at eq
          rw [← eq]; rfl
end Go.Mac
namespace Go.Mac
open Go Go.Conc Go.Proofs
set_option maxRecDepth 4000
def setL2 (p : List (List UInt8)) (r c : Nat) (b : UInt8) : List (List UInt8) := p.set r ((p.getD r []).set c b)
def emStep (m : List (Int × Int)) (gs : List Glyph) (pg : List (List UInt8)) (cs : List (List Trace)) (l : Lay) (p : List (List UInt8)) (x : Int × Int) : Option (List (List UInt8)) :=
  match changeB m gs l (traceAt cs x.1.toNat x.2.toNat) with
  | some n => if (letterB pg l x.1 x.2).2.2 then some (setL2 p (letterB pg l x.1 x.2).1.toNat (letterB pg l x.1 x.2).2.1.toNat (UInt8.ofNat n)) else none
  | none => none
def emFold (m : List (Int × Int)) (gs : List Glyph) (pg : List (List UInt8)) (cs : List (List Trace)) (l : Lay) : List (Int × Int) → List (List UInt8) → Option (List (List UInt8))
  | [], p => some p
  | x :: xs, p => match emStep m gs pg cs l p x with
    | some q => emFold m gs pg cs l xs q
    | none => none
def wrongB (m : List (Int × Int)) (pg : List (List UInt8)) (cs : List (List Trace)) (l : Lay) : List (Int × Int) := misB (faceB m pg cs l) cs
def emendB (m : List (Int × Int)) (gs : List Glyph) (pg : List (List UInt8)) (cs : List (List Trace)) (l : Lay) : Option (List (List UInt8)) := emFold m gs pg cs l (wrongB m pg cs l) pg
structure Em where
  rows : List (List UInt8)
  letters : Int
  way : Lay
def cEm (e : Em) : List AV := sliceOf cStr e.rows :: .int .i64 e.letters :: cLay e.way
def noEm : List AV := [.nilsl, .int .i64 0, .int .i64 0, .bool false, .int .i64 0, .int .i64 0]
def emA : Option Em → AV
  | some e => .tup [.agg (cEm e), .bool true]
  | none => .tup [.agg noEm, .bool false]
def emOf (m : List (Int × Int)) (gs : List Glyph) (pg : List (List UInt8)) (cs : List (List Trace)) (l : Lay) : Option Em := (emendB m gs pg cs l).map fun p => ⟨p, (wrongB m pg cs l).length, l⟩
theorem emA_below (o : Option Em) : below 0 (emA o) = true := by
  cases o with
  | none => rfl
  | some e =>
    have := belowL_flat (n := 0) (f := cStr) (fun _ => rfl) e.rows
    simp [emA, cEm, cLay, below, belowL, sliceOf, this]
theorem misTo_mem {f : List Int} {cs : List (List Trace)} : ∀ {n : Nat}, n ≤ 4 * cs.length → ∀ x ∈ misTo f cs n, ∃ r c : Nat, x = ((r : Int), (c : Int)) ∧ r < cs.length ∧ c < (cs.headD []).length := by
  intro n hn x hx
  unfold misTo at hx
  obtain ⟨k, hk, hx⟩ := List.mem_flatMap.1 hx
  rw [List.mem_range] at hk
  split at hx
  · rename_i hc
    unfold misAt at hx
    split at hx
    · cases hx
    · rw [List.mem_singleton] at hx
      exact ⟨k / 4, k % 4, hx, by omega, hc⟩
  · cases hx
theorem misB_mem {f : List Int} {cs : List (List Trace)} (x) (hx : x ∈ misB f cs) : ∃ r c : Nat, x = ((r : Int), (c : Int)) ∧ r < cs.length ∧ c < (cs.headD []).length := misTo_mem (Nat.le_refl _) x hx
theorem letterB_bound {p : List (List UInt8)} {l : Lay} {row col : Int} (h : (letterB p l row col).2.2 = true) : ∃ r c : Nat, letterB p l row col = ((r : Int), (c : Int), true) ∧ r < p.length ∧ c < (p.headD []).length := by
  unfold letterB at h ⊢
  simp only at h ⊢
  split at h
  · cases h
  · rename_i hn
    rw [if_neg hn]
    split
    · exact ⟨((p.length : Int) - 1 - (row - l.down)).toNat, (col - l.right).toNat, by simp only [Prod.mk.injEq, and_true]; omega, by omega, by omega⟩
    · exact ⟨(row - l.down).toNat, (((p.headD []).length : Int) - 1 - (col - l.right)).toNat, by simp only [Prod.mk.injEq, and_true]; omega, by omega, by omega⟩
def cB (b : UInt8) : List AV := [.int .u8 b.toNat]
@[simp] theorem cB_len (b) : (cB b).length = 1 := rfl
def rowBlk (s : List UInt8) : Blk := .cells 0 (s.flatMap cB)
def rowsA (L w n : Nat) : List AV := (List.range n).map fun j => .sl ⟨L + (j + 6), 0⟩ 1 0 w
theorem rowsA_len (L w n : Nat) : (rowsA L w n).length = n := by simp [rowsA]
theorem rowsA_succ (L w n : Nat) : rowsA L w (n + 1) = rowsA L w n ++ [.sl ⟨L + (n + 6), 0⟩ 1 0 w] := by simp [rowsA, List.range_succ]
theorem rowsA_drop {L w n r : Nat} (h : r < n) : (rowsA L w n).drop r = .sl ⟨L + (r + 6), 0⟩ 1 0 w :: (rowsA L w n).drop (r + 1) := by
  rw [drop_get (by rw [rowsA_len]; exact h)]
  simp [rowsA]
theorem bytes_cB : ∀ (s : List UInt8), bytesA (s.flatMap cB) = some s
  | [] => rfl
  | b :: s => by
    simp only [List.flatMap_cons, cB, List.cons_append, List.nil_append, bytesA, bytes_cB s, Option.map_some]
    simp
theorem map_cB : ∀ (s : List UInt8), (s.map fun b => AV.int .u8 (b.toNat : Int)) = s.flatMap cB
  | [] => rfl
  | b :: s => by simp [cB, map_cB s]
theorem copied (s : List UInt8) : setMany (if s.length = 0 then [] else (List.range s.length).map fun j => [AV.int .u8 0].getD (j % 1) .any) 0 ((s.map fun b => AV.int .u8 (b.toNat : Int)).take (s.length.min s.length)) = s.flatMap cB := by
  have e : s.length.min s.length = s.length := Nat.min_self _
  rw [e, List.take_of_length_le (by simp), setMany_whole, map_cB]
  split
  · rename_i h; simp [h]
  · simp
theorem cBs_leaf (s : List UInt8) : (s.map fun b => AV.int .u8 (b.toNat : Int)).all leafA = true := by
  rw [List.all_eq_true]; intro x hx
  obtain ⟨b, _, rfl⟩ := List.mem_map.1 hx
  rfl
theorem copied_len (s : List UInt8) : s.length ≤ (if s.length = 0 then [] else (List.range s.length).map fun j => [AV.int .u8 0].getD (j % 1) .any).length := by
  split
  · rename_i h; simp [h]
  · simp
theorem cB_set (s : List UInt8) (c : Nat) (x : UInt8) : (s.flatMap cB).set c (.int .u8 (x.toNat : Int)) = (s.set c x).flatMap cB := by
  rw [← map_cB, ← map_cB, List.map_set]
theorem rows_set {pg : List (List UInt8)} {r c : Nat} {x : UInt8} (hr : r < pg.length) : (pg.map rowBlk).set r (.cells 0 ((pg[r].flatMap cB).set c (.int .u8 (x.toNat : Int)))) = (setL2 pg r c x).map rowBlk := by
  rw [cB_set]
  unfold setL2
  rw [List.map_set]
  simp [rowBlk, List.getD, hr]
theorem change_small {m : List (Int × Int)} {gs : List Glyph} {l : Lay} {t : Trace} (h : okGlyphs gs) {n : Nat} (hn : changeB m gs l t = some n) : n ≤ 122 := by
  have h1 := List.mem_of_find?_eq_some hn
  rcases List.mem_cons.1 h1 with rfl | h1
  · decide
  · obtain ⟨g, hg, rfl⟩ := List.mem_map.1 h1
    exact (h.one g hg).2.2.1
theorem setL2_len (p : List (List UInt8)) (r c : Nat) (x : UInt8) : (setL2 p r c x).length = p.length := by simp [setL2]
theorem setL2_wide {p : List (List UInt8)} {r c : Nat} {x : UInt8} {w : Nat} (h : ∀ s ∈ p, s.length = w) (hr : r < p.length) : ∀ s ∈ setL2 p r c x, s.length = w := by
  intro s hs
  rcases List.mem_or_eq_of_mem_set hs with hs | rfl
  · exact h s hs
  · simp only [List.getD, List.getElem?_eq_getElem hr, Option.getD_some, List.length_set]
    exact h _ (List.getElem_mem hr)
theorem fits_fault0 : zeroFits Try.prog 149 = true := fits_fault
theorem emRec_none (n k : Nat) (h : List Blk) (Post : List Blk → Prop) (hp : Post h) : RecA Try.prog 105 [.ptr ⟨n, 0⟩ 0, .ptr ⟨k, 0⟩ 0] h none Post := by
  refine RecA.of_wp { hand := [2] } 12 mixed Try.func105 (by kernel_rfl) rfl rfl rfl rfl rfl (by kernel_rfl) fun j hB => ?_
  simp only [junk_succ, junk_zero, List.cons_append, List.nil_append, List.length_cons, List.length_nil, Nat.reduceAdd]
  simp (implicitDefEqProofs := false) (dsimp := false) only [go_sem, List.take_left, fits_fault]
  exact ⟨hB, hp⟩
theorem emRec_some (n k : Nat) (hnk : n ≠ k) (h : List Blk) (Post : List Blk → Prop) (e : Int) (a0 a1 a2 a3 a4 a5 a6 : AV) (hn : h[n]? = some (.cells 0 [a0, a1, a2, a3, a4, a5])) (hk : h[k]? = some (.cells 0 [a6])) (he : e ≠ 0) (hp : Post ((h.set n (.cells 0 noEm)).set k (.cells 0 [.bool false]))) : RecA Try.prog 105 [.ptr ⟨n, 0⟩ 0, .ptr ⟨k, 0⟩ 0] h (some (faultA e)) Post := by
  have hlt : n < h.length := (List.getElem?_eq_some_iff.1 hn).1
  have hlk : k < h.length := (List.getElem?_eq_some_iff.1 hk).1
  refine RecA.of_wp { hand := [2] } 12 mixed Try.func105 (by kernel_rfl) rfl rfl rfl rfl rfl (by kernel_rfl) fun j hB => ?_
  simp only [junk_succ, junk_zero, List.cons_append, List.nil_append, List.length_cons, List.length_nil, Nat.reduceAdd]
  have hn2 : ∀ x, (h ++ x)[n]? = some (.cells 0 [a0, a1, a2, a3, a4, a5]) := fun x => by rw [List.getElem?_append_left hlt]; exact hn
  have hs2 : ∀ x b, (h ++ x).set n b = h.set n b ++ x := fun x b => by rw [List.set_append_left _ _ hlt]
  have hk2 : ∀ x, (h.set n (.cells 0 noEm) ++ x)[k]? = some (.cells 0 [a6]) := fun x => by rw [List.getElem?_append_left (by simpa using hlk), List.getElem?_set_ne hnk]; exact hk
  have hs3 : ∀ x b, (h.set n (.cells 0 noEm) ++ x).set k b = (h.set n (.cells 0 noEm)).set k b ++ x := fun x b => by rw [List.set_append_left _ _ (by simpa using hlk)]
  have hl2 : ((h.set n (.cells 0 noEm)).set k (.cells 0 [.bool false])).length = h.length := by simp
  have he2 : (e == 0) = false := by simpa using he
  simp only [noEm] at hk2 hs3 hl2
  have hg2 : ∀ x : List Blk, (h.set n (.cells 0 [.nilsl, .int .i64 0, .int .i64 0, .bool false, .int .i64 0, .int .i64 0]) ++ x)[h.length]? = x[0]? := fun x => getL0 (by simp)
  simp (implicitDefEqProofs := false) (dsimp := false) only [go_sem, hn2, hs2, hk2, hs3, fits_fault, he2]
  refine WP.noisy (so := { }) 5 [4] [0, 0, 0, 0, 0] [0, 1, 1, 1, 0] ([h ++ [.cells 0 [.int .i64 e]], h.set n (.cells 0 noEm) ++ [.cells 0 [.int .i64 e]]]) rfl mixed (by kernel_rfl) (by kernel_rfl) (by decide) (by kernel_rfl) rfl ?_
  simp (implicitDefEqProofs := false) (dsimp := false) only [go_sem, hn2, hs2, hk2, hs3, hg2, fits_fault, he2, noEm]
  rw [List.take_left' hl2]
  refine ⟨?_, hp⟩
  rw [List.all_eq_true] at *
  intro b hb
  rcases List.mem_or_eq_of_mem_set hb with hb | rfl
  · rcases List.mem_or_eq_of_mem_set hb with hb | rfl
    · exact hB b hb
    · rfl
  · rfl
theorem call_emend1 : callable Try.prog 105 := ⟨_, Try.func105, rfl, rfl⟩
theorem emend_ok (b : Board) (m : List (Int × Int)) (okg : okGlyphs b.glyphs) (l : Lay) (p : Nat) (hp : l.page = p) (hpl : p < b.pages.length) (ok : okPage b.pages[p]) (okc : okCells b.cells) (hd : -1000 ≤ l.down ∧ l.down ≤ 1000) (hrt : -1000 ≤ l.right ∧ l.right ≤ 1000) : PureA Try.prog 70 [.agg (bdA b m), .agg (cLay l)] (emA (emOf m b.glyphs b.pages[p] b.cells l)) := by
  intro h
  refine CallsA.of_wpr 105 [.ptr ⟨h.length + 2, 0⟩ 0, .ptr ⟨h.length + 3, 0⟩ 0] { shut := [41, 106], cut := [82], hand := [25] } 114 call_emend1 mixed Try.func70 (by kernel_rfl) rfl (by kernel_rfl) fun j hB hA => ?_
  simp only [junk_succ, junk_zero, List.cons_append, List.nil_append, List.length_cons, List.length_nil, Nat.reduceAdd]
  simp (implicitDefEqProofs := false) (dsimp := false) only [go_sem, bdA]
  refine WP.region_splitN (so := { shut := [41, 106], cut := [82], }) 1 [1] rfl (by decide) ?_
  simp (implicitDefEqProofs := false) (dsimp := false) only [go_sem]
  refine WPI.deferN rfl rfl rfl rfl rfl rfl ?_
  simp (implicitDefEqProofs := false) (dsimp := false) only [go_sem, cLay, hp, row1 cPage_len hpl, row1_le cPage_len hpl, hpl, cPage]
  refine ⟨by omega, ?_⟩
  refine WPI.turn (Turns.nilSlot (d := 6) (sz := 1) ?_) ?_
  · simp (implicitDefEqProofs := false) (dsimp := false) only [go_sem]
  refine WPI.turn (Turns.nilCell (i := h.length + 2) (j := 0) (sz := 1) (by simp only [List.append_assoc]; rw [hget]; rfl) rfl) ?_
  simp only [hset, List.append_assoc, List.set_cons_succ, List.set_cons_zero, List.cons_append, List.nil_append, List.length_append, List.length_cons, List.length_nil, Nat.zero_add, Nat.reduceAdd]
  have w0 := ok.most
  refine WP.loopI (fun (i : Nat) s => (i ≤ b.pages[p].length) ∧ s.sl.length = 116 ∧ s.df = [.call (.func 105) [.ptr ⟨h.length + 2, 0⟩ 0, .ptr ⟨h.length + 3, 0⟩ 0] []] ∧ s.gh = {} ∧ (∃ R, s.hp = h ++ .cells 0 (bdA b m) :: .cells 0 (cLay l) :: .cells 0 [.sl ⟨h.length + 5, 0⟩ 1 0 0, .int .i64 0, .int .i64 0, .bool false, .int .i64 0, .int .i64 0] :: .cells 0 [.bool false] :: .cells i (rowsA h.length (b.pages[p].headD []).length i) :: .cells 0 [] :: R ∧ R = (b.pages[p].take i).map rowBlk) ∧ evA s.sl (.tmp 2) = .ptr ⟨h.length, 0⟩ 0 ∧ evA s.sl (.tmp 3) = .ptr ⟨h.length + 1, 0⟩ 0 ∧ evA s.sl (.tmp 4) = .ptr ⟨h.length + 2, 0⟩ 0 ∧ evA s.sl (.tmp 5) = .ptr ⟨h.length + 3, 0⟩ 0 ∧ evA s.sl (.tmp 6) = .sl ⟨h.length + 4, i⟩ 1 0 i ∧ evA s.sl (.tmp 27) = sliceOf cStr b.pages[p] ∧ evA s.sl (.tmp 28) = .int .i64 b.pages[p].length ∧ evA s.sl (.tmp 29) = .int .i64 i) (fun (i : Nat) => b.pages[p].length - i) (0) ?_ ?_
  · simp (implicitDefEqProofs := false) (dsimp := false) only [go_sem, bdA, cLay, hp, Nat.zero_le]
    exact ⟨_, ⟨rfl, rfl⟩, rfl⟩
  · rintro i ⟨sl, df, hp, gh⟩ ⟨ab, al, rfl, rfl, ah, a2, a3, a4, a5, a6, a27, a28, a29⟩
    simp only at ab al ah a2 a3 a4 a5 a6 a27 a28 a29
    obtain ⟨j, rfl⟩ := slots_lit al; clear al; simp only [junk_succ, junk_zero, evA_tmp, nth_16, nth_four, nth_one, nth_zero, Nat.zero_add, Nat.reduceAdd] at  a2 a3 a4 a5 a6 a27 a28 a29 ⊢
    refine wp_ok (so := { shut := [41, 106], cut := [82], hand := [25] }) mixed _ (by kernel_rfl) ?_
    obtain ⟨R, rfl, hR⟩ := ah
    by_cases hi : i < b.pages[p].length
    · have hRl : R.length = i := by rw [hR, List.length_map, List.length_take]; omega
      have hw : b.pages[p][i].length = (b.pages[p].headD []).length := ok.row hi
      simp (implicitDefEqProofs := false) (dsimp := false) only [go_sem, a2, a3, a4, a5, a6, a27, a28, a29, bdA, nat_lt hi, decide_true, row1 cStr_len hi, row1_le cStr_len hi, hi, cStr, hRl, getL hRl, getL0 hRl, setL hRl, setL0 hRl, zeroRow_one]
      have w1 := ok.wmost
      refine ⟨⟨by omega, by omega⟩, ⟨copied_len _, by simp, cBs_leaf _⟩, by omega, ⟨rowsA_len _ _ _, by omega⟩, i + 1, ⟨by omega, ⟨_, ⟨⟨rfl, ?_⟩, rfl⟩, ?_⟩, rfl, wrap_succ (by omega)⟩, by omega⟩
      · rw [rowsA_succ, hw]
      · rw [copied, hR, List.take_add_one, List.getElem?_eq_getElem hi, List.map_append]
        rfl
    · have hs : ((i : Int) < (b.pages[p].length : Int)) = False := eq_false (by omega)
      have ei : i = b.pages[p].length := by omega
      subst ei
      simp (implicitDefEqProofs := false) (dsimp := false) only [go_sem, a2, a3, a4, a5, a6, a27, a28, a29, bdA, hs, decide_false]
      rw [List.take_length] at hR
      have hf12 : (faceB m b.pages[p] b.cells l).length = 12 := face_len _ _ _ _
      simp (implicitDefEqProofs := false) (dsimp := false) only [go_sem, cLay_len, cLay_take, Nat.le_refl]
      (first | refine CallsA.use (face_ok b m l p hp hpl ok okc hd hrt) ?_ | refine QuietCalls.use (face_ok b m l p hp hpl ok okc hd hrt) ?_)
      simp (implicitDefEqProofs := false) (dsimp := false) only [go_sem]
      (first | refine CallsA.use (misfits_ok b m _ hf12 okc) ?_ | refine QuietCalls.use (misfits_ok b m _ hf12 okc) ?_)
      simp (implicitDefEqProofs := false) (dsimp := false) only [go_sem]
      refine WP.loopI (fun (y : Nat × List (List UInt8)) s => (y.1 ≤ (wrongB m b.pages[p] b.cells l).length ∧ emFold m b.glyphs b.pages[p] b.cells l ((wrongB m b.pages[p] b.cells l).drop y.1) y.2 = emendB m b.glyphs b.pages[p] b.cells l ∧ y.2.length = b.pages[p].length ∧ (∀ r ∈ y.2, r.length = (b.pages[p].headD []).length)) ∧ s.sl.length = 116 ∧ s.df = [.call (.func 105) [.ptr ⟨h.length + 2, 0⟩ 0, .ptr ⟨h.length + 3, 0⟩ 0] []] ∧ s.gh = {} ∧ (∃ R, s.hp = h ++ .cells 0 (bdA b m) :: .cells 0 (cLay l) :: .cells 0 [.sl ⟨h.length + 5, 0⟩ 1 0 0, .int .i64 0, .int .i64 0, .bool false, .int .i64 0, .int .i64 0] :: .cells 0 [.bool false] :: .cells b.pages[p].length (rowsA h.length (b.pages[p].headD []).length b.pages[p].length) :: .cells 0 [] :: R ∧ R = y.2.map rowBlk) ∧ evA s.sl (.tmp 2) = .ptr ⟨h.length, 0⟩ 0 ∧ evA s.sl (.tmp 3) = .ptr ⟨h.length + 1, 0⟩ 0 ∧ evA s.sl (.tmp 4) = .ptr ⟨h.length + 2, 0⟩ 0 ∧ evA s.sl (.tmp 5) = .ptr ⟨h.length + 3, 0⟩ 0 ∧ evA s.sl (.tmp 6) = .sl ⟨h.length + 4, b.pages[p].length⟩ 1 0 b.pages[p].length ∧ evA s.sl (.tmp 10) = sliceOf cPair (wrongB m b.pages[p] b.cells l) ∧ evA s.sl (.tmp 49) = sliceOf cPair (wrongB m b.pages[p] b.cells l) ∧ evA s.sl (.tmp 50) = .int .i64 (wrongB m b.pages[p] b.cells l).length ∧ evA s.sl (.tmp 51) = .int .i64 y.1) (fun (y : Nat × List (List UInt8)) => (wrongB m b.pages[p] b.cells l).length - y.1) ((0, b.pages[p])) ?_ ?_
      · simp (implicitDefEqProofs := false) (dsimp := false) only [go_sem, bdA, Nat.zero_le]
        exact ⟨⟨rfl, ok.wide⟩, ⟨_, rfl, hR⟩, rfl, rfl, rfl⟩
      · rintro ⟨x, pg⟩ ⟨sl, df, hp, gh⟩ ⟨cb, cl, rfl, rfl, ch, c2, c3, c4, c5, c6, c10, c49, c50, c51⟩
        simp only at cb cl ch c2 c3 c4 c5 c6 c10 c49 c50 c51
        obtain ⟨j, rfl⟩ := slots_lit cl; clear cl; simp only [junk_succ, junk_zero, evA_tmp, nth_16, nth_four, nth_one, nth_zero, Nat.zero_add, Nat.reduceAdd] at  c2 c3 c4 c5 c6 c10 c49 c50 c51 ⊢
        refine wp_ok (so := { shut := [41, 106], cut := [82], hand := [25] }) mixed _ (by kernel_rfl) ?_
        obtain ⟨R, rfl, hR⟩ := ch
        obtain ⟨cb, cq, cn, cw⟩ := cb
        by_cases hx : x < (wrongB m b.pages[p] b.cells l).length
        · obtain ⟨r0, c0, ex, hr0, hc0⟩ := misB_mem _ (List.getElem_mem (l := wrongB m b.pages[p] b.cells l) hx)
          have hrow := row1 cPair_len hx
          rw [ex] at hrow
          rw [drop_get hx, ex] at cq
          have z0 := okc.most
          have z1 := okc.wmost
          simp (implicitDefEqProofs := false) (dsimp := false) only [go_sem, c2, c3, c4, c5, c6, c10, c49, c50, c51, bdA, nat_lt hx, decide_true, hrow, row1_le cPair_len hx, hx, cPair, cLay_len, cLay_take, Nat.le_refl]
          have hlet := letter_ok b m l r0 c0 p hp hpl ok.pos (by omega) (by omega) hd hrt (by omega) (by have := ok.wmost; omega)
          have hchg := change_ok b m l okg okc r0 c0 hr0 hc0
          have hbd := letterB_bound (p := b.pages[p]) (l := l) (row := r0) (col := c0)
          have hst : emStep m b.glyphs b.pages[p] b.cells l pg ((r0 : Int), (c0 : Int)) = match changeB m b.glyphs l (traceAt b.cells r0 c0) with
            | some n => if (letterB b.pages[p] l r0 c0).2.2 then some (setL2 pg (letterB b.pages[p] l r0 c0).1.toNat (letterB b.pages[p] l r0 c0).2.1.toNat (UInt8.ofNat n)) else none
            | none => none := rfl
          rw [emFold] at cq
          have hRl : R.length = b.pages[p].length := by rw [hR, List.length_map, cn]
          have fail : ∀ (Post : List Blk → Prop), Post (h ++ .cells 0 (bdA b m) :: .cells 0 (cLay l) :: .cells 0 noEm :: .cells 0 [.bool false] :: .cells b.pages[p].length (rowsA h.length (b.pages[p].headD []).length b.pages[p].length) :: .cells 0 [] :: R) →
              RecA Try.prog 105 [.ptr ⟨h.length + 2, 0⟩ 0, .ptr ⟨h.length + 3, 0⟩ 0] (h ++ .cells 0 (bdA b m) :: .cells 0 (cLay l) :: .cells 0 [.sl ⟨h.length + 5, 0⟩ 1 0 0, .int .i64 0, .int .i64 0, .bool false, .int .i64 0, .int .i64 0] :: .cells 0 [.bool false] :: .cells b.pages[p].length (rowsA h.length (b.pages[p].headD []).length b.pages[p].length) :: .cells 0 [] :: R) (some (faultA 11)) Post := fun Post hq => by
            refine emRec_some _ _ (by omega) _ _ 11 _ _ _ _ _ _ _ (by rw [hget]; rfl) (by rw [hget]; rfl) (by decide) ?_
            simp only [hset, List.set_cons_succ, List.set_cons_zero]
            exact hq
          have none_of : emStep m b.glyphs b.pages[p] b.cells l pg ((r0 : Int), (c0 : Int)) = none → emOf m b.glyphs b.pages[p] b.cells l = none := fun e => by
            rw [e] at cq
            simp only at cq
            rw [emOf, ← cq]; rfl
          generalize hlb : letterB b.pages[p] l r0 c0 = z at hlet hbd hst
          generalize hcb : changeB m b.glyphs l (traceAt b.cells r0 c0) = o at hchg hst
          obtain ⟨lr, lc, lt⟩ := z
          (first | refine CallsA.use (hlet) ?_ | refine QuietCalls.use (hlet) ?_)
          simp (implicitDefEqProofs := false) (dsimp := false) only [go_sem, tup3, cLay_len, cLay_take, Nat.le_refl]
          (first | refine CallsA.use (hchg) ?_ | refine QuietCalls.use (hchg) ?_)
          cases o with
          | none =>
            simp (implicitDefEqProofs := false) (dsimp := false) only [go_sem, changeA]
            rw [none_of hst]
            refine ⟨fun _ => fail _ ?_, fun _ => fail _ ?_⟩
            · simp (implicitDefEqProofs := false) (dsimp := false) only [go_sem, noEm]
              exact quiet_fine hB rfl
            · simp (implicitDefEqProofs := false) (dsimp := false) only [go_sem, noEm]
              exact quiet_fine hB rfl
          | some n =>
            cases lt with
            | false =>
              simp (implicitDefEqProofs := false) (dsimp := false) only [go_sem, changeA]
              rw [none_of hst]
              refine fail _ ?_
              simp (implicitDefEqProofs := false) (dsimp := false) only [go_sem, noEm]
              exact quiet_fine hB rfl
            | true =>
              obtain ⟨r, c1, e, hr, hc1⟩ := hbd rfl
              simp only [Prod.mk.injEq, and_true] at e
              obtain ⟨rfl, rfl⟩ := e
              have hrp : r < pg.length := by omega
              have hRr : R[r]? = some (.cells 0 (pg[r].flatMap cB)) := by
                rw [hR, List.getElem?_map, List.getElem?_eq_getElem hrp]; rfl
              have hn := change_small okg hcb
              have hnu : ((n : Nat) : Int) = ((UInt8.ofNat n).toNat : Int) := by simp; omega
              have hwr := cw _ (List.getElem_mem hrp)
              simp only [if_true] at hst
              rw [hst] at cq
              simp (implicitDefEqProofs := false) (dsimp := false) only [go_sem, changeA, bdA, rowsA_drop hr, hRr, length_rows cB_len, hwr]
              refine ⟨by omega, by omega, by omega, (x + 1, setL2 pg r c1 (UInt8.ofNat n)), ⟨⟨by simp only; omega, ?_, by simp only; rw [setL2_len]; exact cn, setL2_wide cw hrp⟩, ⟨_, rfl, ?_⟩, wrap_succ (by have := misTo_len (faceB m b.pages[p] b.cells l) b.cells (4 * b.cells.length); simp only [wrongB, misB] at hx; omega)⟩, by simp only; omega⟩
              · simpa using cq
              · simp only
                subst hR
                rw [hnu, rows_set]
        · have hs : ((x : Int) < ((wrongB m b.pages[p] b.cells l).length : Int)) = False := eq_false (by omega)
          simp (implicitDefEqProofs := false) (dsimp := false) only [go_sem, c2, c3, c4, c5, c6, c10, c49, c50, c51, bdA, hs, decide_false]
          have hRl : R.length = b.pages[p].length := by rw [hR, List.length_map, cn]
          rw [List.drop_eq_nil_of_le (by omega)] at cq
          have hsome : emOf m b.glyphs b.pages[p] b.cells l = some ⟨pg, (wrongB m b.pages[p] b.cells l).length, l⟩ := by
            rw [emOf, ← cq]; rfl
          rw [hsome]
          refine WP.loopI (fun (i : Nat) s => (i ≤ pg.length) ∧ s.sl.length = 116 ∧ s.df = [.call (.func 105) [.ptr ⟨h.length + 2, 0⟩ 0, .ptr ⟨h.length + 3, 0⟩ 0] []] ∧ s.gh = {} ∧ (s.hp = h ++ .cells 0 (bdA b m) :: .cells 0 (cLay l) :: .cells 0 [.sl ⟨h.length + 5, i⟩ 1 0 i, .int .i64 0, .int .i64 0, .bool false, .int .i64 0, .int .i64 0] :: .cells 0 [.bool false] :: .cells pg.length (rowsA h.length (b.pages[p].headD []).length pg.length) :: .cells i ((pg.take i).flatMap cStr) :: R) ∧ evA s.sl (.tmp 2) = .ptr ⟨h.length, 0⟩ 0 ∧ evA s.sl (.tmp 3) = .ptr ⟨h.length + 1, 0⟩ 0 ∧ evA s.sl (.tmp 4) = .ptr ⟨h.length + 2, 0⟩ 0 ∧ evA s.sl (.tmp 5) = .ptr ⟨h.length + 3, 0⟩ 0 ∧ evA s.sl (.tmp 10) = sliceOf cPair (wrongB m b.pages[p] b.cells l) ∧ evA s.sl (.tmp 96) = .sl ⟨h.length + 4, pg.length⟩ 1 0 pg.length ∧ evA s.sl (.tmp 97) = .int .i64 pg.length ∧ evA s.sl (.tmp 98) = .int .i64 i) (fun (i : Nat) => pg.length - i) (0) ?_ ?_
          · simp (implicitDefEqProofs := false) (dsimp := false) only [go_sem, bdA, cn, Nat.zero_le]
            rfl
          · rintro i ⟨sl, df, hp, gh⟩ ⟨db, dl, rfl, rfl, rfl, d2, d3, d4, d5, d10, d96, d97, d98⟩
            simp only at db dl d2 d3 d4 d5 d10 d96 d97 d98
            obtain ⟨j, rfl⟩ := slots_lit dl; clear dl; simp only [junk_succ, junk_zero, evA_tmp, nth_16, nth_four, nth_one, nth_zero, Nat.zero_add, Nat.reduceAdd] at  d2 d3 d4 d5 d10 d96 d97 d98 ⊢
            refine wp_ok (so := { shut := [41, 106], cut := [82], hand := [25] }) mixed _ (by kernel_rfl) ?_
            by_cases hi : i < pg.length
            · have hRr : R[i]? = some (.cells 0 (pg[i].flatMap cB)) := by
                rw [hR, List.getElem?_map, List.getElem?_eq_getElem hi]; rfl
              have hwr := cw _ (List.getElem_mem hi)
              have hby : bytesA ((pg[i].flatMap cB).take (b.pages[p].headD []).length) = some pg[i] := by
                rw [List.take_of_length_le (by rw [length_rows cB_len]; omega)]; exact bytes_cB _
              have htl : ((pg[i].flatMap cB).take (b.pages[p].headD []).length).length = (b.pages[p].headD []).length := by
                rw [List.length_take, length_rows cB_len]; omega
              simp (implicitDefEqProofs := false) (dsimp := false) only [go_sem, d2, d3, d4, d5, d10, d96, d97, d98, bdA, nat_lt hi, decide_true, rowsA_drop hi, hRr, length_rows cB_len, hwr, hby, htl, length_rows cStr_len]
              refine ⟨⟨by rw [List.length_take]; omega, by omega⟩, i + 1, ⟨by omega, ⟨rfl, rfl, ?_⟩, wrap_succ (by omega)⟩, by omega⟩
              rw [List.take_add_one, List.getElem?_eq_getElem hi, List.flatMap_append]
              rfl
            · have hs : ((i : Int) < (pg.length : Int)) = False := eq_false (by omega)
              have ei : i = pg.length := by omega
              subst ei
              simp (implicitDefEqProofs := false) (dsimp := false) only [go_sem, d2, d3, d4, d5, d10, d96, d97, d98, bdA, hs, decide_false]
              rw [List.take_length]
              refine WPI.turn (Turns.seal_cell (i := h.length + 2) (g := 0) (j := 0) (a := .sl ⟨h.length + 5, pg.length⟩ 1 0 pg.length) (a' := sliceOf cStr pg) (by simp only; rw [hget]; rfl) rfl (by simp only [sealV]; rw [hget]; simp only [List.getElem?_cons_succ, List.getElem?_cons_zero, if_true, List.drop_zero, Nat.mul_one]; rw [List.take_of_length_le (by rw [length_rows cStr_len]; omega)]; rfl) (by simp [nmOf])) ?_
              simp only [nmOf, hset, List.set_cons_succ, List.set_cons_zero]
              refine WP.noisy (so := { shut := [41, 106], cut := [82], }) 5 [4] [0, 0, 0, 0, 0] [0, 0, 1, 0, 0] ((fun T => [h ++ .cells 0 (bdA b m) :: .cells 0 (cLay l) :: .cells 0 [sliceOf cStr pg, .int .i64 0, .int .i64 0, .bool false, .int .i64 0, .int .i64 0] :: T, h ++ .cells 0 (bdA b m) :: .cells 0 (cLay l) :: .cells 0 [sliceOf cStr pg, .int .i64 (wrongB m b.pages[p] b.cells l).length, .int .i64 0, .bool false, .int .i64 0, .int .i64 0] :: T]) _) rfl mixed (by kernel_rfl) (by kernel_rfl) (by decide) (by kernel_rfl) rfl ?_
              simp (implicitDefEqProofs := false) (dsimp := false) only [go_sem, bdA, cLay]
              refine emRec_none _ _ _ _ ?_
              simp (implicitDefEqProofs := false) (dsimp := false) only [go_sem]
              exact quiet_fine (v := emA (some ⟨pg, (wrongB m b.pages[p] b.cells l).length, l⟩)) hB (below_mono (Nat.zero_le _) _ (emA_below _))
end Go.Mac
namespace Go.Mac
open Go Go.Conc Go.Proofs
set_option maxRecDepth 4000
def fewEm : Option Em → List AV
  | some e => [sliceOf cStr e.rows, .int .i64 e.letters, .int .i64 e.way.page, .bool e.way.turned, .int .i64 e.way.down, .int .i64 e.way.right, .int .i64 e.letters, .bool true, .fn (.func 68) [] []]
  | none => [.nilsl, .int .i64 0, .int .i64 0, .bool false, .int .i64 0, .int .i64 0, .int .i64 0, .bool false, .fn (.func 68) [] []]
def takeEm (o : Option Em) (x : Em) : Option Em :=
  match o with
  | none => some x
  | some b => if x.letters < b.letters then some x else some b
theorem countEm_ok (x : Em) : PureA Try.prog 68 [.agg (cEm x)] (.int .i64 x.letters) := by
  refine PureA.of_wpp {} 4 mixed Try.func68 (by kernel_rfl) rfl (by kernel_rfl) (rfl) fun h j hB => ?_
  simp only [junk_succ, junk_zero, List.cons_append, List.nil_append, List.length_cons, List.length_nil, Nat.reduceAdd]
  simp (implicitDefEqProofs := false) (dsimp := false) only [go_sem, cEm, cLay]
theorem set_fine {h k : List Blk} {n : Nat} {b : Blk} {v : AV} (hb : h.all (belowBlk h.length) = true) (hbb : belowBlk h.length b = true) (hv : below h.length v = true) : ∃ v' m, v = v' ∧ h.length ≤ m ∧ below m v' = true ∧ ((h.set n b ++ k).take m).all (belowBlk m) = true ∧ AEnd.ret v' = .ret v ∧ (h.set n b ++ k).take m = h.set n b := by
  have e : (h.set n b ++ k).take h.length = h.set n b := List.take_left' (by simp)
  refine ⟨_, h.length, rfl, Nat.le_refl _, hv, ?_, rfl, e⟩
  rw [e, List.all_eq_true] at *
  intro x hx
  rcases List.mem_or_eq_of_mem_set hx with hx | rfl
  · exact hb x hx
  · exact hbb
theorem set_same {h : List Blk} {n : Nat} {b : Blk} (hn : h[n]? = some b) : h.set n b = h := by
  obtain ⟨h1, h2⟩ := List.getElem?_eq_some_iff.1 hn
  rw [← h2]; exact List.set_getElem_self h1
theorem fewEm_below (o : Option Em) (n : Nat) : belowBlk n (.cells 0 (fewEm o)) = true := by
  cases o with
  | none => rfl
  | some e =>
    have := belowL_flat (n := n) (f := cStr) (fun _ => rfl) e.rows
    simp [belowBlk, fewEm, below, belowL, sliceOf, this]
theorem call_count : callable Try.prog 68 = True := eq_true ⟨_, Try.func68, rfl, rfl⟩
theorem takeEm_ok (n : Nat) (o : Option Em) (x : Em) (h : List Blk) (hn : h[n]? = some (.cells 0 (fewEm o))) : CallsA Try.prog 71 [.ptr ⟨n, 0⟩ 0, .agg (cEm x)] h fun e h' => e = .ret (.tup []) ∧ h' = h.set n (.cells 0 (fewEm (takeEm o x))) := by
  have hlt : n < h.length := (List.getElem?_eq_some_iff.1 hn).1
  refine CallsA.of_wpe [] { cut := [16], tail := [(1, 5)] } 33 mixed Try.func71 (by kernel_rfl) rfl (by kernel_rfl) fun j hB hA => ?_; simp only [junk_succ, junk_zero, List.cons_append, List.nil_append, List.length_cons, List.length_nil, Nat.reduceAdd]
  have hn2 : ∀ k, (h ++ k)[n]? = some (.cells 0 (fewEm o)) := fun k => by rw [List.getElem?_append_left hlt]; exact hn
  have hs2 : ∀ k b, (h ++ k).set n b = h.set n b ++ k := fun k b => by rw [List.set_append_left _ _ hlt]
  have hg2 : ∀ b k, (h.set n b ++ k)[n]? = some b := fun b k => by rw [List.getElem?_append_left (by simpa using hlt), List.getElem?_set_self hlt]
  have hs3 : ∀ k a b, (h.set n a ++ k).set n b = h.set n b ++ k := fun k a b => by rw [List.set_append_left _ _ (by simpa using hlt), List.set_set]
  cases o with
  | none =>
    simp only [fewEm] at hn2
    simp (implicitDefEqProofs := false) (dsimp := false) only [go_sem, hn2, cEm, cLay, call_count]
    (first | refine CallsA.use (countEm_ok x) ?_ | refine QuietCalls.use (countEm_ok x) ?_)
    simp (implicitDefEqProofs := false) (dsimp := false) only [go_sem, hn2, hs2, hg2, hs3]
    exact set_fine (b := .cells 0 (fewEm (some x))) (v := .tup []) hB (fewEm_below _ _) rfl
  | some b =>
    simp only [fewEm] at hn2
    simp (implicitDefEqProofs := false) (dsimp := false) only [go_sem, hn2, cEm, cLay, call_count]
    (first | refine CallsA.use (countEm_ok x) ?_ | refine QuietCalls.use (countEm_ok x) ?_)
    simp (implicitDefEqProofs := false) (dsimp := false) only [go_sem, hn2, hs2, hg2, hs3]
    refine ⟨fun hc => ?_, fun hc => ?_⟩
    · have e : takeEm (some b) x = some x := if_pos hc
      rw [e]
      exact set_fine (b := .cells 0 (fewEm (some x))) (v := .tup []) hB (fewEm_below _ _) rfl
    · have e : takeEm (some b) x = some b := if_neg hc
      rw [e, set_same hn]
      exact quiet_fine hB rfl
def emTo (b : Board) (m : List (Int × Int)) (p k : Nat) : Option Em := (List.range k).foldl (fun o n => match emOf m b.glyphs (b.pages.getD p []) b.cells (layN p n) with | some e => takeEm o e | none => o) none
theorem emTo_succ (b : Board) (m : List (Int × Int)) (p k : Nat) : emTo b m p (k + 1) = match emOf m b.glyphs (b.pages.getD p []) b.cells (layN p k) with | some e => takeEm (emTo b m p k) e | none => emTo b m p k := by
  simp [emTo, List.range_succ]
def emendR (b : Board) (page : Int) : Option Em × Int :=
  if boardErr b ≠ 0 then (none, boardErr b) else if ¬ (0 ≤ page ∧ page < b.pages.length) then (none, 3) else
    match emTo b (mapB b.glyphs) page.toNat 18 with
    | some e => (some e, 0)
    | none => (none, 11)
def emendA : Option Em × Int → AV
  | (some e, c) => .tup [sliceOf cStr e.rows, .int .i64 e.letters, .agg (cLay e.way), .int .i64 c]
  | (none, c) => .tup [.nilsl, .int .i64 0, .agg [.int .i64 0, .bool false, .int .i64 0, .int .i64 0], .int .i64 c]
theorem emendA_below (x : Option Em × Int) : below 0 (emendA x) = true := by
  obtain ⟨o, c⟩ := x
  cases o with
  | none => rfl
  | some e =>
    have := belowL_flat (n := 0) (f := cStr) (fun _ => rfl) e.rows
    simp [emendA, cLay, below, belowL, sliceOf, this]
def emendH (b : Board) (o : Option Em) : List Blk := [.cells 0 (brdA b), .cells 0 [.int .i64 0, .bool false, .int .i64 0, .int .i64 0], .cells 0 (bdA b (mapB b.glyphs)), .cells 0 (fewEm o)]
theorem emendH_below (b : Board) (o : Option Em) (n : Nat) : (emendH b o).all (belowBlk n) = true := by
  have h1 := belowL_mono (Nat.zero_le n) _ (bdA_below b (mapB b.glyphs))
  have h2 := belowL_mono (Nat.zero_le n) _ (slices_below b)
  have h3 := fewEm_below o n
  have h4 : belowBlk n (.cells 0 (brdA b)) = true := h2
  have h5 : belowBlk n (.cells 0 (bdA b (mapB b.glyphs))) = true := h1
  simp only [emendH, List.all_cons, List.all_nil, h4, h5, h3]
  rfl
theorem loop_cut4 {h own e : List Blk} {a b c d g l : Blk} : h ++ a :: b :: c :: d :: g :: l :: (own ++ e) = (h ++ [a, b, c, d]) ++ g :: l :: (own ++ e) := by simp
theorem Emend_ok (b : Board) (page : Int) : PureA Try.prog 27 [.agg (brdA b), .int .i64 page] (emendA (emendR b page)) := by
  refine PureA.of_wpe [] { tail := [(14, 11)] } 54 mixed Try.func27 (by kernel_rfl) rfl (by kernel_rfl) (emendA_below _) fun h j hB => ?_
  simp only [junk_succ, junk_zero, List.cons_append, List.nil_append, List.length_cons, List.length_nil, Nat.reduceAdd]
  simp (implicitDefEqProofs := false) (dsimp := false) only [go_sem, brdA]
  refine open_use (fun e0 => ?_) (fun e1 e2 x y z t f1 f2 f3 f4 => ?_)
  · simp (implicitDefEqProofs := false) (dsimp := false) only [go_sem, bdA]
    (first | refine CallsA.use (hasPage_ok b _ page) ?_ | refine QuietCalls.use (hasPage_ok b _ page) ?_)
    simp (implicitDefEqProofs := false) (dsimp := false) only [go_sem, e0]
    have hc : (decide (0 ≤ page) && decide (page < (b.pages.length : Int))) = decide (0 ≤ page ∧ page < (b.pages.length : Int)) := by simp
    refine ⟨fun c1 => ?_, fun c1 => ?_⟩
    · have c2 : ¬ (0 ≤ page ∧ page < (b.pages.length : Int)) := by simp at c1; omega
      rw [emendR, if_neg (by simp [e0]), if_pos c2]
      rfl
    · have c2 : 0 ≤ page ∧ page < (b.pages.length : Int) := by rw [hc] at c1; simpa using c1
      obtain ⟨p, rfl⟩ : ∃ p : Nat, page = p := ⟨page.toNat, by omega⟩
      have hp : p < b.pages.length := by omega
      have ok := okBoard.of e0
      obtain ⟨q1, _⟩ := boardErr_zero e0
      have okg := okGlyphs.of q1
      have hR : emendR b p = match emTo b (mapB b.glyphs) p 18 with | some e => (some e, 0) | none => (none, 11) := by
        rw [emendR, if_neg (by simp [e0]), if_neg (by omega)]; rfl
      rw [hR]
      (first | refine CallsA.use (laysOf_ok b _ p) ?_ | refine QuietCalls.use (laysOf_ok b _ p) ?_)
      simp (implicitDefEqProofs := false) (dsimp := false) only [go_sem]
      refine WP.rangeIterN (h.length + 5) (by simp <;> omega)  (so := { tail := [(14, 11)] }) mixed (by kernel_rfl) (by kernel_rfl) rfl rfl (call_laysOf1) rfl rfl (iter_ways b _ p hp ok) (encW_len) (fun k h1 => h1 = h ++ emendH b (emTo b (mapB b.glyphs) p k)) (fun _ _ => False) ?_ ?_ ?_ ?_ ?_ ?_
      · rintro k _ _ rfl
        exact mine_ok hB (by simp [emendH]) (emendH_below _ _ _)
      · rintro _ _ _ ⟨⟩
      · simp [emendH, emTo, brdA, bdA, sliceOf, fewEm]
      · rintro k _ own hk rfl hl2
        rw [List.length_map, ways_len] at hk
        have ex : ((ways b (mapB b.glyphs) p).map encW)[k]'(by rw [List.length_map, ways_len]; exact hk) = [.agg (cLay (layN p k)), .agg (nums12 (faceB (mapB b.glyphs) b.pages[p] b.cells (layN p k)))] := by simp [ways, wayN, encW, List.getD, hp]
        rw [ex]
        dsimp only
        simp (implicitDefEqProofs := false) (dsimp := false) only [go_sem, emendH, bdA, cLay_leaf, cLay_len, cLay_take, setMany4, Nat.le_refl]
        (first | refine CallsA.use (emend_ok b _ okg (layN p k) p rfl hp (ok.page _ (List.getElem_mem hp)) ok.cells (by simp only [layN]; omega) (by simp only [layN]; omega)) ?_ | refine QuietCalls.use (emend_ok b _ okg (layN p k) p rfl hp (ok.page _ (List.getElem_mem hp)) ok.cells (by simp only [layN]; omega) (by simp only [layN]; omega)) ?_)
        have hs := emTo_succ b (mapB b.glyphs) p k
        simp only [List.getD, List.getElem?_eq_getElem hp, Option.getD_some] at hs
        generalize emOf (mapB b.glyphs) b.glyphs b.pages[p] b.cells (layN p k) = o at hs ⊢
        cases o with
        | none =>
          simp only at hs
          simp (implicitDefEqProofs := false) (dsimp := false) only [go_sem, emA, noEm]
          exact ⟨_, ⟨_, loop_cut4⟩, by rw [hs]; rfl⟩
        | some e =>
          simp only at hs
          simp (implicitDefEqProofs := false) (dsimp := false) only [go_sem, emA, cEm, cLay]
          refine (takeEm_ok _ (emTo b (mapB b.glyphs) p k) e _ (by rw [hget]; rfl)).mono ?_
          rintro _ _ ⟨rfl, rfl⟩
          simp (implicitDefEqProofs := false) (dsimp := false) only [go_sem]
          exact ⟨_, ⟨_, loop_cut4⟩, by rw [hs]; rfl⟩
      · rintro _ rfl
        rw [List.length_map, ways_len]
        generalize emTo b (mapB b.glyphs) p 18 = o
        cases o with
        | none =>
          simp (implicitDefEqProofs := false) (dsimp := false) only [go_sem, emendH, fewEm]
          rfl
        | some e =>
          simp (implicitDefEqProofs := false) (dsimp := false) only [go_sem, emendH, fewEm]
          rfl
      · rintro _ _ ⟨⟩
  · simp only [leafA] at f1 f2 f3 f4
    simp (implicitDefEqProofs := false) (dsimp := false) only [go_sem, f1, f2, f3, f4, e2]
    rw [emendR, if_pos e1]
    rfl
end Go.Mac
namespace Go.Mac
open Go Go.Conc Go.Proofs
set_option maxRecDepth 4000
theorem length_rowsM {α β : Type} {f : α → List β} {n : Nat} : ∀ {l : List α}, (∀ x ∈ l, (f x).length = n) → (l.flatMap f).length = l.length * n
  | [], _ => by simp
  | x :: l, h => by
    rw [List.flatMap_cons, List.length_append, h x (by simp), length_rowsM fun y hy => h y (by simp [hy]), List.length_cons, Nat.succ_mul]
    omega
theorem drop_rowsM {α β : Type} {f : α → List β} {n : Nat} : ∀ {l : List α} {i : Nat} (_ : ∀ x ∈ l, (f x).length = n) (h : i < l.length), (l.flatMap f).drop (i * n) = f l[i] ++ (l.drop (i + 1)).flatMap f
  | [], i, _, h => by simp at h
  | x :: l, 0, _, h => by simp
  | x :: l, i + 1, hf, h => by
    have hi : i < l.length := by simpa using h
    simp only [List.flatMap_cons, List.getElem_cons_succ, List.drop_succ_cons]
    rw [show (i + 1) * n = n + i * n by rw [Nat.succ_mul]; omega, List.drop_append, hf x (by simp)]
    rw [show n + i * n - n = i * n by omega, List.drop_eq_nil_of_le (by rw [hf x (by simp)]; omega), List.nil_append]
    exact drop_rowsM (fun y hy => hf y (by simp [hy])) hi
theorem WPI.sendN {P : Program} {fk : FK} {K : AExit → AS → Prop} {ops : Array Oper} {i : Nat} {o : Oper} {ch x : Operand} {n : Nm} {bv : Bool} {out : List (Nm × Value)} {ri : Nat} {sl : List AV} {df : List ADef} {hp : List Blk} {todo : List (List (Nm × Value))} (hro : hp[ri]? = some (.role false)) (ho : ops[i]? = some o) (hop : o.op = .send ch x) (hog : o.guard = none) (hod : o.dst = none) (hc : evA sl ch = .chan n) (hx : evA sl x = .bool bv)
    (hne : out ≠ []) (hlive : hp[n.id]? = some (.chan n.gen)) (h : K .normal ⟨sl, df, hp, ⟨out, todo⟩⟩) : WPI P fk [.inRegion ops [i]] K ⟨sl, df, hp, ⟨(n, .bool bv) :: out, todo⟩⟩ := by
  refine WPI.send hro ho hop hog hc hx rfl hne hlive (WPI.region_end ?_)
  rw [hod]; exact h
def bitsFrom (cs : List (List Trace)) (p q : Int) (x : List Int) (i : Nat) : Nat → List (List Int) → List Bool
  | _, [] => []
  | k, y :: ys => (if p ≠ q ∨ i < k then [togetherB cs x y] else []) ++ bitsFrom cs p q x i (k + 1) ys
def msgs (met done : Nm) (bs : List Bool) : List (Nm × Value) := bs.map (fun b => (met, .bool b)) ++ [(done, .bool true)]
theorem msgs_cons (met done : Nm) (b : Bool) (bs : List Bool) : msgs met done (b :: bs) = (met, .bool b) :: msgs met done bs := rfl
theorem msgs_ne (met done : Nm) (bs : List Bool) : msgs met done bs ≠ [] := by simp [msgs]
def cF (f : List Int) : List AV := nums12 f
theorem double1_ok (b : Board) (m : List (Int × Int)) (okc : okCells b.cells) (p q : Int) (i : Nat) (x : List Int) (hx : x.length = 12) (fs : List (List Int)) (hf : ∀ y ∈ fs, y.length = 12) (hl : fs.length ≤ 1000) (hil : i ≤ 1000) (met done : Nm) (h : List Blk) (h0 : h[0]? = some (.role false)) (h1 : h[met.id]? = some (.chan met.gen)) (h2 : h[done.id]? = some (.chan done.gen)) :
    SendA Try.prog 110 [.pptr [sliceOf cF fs], .pptr [.int .i64 p], .pptr [.int .i64 q], .pptr [.int .i64 i], .pptr [.chan met], .pptr (bdA b m), .pptr (nums12 x), .pptr [.chan done]] h (msgs met done (bitsFrom b.cells p q x i 0 fs)) := by
  apply SendA.of_body (n := done) (ri := 0) (ht := ty171) (hf := Try.func110)
  iterate 11 (exact rfl)
  simp only [List.length_cons, List.length_nil, Nat.reduceAdd]
  refine wp_ok (so := { cut := [20], hand := [4] }) mixed _ (by kernel_rfl) ?_
  rw [show Try.f110.ntmps - 8 = 24 from rfl]
  simp only [List.replicate_succ, List.replicate_zero, List.cons_append, List.nil_append]
  have l0 : 0 < h.length := (List.getElem?_eq_some_iff.1 h0).1
  have l1 : met.id < h.length := (List.getElem?_eq_some_iff.1 h1).1
  have l2 : done.id < h.length := (List.getElem?_eq_some_iff.1 h2).1
  have g0 : ∀ k, (h ++ k)[0]? = some (.role false) := fun k => by rw [List.getElem?_append_left l0]; exact h0
  have g1 : ∀ k, (h ++ k)[met.id]? = some (.chan met.gen) := fun k => by rw [List.getElem?_append_left l1]; exact h1
  have g2 : ∀ k, (h ++ k)[done.id]? = some (.chan done.gen) := fun k => by rw [List.getElem?_append_left l2]; exact h2
  simp (implicitDefEqProofs := false) (dsimp := false) only [go_sem, bdA]
  refine WP.loopI (fun (k : Nat) s => (k ≤ fs.length) ∧ s.sl.length = 32 ∧ s.df = [] ∧ s.gh = { out := msgs met done (bitsFrom b.cells p q x i k (fs.drop k)) } ∧ (∃ e, s.hp = h ++ e) ∧ evA s.sl (.tmp 1) = .pptr [.int .i64 p] ∧ evA s.sl (.tmp 2) = .pptr [.int .i64 q] ∧ evA s.sl (.tmp 3) = .pptr [.int .i64 i] ∧ evA s.sl (.tmp 4) = .pptr [.chan met] ∧ evA s.sl (.tmp 5) = .pptr (bdA b m) ∧ evA s.sl (.tmp 6) = .pptr (nums12 x) ∧ evA s.sl (.tmp 7) = .pptr [.chan done] ∧ evA s.sl (.tmp 10) = sliceOf cF fs ∧ evA s.sl (.tmp 11) = .int .i64 fs.length ∧ evA s.sl (.tmp 12) = .int .i64 k) (fun (k : Nat) => fs.length - k) (0) ?_ ?_
  · simp (implicitDefEqProofs := false) (dsimp := false) only [go_sem, bdA, Nat.zero_le]
  · rintro k ⟨sl, df, hp, gh⟩ ⟨ab, al, rfl, rfl, ah, a1, a2, a3, a4, a5, a6, a7, a10, a11, a12⟩
    simp only at ab al ah a1 a2 a3 a4 a5 a6 a7 a10 a11 a12
    obtain ⟨j, rfl⟩ := slots_lit al; clear al; simp only [junk_succ, junk_zero, evA_tmp, nth_16, nth_four, nth_one, nth_zero, Nat.zero_add, Nat.reduceAdd] at  a1 a2 a3 a4 a5 a6 a7 a10 a11 a12 ⊢
    refine wp_ok (so := { cut := [20], hand := [4] }) mixed _ (by kernel_rfl) ?_
    obtain ⟨e, rfl⟩ := ah
    by_cases hk : k < fs.length
    · have hy := hf _ (List.getElem_mem hk)
      have hcl : ∀ y ∈ fs, (cF y).length = 12 := fun y hy => by rw [cF, nums12_len, hf y hy]
      have hr := drop_rowsM hcl hk
      have hrl : k * 12 ≤ (fs.flatMap cF).length := by rw [length_rowsM hcl]; omega
      rw [drop_get hk, bitsFrom]
      have hTk : ∀ R, (nums12 fs[k] ++ R).take 12 = nums12 fs[k] := fun R => List.take_left' (by rw [nums12_len, hy])
      have hTx := nums_take hx
      simp (implicitDefEqProofs := false) (dsimp := false) only [go_sem, a1, a2, a3, a4, a5, a6, a7, a10, a11, a12, bdA, nat_lt hk, decide_true, hr, hrl, cF, hTk, nums12_len, hy, nums_leaf, setM12 hy, Nat.le_refl]
      refine ⟨by omega, fun c1 => ?_, fun c1 => ⟨fun c2 => ?_, fun c2 => ?_⟩⟩
      · have c3 : p ≠ q := by simpa using c1
        rw [if_pos (by exact .inl c3)]
        simp only [List.cons_append, List.nil_append, msgs_cons]
        refine WP.quietS (so := { cut := [20] }) 5 rfl mixed (by kernel_rfl) (by kernel_rfl) (by decide) ?_
        simp (implicitDefEqProofs := false) (dsimp := false) only [go_sem, bdA, g0, g1, hTx, nums12_len, hx, hy, Nat.le_refl, nums_take hy]
        (first | refine CallsA.use (together_ok b m x fs[k] hx hy okc) ?_ | refine QuietCalls.use (together_ok b m x fs[k] hx hy okc) ?_)
        simp (implicitDefEqProofs := false) (dsimp := false) only [go_sem]
        refine WPI.sendN (n := met) (ri := 0) (g0 _) rfl rfl rfl rfl rfl rfl (msgs_ne _ _ _) (g1 _) ?_
        simp (implicitDefEqProofs := false) (dsimp := false) only [go_sem]
        exact ⟨k + 1, ⟨by omega, rfl, wrap_succ (by omega)⟩, by omega⟩
      · have c3 : p = q := by simpa using c1
        rw [if_pos (by exact .inr (by omega))]
        simp only [List.cons_append, List.nil_append, msgs_cons]
        refine WP.quietS (so := { cut := [20] }) 5 rfl mixed (by kernel_rfl) (by kernel_rfl) (by decide) ?_
        simp (implicitDefEqProofs := false) (dsimp := false) only [go_sem, bdA, g0, g1, hTx, nums12_len, hx, hy, Nat.le_refl, nums_take hy]
        (first | refine CallsA.use (together_ok b m x fs[k] hx hy okc) ?_ | refine QuietCalls.use (together_ok b m x fs[k] hx hy okc) ?_)
        simp (implicitDefEqProofs := false) (dsimp := false) only [go_sem]
        refine WPI.sendN (n := met) (ri := 0) (g0 _) rfl rfl rfl rfl rfl rfl (msgs_ne _ _ _) (g1 _) ?_
        simp (implicitDefEqProofs := false) (dsimp := false) only [go_sem]
        exact ⟨k + 1, ⟨by omega, rfl, wrap_succ (by omega)⟩, by omega⟩
      · have c3 : p = q := by simpa using c1
        rw [if_neg (by omega)]
        exact ⟨k + 1, ⟨by omega, rfl, wrap_succ (by omega)⟩, by omega⟩
    · have hs : ((k : Int) < (fs.length : Int)) = False := eq_false (by omega)
      rw [List.drop_eq_nil_of_le (by omega), bitsFrom]
      simp (implicitDefEqProofs := false) (dsimp := false) only [go_sem, a1, a2, a3, a4, a5, a6, a7, a10, a11, a12, bdA, hs, decide_false, g0, g2]
      rfl
end Go.Mac
namespace Go.Mac
open Go Go.Conc Go.Proofs
set_option maxRecDepth 4000
theorem wpi_shut {P : Program} {fk : FK} {its : List Item} {Q : AExit → AS → Prop} {sl : List AV} {df : List ADef} {hp : List Blk} {gh : Gst} (ds : List Nat) (h : shutK ds sl hp fun sl hp => WPI P fk its Q ⟨sl, df, hp, gh⟩) : WPI P fk its Q ⟨sl, df, hp, gh⟩ := by
  obtain ⟨⟨sl', df', hp', gh'⟩, t, h1, h2, h3⟩ := shutK_turns (n0 := fk.low) (s := ⟨sl, df, hp, gh⟩) h
  simp only at h1 h2 h3
  subst h1; subst h2
  exact WPI.turn t h3
theorem WPI.region_one {P : Program} {fk : FK} {K : AExit → AS → Prop} {s : AS} {ops : Array Oper} {i : Nat} {o : Oper} (so : Opt) (ho : ops[i]? = some o) (h : runL P so ops [o] K s) : WPI P fk [.inRegion ops [i]] K s := by
  simp only [runL] at h
  unfold guardW guardV at h
  split at h
  · rename_i hg
    exact stepW_ok (K := K) (rest := []) ho (fun _ _ _ => by simp [Region.wanted, hg]) (fun v h' q => by unfold withVH at q; exact WPI.region_end (cutV_ok q)) h
  · rename_i j want hg
    split at h
    · rename_i d hd
      split at h
      · rename_i t ht
        replace ht := evA_bool ht
        have hj : ∃ oj, ops[j]? = some oj ∧ oj.dst = some d := by
          cases hoj : ops[j]? with
          | none => rw [hoj] at hd; cases hd
          | some oj => rw [hoj] at hd; exact ⟨oj, rfl, hd⟩
        obtain ⟨oj, hj1, hj2⟩ := hj
        by_cases he : t = want
        · exact stepW_ok (K := K) (rest := []) ho (fun c tmps hv => by simp [Region.wanted, hg, yielded_of hv hj1 hj2 ht, he]) (fun v h' q => by unfold withVH at q; exact WPI.region_end (cutV_ok q)) (guardB_yes h he)
        · exact WPI.op_out ho hg hj1 hj2 ht he (WPI.region_end (guardB_no h he))
      · exact h.elim
    · exact h.elim
theorem WPI.region_from {P : Program} {fk : FK} {K : AExit → AS → Prop} {s : AS} {ops : Array Oper} (so : Opt) (k : Nat) {rest : List Nat} (hr : rest = List.range' k (ops.size - k)) (h : runL P so ops (tag (ops.toList.drop k)) K s) : WPI P fk [.inRegion ops rest] K s := by
  subst hr
  have := runL_ok (fk := fk) (ops := ops) (l := ops.toList.drop k) (k := k) (fun j => by rw [List.getElem?_drop, Array.getElem?_toList]) h
  rwa [List.length_drop, Array.length_toList] at this
theorem WPI.selectN {P : Program} {fk : FK} {Q : AExit → AS → Prop} {ops : Array Oper} {rest : List Nat} {o : Oper} {x0 x1 : Operand} {e0 e1 : TypeId} {f0 f1 : TF} {n0 n1 : Nm} {ri d : Nat} {sl : List AV} {df : List ADef} {hp : List Blk} {out : List (Nm × Value)} {todo : List (List (Nm × Value))} (hro : hp[ri]? = some (.role true)) (ho : ops[0]? = some o) (hop : o.op = .select #[⟨x0, none, e0⟩, ⟨x1, none, e1⟩] true) (hog : o.guard = none) (hod : o.dst = some d)
    (hx0 : evA sl x0 = .chan n0) (hx1 : evA sl x1 = .chan n1) (h0 : hp[n0.id]? = some (.chan n0.gen)) (h1 : hp[n1.id]? = some (.chan n1.gen)) (hne : n0.id ≠ n1.id)
    (ht0 : tyT P e0 = some f0) (ht1 : tyT P e1 = some f1) (hz0 : f0.d = .bool) (hz1 : f1.d = .bool) (hzz0 : f0.ze = some [.bool false]) (hzz1 : f1.ze = some [.bool false]) (hf0 : zeroFits P e0 = true) (hf1 : zeroFits P e1 = true)
    (hnil : todo ≠ []) (hall : ∀ ms ∈ todo, ∃ n b r, ms = (n, .bool b) :: r ∧ (n = n0 ∨ n = n1))
    (h : ∀ T1 n b r T2, todo = T1 ++ ((n, .bool b) :: r) :: T2 →
      (n = n0 → WPI P fk [.inRegion ops rest] Q ⟨setN d (.tup [.int .i64 0, .bool true, .bool b, .bool false]) sl, df, hp, ⟨out, T1 ++ restA r ++ T2⟩⟩) ∧
      (n = n1 → WPI P fk [.inRegion ops rest] Q ⟨setN d (.tup [.int .i64 1, .bool true, .bool false, .bool b]) sl, df, hp, ⟨out, T1 ++ restA r ++ T2⟩⟩)) : WPI P fk [.inRegion ops (0 :: rest)] Q ⟨sl, df, hp, ⟨out, todo⟩⟩ := by
  refine WPI.select hro ho hop hog hod hx0 hx1 h0 h1 hne ht0 ht1 hz0 hz1 hzz0 hzz1 hf0 hf1 hnil hall fun T1 n b r T2 e => ?_
  obtain ⟨g1, g2⟩ := h T1 n b r T2 e
  have es : ∀ v, sl.set d v = setN d v sl := fun v => by have := putA_some (l := sl) (d := d) (v := v); simpa [putA] using this
  refine ⟨fun e => ?_, fun e => ?_⟩
  · simp only [es]; exact g1 e
  · simp only [es]; exact g2 e
theorem WPI.goN {P : Program} {fk : FK} {K : AExit → AS → Prop} {ops : Array Oper} {i : Nat} {o : Oper} {f : Operand} {ats : Array TypeId} {g : FuncId} {cap sl : List AV} {df : List ADef} {hp : List Blk} {out : List (Nm × Value)} {todo : List (List (Nm × Value))} {ri : Nat} (O : List (Nm × Value)) (hro : hp[ri]? = some (.role true)) (ho : ops[i]? = some o) (hop : o.op = .go { callee := .value f, args := #[], argTypes := ats }) (hog : o.guard = none) (hod : o.dst = none) (hf : evA sl f = .fn (.func g) [] cap)
    (hO : O ≠ []) (hch : ∀ m ∈ O, hp[m.1.id]? = some (.chan m.1.gen)) (hs : SendA P g cap (hp.map shareB) O) (h : K .normal ⟨sl, df, hp, ⟨out, todo ++ [O]⟩⟩) : WPI P fk [.inRegion ops [i]] K ⟨sl, df, hp, ⟨out, todo⟩⟩ := by
  refine WPI.go O hro ho hop hog hf hO hch hs (WPI.region_end ?_)
  rw [hod]; exact h
theorem msgs_mem {met done : Nm} {bs : List Bool} {x : Nm × Value} (h : x ∈ msgs met done bs) : x.1 = met ∨ x.1 = done := by
  rcases List.mem_append.1 h with h | h
  · obtain ⟨y, _, rfl⟩ := List.mem_map.1 h; exact .inl rfl
  · rw [List.mem_singleton.1 h]; exact .inr rfl
def facesOf (b : Board) (m : List (Int × Int)) (p : Nat) : List (List Int) := (ways b m p).map Prod.snd
theorem facesOf_len (b : Board) (m : List (Int × Int)) (p : Nat) : (facesOf b m p).length = 18 := by simp [facesOf, ways_len]
theorem facesOf_face {b : Board} {m : List (Int × Int)} {p : Nat} : ∀ y ∈ facesOf b m p, y.length = 12 := by
  intro y hy
  obtain ⟨x, hx, rfl⟩ := List.mem_map.1 hy
  obtain ⟨n, _, rfl⟩ := List.mem_map.1 hx
  exact face_len _ _ _ _
theorem facesOf_get {b : Board} {m : List (Int × Int)} {p k : Nat} (hk : k < 18) : (facesOf b m p)[k]'(by rw [facesOf_len]; exact hk) = faceB m (b.pages.getD p []) b.cells (layN p k) := by simp [facesOf, ways, wayN]
def bitsAll (cs : List (List Trace)) (p q : Int) (one two : List (List Int)) (n : Nat) : List (List Bool) := (List.range n).map fun i => bitsFrom cs p q (one.getD i []) i 0 two
theorem bitsAll_succ (cs : List (List Trace)) (p q : Int) (one two : List (List Int)) (n : Nat) : bitsAll cs p q one two (n + 1) = bitsAll cs p q one two n ++ [bitsFrom cs p q (one.getD n []) n 0 two] := by simp [bitsAll, List.range_succ]
theorem bitsAll_len (cs : List (List Trace)) (p q : Int) (one two : List (List Int)) (n : Nat) : (bitsAll cs p q one two n).length = n := by simp [bitsAll]
def countT (l : List (List Bool)) : Nat := (l.map fun x => x.count true).sum
theorem bitsFrom_len (cs : List (List Trace)) (p q : Int) (x : List Int) (i : Nat) : ∀ (k : Nat) (fs : List (List Int)), (bitsFrom cs p q x i k fs).length ≤ fs.length
  | _, [] => Nat.le_refl _
  | k, y :: ys => by
    have := bitsFrom_len cs p q x i (k + 1) ys
    rw [bitsFrom, List.length_append, List.length_cons]
    split
    · simp only [List.length_cons, List.length_nil]; omega
    · simp only [List.length_nil]; omega
theorem countT_le {n : Nat} : ∀ {l : List (List Bool)}, (∀ x ∈ l, x.length ≤ n) → countT l ≤ l.length * n
  | [], _ => Nat.zero_le _
  | x :: l, h => by
    have h1 := countT_le (l := l) fun y hy => h y (by simp [hy])
    have h2 := h x (by simp)
    have h3 : x.count true ≤ x.length := List.count_le_length
    simp only [countT, List.map_cons, List.sum_cons, List.length_cons, Nat.succ_mul] at *
    omega
def doubleB (b : Board) (m : List (Int × Int)) (p q : Nat) : Nat := countT (bitsAll b.cells p q (facesOf b m p) (facesOf b m q) 18)
theorem doubleB_le (b : Board) (m : List (Int × Int)) (p q : Nat) : doubleB b m p q ≤ 324 := by
  have h := countT_le (n := 18) (l := bitsAll b.cells p q (facesOf b m p) (facesOf b m q) 18) fun x hx => by
    obtain ⟨i, _, rfl⟩ := List.mem_map.1 hx
    have := bitsFrom_len b.cells p q ((facesOf b m p).getD i []) i 0 (facesOf b m q)
    rwa [facesOf_len] at this
  rw [bitsAll_len] at h
  exact h
def dblH (b : Board) (m : List (Int × Int)) (p q : Nat) (L : Nat) (l1 l2 : List (List Int)) : List Blk :=
  [.cells 0 (bdA b m), .cells 0 [.int .i64 p], .cells 0 [.int .i64 q], .cells 0 [.sl ⟨L + 5, l1.length⟩ 12 0 l1.length], .cells 0 [.sl ⟨L + 6, l2.length⟩ 12 0 l2.length], .cells l1.length (l1.flatMap cF), .cells l2.length (l2.flatMap cF)]
theorem dblH_below (b : Board) (m : List (Int × Int)) (p q L : Nat) (l1 l2 : List (List Int)) {n : Nat} (hn : L + 7 ≤ n) : (dblH b m p q L l1 l2).all (belowBlk n) = true := by
  have h1 : belowBlk n (.cells 0 (bdA b m)) = true := belowL_mono (Nat.zero_le n) _ (bdA_below b m)
  have h2 : ∀ l : List (List Int), belowBlk n (.cells l.length (l.flatMap cF)) = true := fun l => belowL_flat (f := cF) (fun _ => nums_below _) l
  simp only [dblH, List.all_cons, List.all_nil, h1, h2]
  simp only [belowBlk, belowL, below, Bool.and_true, Bool.true_and, decide_eq_true_eq, Bool.and_eq_true]
  omega
theorem loop_cut7 {h own e : List Blk} {a b c d f k g l i : Blk} : h ++ a :: b :: c :: d :: f :: k :: g :: i :: l :: (own ++ e) = (h ++ [a, b, c, d, f, k, g]) ++ i :: l :: (own ++ e) := by simp
theorem loop_cut9 {h own e : List Blk} {a b c d f k g l i m n : Blk} : h ++ a :: b :: c :: d :: f :: k :: g :: m :: n :: i :: l :: (own ++ e) = (h ++ [a, b, c, d, f, k, g, m, n]) ++ i :: l :: (own ++ e) := by simp
theorem cF_len {l : List (List Int)} (h : ∀ y ∈ l, y.length = 12) : (l.flatMap cF).length = l.length * 12 := length_rowsM fun y hy => by rw [cF, nums12_len, h y hy]
theorem take_face {l : List (List Int)} (h : ∀ y ∈ l, y.length = 12) (k : Nat) : ∀ y ∈ l.take k, y.length = 12 := fun y hy => h y (List.mem_of_mem_take hy)
def chB (x : Bool) : Blk := if x then .chan 1 else .cells 0 []
def varB (x y : Bool) (n : Nm) : Blk := if y then .cells 1 [.chan n] else if x then .cells 1 [.any] else .cells 0 []
def dblD (b : Board) (m : List (Int × Int)) (p q : Nat) (h : List Blk) (c0 c1 v0 v1 : Blk) : List Blk := h ++ (dblH b m p q h.length (facesOf b m p) (facesOf b m q) ++ [.defd, .dead, .defd, .dead, c0, c1, v0, v1])
section
variable {b : Board} {m : List (Int × Int)} {p q : Nat} {h : List Blk} {c0 c1 v0 v1 x : Blk}
theorem dblD_set0 : (dblD b m p q h c0 c1 v0 v1).set (h.length + 11) x = dblD b m p q h x c1 v0 v1 := by simp [dblD, dblH, hset]
theorem dblD_set1 : (dblD b m p q h c0 c1 v0 v1).set (h.length + 12) x = dblD b m p q h c0 x v0 v1 := by simp [dblD, dblH, hset]
theorem dblD_set2 : (dblD b m p q h c0 c1 v0 v1).set (h.length + 13) x = dblD b m p q h c0 c1 x v1 := by simp [dblD, dblH, hset]
theorem dblD_set3 : (dblD b m p q h c0 c1 v0 v1).set (h.length + 14) x = dblD b m p q h c0 c1 v0 x := by simp [dblD, dblH, hset]
theorem dblD_get0 : (dblD b m p q h c0 c1 v0 v1)[h.length + 11]? = some c0 := by unfold dblD; rw [hget]; rfl
theorem dblD_get1 : (dblD b m p q h c0 c1 v0 v1)[h.length + 12]? = some c1 := by unfold dblD; rw [hget]; rfl
theorem dblD_get2 : (dblD b m p q h c0 c1 v0 v1)[h.length + 13]? = some v0 := by unfold dblD; rw [hget]; rfl
theorem dblD_get3 : (dblD b m p q h c0 c1 v0 v1)[h.length + 14]? = some v1 := by unfold dblD; rw [hget]; rfl
end
theorem double_ok (b : Board) (m : List (Int × Int)) (ok : okBoard b) (p q : Nat) (hp : p < b.pages.length) (hq : q < b.pages.length) (h : List Blk) (hro : h[0]? = some (.role true)) : QuietAt 82 [.agg (bdA b m), .int .i64 p, .int .i64 q] h (.int .i64 (doubleB b m p q)) := by
  unfold QuietAt
  refine CallsA.of_wpe [] { shut := [27, 36], hand := [8, 9] } 63 mixed Try.func82 (by kernel_rfl) rfl (by kernel_rfl) fun j hB hA => ?_; simp only [junk_succ, junk_zero, List.cons_append, List.nil_append, List.length_cons, List.length_nil, Nat.reduceAdd]
  simp (implicitDefEqProofs := false) (dsimp := false) only [go_sem, bdA]
  (first | refine CallsA.use (laysOf_ok b m p) ?_ | refine QuietCalls.use (laysOf_ok b m p) ?_)
  simp (implicitDefEqProofs := false) (dsimp := false) only [go_sem]
  refine WPI.turn (Turns.nilCell (i := h.length + 3) (j := 0) (sz := 12) (by simp only; rw [hget]; rfl) rfl) ?_
  refine WPI.turn (Turns.nilCell (i := h.length + 4) (j := 0) (sz := 12) (by simp only [List.append_assoc]; rw [hset, List.append_assoc, hget]; rfl) rfl) ?_
  simp only [hset, List.append_assoc, List.set_cons_succ, List.set_cons_zero, List.cons_append, List.nil_append, List.length_append, List.length_cons, List.length_nil, Nat.zero_add, Nat.reduceAdd]
  refine WP.rangeIterN (h.length + 8) (by simp <;> omega)  (so := { shut := [27, 36], hand := [8, 9] }) mixed (by kernel_rfl) (by kernel_rfl) rfl rfl (call_laysOf1) rfl rfl (iter_ways b m p hp ok) (encW_len) (fun k h1 => h1 = h ++ dblH b m p q h.length ((facesOf b m p).take k) []) (fun _ _ => False) ?_ ?_ ?_ ?_ ?_ ?_
  · rintro k _ _ rfl
    exact mine_ok hB (by simp [dblH]) (dblH_below _ _ _ _ _ _ _ (by simp))
  · rintro _ _ _ ⟨⟩
  · simp [dblH, bdA, sliceOf]
  · rintro k _ own hk rfl hl2
    rw [List.length_map, ways_len] at hk
    have ex : ((ways b m p).map encW)[k]'(by rw [List.length_map, ways_len]; exact hk) = [.agg (cLay (layN p k)), .agg (nums12 (faceB m b.pages[p] b.cells (layN p k)))] := by simp [ways, wayN, encW, List.getD, hp]
    rw [ex]
    dsimp only
    have e12 : (faceB m b.pages[p] b.cells (layN p k)).length = 12 := face_len _ _ _ _
    have hl : (facesOf b m p).take (k + 1) = (facesOf b m p).take k ++ [faceB m b.pages[p] b.cells (layN p k)] := by
      rw [List.take_add_one, List.getElem?_eq_getElem (by rw [facesOf_len]; exact hk), facesOf_get hk]
      simp [List.getD, hp]
    rw [hl]
    have hcl := cF_len (take_face (facesOf_face (b := b) (m := m) (p := p)) k)
    have hkl : ((facesOf b m p).take k).length = k := by rw [List.length_take, facesOf_len]; omega
    simp (implicitDefEqProofs := false) (dsimp := false) only [go_sem, dblH, bdA, setM12 e12, nums_take e12, nums_leaf, nums12_len, e12, Nat.le_refl, hcl, hkl, nums_belowN]
    exact ⟨by omega, _, ⟨_, loop_cut7⟩, by simp [cF]⟩
  · rintro _ rfl
    rw [List.length_map, ways_len, List.take_of_length_le (by rw [facesOf_len]; exact Nat.le_refl _)]
    simp (implicitDefEqProofs := false) (dsimp := false) only [go_sem, dblH, bdA, facesOf_len]
    (first | refine CallsA.use (laysOf_ok b m q) ?_ | refine QuietCalls.use (laysOf_ok b m q) ?_)
    simp (implicitDefEqProofs := false) (dsimp := false) only [go_sem]
    refine WP.rangeIterN (h.length + 10) (by simp <;> omega)  (so := { shut := [27, 36], hand := [8, 9] }) mixed (by kernel_rfl) (by kernel_rfl) rfl rfl (call_laysOf1) rfl rfl (iter_ways b m q hq ok) (encW_len) (fun k h1 => h1 = h ++ (dblH b m p q h.length (facesOf b m p) ((facesOf b m q).take k) ++ [.defd, .dead])) (fun _ _ => False) ?_ ?_ ?_ ?_ ?_ ?_
    · rintro k _ _ rfl
      refine mine_ok hB (by simp [dblH]) ?_
      rw [List.all_append, dblH_below _ _ _ _ _ _ _ (by simp)]
      rfl
    · rintro _ _ _ ⟨⟩
    · simp [dblH, bdA, sliceOf, facesOf_len]
    · rintro k _ own hk rfl hl2
      rw [List.length_map, ways_len] at hk
      have ex : ((ways b m q).map encW)[k]'(by rw [List.length_map, ways_len]; exact hk) = [.agg (cLay (layN q k)), .agg (nums12 (faceB m b.pages[q] b.cells (layN q k)))] := by simp [ways, wayN, encW, List.getD, hq]
      rw [ex]
      dsimp only
      have e12 : (faceB m b.pages[q] b.cells (layN q k)).length = 12 := face_len _ _ _ _
      have hl : (facesOf b m q).take (k + 1) = (facesOf b m q).take k ++ [faceB m b.pages[q] b.cells (layN q k)] := by
        rw [List.take_add_one, List.getElem?_eq_getElem (by rw [facesOf_len]; exact hk), facesOf_get hk]
        simp [List.getD, hq]
      rw [hl]
      have hcl := cF_len (take_face (facesOf_face (b := b) (m := m) (p := q)) k)
      have hkl : ((facesOf b m q).take k).length = k := by rw [List.length_take, facesOf_len]; omega
      simp (implicitDefEqProofs := false) (dsimp := false) only [go_sem, dblH, bdA, setM12 e12, nums_take e12, nums_leaf, nums12_len, e12, Nat.le_refl, hcl, hkl, nums_belowN]
      exact ⟨by omega, _, ⟨_, loop_cut9⟩, by simp [cF]⟩
    · rintro _ rfl
      rw [List.length_map, ways_len, List.take_of_length_le (by rw [facesOf_len]; exact Nat.le_refl _)]
      simp (implicitDefEqProofs := false) (dsimp := false) only [go_sem, dblH, bdA, facesOf_len]
      refine WPI.turn Turns.reserve (WPI.turn Turns.reserve (WPI.turn Turns.reserve (WPI.turn Turns.reserve ?_)))
      simp only [List.append_assoc, List.cons_append, List.nil_append]
      refine WP.drawT (so := {}) 5 rfl mixed (by kernel_rfl) (by kernel_rfl) (by decide) (fun i => match i with | 0 => .chan ⟨h.length + 11, 1⟩ | 1 => .chan ⟨h.length + 12, 1⟩ | 2 => .ptr ⟨h.length + 13, 1⟩ 0 | 3 => .ptr ⟨h.length + 14, 1⟩ 0 | _ => .tup []) (fun L => dblD b m p q h (chB (L 0)) (chB (L 1)) (varB (L 2) (L 4) ⟨h.length + 11, 1⟩) (varB (L 3) false ⟨h.length + 12, 1⟩)) ?_ ?_ ?_
      · intro L hL
        rw [hL 0 (by decide), hL 1 (by decide), hL 2 (by decide), hL 3 (by decide), hL 4 (by decide)]
        simp [dblD, dblH, chB, varB, bdA, sliceOf, facesOf_len]
      · intro i o hi ho L hcl hw hLi
        have hi5 : i = 0 ∨ i = 1 ∨ i = 2 ∨ i = 3 ∨ i = 4 := by omega
        rcases hi5 with rfl | rfl | rfl | rfl | rfl
        · obtain rfl := Option.some.inj (show some _ = some o from ho)
          right
          have := FreeAt.makeChan (P := Try.prog) (fk := ⟨82, false, h.length⟩) ho rfl rfl ty171 rfl ty4 (dblD_get0 (b := b) (m := m) (p := p) (q := q) (h := h) (c0 := .cells 0 []) (c1 := chB (L 1)) (v0 := varB (L 2) (L 4) ⟨h.length + 11, 1⟩) (v1 := varB (L 3) false ⟨h.length + 12, 1⟩))
          rw [dblD_set0] at this
          rw [hLi]
          exact this
        · obtain rfl := Option.some.inj (show some _ = some o from ho)
          right
          have := FreeAt.makeChan (P := Try.prog) (fk := ⟨82, false, h.length⟩) ho rfl rfl ty171 rfl ty4 (dblD_get1 (b := b) (m := m) (p := p) (q := q) (h := h) (c0 := chB (L 0)) (c1 := .cells 0 []) (v0 := varB (L 2) (L 4) ⟨h.length + 11, 1⟩) (v1 := varB (L 3) false ⟨h.length + 12, 1⟩))
          rw [dblD_set1] at this
          rw [hLi]
          exact this
        · obtain rfl := Option.some.inj (show some _ = some o from ho)
          right
          have h4 : L 4 = false := by
            cases e : L 4 with
            | false => rfl
            | true => have := hcl 4 _ rfl e 2 (by kernel_rfl); rw [hLi] at this; cases this
          have := FreeAt.alloc (P := Try.prog) (fk := ⟨82, false, h.length⟩) ho rfl rfl ty171 rfl (dblD_get2 (b := b) (m := m) (p := p) (q := q) (h := h) (c0 := chB (L 0)) (c1 := chB (L 1)) (v0 := .cells 0 []) (v1 := varB (L 3) false ⟨h.length + 12, 1⟩))
          rw [dblD_set2] at this
          show FreeAt _ _ _ _ _ _ _ (dblD b m p q h (chB (L 0)) (chB (L 1)) (varB true (L 4) ⟨h.length + 11, 1⟩) (varB (L 3) false ⟨h.length + 12, 1⟩))
          rw [hLi, h4]
          exact this
        · obtain rfl := Option.some.inj (show some _ = some o from ho)
          right
          have := FreeAt.alloc (P := Try.prog) (fk := ⟨82, false, h.length⟩) ho rfl rfl ty171 rfl (dblD_get3 (b := b) (m := m) (p := p) (q := q) (h := h) (c0 := chB (L 0)) (c1 := chB (L 1)) (v0 := varB (L 2) (L 4) ⟨h.length + 11, 1⟩) (v1 := .cells 0 []))
          rw [dblD_set3] at this
          rw [hLi]
          exact this
        · obtain rfl := Option.some.inj (show some _ = some o from ho)
          left
          show OneG _ _ _ _ _ _ _ (dblD b m p q h (chB (L 0)) (chB (L 1)) (varB (L 2) true ⟨h.length + 11, 1⟩) (varB (L 3) false ⟨h.length + 12, 1⟩))
          rw [hw 0 (by kernel_rfl), hw 2 (by kernel_rfl), hw 3 (by kernel_rfl), hLi]
          show stepK (opE Try.prog (.store 171 (.tmp 13) (.tmp 38)) (evA _) _) _
          show stepK (storeE Try.prog 171 (.ptr ⟨h.length + 13, 1⟩ 0) (.chan ⟨h.length + 11, 1⟩) _) _
          simp only [storeE, ty171, valCells, dblD_get2, varB, if_true, Bool.false_eq_true, if_false, setMany, List.set_cons_zero, dblD_set2, stepK_some, List.all_cons, leafA, List.all_nil, List.length_cons, List.length_nil]
          simp
      · intro L h1 h2
        rw [h1 0 (by decide), h1 1 (by decide), h1 2 (by decide), h1 3 (by decide), h1 4 (by decide)]
        refine WPI.region_one (so := {}) (i := 5) rfl ?_
        simp only [slotsL, if_true, List.getElem?_toArray, List.getElem?_cons_zero, List.getElem?_cons_succ, Option.bind_some, putA_some, setN_16, setN_four, setN_one, setN_zero, dblD, dblH, chB, varB, Bool.false_eq_true, if_false, facesOf_len, List.cons_append, List.nil_append]
        simp (implicitDefEqProofs := false) (dsimp := false) only [go_sem, List.getElem_toArray, List.getElem_cons_succ, List.getElem_cons_zero]
        have hF1 := cF_len (facesOf_face (b := b) (m := m) (p := p))
        have hF2 := cF_len (facesOf_face (b := b) (m := m) (p := q))
        rw [facesOf_len] at hF1 hF2
        refine WPI.turn (Turns.seal_cell (i := h.length + 3) (g := 0) (j := 0) (a := .sl ⟨h.length + 5, 18⟩ 12 0 18) (a' := .psl ((facesOf b m p).flatMap cF) 18) (by simp only; rw [hget]; rfl) rfl (by simp only [sealV]; rw [hget]; simp only [List.getElem?_cons_succ, List.getElem?_cons_zero, if_true, List.drop_zero]; rw [List.take_of_length_le (by rw [hF1]; exact Nat.le_refl _)]) (by simp [nmOf])) ?_
        simp only [nmOf, hset, List.set_cons_succ, List.set_cons_zero]
        refine WPI.turn (Turns.seal_cell (i := h.length + 4) (g := 0) (j := 0) (a := .sl ⟨h.length + 6, 18⟩ 12 0 18) (a' := .psl ((facesOf b m q).flatMap cF) 18) (by simp only; rw [hget]; rfl) rfl (by simp only [sealV]; rw [hget]; simp only [List.getElem?_cons_succ, List.getElem?_cons_zero, if_true, List.drop_zero]; rw [List.take_of_length_le (by rw [hF2]; exact Nat.le_refl _)]) (by simp [nmOf])) ?_
        simp only [nmOf, hset, List.set_cons_succ, List.set_cons_zero]
        refine wp_shut [3, 4, 5, 7, 8, 13, 14] (so := { shut := [27, 36], }) mixed _ (by kernel_rfl) ?_
        simp (implicitDefEqProofs := false) (dsimp := false) only [go_sem]
        refine WP.loopI (fun (i : Nat) s => (i ≤ 18) ∧ s.sl.length = 66 ∧ s.df = [.mark ⟨h.length + 9, 0⟩, .mark ⟨h.length + 7, 0⟩] ∧ s.gh = { todo := (bitsAll b.cells p q (facesOf b m p) (facesOf b m q) i).map (msgs ⟨h.length + 11, 1⟩ ⟨h.length + 12, 1⟩) } ∧ (∃ k, s.hp = h ++ .dead :: .dead :: .dead :: .dead :: .dead :: .dead :: .dead :: .defd :: .dead :: .defd :: .dead :: .chan 1 :: .chan 1 :: k) ∧ evA s.sl (.tmp 3) = .pptr (bdA b m) ∧ evA s.sl (.tmp 4) = .pptr [.int .i64 p] ∧ evA s.sl (.tmp 5) = .pptr [.int .i64 q] ∧ evA s.sl (.tmp 7) = .pptr [.psl ((facesOf b m p).flatMap cF) 18] ∧ evA s.sl (.tmp 8) = .pptr [.psl ((facesOf b m q).flatMap cF) 18] ∧ evA s.sl (.tmp 13) = .pptr [.chan ⟨h.length + 11, 1⟩] ∧ evA s.sl (.tmp 14) = .pptr [.chan ⟨h.length + 12, 1⟩] ∧ evA s.sl (.tmp 40) = .psl ((facesOf b m p).flatMap cF) 18 ∧ evA s.sl (.tmp 41) = .int .i64 18 ∧ evA s.sl (.tmp 42) = .int .i64 i) (fun (i : Nat) => 18 - i) (0) ?_ ?_
        · simp (implicitDefEqProofs := false) (dsimp := false) only [go_sem, bdA, Nat.zero_le]
          rfl
        · rintro i ⟨sl, df, hp, gh⟩ ⟨ab, al, rfl, rfl, ah, a3, a4, a5, a7, a8, a13, a14, a40, a41, a42⟩
          simp only at ab al ah a3 a4 a5 a7 a8 a13 a14 a40 a41 a42
          obtain ⟨j, rfl⟩ := slots_lit al; clear al; simp only [junk_succ, junk_zero, evA_tmp, nth_16, nth_four, nth_one, nth_zero, Nat.zero_add, Nat.reduceAdd] at  a3 a4 a5 a7 a8 a13 a14 a40 a41 a42 ⊢
          refine wp_ok (so := { shut := [27, 36], hand := [8, 9] }) mixed _ (by kernel_rfl) ?_
          obtain ⟨k, rfl⟩ := ah
          by_cases hi : i < 18
          · have hs : ((i : Int) < 18) = True := eq_true (by omega)
            have hil : i < (facesOf b m p).length := by rw [facesOf_len]; exact hi
            have hy := facesOf_face _ (List.getElem_mem hil)
            have hcl : ∀ y ∈ facesOf b m p, (cF y).length = 12 := fun y hy => by rw [cF, nums12_len, facesOf_face y hy]
            have hr := drop_rowsM hcl hil
            have hrl : i * 12 ≤ ((facesOf b m p).flatMap cF).length := by rw [length_rowsM hcl]; omega
            have hTk : ∀ R, (nums12 (facesOf b m p)[i] ++ R).take 12 = nums12 (facesOf b m p)[i] := fun R => List.take_left' (by rw [nums12_len, hy])
            simp (implicitDefEqProofs := false) (dsimp := false) only [go_sem, a3, a4, a5, a7, a8, a13, a14, a40, a41, a42, bdA, hs, decide_true, hr, hrl, cF, hTk, nums12_len, hy, nums_leaf, setM12 hy, Nat.le_refl]
            refine ⟨by omega, ?_⟩
            refine wpi_shut [15, 16] ?_
            simp (implicitDefEqProofs := false) (dsimp := false) only [go_sem]
            refine WP.region_splitN (so := { shut := [27, 36], }) 1 [1] rfl (by decide) ?_
            simp (implicitDefEqProofs := false) (dsimp := false) only [go_sem]
            have hd := double1_ok b m ok.cells p q i _ hy (facesOf b m q) facesOf_face (by rw [facesOf_len]; omega) (by omega) ⟨h.length + 11, 1⟩ ⟨h.length + 12, 1⟩ ((h ++ .dead :: .dead :: .dead :: .dead :: .dead :: .dead :: .dead :: .defd :: .dead :: .defd :: .dead :: .chan 1 :: .chan 1 :: (k ++ [.dead, .dead]) : List Blk).map shareB) (by rw [List.map_append, List.getElem?_append_left (by simp; exact (List.getElem?_eq_some_iff.1 hro).1), List.getElem?_map, hro]; rfl) (by rw [List.getElem?_map, hget]; rfl) (by rw [List.getElem?_map, hget]; rfl)
            rw [sliceOf, facesOf_len] at hd
            refine WPI.goN (ri := 0) _ (by rw [List.getElem?_append_left (List.getElem?_eq_some_iff.1 hro).1]; exact hro) rfl rfl rfl rfl rfl (msgs_ne _ _ _) (fun x hx => ?_) hd ?_
            · rcases msgs_mem hx with e | e <;> rw [e, hget] <;> rfl
            · simp (implicitDefEqProofs := false) (dsimp := false) only [go_sem]
              refine ⟨i + 1, ⟨by omega, ?_, wrap_succ (by omega)⟩, by omega⟩
              rw [bitsAll_succ, List.map_append]
              simp [List.getD, hil]
          · have hs : ((i : Int) < 18) = False := eq_false (by omega)
            have ei : i = 18 := by omega
            subst ei
            simp (implicitDefEqProofs := false) (dsimp := false) only [go_sem, a3, a4, a5, a7, a8, a13, a14, a40, a41, a42, bdA, hs, decide_false]
            refine WP.loopI (fun (y : Nat × List (List Bool)) s => (y.1 + countT y.2 = doubleB b m p q ∧ y.2.length ≤ 18) ∧ s.sl.length = 66 ∧ s.df = [.mark ⟨h.length + 9, 0⟩, .mark ⟨h.length + 7, 0⟩] ∧ s.gh = { todo := y.2.map (msgs ⟨h.length + 11, 1⟩ ⟨h.length + 12, 1⟩) } ∧ (∃ k, s.hp = h ++ .dead :: .dead :: .dead :: .dead :: .dead :: .dead :: .dead :: .defd :: .dead :: .defd :: .dead :: .chan 1 :: .chan 1 :: k) ∧ evA s.sl (.tmp 13) = .pptr [.chan ⟨h.length + 11, 1⟩] ∧ evA s.sl (.tmp 14) = .pptr [.chan ⟨h.length + 12, 1⟩] ∧ evA s.sl (.tmp 17) = .int .i64 y.1 ∧ evA s.sl (.tmp 18) = .int .i64 y.2.length) (fun (y : Nat × List (List Bool)) => (y.2.map fun l => l.length + 1).sum) ((0, bitsAll b.cells p q (facesOf b m p) (facesOf b m q) 18)) ?_ ?_
            · simp (implicitDefEqProofs := false) (dsimp := false) only [go_sem, bitsAll_len]
              rfl
            · rintro ⟨n, Ls⟩ ⟨sl, df, hp, gh⟩ ⟨eb, el, rfl, rfl, eh, e13, e14, e17, e18⟩
              simp only at eb el eh e13 e14 e17 e18
              obtain ⟨j, rfl⟩ := slots_lit el; clear el; simp only [junk_succ, junk_zero, evA_tmp, nth_16, nth_four, nth_one, nth_zero, Nat.zero_add, Nat.reduceAdd] at  e13 e14 e17 e18 ⊢
              refine wp_ok (so := { shut := [27, 36], hand := [8, 9] }) mixed _ (by kernel_rfl) ?_
              obtain ⟨k, rfl⟩ := eh
              obtain ⟨eb, el18⟩ := eb
              cases Ls with
              | nil =>
                simp (implicitDefEqProofs := false) (dsimp := false) only [go_sem, e13, e14, e17, e18, List.map_nil]
                have hn : n = doubleB b m p q := by simpa [countT] using eb
                rw [hn]
                exact quiet_fine hB rfl
              | cons l0 Ls0 =>
                have hgt : ((((l0 :: Ls0).length : Nat) : Int) > 0) = True := eq_true (by simp)
                simp (implicitDefEqProofs := false) (dsimp := false) only [go_sem, e13, e14, e17, e18, hgt, decide_true]
                refine ⟨fun _ => ?_, fun hc => absurd (by omega : ((Ls0.length + 1 : Nat) : Int) > 0) hc⟩
                refine WP.region ?_
                show WPI _ _ [.inRegion _ [0, 1, 2, 3]] _ _
                refine WPI.selectN (ri := 0) (n0 := ⟨h.length + 11, 1⟩) (n1 := ⟨h.length + 12, 1⟩) (by rw [List.getElem?_append_left (List.getElem?_eq_some_iff.1 hro).1]; exact hro) rfl rfl rfl rfl rfl rfl (by rw [hget]; rfl) (by rw [hget]; rfl) (by simp) ty4 ty4 rfl rfl rfl rfl (by kernel_rfl) (by kernel_rfl) (by simp) ?_ ?_
                · intro ms hms
                  rw [← List.map_cons] at hms
                  obtain ⟨l, _, rfl⟩ := List.mem_map.1 hms
                  cases l with
                  | nil => exact ⟨_, _, _, rfl, .inr rfl⟩
                  | cons b l => exact ⟨_, _, _, rfl, .inl rfl⟩
                · intro T1 nn bv r T2 heq
                  rw [← List.map_cons] at heq
                  obtain ⟨L1, Lr, hL, rfl, hr⟩ := List.map_eq_append_iff.1 heq
                  obtain ⟨l, L2, rfl, hms, rfl⟩ := List.map_eq_cons_iff.1 hr
                  have hlen : L1.length + (L2.length + 1) = Ls0.length + 1 := by have := congrArg List.length hL; simpa using this.symm
                  have hcnt : countT (l0 :: Ls0) = countT L1 + (l.count true + countT L2) := by rw [hL]; simp [countT]
                  have hmea : ((l0 :: Ls0).map fun l => l.length + 1).sum = (L1.map fun l => l.length + 1).sum + (l.length + 1 + (L2.map fun l => l.length + 1).sum) := by rw [hL]; simp
                  refine ⟨?_, ?_⟩
                  · rintro rfl
                    cases l with
                    | nil => simp [msgs] at hms
                    | cons x l =>
                      rw [msgs_cons] at hms
                      simp only [List.cons.injEq, Prod.mk.injEq, true_and, Value.bool.injEq] at hms
                      obtain ⟨rfl, rfl⟩ := hms
                      rw [restA, if_neg (msgs_ne _ _ _)]
                      refine WPI.region_from (so := {}) 1 rfl ?_
                      simp (implicitDefEqProofs := false) (dsimp := false) only [go_sem]
                      have hmx : countT (L1 ++ l :: L2) + (if x = true then 1 else 0) = countT (l0 :: Ls0) := by
                        rw [hcnt]
                        simp only [countT, List.map_append, List.map_cons, List.sum_append, List.sum_cons, List.count_cons]
                        cases x <;> simp <;> omega
                      have hme : ((L1 ++ l :: L2).map fun l => l.length + 1).sum < ((l0 :: Ls0).map fun l => l.length + 1).sum := by
                        rw [hmea]
                        simp only [List.map_append, List.map_cons, List.sum_append, List.sum_cons, List.length_cons]
                        omega
                      have hln : (L1 ++ l :: L2).length = Ls0.length + 1 := by simp only [List.length_append, List.length_cons]; omega
                      have hbd := doubleB_le b m p q
                      simp only [List.map_cons] at hme
                      refine ⟨fun hx => ?_, fun hx => ?_⟩
                      · rw [if_pos hx] at hmx
                        exact ⟨(n + 1, L1 ++ l :: L2), ⟨⟨by simp only; omega, by simp only; rw [hln]; simpa using el18⟩, by simp, wrap_succ (by omega), by simp only; rw [hln]⟩, hme⟩
                      · rw [if_neg (by simp [hx])] at hmx
                        exact ⟨(n, L1 ++ l :: L2), ⟨⟨by simp only; omega, by simp only; rw [hln]; simpa using el18⟩, by simp, rfl, by simp only; rw [hln]⟩, hme⟩
                  · rintro rfl
                    cases l with
                    | cons x l => simp [msgs] at hms
                    | nil =>
                      simp only [msgs, List.map_nil, List.nil_append, List.cons.injEq, Prod.mk.injEq, true_and, Value.bool.injEq] at hms
                      obtain ⟨rfl, rfl⟩ := hms
                      rw [restA, if_pos rfl]
                      refine WPI.region_from (so := {}) 1 rfl ?_
                      simp (implicitDefEqProofs := false) (dsimp := false) only [go_sem]
                      have hmx : countT (L1 ++ L2) = countT (l0 :: Ls0) := by
                        rw [hcnt]
                        simp [countT]
                      have hme : ((L1 ++ L2).map fun l => l.length + 1).sum < ((l0 :: Ls0).map fun l => l.length + 1).sum := by
                        rw [hmea]
                        simp only [List.map_append, List.sum_append, List.length_nil]
                        omega
                      have hln : (L1 ++ L2).length = Ls0.length := by simp only [List.length_append]; omega
                      simp only [List.map_cons] at hme
                      have h18 : Ls0.length + 1 ≤ 18 := by simpa using el18
                      exact ⟨(n, L1 ++ L2), ⟨⟨by simp only; omega, by simp only; omega⟩, by simp, rfl, by simp only; rw [hln, wrap64 (by omega) (by omega)]; omega⟩, hme⟩
    · rintro _ _ ⟨⟩
  · rintro _ _ ⟨⟩
end Go.Mac
namespace Go.Mac
open Go Go.Conc Go.Proofs
set_option maxRecDepth 4000
def inPages (b : Board) (p : Int) : Bool := decide (0 ≤ p) && decide (p < b.pages.length)
def DoubleR (b : Board) (p q : Int) : Int × Int :=
  if boardErr b ≠ 0 then (0, boardErr b) else if inPages b p = false ∨ inPages b q = false then (0, 3) else (doubleB b (mapB b.glyphs) p.toNat q.toNat, 0)
def pairA (x : Int × Int) : AV := .tup [.int .i64 x.1, .int .i64 x.2]
theorem Double_ok (b : Board) (p q : Int) (h : List Blk) (hro : h[0]? = some (.role true)) : QuietAt 38 [.agg (brdA b), .int .i64 p, .int .i64 q] h (pairA (DoubleR b p q)) := by
  unfold QuietAt
  refine CallsA.of_wpe [] { cut := [22] } 29 mixed Try.func38 (by kernel_rfl) rfl (by kernel_rfl) fun j hB hA => ?_; simp only [junk_succ, junk_zero, List.cons_append, List.nil_append, List.length_cons, List.length_nil, Nat.reduceAdd]
  simp (implicitDefEqProofs := false) (dsimp := false) only [go_sem, brdA]
  refine open_use (fun e0 => ?_) (fun e1 e2 x y z t f1 f2 f3 f4 => ?_)
  · simp (implicitDefEqProofs := false) (dsimp := false) only [go_sem, bdA]
    (first | refine CallsA.use (hasPage_ok b _ p) ?_ | refine QuietCalls.use (hasPage_ok b _ p) ?_)
    simp (implicitDefEqProofs := false) (dsimp := false) only [go_sem, e0]
    refine ⟨fun c1 => ?_, fun c1 => ?_⟩
    · have c2 : inPages b p = false := by simpa only [inPages, Bool.not_eq_true'] using c1
      rw [show DoubleR b p q = (0, 3) by rw [DoubleR, if_neg (by simp [e0]), if_pos (.inl c2)]]
      exact quiet_fine hB rfl
    · have c2 : inPages b p = true := by simpa only [inPages, Bool.not_eq_false'] using c1
      (first | refine CallsA.use (hasPage_ok b _ q) ?_ | refine QuietCalls.use (hasPage_ok b _ q) ?_)
      simp (implicitDefEqProofs := false) (dsimp := false) only [go_sem, e0]
      refine ⟨fun d1 => ?_, fun d1 => ?_⟩
      · have d2 : inPages b q = false := by simpa only [inPages, Bool.not_eq_true'] using d1
        rw [show DoubleR b p q = (0, 3) by rw [DoubleR, if_neg (by simp [e0]), if_pos (.inr d2)]]
        exact quiet_fine hB rfl
      · have d2 : inPages b q = true := by simpa only [inPages, Bool.not_eq_false'] using d1
        have hR : DoubleR b p q = ((doubleB b (mapB b.glyphs) p.toNat q.toNat : Int), 0) := by rw [DoubleR, if_neg (by simp [e0]), if_neg (by simp [c2, d2])]
        rw [hR]
        simp only [inPages, Bool.and_eq_true, decide_eq_true_eq] at c2 d2
        obtain ⟨p, rfl⟩ : ∃ n : Nat, p = n := ⟨p.toNat, by omega⟩
        obtain ⟨q, rfl⟩ : ∃ n : Nat, q = n := ⟨q.toNat, by omega⟩
        refine QuietAt.use (double_ok b _ (okBoard.of e0) p q (by omega) (by omega) _ (by rw [List.getElem?_append_left (List.getElem?_eq_some_iff.1 hro).1]; exact hro)) ?_
        simp (implicitDefEqProofs := false) (dsimp := false) only [go_sem]
        exact quiet_fine hB rfl
  · simp only [leafA] at f1 f2 f3 f4
    simp (implicitDefEqProofs := false) (dsimp := false) only [go_sem, f1, f2, f3, f4, e2]
    rw [show DoubleR b p q = (0, boardErr b) by rw [DoubleR, if_pos e1]]
    exact quiet_fine hB rfl
end Go.Mac
namespace Go.Mac
open Go Go.Conc Go.Proofs
set_option maxRecDepth 4000
def updI : List (Int × Int) → Int → Int → List (Int × Int)
  | [], v, x => [(v, x)]
  | p :: m, v, x => if v == p.1 then (v, x) :: m else p :: updI m v x
theorem inkB_cons (p : Int × Int) (m : List (Int × Int)) (w : Int) : inkB (p :: m) w = if w == p.1 then p.2 else inkB m w := by
  unfold inkB
  rw [List.find?_cons]
  cases w == p.1 <;> rfl
theorem inkB_upd {v x w : Int} : ∀ {m : List (Int × Int)}, inkB (updI m v x) w = if w = v then x else inkB m w
  | [] => by
    rw [updI, inkB_cons]
    simp only [beq_iff_eq]
  | p :: m => by
    rw [updI]
    by_cases h : v = p.1
    · subst h
      simp only [beq_self_eq_true, if_true]
      rw [inkB_cons, inkB_cons]
      simp only [beq_iff_eq]
      split <;> simp_all
    · simp only [beq_iff_eq, h, if_false]
      rw [inkB_cons, inkB_cons, inkB_upd]
      simp only [beq_iff_eq]
      by_cases hw : w = p.1
      · subst hw
        have h' : ¬ p.1 = v := fun e => h e.symm
        simp [h']
      · simp [hw]
theorem updI_some {v x : Int} : ∀ {m : List (Int × Int)} {j : Nat}, m.findIdx? (fun p => v == p.1) = some j → updI m v x = m.set j (v, x) ∧ (m.map fun p => (AV.int .i64 p.1))[j]? = some (.int .i64 v) ∧ ((m.set j (v, x)).map fun p => (AV.int .i64 p.1)) = m.map fun p => .int .i64 p.1
  | [], j, h => by cases h
  | p :: m, j, h => by
    rw [List.findIdx?_cons] at h
    by_cases hv : v = p.1
    · subst hv
      simp only [beq_self_eq_true, if_true, Option.some.injEq] at h
      subst h
      simp [updI]
    · simp only [beq_iff_eq, hv, if_false, Option.map_eq_some_iff] at h
      obtain ⟨i, hi, rfl⟩ := h
      obtain ⟨h1, h2, h3⟩ := updI_some (x := x) hi
      simp only [updI, beq_iff_eq, hv, if_false, h1]
      refine ⟨rfl, by simpa using h2, ?_⟩
      simp only [List.set_cons_succ, List.map_cons, h3]
theorem updI_none {v x : Int} : ∀ {m : List (Int × Int)}, m.findIdx? (fun p => v == p.1) = none → updI m v x = m ++ [(v, x)]
  | [], _ => rfl
  | p :: m, h => by
    rw [List.findIdx?_cons] at h
    by_cases hv : v = p.1
    · subst hv; simp at h
    · simp only [beq_iff_eq, hv, if_false, Option.map_eq_none_iff] at h
      simp only [updI, beq_iff_eq, hv, if_false, updI_none h, List.cons_append]
def kI (m : List (Int × Int)) : List AV := m.map fun p => .int .i64 p.1
def vI (m : List (Int × Int)) : List AV := m.map fun p => .int .i64 p.2
theorem fits3 : zeroFits Try.prog 3 = true := by kernel_rfl
theorem lookI {m : List (Int × Int)} {c : Int} {h : List Blk} {n : Nat} (hn : h[n]? = some (.map (kI m) (vI m))) : lookupE Try.prog 129 (.map ⟨n, 0⟩) (.int .i64 c) false h = some (True, .int .i64 (inkB m c), h) := by
  simp only [lookupE, ty129, ty102, ty3, mapOf, hn, kI, vI, findA_int (g := fun p : Int × Int => p.1) ty102 rfl, fits3, eqA_int (n := 5) ty102 rfl, beq_self_eq_true, zeroA, aggD, and_self, Bool.false_eq_true, if_false, List.getD_cons_zero, gotA_ink, if_true]
theorem updMapI {m : List (Int × Int)} {c v : Int} {h : List Blk} {n : Nat} (hn : h[n]? = some (.map (kI m) (vI m))) :
    mapUpdateE Try.prog 129 (.map ⟨n, 0⟩) (.int .i64 c) (.int .i64 v) h = some (True, .tup [], h.set n (.map (kI (updI m c v)) (vI (updI m c v)))) := by
  simp only [mapUpdateE, ty129, ty102, hn, eqA_int (n := 5) ty102 rfl, beq_self_eq_true, and_self]
  have hf : findA Try.prog 102 (.int .i64 c) (kI m) 0 = some ((m.findIdx? fun p => c == p.1).map (· + 0)) := findA_int (g := fun p : Int × Int => p.1) ty102 rfl
  cases hx : m.findIdx? fun p => c == p.1 with
  | none =>
    rw [hf, hx, updI_none hx]
    simp [kI, vI]
  | some j =>
    obtain ⟨h1, h2, h3⟩ := updI_some (x := v) hx
    rw [hf, hx, h1]
    simp only [Option.map_some, Nat.add_zero, kI, vI]
    rw [h3]
    simp [h2, List.map_set]
def mostTo (l : List Int) (k : Nat) : Nat := (List.range k).foldl (fun a i => max a ((l.take (i + 1)).count (l.getD i 0))) 0
theorem mostTo_succ (l : List Int) (k : Nat) : mostTo l (k + 1) = max (mostTo l k) ((l.take (k + 1)).count (l.getD k 0)) := by simp [mostTo, List.range_succ]
theorem mostTo_le (l : List Int) : ∀ k, mostTo l k ≤ k
  | 0 => by simp [mostTo]
  | k + 1 => by
    rw [mostTo_succ]
    have h1 := mostTo_le l k
    have h2 : (l.take (k + 1)).count (l.getD k 0) ≤ (l.take (k + 1)).length := List.count_le_length
    have h3 : (l.take (k + 1)).length ≤ k + 1 := by simp; omega
    omega
def atC (fs : List (List Int)) (i : Nat) : List Int := fs.map fun f => f.getD i 0
theorem next1_ok (fs : List (List Int)) (hf : ∀ f ∈ fs, f.length = 12) (hl : fs.length ≤ 1000) (r c : Nat) (hr : r < 3) (hc : c < 4) : PureA Try.prog 83 [.agg [.int .i64 r, .int .i64 c], .pptr [sliceOf cF fs]] (.int .i64 (mostTo (atC fs (4 * r + c)) fs.length)) := by
  refine PureA.of_wpp {} 32 mixed Try.func83 (by kernel_rfl) rfl (by kernel_rfl) (rfl) fun h j hB => ?_
  simp only [junk_succ, junk_zero, List.cons_append, List.nil_append, List.length_cons, List.length_nil, Nat.reduceAdd]
  simp (implicitDefEqProofs := false) (dsimp := false) only [go_sem]
  refine WP.loopI (fun (k : Nat) s => (k ≤ fs.length) ∧ s.sl.length = 34 ∧ s.df = [] ∧ s.gh = {} ∧ (∃ m e, s.hp = h ++ .cells 0 [.int .i64 r, .int .i64 c] :: .map (kI m) (vI m) :: e ∧ ∀ v, inkB m v = (((atC fs (4 * r + c)).take k).count v : Nat)) ∧ evA s.sl (.tmp 2) = .ptr ⟨h.length, 0⟩ 0 ∧ evA s.sl (.tmp 4) = .map ⟨h.length + 1, 0⟩ ∧ evA s.sl (.tmp 5) = .int .i64 (mostTo (atC fs (4 * r + c)) k) ∧ evA s.sl (.tmp 10) = sliceOf cF fs ∧ evA s.sl (.tmp 11) = .int .i64 fs.length ∧ evA s.sl (.tmp 12) = .int .i64 k) (fun (k : Nat) => fs.length - k) (0) ?_ ?_
  · simp (implicitDefEqProofs := false) (dsimp := false) only [go_sem, Nat.zero_le]
    exact ⟨⟨[], [], ⟨rfl, rfl⟩, fun v => rfl⟩, rfl⟩
  · rintro k ⟨sl, df, hp, gh⟩ ⟨ab, al, rfl, rfl, ah, a2, a4, a5, a10, a11, a12⟩
    simp only at ab al ah a2 a4 a5 a10 a11 a12
    obtain ⟨j, rfl⟩ := slots_lit al; clear al; simp only [junk_succ, junk_zero, evA_tmp, nth_16, nth_four, nth_one, nth_zero, Nat.zero_add, Nat.reduceAdd] at  a2 a4 a5 a10 a11 a12 ⊢
    refine wp_ok (so := {}) mixed _ (by kernel_rfl) ?_
    obtain ⟨m, e, rfl, hm⟩ := ah
    by_cases hk : k < fs.length
    · have hy := hf _ (List.getElem_mem hk)
      have hcl : ∀ y ∈ fs, (cF y).length = 12 := fun y hy => by rw [cF, nums12_len, hf y hy]
      have hd := drop_rowsM hcl hk
      have hrl : k * 12 ≤ (fs.flatMap cF).length := by rw [length_rowsM hcl]; omega
      have hTk : ∀ R, (nums12 fs[k] ++ R).take 12 = nums12 fs[k] := fun R => List.take_left' (by rw [nums12_len, hy])
      have hat := nums12_at hy (show r * 4 + c < 12 by omega)
      simp (implicitDefEqProofs := false) (dsimp := false) only [go_sem, a2, a4, a5, a10, a11, a12, nat_lt hk, decide_true, hd, hrl, cF, hTk, nums12_len, hy, nums_leaf, setM12 hy, Nat.le_refl, hat, lookI (m := m), updMapI (m := m), lookI (m := updI m (fs[k].getD (r * 4 + c) 0) (IntKind.i64.wrap (inkB m (fs[k].getD (r * 4 + c) 0) + 1))), inkB_upd]
      have hat2 : (atC fs (4 * r + c)).getD k 0 = fs[k].getD (r * 4 + c) 0 := by
        rw [show r * 4 + c = 4 * r + c by omega]
        simp [atC, List.getD, hk]
      have hak : k < (atC fs (4 * r + c)).length := by simpa [atC] using hk
      have htk : (atC fs (4 * r + c)).take (k + 1) = (atC fs (4 * r + c)).take k ++ [fs[k].getD (r * 4 + c) 0] := by
        rw [List.take_add_one, List.getElem?_eq_getElem hak]
        rw [List.getD_eq_getElem?_getD, List.getElem?_eq_getElem hak] at hat2
        simp only [Option.getD_some] at hat2
        rw [hat2]; rfl
      have hcnt : ∀ v, ((atC fs (4 * r + c)).take (k + 1)).count v = ((atC fs (4 * r + c)).take k).count v + if fs[k].getD (r * 4 + c) 0 = v then 1 else 0 := fun v => by
        rw [htk, List.count_append, List.count_singleton]
        simp
      have hle : ∀ v, ((atC fs (4 * r + c)).take k).count v ≤ k := fun v => by
        have h1 : ((atC fs (4 * r + c)).take k).count v ≤ ((atC fs (4 * r + c)).take k).length := List.count_le_length
        have h2 : ((atC fs (4 * r + c)).take k).length ≤ k := by simp; omega
        omega
      have hml := mostTo_le (atC fs (4 * r + c)) k
      generalize fs[k].getD (r * 4 + c) 0 = v0 at *
      have hw : IntKind.i64.wrap (inkB m v0 + 1) = (((atC fs (4 * r + c)).take (k + 1)).count v0 : Nat) := by
        have := hle v0
        rw [hm, wrap_succ (by omega), hcnt]; simp
      rw [hw]
      refine ⟨by omega, by omega, by omega, k + 1, ⟨by omega, ⟨_, _, ⟨rfl, rfl⟩, fun v => ?_⟩, ?_, wrap_succ (by omega)⟩, by omega⟩
      · rw [inkB_upd]
        split
        · rename_i e; subst e; rfl
        · rename_i e; rw [hm, hcnt, if_neg (fun x => e x.symm)]; rfl
      · rw [mostTo_succ, hat2]
        simp only [List.foldl_cons, List.foldl_nil]
        split <;> omega
    · have hs : ((k : Int) < (fs.length : Int)) = False := eq_false (by omega)
      have ek : k = fs.length := by omega
      subst ek
      simp (implicitDefEqProofs := false) (dsimp := false) only [go_sem, a2, a4, a5, a10, a11, a12, hs, decide_false]
def countF (fs : List (List Int)) : AV := .fn (.func 83) [] [.pptr [sliceOf cF fs]]
def few2 (fs : List (List Int)) : Option (Nat × Nat × Nat) → List AV
  | some (r, c, n) => [.int .i64 r, .int .i64 c, .int .i64 n, .bool true, countF fs]
  | none => [.int .i64 0, .int .i64 0, .int .i64 0, .bool false, countF fs]
def take2 (o : Option (Nat × Nat × Nat)) (r c n : Nat) : Option (Nat × Nat × Nat) :=
  match o with
  | none => some (r, c, n)
  | some (r', c', n') => if n < n' then some (r, c, n) else some (r', c', n')
theorem countF_below (fs : List (List Int)) (n : Nat) : below n (countF fs) = true := by
  have := belowL_flat (n := n) (f := cF) (fun _ => nums_below _) fs
  simp [countF, below, belowL, sliceOf, this]
theorem few2_below (fs : List (List Int)) (o : Option (Nat × Nat × Nat)) (n : Nat) : belowBlk n (.cells 0 (few2 fs o)) = true := by
  have := countF_below fs n
  cases o with
  | none => simp [belowBlk, few2, below, belowL, this]
  | some e => obtain ⟨r, c, k⟩ := e; simp [belowBlk, few2, below, belowL, this]
theorem call_next1 : callable Try.prog 83 = True := eq_true ⟨_, Try.func83, rfl, rfl⟩
theorem take2_ok (n : Nat) (fs : List (List Int)) (hf : ∀ f ∈ fs, f.length = 12) (hl : fs.length ≤ 1000) (r c : Nat) (hr : r < 3) (hc : c < 4) (o : Option (Nat × Nat × Nat)) (h : List Blk) (hn : h[n]? = some (.cells 0 (few2 fs o))) : CallsA Try.prog 84 [.ptr ⟨n, 0⟩ 0, .agg [.int .i64 r, .int .i64 c]] h fun e h' => e = .ret (.tup []) ∧ h' = h.set n (.cells 0 (few2 fs (take2 o r c (mostTo (atC fs (4 * r + c)) fs.length)))) := by
  have hlt : n < h.length := (List.getElem?_eq_some_iff.1 hn).1
  refine CallsA.of_wpe [] { cut := [16], tail := [(1, 5)] } 33 mixed Try.func84 (by kernel_rfl) rfl (by kernel_rfl) fun j hB hA => ?_; simp only [junk_succ, junk_zero, List.cons_append, List.nil_append, List.length_cons, List.length_nil, Nat.reduceAdd]
  have hn2 : ∀ k, (h ++ k)[n]? = some (.cells 0 (few2 fs o)) := fun k => by rw [List.getElem?_append_left hlt]; exact hn
  have hg2 : ∀ b k, (h.set n b ++ k)[n]? = some b := fun b k => by rw [List.getElem?_append_left (by simpa using hlt), List.getElem?_set_self hlt]
  have hs2 : ∀ k b, (h ++ k).set n b = h.set n b ++ k := fun k b => by rw [List.set_append_left _ _ hlt]
  have hs3 : ∀ k a b, (h.set n a ++ k).set n b = h.set n b ++ k := fun k a b => by rw [List.set_append_left _ _ (by simpa using hlt), List.set_set]
  have hone := next1_ok fs hf hl r c hr hc
  generalize mostTo (atC fs (4 * r + c)) fs.length = mm at hone ⊢
  cases o with
  | none =>
    simp only [few2] at hn2
    simp (implicitDefEqProofs := false) (dsimp := false) only [go_sem, hn2, countF, call_next1]
    (first | refine CallsA.use (hone) ?_ | refine QuietCalls.use (hone) ?_)
    simp (implicitDefEqProofs := false) (dsimp := false) only [go_sem, hn2, hs2, hg2, hs3, countF]
    exact set_fine (b := .cells 0 (few2 fs (some (r, c, mm)))) (v := .tup []) hB (few2_below _ _ _) rfl
  | some e =>
    obtain ⟨r', c', n'⟩ := e
    simp only [few2] at hn2
    simp (implicitDefEqProofs := false) (dsimp := false) only [go_sem, hn2, countF, call_next1]
    (first | refine CallsA.use (hone) ?_ | refine QuietCalls.use (hone) ?_)
    simp (implicitDefEqProofs := false) (dsimp := false) only [go_sem, hn2, hs2, hg2, hs3, countF]
    refine ⟨fun hc => ?_, fun hc => ?_⟩
    · have e : take2 (some (r', c', n')) r c mm = some (r, c, mm) := if_pos (by omega)
      rw [e]
      exact set_fine (b := .cells 0 (few2 fs (some (r, c, mm)))) (v := .tup []) hB (few2_below _ _ _) rfl
    · have e : take2 (some (r', c', n')) r c mm = some (r', c', n') := if_neg (by omega)
      rw [e, set_same hn]
      exact quiet_fine hB rfl
def nextTo (fs : List (List Int)) (w k : Nat) : Option (Nat × Nat × Nat) := (List.range k).foldl (fun o i => if i % 4 < w then take2 o (i / 4) (i % 4) (mostTo (atC fs i) fs.length) else o) none
theorem nextTo_succ (fs : List (List Int)) (w k : Nat) : nextTo fs w (k + 1) = if k % 4 < w then take2 (nextTo fs w k) (k / 4) (k % 4) (mostTo (atC fs k) fs.length) else nextTo fs w k := by simp [nextTo, List.range_succ]
theorem nextTo_skip {fs : List (List Int)} {w n : Nat} : ∀ {m : Nat}, (∀ k, n ≤ k → k < n + m → ¬ k % 4 < w) → nextTo fs w (n + m) = nextTo fs w n
  | 0, _ => rfl
  | m + 1, h => by
    rw [← Nat.add_assoc, nextTo_succ, if_neg (h (n + m) (by omega) (by omega))]
    exact nextTo_skip fun k h1 h2 => h k h1 (by omega)
def NextR (b : Board) : Int × Int × Int × Int :=
  if boardErr b ≠ 0 then (0, 0, 0, boardErr b) else if (laysB b).length = 0 then (0, 0, 0, 9) else
    match nextTo ((laysB b).map Prod.snd) (b.cells.headD []).length (4 * b.cells.length) with
    | some (r, c, n) => if n = (laysB b).length then (0, 0, 0, 11) else (r, c, n, 0)
    | none => (0, 0, 0, 0)
def quadA (x : Int × Int × Int × Int) : AV := .tup [.int .i64 x.1, .int .i64 x.2.1, .int .i64 x.2.2.1, .int .i64 x.2.2.2]
theorem face_slice (l : List (Lay × List Int)) : sliceOf cFaceF l = sliceOf cF (l.map Prod.snd) := by
  simp only [sliceOf, List.length_map, List.flatMap_map]
  rfl
theorem Next_ok (b : Board) : PureA Try.prog 39 [.agg (brdA b)] (quadA (NextR b)) := by
  refine PureA.of_wpp { hand := [7] } 65 mixed Try.func39 (by kernel_rfl) rfl (by kernel_rfl) (rfl) fun h j hB => ?_
  simp only [junk_succ, junk_zero, List.cons_append, List.nil_append, List.length_cons, List.length_nil, Nat.reduceAdd]
  simp (implicitDefEqProofs := false) (dsimp := false) only [go_sem, brdA]
  refine open_use (fun e0 => ?_) (fun e1 e2 x y z t f1 f2 f3 f4 => ?_)
  · simp (implicitDefEqProofs := false) (dsimp := false) only [go_sem, bdA]
    have ok := okBoard.of e0
    have hok := rights_ok b (mapB b.glyphs) ok
    rw [face_slice, show rightsB b (mapB b.glyphs) = laysB b from rfl] at hok
    have hfl : ((laysB b).map Prod.snd).length = (laysB b).length := List.length_map _
    have hff : ∀ f ∈ (laysB b).map Prod.snd, f.length = 12 := by
      intro f hf
      obtain ⟨x, hx, rfl⟩ := List.mem_map.1 hf
      obtain ⟨i, hi, rfl⟩ := List.mem_iff_getElem.1 (List.mem_filter.1 hx).1
      exact allWays_face i hi
    have hll : (laysB b).length ≤ 72 := by
      have h1 : (laysB b).length ≤ (allWays b (mapB b.glyphs)).length := List.length_filter_le _ _
      rw [allWays_len] at h1
      have := ok.most
      omega
    (first | refine CallsA.use (hok) ?_ | refine QuietCalls.use (hok) ?_)
    simp (implicitDefEqProofs := false) (dsimp := false) only [go_sem, e0, hfl, len_eq0]
    refine ⟨fun c0 => ?_, fun c0 => ?_⟩
    · rw [NextR, if_neg (by simp [e0]), if_pos c0]
      rfl
    have c0' : (laysB b).length ≠ 0 := by simpa using c0
    have hNR : NextR b = match nextTo ((laysB b).map Prod.snd) (b.cells.headD []).length (4 * b.cells.length) with
        | some (r, c, n) => if n = (laysB b).length then (0, 0, 0, 11) else (r, c, n, 0)
        | none => (0, 0, 0, 0) := by rw [NextR, if_neg (by simp [e0]), if_neg c0']
    rw [← hfl] at c0' hNR
    have hll' : ((laysB b).map Prod.snd).length ≤ 1000 := by omega
    generalize hfs : (laysB b).map Prod.snd = fs at *
    refine wp_shut [8] (so := { }) mixed _ (by kernel_rfl) ?_
    simp (implicitDefEqProofs := false) (dsimp := false) only [go_sem, call_next1]
    have q1 := ok.cells.most
    have q2 := ok.cells.wmost
    refine WP.loopI (fun (i : Nat) s => (i ≤ b.cells.length) ∧ s.sl.length = 66 ∧ s.df = [] ∧ s.gh = {} ∧ (s.hp = h ++ [.cells 0 (brdA b), .cells 0 (bdA b (mapB b.glyphs)), .dead, .cells 0 (few2 fs (nextTo fs (b.cells.headD []).length (4 * i)))]) ∧ evA s.sl (.tmp 6) = .ptr ⟨h.length + 1, 0⟩ 0 ∧ evA s.sl (.tmp 8) = .pptr [.psl (fs.flatMap cF) (laysB b).length] ∧ evA s.sl (.tmp 9) = .ptr ⟨h.length + 3, 0⟩ 0 ∧ evA s.sl (.tmp 33) = .int .i64 b.cells.length ∧ evA s.sl (.tmp 34) = .int .i64 i) (fun (i : Nat) => b.cells.length - i) (0) ?_ ?_
    · simp (implicitDefEqProofs := false) (dsimp := false) only [go_sem, brdA, bdA, Nat.zero_le]
      rw [← hfl]
      rfl
    · rintro i ⟨sl, df, hp, gh⟩ ⟨ab, al, rfl, rfl, rfl, a6, a8, a9, a33, a34⟩
      simp only at ab al a6 a8 a9 a33 a34
      obtain ⟨j, rfl⟩ := slots_lit al; clear al; simp only [junk_succ, junk_zero, evA_tmp, nth_16, nth_four, nth_one, nth_zero, Nat.zero_add, Nat.reduceAdd] at  a6 a8 a9 a33 a34 ⊢
      refine wp_ok (so := { hand := [7] }) mixed _ (by kernel_rfl) ?_
      by_cases hi : i < b.cells.length
      · have hw := ok.cells.row hi
        simp (implicitDefEqProofs := false) (dsimp := false) only [go_sem, a6, a8, a9, a33, a34, bdA, nat_lt hi, decide_true, row1 cTraces_len hi, row1_le cTraces_len hi, hi, cTraces]
        refine WP.loopI (fun (c : Nat) s => (c ≤ (b.cells.headD []).length) ∧ s.sl.length = 66 ∧ s.df = [] ∧ s.gh = {} ∧ (s.hp = h ++ [.cells 0 (brdA b), .cells 0 (bdA b (mapB b.glyphs)), .dead, .cells 0 (few2 fs (nextTo fs (b.cells.headD []).length (4 * i + c)))]) ∧ evA s.sl (.tmp 6) = .ptr ⟨h.length + 1, 0⟩ 0 ∧ evA s.sl (.tmp 8) = .pptr [.psl (fs.flatMap cF) (laysB b).length] ∧ evA s.sl (.tmp 9) = .ptr ⟨h.length + 3, 0⟩ 0 ∧ evA s.sl (.tmp 10) = .int .i64 i ∧ evA s.sl (.tmp 33) = .int .i64 b.cells.length ∧ evA s.sl (.tmp 34) = .int .i64 i ∧ evA s.sl (.tmp 43) = .int .i64 (b.cells.headD []).length ∧ evA s.sl (.tmp 44) = .int .i64 c) (fun (c : Nat) => (b.cells.headD []).length - c) (0) ?_ ?_
        · simp (implicitDefEqProofs := false) (dsimp := false) only [go_sem, brdA, bdA, Nat.zero_le, hw]
        · rintro c ⟨sl, df, hp, gh⟩ ⟨eb, el, rfl, rfl, rfl, e6, e8, e9, e10, e33, e34, e43, e44⟩
          simp only at eb el e6 e8 e9 e10 e33 e34 e43 e44
          obtain ⟨j, rfl⟩ := slots_lit el; clear el; simp only [junk_succ, junk_zero, evA_tmp, nth_16, nth_four, nth_one, nth_zero, Nat.zero_add, Nat.reduceAdd] at  e6 e8 e9 e10 e33 e34 e43 e44 ⊢
          refine wp_ok (so := { hand := [7] }) mixed _ (by kernel_rfl) ?_
          by_cases hc : c < (b.cells.headD []).length
          · simp (implicitDefEqProofs := false) (dsimp := false) only [go_sem, e6, e8, e9, e10, e33, e34, e43, e44, bdA, nat_lt hc, decide_true]
            refine (take2_ok _ fs hff hll' i c (by omega) (by omega) (nextTo fs (b.cells.headD []).length (4 * i + c)) _ (by rw [hget]; rfl)).mono ?_
            rintro _ _ ⟨rfl, rfl⟩
            simp (implicitDefEqProofs := false) (dsimp := false) only [go_sem, bdA]
            refine ⟨c + 1, ⟨by omega, ?_, wrap_succ (by omega)⟩, by omega⟩
            rw [← Nat.add_assoc, nextTo_succ, if_pos (by omega), show (4 * i + c) / 4 = i by omega, show (4 * i + c) % 4 = c by omega]
          · have hs : ((c : Int) < ((b.cells.headD []).length : Int)) = False := eq_false (by omega)
            simp (implicitDefEqProofs := false) (dsimp := false) only [go_sem, e6, e8, e9, e10, e33, e34, e43, e44, bdA, hs, decide_false]
            refine ⟨i + 1, ⟨by omega, ?_, wrap_succ (by omega)⟩, by omega⟩
            rw [show 4 * (i + 1) = 4 * i + c + (4 - c) by omega, nextTo_skip (n := 4 * i + c) (m := 4 - c) (by intro k _ _; omega)]
      · have hs : ((i : Int) < (b.cells.length : Int)) = False := eq_false (by omega)
        have ei : i = b.cells.length := by omega
        subst ei
        generalize nextTo fs (b.cells.headD []).length (4 * b.cells.length) = o at *
        cases o with
        | none =>
          simp (implicitDefEqProofs := false) (dsimp := false) only [go_sem, a6, a8, a9, a33, a34, bdA, hs, decide_false, few2]
          rw [hNR]
          exact ⟨fun hc => by omega, fun _ => rfl⟩
        | some x =>
          obtain ⟨r, c, n⟩ := x
          simp (implicitDefEqProofs := false) (dsimp := false) only [go_sem, a6, a8, a9, a33, a34, bdA, hs, decide_false, few2]
          rw [hNR]
          refine ⟨fun hc => ?_, fun hc => ?_⟩
          · simp only
            rw [if_pos (by omega)]; rfl
          · simp only
            rw [if_neg (by rw [beq_eq_false_iff_ne] at hc; omega)]; rfl
  · simp only [leafA] at f1 f2 f3 f4
    simp (implicitDefEqProofs := false) (dsimp := false) only [go_sem, f1, f2, f3, f4, e2]
    rw [NextR, if_pos e1]
    rfl
end Go.Mac
namespace Go.Mac
open Go Go.Conc Go.Proofs
set_option maxRecDepth 4000
def noGoto (Q : AExit → AS → Prop) : AExit → AS → Prop
  | .goto _, _ => False
  | e, s => Q e s
theorem WP.scope {P : Program} {fn : FK} {Q : AExit → AS → Prop} {s : AS} {a : Code} (h : WP P fn a (noGoto Q) s) : WP P fn (.scope a) Q s := by
  refine WPI.idle [.code a, .inScope a] (fun _ _ _ _ _ _ _ _ _ => by simp [G, stepG, stepG.exec, at']) ?_
  intro main Stop b k cs base c w tmps ds h1 h2 h3 h4
  refine h main Stop b (.inScope a :: k) cs base c w tmps ds h1 h2 h3 fun e s' c' w' tmps' ds' q r y => ?_
  cases e with
  | normal => exact Go'.idle rfl rfl (fun w1 => by simp [G, stepG, stepG.exec, at']) (h4 .normal s' c' w' tmps' ds' q r y)
  | exit id' =>
    have x := h4 (.exit id') s' c' w' tmps' ds' q r y
    exact fun k' hk => x k' (by rw [hk]; simp [exitTo])
  | goto l => exact q.elim
  | ret => exact h4 .ret s' c' w' tmps' ds' q r y
  | panic v => exact h4 (.panic v) s' c' w' tmps' ds' q r y
section
variable {P : Program} {so : Opt} {k : FK} {K : AExit → AS → Prop} {s : AS}
theorem wp_scope {a : Code} : wp P so k (.scope a) K s = WPI P k [.code (.scope a)] K (tag s) := by simp only [wp]; rfl
theorem wp_label {l : Nat} : wp P so k (.label l) K s = K .normal s := by simp only [wp]
theorem noGoto_normal : noGoto K .normal s = K .normal s := rfl
theorem noGoto_exit {id : Nat} : noGoto K (.exit id) s = K (.exit id) s := rfl
theorem noGoto_ret : noGoto K .ret s = K .ret s := rfl
theorem noGoto_panic {v : AV} : noGoto K (.panic v) s = K (.panic v) s := rfl
end
attribute [go_sem ↓] wp_scope wp_label noGoto_normal noGoto_exit noGoto_ret noGoto_panic
theorem eqAll_some : ∀ l : List Bool, eqAll (l.map some) = some (l.all id)
  | [] => rfl
  | true :: l => by simp only [List.map_cons, eqAll, eqAll_some l, List.all_cons, id, Bool.true_and]
  | false :: l => rfl
theorem under_ty {P : Program} {t : TypeId} {f : TF} (h : tyT P t = some f) : P.underlying t = some f.d := (tyT_some h).choose_spec.2.1
theorem eqRow {d : Nat} {a0 a1 a2 a3 b0 b1 b2 b3 : Int} : eqA Try.prog (d + 2) 103 (.agg [.int .i64 a0, .int .i64 a1, .int .i64 a2, .int .i64 a3]) (.agg [.int .i64 b0, .int .i64 b1, .int .i64 b2, .int .i64 b3]) = some (a0 == b0 && (a1 == b1 && (a2 == b2 && a3 == b3))) := by
  have hu := under_ty ty103
  have e : ∀ a b : Int, eqA Try.prog (d + 1) 102 (.int .i64 a) (.int .i64 b) = some (a == b) := fun a b => eqA_int ty102 rfl
  have hl : List.range 4 = [0, 1, 2, 3] := rfl
  have hq := eqAll_some [a0 == b0, a1 == b1, a2 == b2, a3 == b3]
  simp only [List.map_cons, List.map_nil] at hq
  unfold eqA
  simp only [hu, ty103, ty102, hl, List.map_cons, List.map_nil, partA, aggD, Bool.false_eq_true, if_false, Nat.zero_mul, Nat.one_mul, Nat.mul_one, List.getD_cons_zero, List.getD_cons_succ, e]
  rw [hq]
  simp
theorem lit12 {f : List Int} (h : f.length = 12) : ∃ a0 a1 a2 a3 a4 a5 a6 a7 a8 a9 a10 a11, f = [a0, a1, a2, a3, a4, a5, a6, a7, a8, a9, a10, a11] := by
  match f, h with
  | [a0, a1, a2, a3, a4, a5, a6, a7, a8, a9, a10, a11], _ => exact ⟨_, _, _, _, _, _, _, _, _, _, _, _, rfl⟩
theorem eqFace {d : Nat} {f g : List Int} (hf : f.length = 12) (hg : g.length = 12) : eqA Try.prog (d + 3) 105 (.agg (nums12 f)) (.agg (nums12 g)) = some (f == g) := by
  obtain ⟨a0, a1, a2, a3, a4, a5, a6, a7, a8, a9, a10, a11, rfl⟩ := lit12 hf
  obtain ⟨b0, b1, b2, b3, b4, b5, b6, b7, b8, b9, b10, b11, rfl⟩ := lit12 hg
  have hu := under_ty ty105
  have hl : List.range 3 = [0, 1, 2] := rfl
  have hq := fun x y z : Bool => eqAll_some [x, y, z]
  simp only [List.map_cons, List.map_nil] at hq
  unfold eqA
  simp only [hu, ty105, nums12, List.map_cons, List.map_nil, hl, ty103, partA, aggD, if_true, Nat.zero_mul, Nat.one_mul, Nat.reduceMul, List.drop_zero, List.drop_succ_cons, List.take_succ_cons, List.take_zero, eqRow]
  rw [hq]
  congr 1
  rw [Bool.eq_iff_iff]
  simp [and_assoc]
theorem findFace {y : List Int} (hy : y.length = 12) : ∀ {l : List (List Int)} {i : Nat}, (∀ f ∈ l, f.length = 12) → findA Try.prog 105 (.agg (nums12 y)) (l.map fun f => .agg (nums12 f)) i = some ((l.findIdx? fun f => y == f).map (· + i))
  | [], i, _ => rfl
  | f :: l, i, h => by
    simp only [List.map_cons, findA, eqFace (d := 3) hy (h f (by simp)), List.findIdx?_cons]
    cases hc : (y == f) with
    | true => simp
    | false =>
      simp only [findFace hy (l := l) fun g hg => h g (by simp [hg]), Bool.false_eq_true, if_false, Option.map_map]
      congr 2
      funext x
      simp only [Function.comp]
      omega
def kF (l : List (List Int)) : List AV := l.map fun f => .agg (nums12 f)
def vF (l : List (List Int)) : List AV := l.map fun _ => .bool true
theorem fits4 : zeroFits Try.prog 4 = true := by kernel_rfl
theorem gotF {y : List Int} : ∀ {l : List (List Int)}, gotA ((l.findIdx? fun f => y == f).map (· + 0)) (vF l) (.bool false) = .bool (l.contains y)
  | [] => rfl
  | f :: l => by
    rw [List.findIdx?_cons, List.contains_cons]
    cases hc : (y == f) with
    | true => rfl
    | false =>
      have := gotF (y := y) (l := l)
      simp only [Bool.false_eq_true, if_false, Bool.false_or]
      rw [← this]
      cases hi : l.findIdx? (fun f => y == f) <;> simp [gotA, vF]
theorem lookF {l : List (List Int)} {y : List Int} {h : List Blk} {n : Nat} (hy : y.length = 12) (hl : ∀ f ∈ l, f.length = 12) (hn : h[n]? = some (.map (kF l) (vF l))) : lookupE Try.prog 134 (.map ⟨n, 0⟩) (.agg (nums12 y)) false h = some (True, .bool (l.contains y), h) := by
  simp only [lookupE, ty134, ty105, ty4, mapOf, hn, kF, findFace hy hl, fits4, eqFace (d := 3) hy hy, beq_self_eq_true, zeroA, aggD, and_self, Bool.false_eq_true, if_false, List.getD_cons_zero, gotF, if_true]
def insF (l : List (List Int)) (y : List Int) : List (List Int) := if l.contains y then l else l ++ [y]
theorem updF {l : List (List Int)} {y : List Int} {h : List Blk} {n : Nat} (hy : y.length = 12) (hl : ∀ f ∈ l, f.length = 12) (hn : h[n]? = some (.map (kF l) (vF l))) :
    mapUpdateE Try.prog 134 (.map ⟨n, 0⟩) (.agg (nums12 y)) (.bool true) h = some (True, .tup [], h.set n (.map (kF (insF l y)) (vF (insF l y)))) := by
  simp only [mapUpdateE, ty134, ty105, hn, eqFace (d := 3) hy hy, beq_self_eq_true, and_self]
  have hf : findA Try.prog 105 (.agg (nums12 y)) (kF l) 0 = some ((l.findIdx? fun f => y == f).map (· + 0)) := findFace hy hl
  cases hx : l.findIdx? fun f => y == f with
  | none =>
    rw [hf, hx]
    have hc : l.contains y = false := by
      rw [List.findIdx?_eq_none_iff] at hx
      rw [← Bool.not_eq_true, List.contains_iff_mem]
      intro hm
      have := hx y hm
      simp at this
    simp only [Option.map_none, insF, hc, Bool.false_eq_true, if_false, kF, vF, List.map_append, List.map_cons, List.map_nil]
  | some j =>
    rw [hf, hx]
    obtain ⟨h1, h2, _⟩ := List.findIdx?_eq_some_iff_getElem.1 hx
    have hyj : y = l[j] := by simpa using h2
    have hc : l.contains y = true := by rw [List.contains_iff_mem, hyj]; exact List.getElem_mem h1
    have hv : (vF l).set j (.bool true) = vF l := by
      apply List.ext_getElem?
      intro i
      rw [List.getElem?_set]
      by_cases hij : j = i
      · subst hij; simp [vF, h1]
      · simp [hij]
    simp only [Option.map_some, Nat.add_zero, hv, insF, hc, if_true]
    simp [kF, h1, ← hyj]
def marksIn (L : Nat) (k : List Blk) : Nat → List ADef → Prop
  | _, [] => True
  | hi, .mark n :: df => n.gen = 0 ∧ ∃ i, n.id = L + i ∧ i < hi ∧ k[i]? = some .defd ∧ marksIn L k i df
  | _, .call .. :: _ => False
theorem marksIn_more {L : Nat} {k x : List Blk} : ∀ {hi hi' : Nat} {df : List ADef}, hi ≤ hi' → hi ≤ k.length → marksIn L k hi df → marksIn L (k ++ x) hi' df
  | _, _, [], _, _, _ => trivial
  | _, _, .mark n :: df, h1, h2, ⟨q1, i, q2, q3, q4, q5⟩ => ⟨q1, i, q2, by omega, by rw [List.getElem?_append_left (by omega)]; exact q4, marksIn_more (Nat.le_refl _) (by omega) q5⟩
  | _, _, .call .. :: _, _, _, q => q.elim
theorem marksIn_at {h k : List Blk} {a b c d : Blk} : ∀ {hi : Nat} {df : List ADef}, marksIn (h.length + 4) k hi df → marksAt (h.length + 4) (h ++ a :: b :: c :: d :: k) (h.length + 4 + hi) df
  | _, [], _ => trivial
  | _, .mark n :: df, ⟨q1, i, q2, q3, q4, q5⟩ => by
    refine ⟨q1, by omega, by omega, ?_, ?_⟩
    · rw [q2, show h.length + 4 + i = h.length + (i + 4) by omega, hget]
      exact q4
    · rw [q2]; exact marksIn_at q5
  | _, .call .. :: _, q => q.elim
theorem marksIn_loop {L : Nat} {k x y : List Blk} {df : List ADef} {n : Nat} (hm : marksIn L k k.length df) (hn : n = L + (k ++ x).length) (hxy : x.length = y.length) : marksIn L (k ++ (y ++ [Blk.defd, Blk.dead])) (k ++ (y ++ [Blk.defd, Blk.dead])).length (.mark ⟨n, 0⟩ :: df) := by
  refine ⟨rfl, (k ++ x).length, hn, by simp [hxy], ?_, marksIn_more (by simp) (Nat.le_refl _) hm⟩
  rw [List.length_append, hxy, List.getElem?_append_right (by omega), Nat.add_sub_cancel_left, hget0]; rfl
def z12 : List Int := [0, 0, 0, 0, 0, 0, 0, 0, 0, 0, 0, 0]
def alikeP (b : Board) (m : List (Int × Int)) (p q : Nat) : Bool := (facesOf b m q).any fun y => y != z12 && (facesOf b m p).contains y
def alikeRow (b : Board) (m : List (Int × Int)) (p n : Nat) : List (Int × Int) := ((List.range' (p + 1) n).filter (alikeP b m p)).map fun (q : Nat) => ((p : Int), (q : Int))
def alikeTo (b : Board) (m : List (Int × Int)) (n : Nat) : List (Int × Int) := (List.range n).flatMap fun p => alikeRow b m p (b.pages.length - (p + 1))
def alikeB (b : Board) (m : List (Int × Int)) : List (Int × Int) := alikeTo b m b.pages.length
theorem alikeTo_succ (b : Board) (m : List (Int × Int)) (n : Nat) : alikeTo b m (n + 1) = alikeTo b m n ++ alikeRow b m n (b.pages.length - (n + 1)) := by simp [alikeTo, List.range_succ]
theorem alikeRow_succ (b : Board) (m : List (Int × Int)) (p n : Nat) : alikeRow b m p (n + 1) = alikeRow b m p n ++ if alikeP b m p (p + 1 + n) = true then [((p : Int), ((p + 1 + n : Nat) : Int))] else [] := by
  unfold alikeRow
  rw [List.range'_concat, List.filter_append, List.map_append]
  congr 1
  rw [Nat.one_mul, List.filter_cons]
  split <;> simp
theorem alikeRow_len (b : Board) (m : List (Int × Int)) (p n : Nat) : (alikeRow b m p n).length ≤ n := by
  unfold alikeRow
  rw [List.length_map]
  have := List.length_filter_le (alikeP b m p) (List.range' (p + 1) n)
  simpa using this
theorem alikeTo_len (b : Board) (m : List (Int × Int)) (n : Nat) : (alikeTo b m n).length ≤ n * b.pages.length := by
  induction n with
  | zero => simp [alikeTo]
  | succ n ih =>
    rw [alikeTo_succ, List.length_append, Nat.succ_mul]
    have := alikeRow_len b m n (b.pages.length - (n + 1))
    omega
def alikeH (b : Board) (l : List (Int × Int)) (L : Nat) (k : List Blk) : List Blk :=
  .cells 0 (brdA b) :: .cells 0 (bdA b (mapB b.glyphs)) :: .cells 0 [.sl ⟨L + 3, l.length⟩ 1 0 l.length] :: .cells l.length (l.flatMap cPair) :: k
theorem all_swap {P : Blk → Bool} {h k x y : List Blk} {a b c d : Blk} (hb : (h ++ a :: b :: c :: d :: (k ++ x)).all P = true) (hy : y.all P = true) : (h ++ a :: b :: c :: d :: (k ++ y)).all P = true := by
  simp only [List.all_append, List.all_cons, Bool.and_eq_true] at *
  exact ⟨hb.1, hb.2.1, hb.2.2.1, hb.2.2.2.1, hb.2.2.2.2.1, hb.2.2.2.2.2.1, hy⟩
theorem all_swap2 {P : Blk → Bool} {h x : List Blk} {a b c d c' d' : Blk} (hb : (h ++ a :: b :: c :: d :: x).all P = true) (hc : P c' = true) (hd : P d' = true) : (h ++ a :: b :: c' :: d' :: x).all P = true := by
  simp only [List.all_append, List.all_cons, Bool.and_eq_true] at *
  exact ⟨hb.1, hb.2.1, hb.2.2.1, hc, hd, hb.2.2.2.2.2⟩
theorem marksIn_snoc {L : Nat} {k e w : List Blk} {x y z : Blk} {df : List ADef} (h : marksIn L (k ++ x :: y :: z :: e) (k ++ x :: y :: z :: e).length df) : marksIn L (k ++ x :: y :: z :: (e ++ w)) (k ++ x :: y :: z :: (e ++ w)).length df := by
  have e1 : k ++ x :: y :: z :: (e ++ w) = (k ++ x :: y :: z :: e) ++ w := by simp
  rw [e1]
  exact marksIn_more (by simp) (Nat.le_refl _) h
theorem kF_below (l : List (List Int)) {n : Nat} : belowL n (kF l) = true := by
  rw [belowL_all, List.all_eq_true]; intro x hx
  obtain ⟨f, _, rfl⟩ := List.mem_map.1 hx
  simp only [below]; exact nums_belowN f
theorem vF_below (l : List (List Int)) {n : Nat} : belowL n (vF l) = true := by
  rw [belowL_all, List.all_eq_true]; intro x hx
  obtain ⟨f, _, rfl⟩ := List.mem_map.1 hx
  rfl
theorem eqGuardF : (Try.prog.eqGuardType Try.prog.depth 105 = false) = True := eq_true (by kernel_rfl)
theorem loop_cutK {h k own e : List Blk} {a b c d x y z g l : Blk} : h ++ a :: b :: c :: d :: (k ++ x :: y :: z :: g :: l :: (own ++ e)) = (h ++ a :: b :: c :: d :: (k ++ [x, y, z])) ++ g :: l :: (own ++ e) := by simp
theorem loop_cutE {h k own e m : List Blk} {a b c d x y z w g l : Blk} : h ++ a :: b :: c :: d :: (k ++ x :: y :: z :: (m ++ w :: g :: l :: (own ++ e))) = (h ++ a :: b :: c :: d :: (k ++ x :: y :: z :: (m ++ [w]))) ++ g :: l :: (own ++ e) := by simp
theorem mem_insF {l : List (List Int)} {y v : List Int} : v ∈ insF l y ↔ v ∈ l ∨ v = y := by
  unfold insF
  split
  · rename_i h
    rw [List.contains_iff_mem] at h
    exact ⟨.inl, fun e => e.elim id fun e => e ▸ h⟩
  · simp
def alikeR (b : Board) : List (Int × Int) := if boardErr b = 0 then alikeB b (mapB b.glyphs) else []
theorem Alike_ok (b : Board) : PureA Try.prog 42 [.agg (brdA b)] (.tup [sliceOf cPair (alikeR b), .int .i64 (boardErr b)]) := by
  refine PureA.of_wpe [2] { shut := [61, 62] } 66 mixed Try.func42 (by kernel_rfl) rfl (by kernel_rfl) (by simp only [below, belowL, below_psl (f := cPair) (fun _ => rfl) _, Bool.and_self]) fun h j hB => ?_
  simp only [junk_succ, junk_zero, List.cons_append, List.nil_append, List.length_cons, List.length_nil, Nat.reduceAdd]
  simp (implicitDefEqProofs := false) (dsimp := false) only [go_sem, brdA]
  refine open_use (fun e0 => ?_) (fun e1 e2 x y z t f1 f2 f3 f4 => ?_)
  · simp (implicitDefEqProofs := false) (dsimp := false) only [go_sem, bdA, e0]
    have ok := okBoard.of e0
    rw [show alikeR b = alikeB b (mapB b.glyphs) from if_pos e0]
    refine WPI.turn (Turns.nilCell (i := h.length + 2) (j := 0) (sz := 1) (by simp only; rw [hget]; rfl) rfl) ?_
    simp only [hset, List.append_assoc, List.set_cons_succ, List.set_cons_zero, List.cons_append, List.nil_append, List.length_append, List.length_cons, List.length_nil, Nat.zero_add, Nat.reduceAdd]
    have q1 := ok.most
    refine WP.loopI (fun (p : Nat) s => (p ≤ b.pages.length) ∧ s.sl.length = 67 ∧ True ∧ s.gh = {} ∧ (∃ k, s.hp = h ++ alikeH b (alikeTo b (mapB b.glyphs) p) h.length k ∧ marksIn (h.length + 4) k k.length s.df) ∧ evA s.sl (.tmp 4) = .ptr ⟨h.length + 1, 0⟩ 0 ∧ evA s.sl (.tmp 6) = .ptr ⟨h.length + 2, 0⟩ 0 ∧ evA s.sl (.tmp 25) = .int .i64 b.pages.length ∧ evA s.sl (.tmp 26) = .int .i64 p) (fun (p : Nat) => b.pages.length - p) (0) ?_ ?_
    · simp (implicitDefEqProofs := false) (dsimp := false) only [go_sem, bdA, Nat.zero_le, alikeH]
      exact ⟨[], ⟨rfl, rfl, ⟨rfl, rfl⟩, rfl⟩, trivial⟩
    · rintro p ⟨sl, df, hp, gh⟩ ⟨ab, al, ad, rfl, ah, a4, a6, a25, a26⟩
      simp only at ab al ah ad a4 a6 a25 a26
      obtain ⟨j, rfl⟩ := slots_lit al; clear al; simp only [junk_succ, junk_zero, evA_tmp, nth_16, nth_four, nth_one, nth_zero, Nat.zero_add, Nat.reduceAdd] at  a4 a6 a25 a26 ⊢
      refine wp_ok (so := { shut := [61, 62] }) mixed _ (by kernel_rfl) ?_
      obtain ⟨k, rfl, hmk⟩ := ah
      have hlen := alikeTo_len b (mapB b.glyphs) p
      by_cases hp : p < b.pages.length
      · simp (implicitDefEqProofs := false) (dsimp := false) only [go_sem, a4, a6, a25, a26, alikeH, bdA, nat_lt hp, decide_true]
        refine WP.scope ?_
        refine wp_ok (so := { shut := [61, 62] }) mixed _ (by kernel_rfl) ?_
        simp (implicitDefEqProofs := false) (dsimp := false) only [go_sem]
        (first | refine CallsA.use (laysOf_ok b _ p) ?_ | refine QuietCalls.use (laysOf_ok b _ p) ?_)
        simp (implicitDefEqProofs := false) (dsimp := false) only [go_sem]
        refine WP.rangeIterN (h.length + (k.length + 4 + 1 + 1 + 1 + 1)) (by simp <;> omega)  (so := { shut := [61, 62] }) mixed (by kernel_rfl) (by kernel_rfl) rfl rfl (call_laysOf1) rfl rfl (iter_ways b _ p hp ok) (encW_len) (fun n h1 => ∃ S : List (List Int), h1 = h ++ alikeH b (alikeTo b (mapB b.glyphs) p) h.length (k ++ [.cells 0 [.int .i64 p], .map (kF S) (vF S), .cells 0 [.map ⟨h.length + (k.length + 1 + 1 + 1 + 1 + 1), 0⟩]]) ∧ ∀ y, y ∈ S ↔ y ≠ z12 ∧ y ∈ (facesOf b (mapB b.glyphs) p).take n) (fun _ _ => False) ?_ ?_ ?_ ?_ ?_ ?_
        · rintro n _ hb ⟨S, rfl, _⟩
          refine ⟨by simp [alikeH], all_swap hb ?_⟩
          simp only [List.all_cons, List.all_nil, belowBlk, kF_below, vF_below, belowL, below, Bool.and_true, Bool.true_and, decide_eq_true_eq, List.length_append, List.length_cons, List.length_nil]
          omega
        · rintro _ _ _ ⟨⟩
        · exact ⟨[], by simp [alikeH, kF, vF, bdA, sliceOf], by simp⟩
        · rintro n _ own hn ⟨S, rfl, hS⟩ hl2
          rw [List.length_map, ways_len] at hn
          have ex : ((ways b (mapB b.glyphs) p).map encW)[n]'(by rw [List.length_map, ways_len]; exact hn) = [.agg (cLay (layN p n)), .agg (nums12 (faceB (mapB b.glyphs) b.pages[p] b.cells (layN p n)))] := by simp [ways, wayN, encW, List.getD, hp]
          rw [ex]
          dsimp only
          have e12 : (faceB (mapB b.glyphs) b.pages[p] b.cells (layN p n)).length = 12 := face_len _ _ _ _
          have hl : (facesOf b (mapB b.glyphs) p).take (n + 1) = (facesOf b (mapB b.glyphs) p).take n ++ [faceB (mapB b.glyphs) b.pages[p] b.cells (layN p n)] := by
            rw [List.take_add_one, List.getElem?_eq_getElem (by rw [facesOf_len]; exact hn), facesOf_get hn]
            simp [List.getD, hp]
          rw [hl]
          have hS12 : ∀ f ∈ S, f.length = 12 := fun f hf => facesOf_face _ (List.mem_of_mem_take ((hS f).1 hf).2)
          have zeq : [AV.int .i64 0, .int .i64 0, .int .i64 0, .int .i64 0, .int .i64 0, .int .i64 0, .int .i64 0, .int .i64 0, .int .i64 0, .int .i64 0, .int .i64 0, .int .i64 0] = nums12 z12 := rfl
          generalize faceB (mapB b.glyphs) b.pages[p] b.cells (layN p n) = y at e12 ⊢
          have hq := eqFace (d := 3) e12 (show z12.length = 12 from rfl)
          simp (implicitDefEqProofs := false) (dsimp := false) only [go_sem, alikeH, bdA, setM12 e12, nums_take e12, nums_leaf, nums12_len, e12, Nat.le_refl, zeq, setMany12 (t := nums12 z12) rfl e12, hq, eqGuardF, show z12.length = 12 from rfl, lookF e12 hS12, updF e12 hS12]
          refine ⟨fun hc => ⟨_, ⟨_, loop_cutK⟩, insF S y, rfl, fun v => ?_⟩, fun hc => ⟨_, ⟨_, loop_cutK⟩, S, rfl, fun v => ?_⟩⟩
          · have hc' : y ≠ z12 := by simpa using hc
            rw [mem_insF, hS v, List.mem_append, List.mem_singleton]
            constructor
            · rintro (⟨h1, h2⟩ | rfl)
              · exact ⟨h1, .inl h2⟩
              · exact ⟨hc', .inr rfl⟩
            · rintro ⟨h1, h2 | rfl⟩
              · exact .inl ⟨h1, h2⟩
              · exact .inr rfl
          · have hc' : y = z12 := by simpa using hc
            rw [hS v, List.mem_append, List.mem_singleton]
            constructor
            · rintro ⟨h1, h2⟩; exact ⟨h1, .inl h2⟩
            · rintro ⟨h1, h2 | rfl⟩
              · exact ⟨h1, h2⟩
              · exact absurd hc' h1
        · rintro _ ⟨S, rfl, hS⟩
          rw [List.length_map, ways_len, List.take_of_length_le (by rw [facesOf_len]; exact Nat.le_refl _)] at hS
          simp (implicitDefEqProofs := false) (dsimp := false) only [go_sem, alikeH]
          have hS12 : ∀ f ∈ S, f.length = 12 := fun f hf => facesOf_face _ ((hS f).1 hf).2
          refine WP.loopI (fun (y : Nat × Nat) s => (y.1 ≤ b.pages.length - (p + 1)) ∧ s.sl.length = 67 ∧ True ∧ s.gh = {} ∧ (∃ e : List Blk, s.hp = h ++ alikeH b (alikeTo b (mapB b.glyphs) p ++ alikeRow b (mapB b.glyphs) p y.1) h.length (k ++ .cells 0 [.int .i64 p] :: .map (kF S) (vF S) :: .cells 0 [.map ⟨h.length + (k.length + 1 + 1 + 1 + 1 + 1), 0⟩] :: (e ++ [.cells 0 [.int .i64 (p + 1 + y.1 : Nat)]])) ∧ e.length = y.2 ∧ marksIn (h.length + 4) (k ++ .cells 0 [.int .i64 p] :: .map (kF S) (vF S) :: .cells 0 [.map ⟨h.length + (k.length + 1 + 1 + 1 + 1 + 1), 0⟩] :: e) (k ++ .cells 0 [.int .i64 p] :: .map (kF S) (vF S) :: .cells 0 [.map ⟨h.length + (k.length + 1 + 1 + 1 + 1 + 1), 0⟩] :: e).length s.df) ∧ evA s.sl (.tmp 4) = .ptr ⟨h.length + 1, 0⟩ 0 ∧ evA s.sl (.tmp 6) = .ptr ⟨h.length + 2, 0⟩ 0 ∧ evA s.sl (.tmp 7) = .ptr ⟨h.length + (k.length + 1 + 1 + 1 + 1), 0⟩ 0 ∧ evA s.sl (.tmp 8) = .ptr ⟨h.length + (k.length + 2 + 1 + 1 + 1 + 1), 0⟩ 0 ∧ evA s.sl (.tmp 11) = .ptr ⟨h.length + (k.length + (y.2 + 1 + 1 + 1) + 1 + 1 + 1 + 1), 0⟩ 0 ∧ evA s.sl (.tmp 25) = .int .i64 b.pages.length ∧ evA s.sl (.tmp 26) = .int .i64 p) (fun (y : Nat × Nat) => b.pages.length - (p + 1) - y.1) ((0, 2)) ?_ ?_
          · simp (implicitDefEqProofs := false) (dsimp := false) only [go_sem, alikeH, Nat.zero_le]
            have hr0 : alikeRow b (mapB b.glyphs) p 0 = [] := rfl
            rw [hr0, List.append_nil]
            refine ⟨[.defd, .dead], ⟨rfl, ⟨rfl, rfl⟩, by rw [wrap_succ (by omega)]; rfl⟩, rfl, ?_⟩
            have := marksIn_loop (x := [.dead, .dead, .dead]) (y := [.cells 0 [.int .i64 p], .map (kF S) (vF S), .cells 0 [.map ⟨h.length + (k.length + 1 + 1 + 1 + 1 + 1), 0⟩]]) (n := h.length + (k.length + 3 + 1 + 1 + 1 + 1)) hmk (by simp; omega) rfl
            simpa using this
          · rintro ⟨r, ne⟩ ⟨sl, df, hp, gh⟩ ⟨eb, el, ed, rfl, eh, e4, e6, e7, e8, e11, e25, e26⟩
            simp only at eb el eh ed e4 e6 e7 e8 e11 e25 e26
            obtain ⟨j, rfl⟩ := slots_lit el; clear el; simp only [junk_succ, junk_zero, evA_tmp, nth_16, nth_four, nth_one, nth_zero, Nat.zero_add, Nat.reduceAdd] at  e4 e6 e7 e8 e11 e25 e26 ⊢
            refine wp_ok (so := { shut := [61, 62] }) mixed _ (by kernel_rfl) ?_
            obtain ⟨e, rfl, hne, hme⟩ := eh
            have hrl := alikeRow_len b (mapB b.glyphs) p r
            have hpp : p * b.pages.length ≤ 4 * 4 := Nat.mul_le_mul (by omega) q1
            have hll : (alikeTo b (mapB b.glyphs) p ++ alikeRow b (mapB b.glyphs) p r).length ≤ 24 := by rw [List.length_append]; omega
            generalize hl0 : alikeTo b (mapB b.glyphs) p ++ alikeRow b (mapB b.glyphs) p r = l at hll ⊢
            by_cases hr : r < b.pages.length - (p + 1)
            · have hq : p + 1 + r < b.pages.length := by omega
              have hlt : (((p + 1 + r : Nat) : Int) < (b.pages.length : Int)) = True := eq_true (by omega)
              simp (implicitDefEqProofs := false) (dsimp := false) only [go_sem, e4, e6, e7, e8, e11, e25, e26, alikeH, bdA, getL hne, getL0 hne, hlt, decide_true]
              (first | refine CallsA.use (laysOf_ok b _ _) ?_ | refine QuietCalls.use (laysOf_ok b _ _) ?_)
              simp (implicitDefEqProofs := false) (dsimp := false) only [go_sem]
              refine WP.rangeIterN (h.length + (k.length + (ne + 2 + 1 + 1 + 1) + 1 + 1 + 1 + 1)) (by simp <;> omega)  (so := { shut := [61, 62] }) mixed (by kernel_rfl) (by kernel_rfl) rfl rfl (call_laysOf1) rfl rfl (iter_ways b _ (p + 1 + r) hq ok) (encW_len) (fun n h1 => h1 = h ++ alikeH b l h.length (k ++ .cells 0 [.int .i64 p] :: .map (kF S) (vF S) :: .cells 0 [.map ⟨h.length + (k.length + 1 + 1 + 1 + 1 + 1), 0⟩] :: (e ++ [.cells 0 [.int .i64 (p + 1 + r : Nat)]])) ∧ ∀ v ∈ (facesOf b (mapB b.glyphs) (p + 1 + r)).take n, v ∉ S) (fun c h1 => c = .exit 5 ∧ h1 = h ++ alikeH b (l ++ [((p : Int), ((p + 1 + r : Nat) : Int))]) h.length (k ++ .cells 0 [.int .i64 p] :: .map (kF S) (vF S) :: .cells 0 [.map ⟨h.length + (k.length + 1 + 1 + 1 + 1 + 1), 0⟩] :: (e ++ [.cells 0 [.int .i64 (p + 1 + r : Nat)]])) ∧ ∃ v ∈ facesOf b (mapB b.glyphs) (p + 1 + r), v ∈ S) ?_ ?_ ?_ ?_ ?_ ?_
              · rintro n _ hb ⟨rfl, _⟩
                exact ⟨by simp [alikeH], hb⟩
              · rintro _ _ hb ⟨_, rfl, _⟩
                refine ⟨by simp [alikeH], all_swap2 hb ?_ ?_⟩
                · simp only [belowBlk, belowL, below, Bool.and_true, decide_eq_true_eq, List.length_append, List.length_cons, List.length_nil]
                  omega
                · exact belowL_flat (f := cPair) (fun _ => rfl) _
              · exact ⟨rfl, by simp⟩
              · rintro n _ own hn ⟨rfl, hno⟩ hl2
                rw [List.length_map, ways_len] at hn
                have ex : ((ways b (mapB b.glyphs) (p + 1 + r)).map encW)[n]'(by rw [List.length_map, ways_len]; exact hn) = [.agg (cLay (layN (p + 1 + r : Nat) n)), .agg (nums12 (faceB (mapB b.glyphs) b.pages[p + 1 + r] b.cells (layN (p + 1 + r : Nat) n)))] := by simp [ways, wayN, encW, List.getD, hq]
                rw [ex]
                dsimp only
                have e12 : (faceB (mapB b.glyphs) b.pages[p + 1 + r] b.cells (layN (p + 1 + r : Nat) n)).length = 12 := face_len _ _ _ _
                have hget : (facesOf b (mapB b.glyphs) (p + 1 + r))[n]'(by rw [facesOf_len]; exact hn) = faceB (mapB b.glyphs) b.pages[p + 1 + r] b.cells (layN (p + 1 + r : Nat) n) := by
                  rw [facesOf_get hn]; simp [List.getD, hq]
                have hl : (facesOf b (mapB b.glyphs) (p + 1 + r)).take (n + 1) = (facesOf b (mapB b.glyphs) (p + 1 + r)).take n ++ [faceB (mapB b.glyphs) b.pages[p + 1 + r] b.cells (layN (p + 1 + r : Nat) n)] := by
                  rw [List.take_add_one, List.getElem?_eq_getElem (by rw [facesOf_len]; exact hn), hget]; rfl
                have hmem : faceB (mapB b.glyphs) b.pages[p + 1 + r] b.cells (layN (p + 1 + r : Nat) n) ∈ facesOf b (mapB b.glyphs) (p + 1 + r) := by
                  rw [← hget]; exact List.getElem_mem _
                rw [hl]
                generalize faceB (mapB b.glyphs) b.pages[p + 1 + r] b.cells (layN (p + 1 + r : Nat) n) = y at e12 hmem ⊢
                cases hcc : S.contains y with
                | true =>
                  simp (implicitDefEqProofs := false) (dsimp := false) only [go_sem, alikeH, bdA, getL hne, getL0 hne, setL hne, setL0 hne, setM12 e12, nums_take e12, nums_leaf, nums12_len, e12, Nat.le_refl, lookF e12 hS12, hcc, length_rows cPair_len]
                  have hy : y ∈ S := by rw [← List.contains_iff_mem]; exact hcc
                  refine ⟨by omega, _, ⟨_, loop_cutE⟩, ?_, y, hmem, hy⟩
                  simp [cPair]
                | false =>
                  simp (implicitDefEqProofs := false) (dsimp := false) only [go_sem, alikeH, bdA, getL hne, getL0 hne, setL hne, setL0 hne, setM12 e12, nums_take e12, nums_leaf, nums12_len, e12, Nat.le_refl, lookF e12 hS12, hcc]
                  have hy : y ∉ S := by rw [← List.contains_iff_mem, hcc]; simp
                  refine ⟨_, ⟨_, loop_cutE⟩, rfl, fun v hv => ?_⟩
                  rcases List.mem_append.1 hv with hv | hv
                  · exact hno v hv
                  · rw [List.mem_singleton.1 hv]; exact hy
              · rintro _ ⟨rfl, hno⟩
                rw [List.length_map, ways_len, List.take_of_length_le (by rw [facesOf_len]; exact Nat.le_refl _)] at hno
                simp (implicitDefEqProofs := false) (dsimp := false) only [go_sem, alikeH, bdA, getL hne, getL0 hne, setL hne, setL0 hne]
                have hrow : alikeTo b (mapB b.glyphs) p ++ alikeRow b (mapB b.glyphs) p (r + 1) = l := by
                  have hP : alikeP b (mapB b.glyphs) p (p + 1 + r) = false := by
                    rw [alikeP, List.any_eq_false]
                    intro v hv hc
                    have h1 := hno v hv
                    rw [hS] at h1
                    simp at hc
                    exact h1 hc
                  rw [alikeRow_succ, hP]
                  simpa using hl0
                refine ⟨(r + 1, ne + 3), ⟨by simp only; omega, ⟨e ++ [.cells 0 [.int .i64 (p + 1 + r : Nat)], .defd, .dead], ?_, by simp [hne], ?_⟩, by rw [hne]⟩, by simp only; omega⟩
                · simp only
                  rw [← List.length_append, hrow, wrap_succ (by omega)]
                  refine ⟨by rfl, ⟨by rfl, rfl⟩, ?_⟩
                  simp
                  omega
                · have := marksIn_loop (x := [.dead]) (y := [.cells 0 [.int .i64 (p + 1 + r : Nat)]]) (n := h.length + (k.length + (e.length + 1 + 1 + 1 + 1) + 1 + 1 + 1 + 1)) hme (by simp; omega) rfl
                  simpa using this
              · rintro _ _ ⟨rfl, rfl, v, hv1, hv2⟩
                simp (implicitDefEqProofs := false) (dsimp := false) only [go_sem, alikeH, bdA, getL hne, getL0 hne, setL hne, setL0 hne]
                have hrow : alikeTo b (mapB b.glyphs) p ++ alikeRow b (mapB b.glyphs) p (r + 1) = l ++ [((p : Int), ((p + 1 + r : Nat) : Int))] := by
                  have hP : alikeP b (mapB b.glyphs) p (p + 1 + r) = true := by
                    rw [alikeP, List.any_eq_true]
                    have h1 := (hS v).1 hv2
                    exact ⟨v, hv1, by simpa using h1⟩
                  rw [alikeRow_succ, hP, ← hl0, if_pos rfl, List.append_assoc]
                refine ⟨(r + 1, ne + 3), ⟨by simp only; omega, ⟨e ++ [.cells 0 [.int .i64 (p + 1 + r : Nat)], .defd, .dead], ?_, by simp [hne], ?_⟩, by rw [hne]⟩, by simp only; omega⟩
                · simp only
                  rw [← List.length_append, hrow, wrap_succ (by omega)]
                  refine ⟨by simp, ⟨by simp, rfl⟩, ?_⟩
                  simp
                  omega
                · have := marksIn_loop (x := [.dead]) (y := [.cells 0 [.int .i64 (p + 1 + r : Nat)]]) (n := h.length + (k.length + (e.length + 1 + 1 + 1 + 1) + 1 + 1 + 1 + 1)) hme (by simp; omega) rfl
                  simpa using this
            · have hs : (((p + 1 + r : Nat) : Int) < (b.pages.length : Int)) = False := eq_false (by omega)
              simp (implicitDefEqProofs := false) (dsimp := false) only [go_sem, e4, e6, e7, e8, e11, e25, e26, alikeH, bdA, getL hne, getL0 hne, hs, decide_false]
              have er : r = b.pages.length - (p + 1) := by omega
              subst er
              rw [← alikeTo_succ] at hl0
              subst hl0
              exact ⟨p + 1, ⟨by omega, ⟨_, ⟨rfl, ⟨rfl, rfl⟩, rfl⟩, marksIn_snoc hme⟩, wrap_succ (by omega)⟩, by omega⟩
        · rintro _ _ ⟨⟩
      · have hs : ((p : Int) < (b.pages.length : Int)) = False := eq_false (by omega)
        have ep : p = b.pages.length := by omega
        subst ep
        simp (implicitDefEqProofs := false) (dsimp := false) only [go_sem, a4, a6, a25, a26, alikeH, hs, decide_false]
        refine unmarkK_marks (marksIn_at hmk) fun h' e1 e2 => ⟨?_, h'.drop h.length, ?_⟩
        · rw [List.take_of_length_le (by rw [length_rows cPair_len]; omega)]
          rfl
        · have e3 : h'.take h.length = h := by
            have := congrArg (List.take h.length) e2
            rw [List.take_take, List.take_take, show min h.length (h.length + 4) = h.length by omega, List.take_left] at this
            exact this
          conv => lhs; rw [← List.take_append_drop h.length h', e3]
  · simp only [leafA] at f1 f2 f3 f4
    rw [show alikeR b = [] from if_neg e1]
    simp (implicitDefEqProofs := false) (dsimp := false) only [go_sem, f1, f2, f3, f4, e2]
    rfl
end Go.Mac
namespace Go.Mac
open Go Go.Conc Go.Proofs
set_option maxRecDepth 4000
def cList (l : List Int) : List AV := [ints l]
@[simp] theorem cList_len (n) : (cList n).length = 1 := rfl
theorem eqStrings_ok (a b : List (List UInt8)) (hla : a.length < 9223372036854775807) (hsa : ∀ s ∈ a, s.length ≤ 4000000000) (hsb : ∀ s ∈ b, s.length ≤ 4000000000) : PureA Try.prog 59 [sliceOf cStr a, sliceOf cStr b] (.bool (a == b)) := by
  refine PureA.of_wpp { cut := [13] } 29 mixed Try.func59 (by kernel_rfl) rfl (by kernel_rfl) (rfl) fun h j hB => ?_
  simp only [junk_succ, junk_zero, List.cons_append, List.nil_append, List.length_cons, List.length_nil, Nat.reduceAdd]
  simp (implicitDefEqProofs := false) (dsimp := false) only [go_sem]
  refine WP.loopI (fun (x : Nat × Bool) s => x.1 ≤ a.length ∧ (x.2 = true ↔ a.length = b.length ∧ a.take x.1 = b.take x.1) ∧ s.sl.length = 31 ∧ s.df = [] ∧ s.gh = {} ∧ s.hp = h ∧ evA s.sl (.tmp 0) = sliceOf cStr a ∧ evA s.sl (.tmp 1) = sliceOf cStr b ∧ evA s.sl (.tmp 5) = .bool x.2 ∧ evA s.sl (.tmp 6) = .int .i64 x.1) (fun x => a.length - x.1) (0, a.length == b.length) ?_ ?_
  · simp (implicitDefEqProofs := false) (dsimp := false) only [go_sem]
    refine ⟨Nat.zero_le _, ?_⟩
    rw [Bool.eq_iff_iff]; simp; omega
  · rintro ⟨i, q⟩ ⟨sl, df, hp, gh⟩ ⟨h1, hq, h2, rfl, rfl, rfl, h3, h4, h5, h6⟩
    simp only at h1 hq h2 h3 h4 h5 h6
    obtain ⟨j, rfl⟩ := slots_lit h2; clear h2; simp only [junk_succ, junk_zero, evA_tmp, nth_16, nth_four, nth_one, nth_zero, Nat.zero_add, Nat.reduceAdd] at  h3 h4 h5 h6 ⊢
    refine wp_ok (so := { cut := [13] }) mixed _ (by kernel_rfl) ?_
    cases q with
    | false =>
      simp (implicitDefEqProofs := false) (dsimp := false) only [go_sem, h3, h4, h5, h6]
      symm
      rw [beq_eq_false_iff_ne]
      rintro rfl
      simp at hq
    | true =>
      obtain ⟨e1, e2⟩ := hq.1 rfl
      by_cases hi : i < a.length
      · have hib : i < b.length := by omega
        simp (implicitDefEqProofs := false) (dsimp := false) only [go_sem, h3, h4, h5, h6, row1 cStr_len hi, row1 cStr_len hib, row1_le cStr_len hi, row1_le cStr_len hib, cStr, nat_lt hi, nat_lt hib, decide_true, wrap_succ (show i < 9223372036854775807 by omega)]
        refine ⟨by have := hsa _ (List.getElem_mem hi); have := hsb _ (List.getElem_mem hib); omega, ?_⟩
        refine ⟨(i + 1, a[i] == b[i]), ⟨hi, ?_, rfl, rfl⟩, by simp only; omega⟩
        rw [beq_iff_eq, take_eq_succ hi hib e2]
        simp [e1]
      · have hs : ((i : Int) < (a.length : Int)) = False := eq_false (by omega)
        simp (implicitDefEqProofs := false) (dsimp := false) only [go_sem, h3, h4, h5, h6,  hs, decide_false]
        have : i = a.length := by omega
        subst this
        rw [List.take_length, e1, List.take_length] at e2
        simp [e2]
theorem eqLists_ok (a b : List (List Int)) (hla : a.length < 9223372036854775807) (hsa : ∀ s ∈ a, s.length < 9223372036854775807) : PureA Try.prog 43 [sliceOf cList a, sliceOf cList b] (.bool (a == b)) := by
  refine PureA.of_wpp { cut := [13] } 29 mixed Try.func43 (by kernel_rfl) rfl (by kernel_rfl) (rfl) fun h j hB => ?_
  simp only [junk_succ, junk_zero, List.cons_append, List.nil_append, List.length_cons, List.length_nil, Nat.reduceAdd]
  simp (implicitDefEqProofs := false) (dsimp := false) only [go_sem]
  refine WP.loopI (fun (x : Nat × Bool) s => x.1 ≤ a.length ∧ (x.2 = true ↔ a.length = b.length ∧ a.take x.1 = b.take x.1) ∧ s.sl.length = 31 ∧ s.df = [] ∧ s.gh = {} ∧ s.hp = h ∧ evA s.sl (.tmp 0) = sliceOf cList a ∧ evA s.sl (.tmp 1) = sliceOf cList b ∧ evA s.sl (.tmp 5) = .bool x.2 ∧ evA s.sl (.tmp 6) = .int .i64 x.1) (fun x => a.length - x.1) (0, a.length == b.length) ?_ ?_
  · simp (implicitDefEqProofs := false) (dsimp := false) only [go_sem]
    refine ⟨Nat.zero_le _, ?_⟩
    rw [Bool.eq_iff_iff]; simp; omega
  · rintro ⟨i, q⟩ ⟨sl, df, hp, gh⟩ ⟨h1, hq, h2, rfl, rfl, rfl, h3, h4, h5, h6⟩
    simp only at h1 hq h2 h3 h4 h5 h6
    obtain ⟨j, rfl⟩ := slots_lit h2; clear h2; simp only [junk_succ, junk_zero, evA_tmp, nth_16, nth_four, nth_one, nth_zero, Nat.zero_add, Nat.reduceAdd] at  h3 h4 h5 h6 ⊢
    refine wp_ok (so := { cut := [13] }) mixed _ (by kernel_rfl) ?_
    cases q with
    | false =>
      simp (implicitDefEqProofs := false) (dsimp := false) only [go_sem, h3, h4, h5, h6]
      symm
      rw [beq_eq_false_iff_ne]
      rintro rfl
      simp at hq
    | true =>
      obtain ⟨e1, e2⟩ := hq.1 rfl
      by_cases hi : i < a.length
      · have hib : i < b.length := by omega
        simp (implicitDefEqProofs := false) (dsimp := false) only [go_sem, h3, h4, h5, h6, row1 cList_len hi, row1 cList_len hib, row1_le cList_len hi, row1_le cList_len hib, cList, nat_lt hi, nat_lt hib, decide_true, wrap_succ (show i < 9223372036854775807 by omega)]
        (first | refine CallsA.use (eqInts_ok a[i] b[i] (hsa _ (List.getElem_mem hi))) ?_ | refine QuietCalls.use (eqInts_ok a[i] b[i] (hsa _ (List.getElem_mem hi))) ?_)
        simp (implicitDefEqProofs := false) (dsimp := false) only [go_sem, wrap_succ (show i < 9223372036854775807 by omega)]
        refine ⟨(i + 1, a[i] == b[i]), ⟨hi, ?_, rfl, rfl⟩, by simp only; omega⟩
        rw [beq_iff_eq, take_eq_succ hi hib e2]
        simp [e1]
      · have hs : ((i : Int) < (a.length : Int)) = False := eq_false (by omega)
        simp (implicitDefEqProofs := false) (dsimp := false) only [go_sem, h3, h4, h5, h6,  hs, decide_false]
        have : i = a.length := by omega
        subst this
        rw [List.take_length, e1, List.take_length] at e2
        simp [e2]
theorem hasCell_ok (b : Board) (m : List (Int × Int)) (r c : Int) (h0 : 0 < b.cells.length) : PureA Try.prog 80 [.agg (bdA b m), .int .i64 r, .int .i64 c] (.bool (decide (0 ≤ r) && decide (r < b.cells.length) && (decide (0 ≤ c) && decide (c < (b.cells.headD []).length)))) := by
  refine PureA.of_wpp { cut := [9, 17, 21] } 28 mixed Try.func80 (by kernel_rfl) rfl (by kernel_rfl) (rfl) fun h j hB => ?_
  simp only [junk_succ, junk_zero, List.cons_append, List.nil_append, List.length_cons, List.length_nil, Nat.reduceAdd]
  simp (implicitDefEqProofs := false) (dsimp := false) only [go_sem, bdA, cells_get0 h0, cells_len1, show (1 ≤ b.cells.length) = True from eq_true h0]
  refine ⟨fun c1 => ⟨fun c2 => ⟨fun c3 => ⟨⟨by omega, by omega⟩, ?_⟩, fun c3 => ?_⟩, fun c2 => ?_⟩, fun c1 => ?_⟩
  · simp [c1, c2, c3]
  · simp [c3]
  · simp [c2]
  · simp [c1]
def isI64 (n : Int) : Prop := -9223372036854775808 ≤ n ∧ n ≤ 9223372036854775807
theorem wrap_neg {n : Int} (h : isI64 n) : IntKind.i64.wrap (0 - n) = if n = -9223372036854775808 then n else -n := by
  obtain ⟨h1, h2⟩ := h
  by_cases e : n = -9223372036854775808
  · subst e; decide
  · rw [if_neg e, wrap64 (by omega) (by omega)]; omega
def layErr (b : Board) (l : Lay) : Int := if ¬ (0 ≤ l.page ∧ l.page < b.pages.length) then 3 else if 1 < l.down ∨ l.down < -1 ∨ 1 < l.right ∨ l.right < -1 then 1 else 0
theorem checkLay_ok (b : Board) (m : List (Int × Int)) (l : Lay) (hd : isI64 l.down) (hr : isI64 l.right) : PureA Try.prog 64 [.agg (bdA b m), .agg (cLay l)] (.int .i64 (layErr b l)) := by
  refine PureA.of_wpp { cut := [22] } 28 mixed Try.func64 (by kernel_rfl) rfl (by kernel_rfl) (rfl) fun h j hB => ?_
  simp only [junk_succ, junk_zero, List.cons_append, List.nil_append, List.length_cons, List.length_nil, Nat.reduceAdd]
  simp (implicitDefEqProofs := false) (dsimp := false) only [go_sem, bdA, cLay]
  (first | refine CallsA.use (hasPage_ok b m l.page) ?_ | refine QuietCalls.use (hasPage_ok b m l.page) ?_)
  simp (implicitDefEqProofs := false) (dsimp := false) only [go_sem, wrap_neg hd, wrap_neg hr, List.foldl_cons, List.foldl_nil]
  refine ⟨fun c1 => ?_, fun c1 => ?_⟩
  · have : ¬ (0 ≤ l.page ∧ l.page < b.pages.length) := by
      simp at c1; omega
    simp only [layErr, if_pos this]
  have hp : ¬ ¬ (0 ≤ l.page ∧ l.page < b.pages.length) := by
    simp at c1; omega
  obtain ⟨d1, d2⟩ := hd
  obtain ⟨r1, r2⟩ := hr
  simp only [layErr, if_neg hp]
  refine ⟨fun c2 => ?_, fun c2 => ⟨fun c3 => ?_, fun c3 => ?_⟩⟩
  · split
    · rfl
    · exfalso; (repeat' split at c2) <;> omega
  · split
    · rfl
    · exfalso; (repeat' split at c3) <;> omega
  · split
    · exfalso; (repeat' split at c2) <;> (repeat' split at c3) <;> omega
    · rfl
def turnErr (n : Int) : Int := if n < 0 ∨ 63 < n then 1 else 0
theorem turn_ok (n : Int) : PureA Try.prog 30 [.int .i64 n] (.tup [.int .i64 (if turnErr n = 0 then turnB n else 0), .int .i64 (turnErr n)]) := by
  refine PureA.of_wpp { cut := [6] } 11 mixed Try.func30 (by kernel_rfl) rfl (by kernel_rfl) (rfl) fun h j hB => ?_
  simp only [junk_succ, junk_zero, List.cons_append, List.nil_append, List.length_cons, List.length_nil, Nat.reduceAdd]
  simp (implicitDefEqProofs := false) (dsimp := false) only [go_sem]
  refine ⟨fun c1 => ?_, fun c1 => ⟨fun c2 => ?_, fun c2 => ?_⟩⟩
  · simp [turnErr, show n < 0 by simpa using c1]
  · simp [turnErr, show 63 < n by simpa using c2]
  · (first | refine CallsA.use (turned_ok n) ?_ | refine QuietCalls.use (turned_ok n) ?_)
    simp (implicitDefEqProofs := false) (dsimp := false) only [go_sem]
    have : ¬ (n < 0 ∨ 63 < n) := by simp at c1 c2; omega
    simp [turnErr, this]
end Go.Mac
namespace Go.Mac
open Go Go.Conc Go.Proofs
set_option maxRecDepth 4000
def boardB (a b c d : Trace) : Board := ⟨[⟨[98], 9⟩, ⟨[99], 4⟩, ⟨[100], 6⟩, ⟨[105], 48⟩, ⟨[111], 12⟩], [[[98, 99], [45, 105]], [[99, 100], [105, 45]], [[111, 111]]], [[a, b], [c, d]]⟩
def openB : Board := boardB ⟨8, 0⟩ ⟨0, 0⟩ ⟨0, 0⟩ ⟨0, 0⟩
def extraB : Board := boardB ⟨9, 0⟩ ⟨2, 0⟩ ⟨16, 0⟩ ⟨0, 0⟩
theorem open_valid : boardErr openB = 0 := by kernel_rfl
theorem extra_valid : boardErr extraB = 0 := by kernel_rfl
theorem open_lays : (laysB openB).map Prod.fst = [⟨0, false, 0, 0⟩, ⟨1, false, 0, -1⟩, ⟨1, false, 0, 0⟩, ⟨1, true, -1, -1⟩, ⟨2, false, 0, -1⟩, ⟨2, false, 0, 0⟩] := by kernel_rfl
theorem extra_emend : emendR extraB 0 = (some ⟨[[98, 100], [45, 105]], 1, ⟨0, false, 0, 0⟩⟩, 0) := by kernel_rfl
theorem extra_double : DoubleR extraB 0 1 = (3, 0) := by kernel_rfl
theorem open_next : NextR openB = (0, 0, 2, 0) := by kernel_rfl
theorem open_alike : alikeR openB = [(0, 1)] := by kernel_rfl
theorem lay_ok (p d r : Int) : PureA Try.prog 54 [.int .i64 p, .int .i64 d, .int .i64 r] (.agg (cLay ⟨p, false, d, r⟩)) := by
  refine PureA.of_wpp {} 8 mixed Try.func54 (by kernel_rfl) rfl (by kernel_rfl) (rfl) fun h j hB => ?_
  simp only [junk_succ, junk_zero, List.cons_append, List.nil_append, List.length_cons, List.length_nil, Nat.reduceAdd]
  simp (implicitDefEqProofs := false) (dsimp := false) only [go_sem]
  rfl
theorem half_ok (p d r : Int) : PureA Try.prog 55 [.int .i64 p, .int .i64 d, .int .i64 r] (.agg (cLay ⟨p, true, d, r⟩)) := by
  refine PureA.of_wpp {} 11 mixed Try.func55 (by kernel_rfl) rfl (by kernel_rfl) (rfl) fun h j hB => ?_
  simp only [junk_succ, junk_zero, List.cons_append, List.nil_append, List.length_cons, List.length_nil, Nat.reduceAdd]
  simp (implicitDefEqProofs := false) (dsimp := false) only [go_sem]
  (first | refine CallsA.use (lay_ok p d r) ?_ | refine QuietCalls.use (lay_ok p d r) ?_)
  simp (implicitDefEqProofs := false) (dsimp := false) only [go_sem, cLay]
theorem brdA_belowA (b : Board) : below 0 (.agg (brdA b)) = true := slices_below b
theorem board_ok (a b c d : Trace) : PureA Try.prog 96 [.agg (cTrace a), .agg (cTrace b), .agg (cTrace c), .agg (cTrace d)] (.agg (brdA (boardB a b c d))) := by
  refine PureA.of_wpp { shut := [14, 15, 16, 17, 18, 21, 24, 25] } 23 mixed Try.func96 (by kernel_rfl) rfl (by kernel_rfl) (brdA_belowA _) fun h j hB => ?_
  simp only [junk_succ, junk_zero, List.cons_append, List.nil_append, List.length_cons, List.length_nil, Nat.reduceAdd]
  simp (implicitDefEqProofs := false) (dsimp := false) only [go_sem, cTrace]
  rfl
theorem openB_ok : PureA Try.prog 56 [] (.agg (brdA openB)) := by
  refine PureA.of_wpp {} 6 mixed Try.func56 (by kernel_rfl) rfl (by kernel_rfl) (brdA_belowA _) fun h j hB => ?_
  simp only [junk_succ, junk_zero, List.cons_append, List.nil_append, List.length_cons, List.length_nil, Nat.reduceAdd]
  simp (implicitDefEqProofs := false) (dsimp := false) only [go_sem]
  (first | refine CallsA.use (board_ok ⟨8, 0⟩ ⟨0, 0⟩ ⟨0, 0⟩ ⟨0, 0⟩) ?_ | refine QuietCalls.use (board_ok ⟨8, 0⟩ ⟨0, 0⟩ ⟨0, 0⟩ ⟨0, 0⟩) ?_)
  simp (implicitDefEqProofs := false) (dsimp := false) only [go_sem, brdA]
  rfl
theorem extraB_ok : PureA Try.prog 58 [] (.agg (brdA extraB)) := by
  refine PureA.of_wpp {} 6 mixed Try.func58 (by kernel_rfl) rfl (by kernel_rfl) (brdA_belowA _) fun h j hB => ?_
  simp only [junk_succ, junk_zero, List.cons_append, List.nil_append, List.length_cons, List.length_nil, Nat.reduceAdd]
  simp (implicitDefEqProofs := false) (dsimp := false) only [go_sem]
  (first | refine CallsA.use (board_ok ⟨9, 0⟩ ⟨2, 0⟩ ⟨16, 0⟩ ⟨0, 0⟩) ?_ | refine QuietCalls.use (board_ok ⟨9, 0⟩ ⟨2, 0⟩ ⟨16, 0⟩ ⟨0, 0⟩) ?_)
  simp (implicitDefEqProofs := false) (dsimp := false) only [go_sem, brdA]
  rfl
theorem eqLay {d : Nat} {a0 a2 a3 b0 b2 b3 : Int} {a1 b1 : Bool} : eqA Try.prog (d + 2) 44 (.agg [.int .i64 a0, .bool a1, .int .i64 a2, .int .i64 a3]) (.agg [.int .i64 b0, .bool b1, .int .i64 b2, .int .i64 b3]) = some (decide (Lay.mk a0 a1 a2 a3 = Lay.mk b0 b1 b2 b3)) := by
  have hu := under_ty ty44
  have e : ∀ a b : Int, eqA Try.prog (d + 1) 3 (.int .i64 a) (.int .i64 b) = some (a == b) := fun a b => eqA_int ty3 rfl
  have eb : ∀ a b : Bool, eqA Try.prog (d + 1) 4 (.bool a) (.bool b) = some (a == b) := fun a b => by
    simp only [eqA, under_ty ty4, ty4]
  have hs : (Try.prog.stoodInHeld 44) = false := by kernel_rfl
  have hq := eqAll_some [a0 == b0, a1 == b1, a2 == b2, a3 == b3]
  simp only [List.map_cons, List.map_nil] at hq
  unfold eqA
  simp only [hu, ty44, hs, ty3, ty4, List.map_cons, List.map_nil, Bool.false_eq_true, if_false, partA, aggD, List.getD_cons_zero, List.getD_cons_succ, e, eb]
  rw [if_neg (by decide), if_neg (by decide), if_neg (by decide), if_neg (by decide), hq]
  congr 1
  rw [Bool.eq_iff_iff]
  simp [and_assoc]
theorem eqGuardL : (Try.prog.eqGuardType Try.prog.depth 44 = false) = True := eq_true (by kernel_rfl)
theorem eqLays_ok (a b : List Lay) (hla : a.length < 9223372036854775807) : PureA Try.prog 57 [sliceOf cLay a, sliceOf cLay b] (.bool (decide (a = b))) := by
  refine PureA.of_wpp {} 24 mixed Try.func57 (by kernel_rfl) rfl (by kernel_rfl) (rfl) fun h j hB => ?_
  simp only [junk_succ, junk_zero, List.cons_append, List.nil_append, List.length_cons, List.length_nil, Nat.reduceAdd]
  simp (implicitDefEqProofs := false) (dsimp := false) only [go_sem]
  refine ⟨fun e => ?_, fun e => ?_⟩
  · symm
    rw [decide_eq_false_iff_not]
    rintro rfl
    simp at e
  have e1 : a.length = b.length := by simp at e; omega
  refine WP.loopI (fun (i : Nat) s => (i ≤ a.length ∧ a.take i = b.take i) ∧ s.sl.length = 26 ∧ s.df = [] ∧ s.gh = {} ∧ (s.hp = h) ∧ evA s.sl (.tmp 0) = sliceOf cLay a ∧ evA s.sl (.tmp 1) = sliceOf cLay b ∧ evA s.sl (.tmp 5) = .int .i64 i) (fun (i : Nat) => a.length - i) (0) ?_ ?_
  · simp (implicitDefEqProofs := false) (dsimp := false) only [go_sem, Nat.zero_le, List.take_zero]
  · rintro i ⟨sl, df, hp, gh⟩ ⟨xb, xl, rfl, rfl, rfl, x0, x1, x5⟩
    simp only at xb xl x0 x1 x5
    obtain ⟨j, rfl⟩ := slots_lit xl; clear xl; simp only [junk_succ, junk_zero, evA_tmp, nth_16, nth_four, nth_one, nth_zero, Nat.zero_add, Nat.reduceAdd] at  x0 x1 x5 ⊢
    refine wp_ok (so := {}) mixed _ (by kernel_rfl) ?_
    obtain ⟨h1, e2⟩ := xb
    by_cases hi : i < a.length
    · have hib : i < b.length := by omega
      simp (implicitDefEqProofs := false) (dsimp := false) only [go_sem, x0, x1, x5, rowN cLay_len hi, rowN cLay_len hib, rowN_le cLay_len hi, rowN_le cLay_len hib, nat_lt hi, decide_true, wrap_succ (show i < 9223372036854775807 by omega), cLay, eqLay, eqGuardL]
      refine ⟨by omega, fun e => ?_, fun e => ?_⟩
      · symm
        rw [decide_eq_false_iff_not]
        rintro rfl
        simp at e
      · have e3 : a[i] = b[i] := by simp at e; obtain ⟨q1, q2, q3, q4⟩ := e; cases ha : a[i]; cases hb : b[i]; simp_all
        exact ⟨i + 1, ⟨⟨hi, by rw [take_eq_succ hi hib e2]; exact e3⟩, rfl⟩, by omega⟩
    · have hs : ((i : Int) < (a.length : Int)) = False := eq_false (by omega)
      simp (implicitDefEqProofs := false) (dsimp := false) only [go_sem, x0, x1, x5, hs, decide_false]
      have : i = a.length := by omega
      subst this
      rw [List.take_length, e1, List.take_length] at e2
      simp [e2]
def openL : List Lay := [⟨0, false, 0, 0⟩, ⟨1, false, 0, -1⟩, ⟨1, false, 0, 0⟩, ⟨1, true, -1, -1⟩, ⟨2, false, 0, -1⟩, ⟨2, false, 0, 0⟩]
def extraP : List (List UInt8) := [[98, 100], [45, 105]]
theorem slice_map {α β : Type} (f : α → β) (g : β → List AV) (l : List α) : sliceOf g (l.map f) = sliceOf (fun x => g (f x)) l := by
  simp only [sliceOf, List.length_map, List.flatMap_map]
theorem Lays_open : PureA Try.prog 22 [.agg (brdA openB)] (.tup [sliceOf cLay openL, .int .i64 0]) := by
  have := Lays_ok openB
  rw [open_valid, show unlessErr 0 (sliceOf cLayF (laysB openB)) = sliceOf cLay openL by rw [openL, ← open_lays, slice_map]; rfl] at this
  exact this
theorem Emend_extra (h : List Blk) : QuietAt 27 [.agg (brdA extraB), .int .i64 0] h (.tup [sliceOf cStr extraP, .int .i64 1, .agg [.int .i64 0, .bool false, .int .i64 0, .int .i64 0], .int .i64 0]) := by
  have := Emend_ok extraB 0
  rw [extra_emend] at this
  exact QuietAt.of this h
theorem Next_open : PureA Try.prog 39 [.agg (brdA openB)] (.tup [.int .i64 0, .int .i64 0, .int .i64 2, .int .i64 0]) := by
  have := Next_ok openB
  rw [open_next] at this
  exact this
theorem Alike_open : PureA Try.prog 42 [.agg (brdA openB)] (.tup [sliceOf cPair [(0, 1)], .int .i64 0]) := by
  have := Alike_ok openB
  rw [open_alike, open_valid] at this
  exact this
theorem Double_extra (h : List Blk) (hro : h[0]? = some (.role true)) : QuietAt 38 [.agg (brdA extraB), .int .i64 0, .int .i64 1] h (.tup [.int .i64 3, .int .i64 0]) := by
  have := Double_ok extraB 0 1 h hro
  rw [extra_double] at this
  exact this
theorem Turn_4 : PureA Try.prog 30 [.int .i64 4] (.tup [.int .i64 2, .int .i64 0]) := turn_ok 4
section
variable {P : Program} {so : Opt} {ops : Array Oper} {h : List Blk} {K : List AV → Prop} {sl : List AV}
theorem quietL_app1 {o : Oper} {l r : List Oper} : quietL P so ops h (List.append (o :: l) r) K sl = quietL P so ops h (o :: List.append l r) K sl := rfl
theorem quietL_app0 {r : List Oper} : quietL P so ops h (List.append [] r) K sl = quietL P so ops h r K sl := rfl
end
attribute [go_sem ↓] quietL_app1 quietL_app0
theorem app_get0 {α : Type} {a : α} {l r : List α} : (List.append (a :: l) r)[0]? = some a := rfl
theorem app_getS {α : Type} {a : α} {l r : List α} {i : Nat} : (List.append (a :: l) r)[i + 1]? = (List.append l r)[i]? := rfl
theorem app_getN {α : Type} {r : List α} {i : Nat} : (List.append [] r)[i]? = r[i]? := rfl
attribute [go_sem ↓] app_get0 app_getS app_getN
theorem lay_lit (p d r : Int) : PureA Try.prog 54 [.int .i64 p, .int .i64 d, .int .i64 r] (.agg [.int .i64 p, .bool false, .int .i64 d, .int .i64 r]) := lay_ok p d r
theorem half_lit (p d r : Int) : PureA Try.prog 55 [.int .i64 p, .int .i64 d, .int .i64 r] (.agg [.int .i64 p, .bool true, .int .i64 d, .int .i64 r]) := half_ok p d r
theorem eqLays_open : PureA Try.prog 57 [.psl (openL.flatMap cLay) openL.length, .psl [.int .i64 0, .bool false, .int .i64 0, .int .i64 0, .int .i64 1, .bool false, .int .i64 0, .int .i64 (-1), .int .i64 1, .bool false, .int .i64 0, .int .i64 0, .int .i64 1, .bool true, .int .i64 (-1), .int .i64 (-1), .int .i64 2, .bool false, .int .i64 0, .int .i64 (-1), .int .i64 2, .bool false, .int .i64 0, .int .i64 0] 6] (.bool true) := by
  have := eqLays_ok openL openL (by decide)
  rw [show decide (openL = openL) = true by simp] at this
  exact this
theorem eqStrings_extra : PureA Try.prog 59 [.psl (extraP.flatMap cStr) extraP.length, .psl [.str [98, 100], .str [45, 105]] 2] (.bool true) := by
  have := eqStrings_ok extraP extraP (by decide) (by decide) (by decide)
  rw [show (extraP == extraP) = true by decide] at this
  exact this
theorem eqLists_open : PureA Try.prog 43 [.psl ([((0 : Int), (1 : Int))].flatMap cPair) 1, .psl [.psl [.int .i64 0, .int .i64 1] 2] 1] (.bool true) := by
  have := eqLists_ok [[0, 1]] [[0, 1]] (by decide) (by decide)
  exact this
theorem pressed_ok (h : List Blk) (hro : h[0]? = some (.role true)) : QuietAt 26 [] h (.bool true) := by
  unfold QuietAt
  refine CallsA.of_wpe [] { shut := [109, 114, 119, 120], cut := [52, 56, 60, 64, 68, 72, 76, 81, 85, 89, 93, 97, 101, 112, 117] } 123 mixed Try.func26 (by kernel_rfl) rfl (by kernel_rfl) fun j hB hA => ?_; simp only [junk_succ, junk_zero, List.cons_append, List.nil_append, List.length_cons, List.length_nil, Nat.reduceAdd]
  simp (implicitDefEqProofs := false) (dsimp := false) only [go_sem]
  (first | refine CallsA.use (openB_ok) ?_ | refine QuietCalls.use (openB_ok) ?_)
  simp (implicitDefEqProofs := false) (dsimp := false) only [go_sem]
  (first | refine CallsA.use (Lays_open) ?_ | refine QuietCalls.use (Lays_open) ?_)
  simp (implicitDefEqProofs := false) (dsimp := false) only [go_sem]
  (first | refine CallsA.use (extraB_ok) ?_ | refine QuietCalls.use (extraB_ok) ?_)
  simp (implicitDefEqProofs := false) (dsimp := false) only [go_sem]
  refine QuietAt.use (Emend_extra _) ?_
  simp (implicitDefEqProofs := false) (dsimp := false) only [go_sem]
  (first | refine CallsA.use (extraB_ok) ?_ | refine QuietCalls.use (extraB_ok) ?_)
  simp (implicitDefEqProofs := false) (dsimp := false) only [go_sem]
  refine QuietAt.use (Double_extra _ (by rw [List.getElem?_append_left (List.getElem?_eq_some_iff.1 hro).1]; exact hro)) ?_
  simp (implicitDefEqProofs := false) (dsimp := false) only [go_sem]
  (first | refine CallsA.use (openB_ok) ?_ | refine QuietCalls.use (openB_ok) ?_)
  simp (implicitDefEqProofs := false) (dsimp := false) only [go_sem]
  (first | refine CallsA.use (Next_open) ?_ | refine QuietCalls.use (Next_open) ?_)
  simp (implicitDefEqProofs := false) (dsimp := false) only [go_sem]
  (first | refine CallsA.use (openB_ok) ?_ | refine QuietCalls.use (openB_ok) ?_)
  simp (implicitDefEqProofs := false) (dsimp := false) only [go_sem]
  (first | refine CallsA.use (Alike_open) ?_ | refine QuietCalls.use (Alike_open) ?_)
  simp (implicitDefEqProofs := false) (dsimp := false) only [go_sem]
  (first | refine CallsA.use (Turn_4) ?_ | refine QuietCalls.use (Turn_4) ?_)
  simp (implicitDefEqProofs := false) (dsimp := false) only [go_sem, eqLay, eqGuardL]
  (first | refine CallsA.use (lay_lit 0 0 0) ?_ | refine QuietCalls.use (lay_lit 0 0 0) ?_)
  simp (implicitDefEqProofs := false) (dsimp := false) only [go_sem, eqLay, eqGuardL, eq_self, decide_true]
  (first | refine CallsA.use (lay_lit 0 0 0) ?_ | refine QuietCalls.use (lay_lit 0 0 0) ?_)
  simp (implicitDefEqProofs := false) (dsimp := false) only [go_sem]
  (first | refine CallsA.use (lay_lit 1 0 (-1)) ?_ | refine QuietCalls.use (lay_lit 1 0 (-1)) ?_)
  simp (implicitDefEqProofs := false) (dsimp := false) only [go_sem]
  (first | refine CallsA.use (lay_lit 1 0 0) ?_ | refine QuietCalls.use (lay_lit 1 0 0) ?_)
  simp (implicitDefEqProofs := false) (dsimp := false) only [go_sem]
  (first | refine CallsA.use (half_lit 1 (-1) (-1)) ?_ | refine QuietCalls.use (half_lit 1 (-1) (-1)) ?_)
  simp (implicitDefEqProofs := false) (dsimp := false) only [go_sem]
  (first | refine CallsA.use (lay_lit 2 0 (-1)) ?_ | refine QuietCalls.use (lay_lit 2 0 (-1)) ?_)
  simp (implicitDefEqProofs := false) (dsimp := false) only [go_sem]
  (first | refine CallsA.use (lay_lit 2 0 0) ?_ | refine QuietCalls.use (lay_lit 2 0 0) ?_)
  simp (implicitDefEqProofs := false) (dsimp := false) only [go_sem]
  (first | refine CallsA.use (eqLays_open) ?_ | refine QuietCalls.use (eqLays_open) ?_)
  simp (implicitDefEqProofs := false) (dsimp := false) only [go_sem]
  (first | refine CallsA.use (eqStrings_extra) ?_ | refine QuietCalls.use (eqStrings_extra) ?_)
  simp (implicitDefEqProofs := false) (dsimp := false) only [go_sem]
  (first | refine CallsA.use (eqLists_open) ?_ | refine QuietCalls.use (eqLists_open) ?_)
  simp (implicitDefEqProofs := false) (dsimp := false) only [go_sem]
  exact quiet_fine hB rfl
end Go.Mac
namespace Go.Mac
open Go Go.Conc Go.Proofs
set_option maxRecDepth 4000
def leftA : Option (List Int) → AV
  | none => .nilsl
  | some l => ints l
def diceB (r : Option (List Int)) (x : Int) : Blk := .cells 0 [leftA r, .int .u64 x]
def isU64 (x : Int) : Prop := 0 ≤ x ∧ x < 18446744073709551616
theorem wrapU (n : Int) : isU64 (IntKind.u64.wrap n) := by
  have e : IntKind.u64.wrap n = n % 18446744073709551616 := by
    simp [IntKind.wrap, IntKind.bits, IntKind.signed]
  rw [isU64, e]; omega
theorem xorU (a b : Int) : isU64 (xorK .u64 a b) := wrapU _
theorem shr32 {x : Int} (h : isU64 x) : 0 ≤ shrK .u64 x 32 ∧ shrK .u64 x 32 < 4294967296 := by
  have e : shrK .u64 x 32 = x / 4294967296 := by
    unfold shrK
    rw [show min (32 : Int).toNat IntKind.u64.bits = 32 by decide, show (2 : Int) ^ 32 = 4294967296 by decide, Int.fdiv_eq_ediv_of_nonneg _ (by decide)]
  rw [e]; unfold isU64 at h; omega
theorem leftA_below (r : Option (List Int)) (n : Nat) : below n (leftA r) = true := by
  cases r with
  | none => rfl
  | some l => exact below_mono (Nat.zero_le n) _ (below_psl (f := cInt) (fun _ => rfl) l)
theorem diceB_below (r : Option (List Int)) (x : Int) (n : Nat) : belowBlk n (diceB r x) = true := by
  simp only [diceB, belowBlk, belowL, leftA_below, below, Bool.and_self]
theorem all_set {P : Blk → Bool} {h : List Blk} {i : Nat} {b : Blk} (hh : h.all P = true) (hb : P b = true) : (h.set i b).all P = true := by
  rw [List.all_eq_true] at *
  intro x hx
  rcases List.mem_or_eq_of_mem_set hx with hx | rfl
  · exact hh x hx
  · exact hb
theorem set_end {h : List Blk} {i : Nat} {b : Blk} {v : AV} {Q : AEnd → List Blk → Prop} (hb : h.all (belowBlk h.length) = true) (hb2 : belowBlk h.length b = true) (hv : below h.length v = true) (hq : Q (.ret v) (h.set i b)) :
    ∃ v' n, v = v' ∧ h.length ≤ n ∧ below n v' = true ∧ ((h.set i b).take n).all (belowBlk n) = true ∧ Q (.ret v') ((h.set i b).take n) := by
  refine ⟨v, h.length, rfl, Nat.le_refl _, hv, ?_, ?_⟩ <;> rw [List.take_of_length_le (by simp)]
  · exact all_set hb hb2
  · exact hq
def Rolls (f : FuncId) (args : List AV) (h : List Blk) (i : Nat) (A : AV → Prop) : Prop :=
  CallsA Try.prog f args h fun e h' => ∃ v r' x', e = .ret v ∧ A v ∧ h' = h.set i (diceB r' x')
theorem Rolls.use {f : FuncId} {args : List AV} {h : List Blk} {i : Nat} {A : AV → Prop} {Post : AEnd → List Blk → Prop} (c : Rolls f args h i A) (hp : ∀ v r' x', A v → Post (.ret v) (h.set i (diceB r' x'))) : CallsA Try.prog f args h Post := by
  refine CallsA.mono c ?_
  rintro _ _ ⟨v, r', x', rfl, q, rfl⟩
  exact hp v r' x' q
theorem rolls_end {h : List Blk} {i : Nat} {r : Option (List Int)} {x : Int} {v : AV} {A : AV → Prop} (hb : h.all (belowBlk h.length) = true) (hv : below h.length v = true) (hq : A v) :
    ∃ v' n, v = v' ∧ h.length ≤ n ∧ below n v' = true ∧ ((h.set i (diceB r x)).take n).all (belowBlk n) = true ∧ ∃ v1 r' x', AEnd.ret v' = .ret v1 ∧ A v1 ∧ (h.set i (diceB r x)).take n = h.set i (diceB r' x') :=
  set_end (Q := fun e h' => ∃ v1 r' x', e = .ret v1 ∧ A v1 ∧ h' = h.set i (diceB r' x')) hb (diceB_below r x _) hv ⟨v, r, x, rfl, hq, rfl⟩
def Det (f : FuncId) (args : Nat → List AV) (r : Option (List Int)) (x : Int) (A : AV → Prop) : Prop :=
  ∃ v r' x', A v ∧ ∀ h i, h[i]? = some (diceB r x) → CallsA Try.prog f (args i) h fun e h' => e = .ret v ∧ h' = h.set i (diceB r' x')
theorem Det.rolls {f : FuncId} {args : Nat → List AV} {r : Option (List Int)} {x : Int} {A : AV → Prop} {h : List Blk} {i : Nat} (c : Det f args r x A) (hi : h[i]? = some (diceB r x)) : Rolls f (args i) h i A := by
  obtain ⟨v, r', x', ha, c⟩ := c
  refine CallsA.mono (c h i hi) ?_
  rintro _ _ ⟨rfl, rfl⟩
  exact ⟨v, r', x', rfl, ha, rfl⟩
theorem det_end {h : List Blk} {i : Nat} {r : Option (List Int)} {x : Int} {v : AV} (hb : h.all (belowBlk h.length) = true) (hv : below h.length v = true) :
    ∃ v' n, v = v' ∧ h.length ≤ n ∧ below n v' = true ∧ ((h.set i (diceB r x)).take n).all (belowBlk n) = true ∧ (AEnd.ret v' = .ret v ∧ (h.set i (diceB r x)).take n = h.set i (diceB r x)) :=
  set_end (Q := fun e h' => e = .ret v ∧ h' = h.set i (diceB r x)) hb (diceB_below r x _) hv ⟨rfl, rfl⟩
def lastD (x more : Int) : Int :=
  let y := IntKind.u64.wrap (IntKind.u64.wrap (IntKind.u64.wrap (x + more) + 6364136223846793005) * 15074714826142052245)
  xorK .u64 y (shrK .u64 y 29)
def outD (x : Int) : Int := shrK .u64 (IntKind.u64.wrap (xorK .u64 x (shrK .u64 x 33) * 18397679294719823053)) 32
theorem roll_det (r : Option (List Int)) (x : Int) : Det 61 (fun i => [.ptr ⟨i, 0⟩ 0]) r x fun a => ∃ v, a = .int .u64 v ∧ (0 ≤ v ∧ v < 4294967296) := by
  unfold Det
  rcases r with _ | _ | ⟨a, l⟩
  · refine ⟨.int .u64 (outD (lastD x 0)), none, lastD x 0, ⟨_, rfl, shr32 (wrapU _)⟩, fun h i hi => ?g⟩
    case g =>
      have hl : i < h.length := (List.getElem?_eq_some_iff.1 hi).1
      have hs : ∀ b : Blk, (h.set i b)[i]? = some b := fun b => List.getElem?_set_self hl
      refine CallsA.of_wpe [] { tail := [(6, 11)] } 62 mixed Try.func61 (by kernel_rfl) rfl (by kernel_rfl) fun j hB hA => ?_; simp only [junk_succ, junk_zero, List.cons_append, List.nil_append, List.length_cons, List.length_nil, Nat.reduceAdd]
      simp (implicitDefEqProofs := false) (dsimp := false) only [go_sem, hi, diceB, leftA, hs, List.set_set]
      exact det_end (r := none) hB (by rfl)
  · refine ⟨.int .u64 (outD (lastD x 0)), some [], lastD x 0, ⟨_, rfl, shr32 (wrapU _)⟩, fun h i hi => ?g⟩
    case g =>
      have hl : i < h.length := (List.getElem?_eq_some_iff.1 hi).1
      have hs : ∀ b : Blk, (h.set i b)[i]? = some b := fun b => List.getElem?_set_self hl
      refine CallsA.of_wpe [] { tail := [(6, 11)] } 62 mixed Try.func61 (by kernel_rfl) rfl (by kernel_rfl) fun j hB hA => ?_; simp only [junk_succ, junk_zero, List.cons_append, List.nil_append, List.length_cons, List.length_nil, Nat.reduceAdd]
      simp (implicitDefEqProofs := false) (dsimp := false) only [go_sem, hi, diceB, leftA, hs, List.set_set, ints]
      exact det_end (r := some []) hB (by rfl)
  · refine ⟨.int .u64 (outD (lastD x (IntKind.u64.wrap a))), some l, lastD x (IntKind.u64.wrap a), ⟨_, rfl, shr32 (wrapU _)⟩, fun h i hi => ?g⟩
    case g =>
      have hl : i < h.length := (List.getElem?_eq_some_iff.1 hi).1
      have hs : ∀ b : Blk, (h.set i b)[i]? = some b := fun b => List.getElem?_set_self hl
      have h0 : (((l.length + 1 : Nat) : Int) > 0) = True := eq_true (by omega)
      have hfl : (l.flatMap cInt).length = l.length := by rw [length_rows cInt_len, Nat.mul_one]
      have htk : (l.flatMap cInt).take l.length = l.flatMap cInt := List.take_of_length_le (by omega)
      refine CallsA.of_wpe [] { tail := [(6, 11)] } 62 mixed Try.func61 (by kernel_rfl) rfl (by kernel_rfl) fun j hB hA => ?_; simp only [junk_succ, junk_zero, List.cons_append, List.nil_append, List.length_cons, List.length_nil, Nat.reduceAdd]
      simp (implicitDefEqProofs := false) (dsimp := false) only [go_sem, hi, diceB, leftA, hs, List.set_set, ints, List.flatMap_cons, cInt, h0, decide_true, hfl, htk, Nat.add_sub_cancel, Nat.le_refl]
      refine ⟨⟨by omega, by omega⟩, ?_⟩
      exact det_end (r := some l) hB (by rfl)
theorem To_det (r : Option (List Int)) (x n : Int) (hn : n ≤ 1000) : Det 19 (fun i => [.ptr ⟨i, 0⟩ 0, .int .i64 n]) r x fun a => ∃ v : Nat, a = .int .i64 v ∧ (v : Int) ≤ max n 0 := by
  unfold Det
  by_cases c : n ≤ 0
  · refine ⟨.int .i64 0, r, x, ⟨0, rfl, by omega⟩, fun h i hi => ?_⟩
    refine CallsA.of_wpe [] {} 13 mixed Try.func19 (by kernel_rfl) rfl (by kernel_rfl) fun j hB hA => ?_; simp only [junk_succ, junk_zero, List.cons_append, List.nil_append, List.length_cons, List.length_nil, Nat.reduceAdd]
    simp (implicitDefEqProofs := false) (dsimp := false) only [go_sem, eq_true c, decide_true]
    have := det_end (i := i) (r := r) (x := x) (v := .int .i64 0) hB rfl
    rw [set_same hi] at this ⊢
    exact this
  · obtain ⟨_, r', x', ⟨v, rfl, hv⟩, c1⟩ := roll_det r x
    have c' : 0 < n := by omega
    have e : IntKind.i64.wrap (shrK IntKind.u64 (IntKind.u64.wrap (v * IntKind.u64.wrap (IntKind.i64.wrap (n + 1)))) 32) = ((v * (n + 1) / 4294967296).toNat : Int) ∧ v * (n + 1) / 4294967296 ≤ n ∧ 0 ≤ v * (n + 1) / 4294967296 := by
      obtain ⟨m, rfl⟩ : ∃ m : Nat, n = m := ⟨n.toNat, by omega⟩
      obtain ⟨w, rfl⟩ : ∃ w : Nat, v = w := ⟨v.toNat, by omega⟩
      have h1 : w * (m + 1) ≤ 4294967295 * (m + 1) := Nat.mul_le_mul_right _ (by omega)
      have h2 : ((w : Int) * ((m : Int) + 1)) = ((w * (m + 1) : Nat) : Int) := by simp
      have eU : ∀ k : Int, 0 ≤ k → k < 18446744073709551616 → IntKind.u64.wrap k = k := by
        intro k a1 a2
        have e : IntKind.u64.wrap k = k % 18446744073709551616 := by simp [IntKind.wrap, IntKind.bits, IntKind.signed]
        rw [e]; omega
      have eS : ∀ k : Int, shrK .u64 k 32 = k / 4294967296 := by
        intro k
        unfold shrK
        rw [show min (32 : Int).toNat IntKind.u64.bits = 32 by decide, show (2 : Int) ^ 32 = 4294967296 by decide, Int.fdiv_eq_ediv_of_nonneg _ (by decide)]
      rw [show IntKind.i64.wrap ((m : Int) + 1) = (m : Int) + 1 from wrap64 (by omega) (by omega), eU ((m : Int) + 1) (by omega) (by omega), h2]
      generalize w * (m + 1) = z at *
      rw [eU (z : Int) (by omega) (by omega), eS, wrap64 (by omega) (by omega)]
      omega
    refine ⟨.int .i64 ((v * (n + 1) / 4294967296).toNat : Nat), r', x', ⟨_, rfl, by omega⟩, fun h i hi => ?_⟩
    refine CallsA.of_wpe [] {} 13 mixed Try.func19 (by kernel_rfl) rfl (by kernel_rfl) fun j hB hA => ?_; simp only [junk_succ, junk_zero, List.cons_append, List.nil_append, List.length_cons, List.length_nil, Nat.reduceAdd]
    simp (implicitDefEqProofs := false) (dsimp := false) only [go_sem, eq_false c, decide_false]
    refine CallsA.mono (c1 h i hi) ?_
    rintro _ _ ⟨rfl, rfl⟩
    simp (implicitDefEqProofs := false) (dsimp := false) only [go_sem]
    rw [e.1]
    exact det_end hB rfl
theorem Once_det (r : Option (List Int)) (x n : Int) (hn0 : 0 ≤ n) (hn : n ≤ 1000) : Det 20 (fun i => [.ptr ⟨i, 0⟩ 0, .int .i64 n]) r x fun a => ∃ v : Bool, a = .bool v := by
  unfold Det
  obtain ⟨_, r', x', ⟨v, rfl, hv⟩, c1⟩ := To_det r x (n - 1) (by omega)
  apply Exists.intro
  refine ⟨r', x', ?a, fun h i hi => ?g⟩
  case g =>
    refine CallsA.of_wpe [] {} 10 mixed Try.func20 (by kernel_rfl) rfl (by kernel_rfl) fun j hB hA => ?_; simp only [junk_succ, junk_zero, List.cons_append, List.nil_append, List.length_cons, List.length_nil, Nat.reduceAdd]
    simp (implicitDefEqProofs := false) (dsimp := false) only [go_sem, show IntKind.i64.wrap (n - 1) = n - 1 from wrap64 (by omega) (by omega)]
    refine CallsA.mono (c1 h i hi) ?_
    rintro _ _ ⟨rfl, rfl⟩
    simp (implicitDefEqProofs := false) (dsimp := false) only [go_sem]
    exact det_end hB (by rfl)
  case a => exact ⟨_, rfl⟩
theorem One_det (r : Option (List Int)) (x : Int) (l : List Int) (hn0 : 0 < l.length) (hn : l.length ≤ 1000) : Det 21 (fun i => [.ptr ⟨i, 0⟩ 0, ints l]) r x fun a => ∃ v ∈ l, a = .int .i64 v := by
  unfold Det
  obtain ⟨_, r', x', ⟨v, rfl, hv⟩, c1⟩ := To_det r x ((l.length : Int) - 1) (by omega)
  have hl : v < l.length := by omega
  refine ⟨_, r', x', ⟨_, List.getElem_mem hl, rfl⟩, fun h i hi => ?_⟩
  refine CallsA.of_wpe [] {} 11 mixed Try.func21 (by kernel_rfl) rfl (by kernel_rfl) fun j hB hA => ?_; simp only [junk_succ, junk_zero, List.cons_append, List.nil_append, List.length_cons, List.length_nil, Nat.reduceAdd]
  simp (implicitDefEqProofs := false) (dsimp := false) only [go_sem, ints, show IntKind.i64.wrap ((l.length : Int) - 1) = (l.length : Int) - 1 from wrap64 (by omega) (by omega)]
  refine CallsA.mono (c1 h i hi) ?_
  rintro _ _ ⟨rfl, rfl⟩
  simp (implicitDefEqProofs := false) (dsimp := false) only [go_sem, row1 cInt_len hl, row1_le cInt_len hl, cInt, nat_lt hl]
  exact det_end hB rfl
theorem From_det (r : Option (List Int)) (x lo hi' : Int) (h1 : -1000 ≤ lo) (h2 : lo ≤ hi') (h3 : hi' ≤ 1000) (h4 : hi' - lo ≤ 1000) : Det 77 (fun i => [.ptr ⟨i, 0⟩ 0, .int .i64 lo, .int .i64 hi']) r x fun a => ∃ v : Int, a = .int .i64 v ∧ lo ≤ v ∧ v ≤ hi' := by
  unfold Det
  obtain ⟨_, r', x', ⟨v, rfl, hv⟩, c1⟩ := To_det r x (hi' - lo) (by omega)
  refine ⟨.int .i64 (lo + v), r', x', ⟨_, rfl, by omega, by omega⟩, fun h i hi => ?_⟩
  refine CallsA.of_wpe [] {} 11 mixed Try.func77 (by kernel_rfl) rfl (by kernel_rfl) fun j hB hA => ?_; simp only [junk_succ, junk_zero, List.cons_append, List.nil_append, List.length_cons, List.length_nil, Nat.reduceAdd]
  simp (implicitDefEqProofs := false) (dsimp := false) only [go_sem, show IntKind.i64.wrap (hi' - lo) = hi' - lo from wrap64 (by omega) (by omega)]
  refine CallsA.mono (c1 h i hi) ?_
  rintro _ _ ⟨rfl, rfl⟩
  simp (implicitDefEqProofs := false) (dsimp := false) only [go_sem]
  rw [show IntKind.i64.wrap (lo + v) = lo + v from wrap64 (by omega) (by omega)]
  exact det_end hB rfl
theorem To_ok (h : List Blk) (i : Nat) (r : Option (List Int)) (x n : Int) (hn : n ≤ 1000) (hi : h[i]? = some (diceB r x)) : Rolls 19 [.ptr ⟨i, 0⟩ 0, .int .i64 n] h i fun a => ∃ v : Nat, a = .int .i64 v ∧ (v : Int) ≤ max n 0 := (To_det r x n hn).rolls hi
theorem Once_ok (h : List Blk) (i : Nat) (r : Option (List Int)) (x n : Int) (hn0 : 0 ≤ n) (hn : n ≤ 1000) (hi : h[i]? = some (diceB r x)) : Rolls 20 [.ptr ⟨i, 0⟩ 0, .int .i64 n] h i fun a => ∃ v : Bool, a = .bool v := (Once_det r x n hn0 hn).rolls hi
theorem One_ok (h : List Blk) (i : Nat) (r : Option (List Int)) (x : Int) (l : List Int) (hn0 : 0 < l.length) (hn : l.length ≤ 1000) (hi : h[i]? = some (diceB r x)) : Rolls 21 [.ptr ⟨i, 0⟩ 0, ints l] h i fun a => ∃ v ∈ l, a = .int .i64 v := (One_det r x l hn0 hn).rolls hi
theorem From_ok (h : List Blk) (i : Nat) (r : Option (List Int)) (x lo hi' : Int) (h1 : -1000 ≤ lo) (h2 : lo ≤ hi') (h3 : hi' ≤ 1000) (h4 : hi' - lo ≤ 1000) (hi : h[i]? = some (diceB r x)) : Rolls 77 [.ptr ⟨i, 0⟩ 0, .int .i64 lo, .int .i64 hi'] h i fun a => ∃ v : Int, a = .int .i64 v ∧ lo ≤ v ∧ v ≤ hi' := (From_det r x lo hi' h1 h2 h3 h4).rolls hi
end Go.Mac
namespace Go.Proofs.Ytdioclckllbhpaa
open Go.ChangeShapes Go.WideShapes Go.ChangeAt Go.RowKit Go.Conc Go.Mac
theorem own : ownKnob Try.prog.godebug = none := by kernel_rfl
theorem laidOut : laidOutB Try.prog = true := by kernel_rfl
theorem underI : Try.prog.underlying 22 = some (.slice 3) := by kernel_rfl
theorem under3 : Try.prog.underlying 3 = some (.int .i64) := by kernel_rfl
theorem under4 : Try.prog.underlying 4 = some .bool := by kernel_rfl
theorem cells3 : Try.prog.cellsOf 3 = 1 := by kernel_rfl
theorem row_VRL {c : Cx} {W : World} {b off : Nat} {arr : Array Value} {el : TypeId} {fz : Nat × Nat} (hb : W.heap[b]? = some (.cells arr el fz)) : ∀ (l : List Int) (o : Nat), (∀ j, j < l.length → W.cell? ⟨b, o + j, none⟩ = some (.int .i64 (l.getD j 0))) →
    ∃ vs : List Value, VRL c (l.flatMap cInt) vs ∧ vs <+: arr.toList.drop o
  | [], o, _ => ⟨[], rfl, List.nil_prefix⟩
  | n :: l, o, h => by
    have h0 := h 0 (by simp)
    obtain ⟨vs, h1, t, h2⟩ := row_VRL (c := c) (off := off) hb l (o + 1) (fun j hj => by have := h (j + 1) (by simpa using hj); simpa [Nat.add_assoc, Nat.add_comm 1 j] using this)
    refine ⟨.int .i64 n :: vs, ⟨_, _, rfl, rfl, h1⟩, t, ?_⟩
    simp only [World.cell?, hb, Nat.add_zero, Option.isSome_none, Bool.false_eq_true, if_false, List.getD_cons_zero] at h0
    have hl : o < arr.toList.length := by
      have := (Array.getElem?_eq_some_iff.1 h0).1
      simpa using this
    rw [List.drop_eq_getElem_cons hl]
    have e : arr.toList[o] = .int .i64 n := by
      have := (Array.getElem?_eq_some_iff.1 h0).2
      simpa using this
    rw [e, ← h2]
    rfl
set_option maxRecDepth 100000 in
theorem lifted {f : FuncId} {fn : Func} {s : ChangeSpec} {conds : List PathCond} {rb : Nat} (hfn : Try.checked.prog.funcs[f]? = some fn) (hpar : fn.params.toList = [22]) (hres : fn.resultTypes.toList = [4]) (hinit : Try.prog.inits.idxOf? f = none)
    (hvars : s.vars = []) (hsp : ∀ (H : Type) (d : DataW H), s.fn H [d] = { results := [.lit (.bool true)], args := [d] })
    (hc : ∀ r : Option (List Int), CallsA Try.prog f [leftA r] [.role true] fun e _ => e = .ret (.bool true))
    (os : Os) (started : os.Started) (H : Type) (enc : TypeId × Value → H)
    (hwit : ∃ (w : World) (tape : Tape) (i : Input), w.os = os ∧ (w.forCall tape i).Shaped Try.checked.prog ∧ i.vars = [] ∧ Input.okWide Try.checked.prog (w.forCall tape i) .any w.heap.size f i ∧
      s.pre6 enc Try.checked.prog fn conds false (w.forCall tape i).memory i.args ∧ ({} : Assume).holds Try.checked.prog (lone (Frame.enter Try.checked.prog f i.args .normal) [] (w.forCall tape i))) :
    ReturnsInLeavingWide {} Try.checked os f .any (s.pre6 enc Try.checked.prog fn conds false) (s.post enc Try.checked.prog fn false true false false) := by
  refine returnsInLeavingWide_of_change_sized (C := Try.checked) own started hfn hwit ?_
  intro W base args ds gs before hval hW _ _ _
  have hW' := hW
  obtain ⟨p, q, hA, hV, rfl, _, _⟩ := hW
  rw [hpar] at hA
  rw [hvars] at hV
  obtain ⟨v0, d0, rfl, rfl, h0⟩ := trodAll_one hA
  obtain ⟨rfl, rfl⟩ := trodVars_none hV
  have hp0 : fn.params[0]? = some 22 := by
    have := congrArg (fun l => l[0]?) hpar
    simpa using this
  have hok := hval 0 22 v0 hp0 rfl
  have h0k := h0
  obtain ⟨fuel, hf⟩ := h0
  simp only [List.append_nil] at hW'
  have hlt : ∀ x ∈ p, x.block < W.heap.size := fun x hx => by simpa using hW'.lt x hx
  have hargs : ∀ (W' : World), Below W.heap.size W W' → DataW.Trod enc Try.prog W' 0 (fun b => decide (b < W.heap.size)) true 22 v0 d0 p :=
    fun W' hn => Below.trod laidOut (by kernel_rfl) (of_decide_eq_true (by kernel_rfl)) h0k hn hlt
  have hnum : ∃ r : Option (List Int), VRL (Cx.start W) [leftA r] [v0] := by
    rcases open_ints underI under3 cells3 hf with ⟨hcs, _⟩ | ⟨a, len, cap, zs, hcs, _, hl, hm, hz, _, hcell, _⟩
    · have hv : v0 = .slice none 0 0 := by obtain ⟨a0, l0, c0, rfl⟩ := okWide_slice underI hok; simpa [Value.cells] using hcs
      subst hv
      exact ⟨none, _, _, rfl, rfl, rfl⟩
    · have hv : v0 = .slice (some a) len cap := by obtain ⟨a0, l0, c0, rfl⟩ := okWide_slice underI hok; simpa [Value.cells] using hcs
      subst hv
      simp only [Value.okWide, underI, Cell.okWide, Cell.ok] at hok
      obtain ⟨_, _, _, hspot, row, cells, hshape, _⟩ := hok
      obtain ⟨b, off, spot⟩ := a
      simp only at hspot
      subst hspot
      simp only [if_true] at hz
      unfold World.shape? at hshape
      split at hshape
      · rename_i arr el fz hb
        have hlen : len ≤ zs.length := by omega
        obtain ⟨vs, h1, h2⟩ := row_VRL (c := Cx.start W) (off := off) hb (zs.take len) off (fun j hj => by
          simp only [List.length_take] at hj
          have := hcell j (by omega)
          have ea : (⟨b, off, none⟩ : Addr).add j = ⟨b, off + j, none⟩ := by unfold Addr.add; split <;> simp_all
          rw [ea] at this
          show W.cell? ⟨b, off + j, none⟩ = _
          rw [this]
          simp [List.getD, List.getElem?_take_of_lt (show j < len by omega)])
        refine ⟨some (zs.take len), _, _, rfl, ?_, rfl⟩
        have hll : (zs.take len).length = len := by rw [List.length_take]; omega
        show VR (Cx.start W) (.psl ((zs.take len).flatMap cInt) (zs.take len).length) _
        rw [hll]
        exact .inr ⟨b, off, arr, el, fz, vs, cap, rfl, hl, hb, h1, h2⟩
      · cases hshape
  obtain ⟨r, hr⟩ := hnum
  obtain ⟨M, last, o, w', t', h1, h2, h3, h4⟩ := runs_of_calls (W := W) (args := #[v0]) hinit (hc r) hr
  refine ⟨M, last, o, w', t', h1, h2, h3, h4.mono fun v hF => ?_⟩
  obtain ⟨hbel, c, _, hv⟩ := hF
  have hv' : v = .bool true := hv
  subst hv'
  have hrs : fn.resultTypes.size = 1 := by
    have := congrArg List.length hres
    simpa using this
  have hrl : Value.resultList fn.resultTypes.size (.bool true) = [.bool true] := by rw [hrs]; rfl
  refine ⟨[d0], [], _, [], p, [], by simpa using hW', ?_, ?_, ?_, hbel.frame _, fun h => by cases h⟩
  · rw [hres, hrl, List.append_nil, hsp]; exact trodAll_mk1 (shut_bool under4 true)
  · rw [hpar, List.append_nil, hsp]; exact trodAll_mk1 (hargs _ hbel)
  · rw [hvars, List.append_nil, hsp]; rfl
end Go.Proofs.Ytdioclckllbhpaa
namespace Go.Mac
open Go Go.Conc Go.Proofs
set_option maxRecDepth 4000
theorem get_ahead {h k : List Blk} {i : Nat} {b : Blk} (hl : i < h.length) : (h.set i b ++ k)[i]? = some b := by
  rw [List.getElem?_append_left (by simpa using hl), List.getElem?_set_self hl]
theorem set_ahead {h k : List Blk} {i : Nat} {b b' : Blk} (hl : i < h.length) : (h.set i b ++ k).set i b' = h.set i b' ++ k := by
  rw [List.set_append_left _ _ (by simpa using hl), List.set_set]
theorem get_past {h k : List Blk} {i j : Nat} {b : Blk} : (h.set i b ++ k)[h.length + j]? = k[j]? := by
  have := hget (h.set i b) k j
  simpa using this
theorem set_past {h k : List Blk} {i j : Nat} {b c : Blk} : (h.set i b ++ k).set (h.length + j) c = h.set i b ++ k.set j c := by
  have := hset (h.set i b) k j c
  simpa using this
theorem get_past0 {h k : List Blk} {i : Nat} {b : Blk} : (h.set i b ++ k)[h.length]? = k[0]? := get_past (j := 0)
theorem set_past0 {h k : List Blk} {i : Nat} {b c : Blk} : (h.set i b ++ k).set h.length c = h.set i b ++ k.set 0 c := set_past (j := 0)
def okOrder (l : List Int) (n : Nat) : Prop := l.length = n ∧ (∀ v ∈ l, 0 ≤ v ∧ v < n) ∧ l.Nodup
theorem okOrder_ins {l : List Int} {n k : Nat} (h : okOrder l n) : okOrder (l.take k ++ (n : Int) :: l.drop k) (n + 1) := by
  obtain ⟨h1, h2, h3⟩ := h
  refine ⟨by simp; omega, ?_, ?_⟩
  · intro v hv
    rw [List.mem_append, List.mem_cons] at hv
    rcases hv with hv | rfl | hv
    · have := h2 v (List.mem_of_mem_take hv); omega
    · omega
    · have := h2 v (List.mem_of_mem_drop hv); omega
  · have hn : (n : Int) ∉ l := fun hm => by have := h2 _ hm; omega
    have h4 := h3
    rw [← List.take_append_drop k l, List.nodup_append] at h4
    obtain ⟨q1, q2, q3⟩ := h4
    rw [List.nodup_append]
    refine ⟨q1, List.nodup_cons.2 ⟨fun hm => hn (List.mem_of_mem_drop hm), q2⟩, ?_⟩
    intro a ha b hb
    rcases List.mem_cons.1 hb with rfl | hb
    · rintro rfl; exact hn (List.mem_of_mem_take ha)
    · exact q3 a ha b hb
theorem Order_ok (h : List Blk) (i : Nat) (r : Option (List Int)) (x : Int) (n : Nat) (hn : n ≤ 100) (hi : h[i]? = some (diceB r x)) : Rolls 108 [.ptr ⟨i, 0⟩ 0, .int .i64 n] h i fun a => ∃ l, a = ints l ∧ okOrder l n := by
  have hl : i < h.length := (List.getElem?_eq_some_iff.1 hi).1
  unfold Rolls
  refine CallsA.of_wpe [4] { shut := [18] } 37 mixed Try.func108 (by kernel_rfl) rfl (by kernel_rfl) fun j hB hA => ?_; simp only [junk_succ, junk_zero, List.cons_append, List.nil_append, List.length_cons, List.length_nil, Nat.reduceAdd]
  simp (implicitDefEqProofs := false) (dsimp := false) only [go_sem]
  refine WPI.turn (Turns.nilSlot (d := 5) (sz := 1) ?_) ?_
  · simp (implicitDefEqProofs := false) (dsimp := false) only [go_sem]
  simp (implicitDefEqProofs := false) (dsimp := false) only [go_sem]
  refine WP.loopI (fun (m : Nat) s => (m ≤ n) ∧ s.sl.length = 39 ∧ s.df = [] ∧ s.gh = {} ∧ (∃ l r x, okOrder l m ∧ s.hp = h.set i (diceB r x) ++ [.cells m (l.flatMap cInt)]) ∧ evA s.sl (.tmp 0) = .ptr ⟨i, 0⟩ 0 ∧ evA s.sl (.tmp 1) = .int .i64 n ∧ evA s.sl (.tmp 5) = .sl ⟨h.length, m⟩ 1 0 m ∧ evA s.sl (.tmp 6) = .int .i64 m) (fun (m : Nat) => n - m) (0) ?_ ?_
  · simp (implicitDefEqProofs := false) (dsimp := false) only [go_sem, Nat.zero_le]
    refine ⟨[], r, x, ⟨rfl, by simp, .nil⟩, ?_⟩
    rw [set_same hi]
    rfl
  · rintro m ⟨sl, df, hp, gh⟩ ⟨ab, al, rfl, rfl, ah, a0, a1, a5, a6⟩
    simp only at ab al ah a0 a1 a5 a6
    obtain ⟨j, rfl⟩ := slots_lit al; clear al; simp only [junk_succ, junk_zero, evA_tmp, nth_16, nth_four, nth_one, nth_zero, Nat.zero_add, Nat.reduceAdd] at  a0 a1 a5 a6 ⊢
    refine wp_ok (so := { shut := [18] }) mixed _ (by kernel_rfl) ?_
    obtain ⟨l, r, x, hok, rfl⟩ := ah
    by_cases hm : m < n
    · simp (implicitDefEqProofs := false) (dsimp := false) only [go_sem, a0, a1, a5, a6, nat_lt hm, decide_true]
      refine Rolls.use (To_ok _ i r x m (by omega) (get_ahead hl)) ?_
      rintro _ r' x' ⟨v, rfl, hv⟩
      rw [set_ahead hl]
      have hlen : (l.flatMap cInt).length = m := by rw [length_rows cInt_len, Nat.mul_one, hok.1]
      simp (implicitDefEqProofs := false) (dsimp := false) only [go_sem, a0, a1, a5, a6, get_past0, set_past0, hlen]
      refine ⟨by omega, ?_⟩
      refine WP.loopI (fun (k : Nat) s => (v ≤ k ∧ k ≤ m) ∧ s.sl.length = 39 ∧ s.df = [] ∧ s.gh = {} ∧ (∃ y, s.hp = h.set i (diceB r' x') ++ [.cells (m + 1) ((l.take k ++ y :: l.drop k).flatMap cInt)]) ∧ evA s.sl (.tmp 0) = .ptr ⟨i, 0⟩ 0 ∧ evA s.sl (.tmp 1) = .int .i64 n ∧ evA s.sl (.tmp 5) = .sl ⟨h.length, m + 1⟩ 1 0 (m + 1) ∧ evA s.sl (.tmp 6) = .int .i64 m ∧ evA s.sl (.tmp 7) = .int .i64 v ∧ evA s.sl (.tmp 8) = .int .i64 k) (fun (k : Nat) => k - v) (m) ?_ ?_
      · simp (implicitDefEqProofs := false) (dsimp := false) only [go_sem]
        refine ⟨⟨by omega, Nat.le_refl _⟩, 0, ?_⟩
        rw [List.take_of_length_le (by rw [hok.1]; exact Nat.le_refl _), List.drop_of_length_le (by rw [hok.1]; exact Nat.le_refl _)]
        simp [cInt]
      · rintro k ⟨sl, df, hp, gh⟩ ⟨bb, bl, rfl, rfl, bh, b0, b1, b5, b6, b7, b8⟩
        simp only at bb bl bh b0 b1 b5 b6 b7 b8
        obtain ⟨j, rfl⟩ := slots_lit bl; clear bl; simp only [junk_succ, junk_zero, evA_tmp, nth_16, nth_four, nth_one, nth_zero, Nat.zero_add, Nat.reduceAdd] at  b0 b1 b5 b6 b7 b8 ⊢
        refine wp_ok (so := { shut := [18] }) mixed _ (by kernel_rfl) ?_
        obtain ⟨y, rfl⟩ := bh
        by_cases hk : v < k
        · have h1 : ((k : Int) > (v : Int)) = True := eq_true (by omega)
          obtain ⟨k, rfl⟩ : ∃ k', k = k' + 1 := ⟨k - 1, by omega⟩
          have hkl : k < l.length := by rw [hok.1]; omega
          have hw : IntKind.i64.wrap (((k + 1 : Nat) : Int) - 1) = (k : Int) := by rw [wrap64 (by omega) (by omega)]; omega
          have hL : (l.take (k + 1) ++ y :: l.drop (k + 1)).flatMap cInt = (l.take k).flatMap cInt ++ .int .i64 l[k] :: .int .i64 y :: (l.drop (k + 1)).flatMap cInt := by
            rw [List.take_succ_eq_append_getElem hkl]
            simp only [List.flatMap_append, List.flatMap_cons, List.flatMap_nil, cInt, List.append_assoc, List.cons_append, List.nil_append]
          have hA : ((l.take k).flatMap cInt).length = k := by rw [length_rows cInt_len, Nat.mul_one, List.length_take]; omega
          have hd : ∀ rest : List AV, ((l.take k).flatMap cInt ++ rest).drop k = rest := fun rest => List.drop_left' hA
          have ht : ∀ (a b c : AV) (rest : List AV), setMany ((l.take k).flatMap cInt ++ a :: b :: rest) (k + 1) [c] = (l.take k).flatMap cInt ++ a :: c :: rest := by
            intro a b c rest
            simp only [setMany]
            rw [List.set_append_right _ _ (by omega), hA, Nat.add_sub_cancel_left]
            rfl
          simp (implicitDefEqProofs := false) (dsimp := false) only [go_sem, b0, b1, b5, b6, b7, b8, h1, decide_true, get_past0, set_past0, hw, hL, hd, ht]
          have hB2 : ((l.drop (k + 1)).flatMap cInt).length = l.length - (k + 1) := by rw [length_rows cInt_len, Nat.mul_one, List.length_drop]
          refine ⟨by omega, by omega, by omega, k, ⟨⟨by omega, by omega⟩, ⟨l[k], ?_⟩, rfl⟩, by omega⟩
          have := ht (.int .i64 l[k]) (.int .i64 y) (.int .i64 l[k]) ((l.drop (k + 1)).flatMap cInt)
          simp only [setMany] at this
          rw [this, List.drop_eq_getElem_cons hkl]
          simp only [List.flatMap_append, List.flatMap_cons, cInt, List.cons_append, List.nil_append]
        · have h1 : ((k : Int) > (v : Int)) = False := eq_false (by omega)
          have e : k = v := by omega
          subst e
          simp (implicitDefEqProofs := false) (dsimp := false) only [go_sem, b0, b1, b5, b6, b7, b8, h1, decide_false, get_past0, set_past0]
          have hkl : k ≤ l.length := by rw [hok.1]; omega
          have hA : ((l.take k).flatMap cInt).length = k := by rw [length_rows cInt_len, Nat.mul_one, List.length_take]; omega
          have hL : ((l.take k ++ y :: l.drop k).flatMap cInt).set k (.int .i64 m) = (l.take k ++ (m : Int) :: l.drop k).flatMap cInt := by
            simp only [List.flatMap_append, List.flatMap_cons, cInt, List.cons_append, List.nil_append]
            rw [List.set_append_right _ _ (by omega), hA, Nat.sub_self]
            rfl
          refine ⟨by omega, ?_, m + 1, ⟨by omega, ⟨_, r', x', okOrder_ins (k := k) hok, ?_⟩, rfl, wrap_succ (by omega)⟩, by omega⟩
          · rw [length_rows cInt_len, Nat.mul_one]; simp; omega
          · rw [hL]
    · have hs : ((m : Int) < (n : Int)) = False := eq_false (by omega)
      have e : m = n := by omega
      subst e
      have hlen : (l.flatMap cInt).length = m := by rw [length_rows cInt_len, Nat.mul_one, hok.1]
      simp (implicitDefEqProofs := false) (dsimp := false) only [go_sem, a0, a1, a5, a6, hs, decide_false, get_past0, set_past0]
      rw [List.take_of_length_le (by omega)]
      refine ⟨_, h.length, rfl, Nat.le_refl _, ?_, ?_, ⟨_, r, x, rfl, ⟨l, by rw [hok.1], hok⟩, ?_⟩⟩
      · exact below_mono (Nat.zero_le _) _ (below_psl (f := cInt) (fun _ => rfl) l)
      · rw [List.take_left' (by simp)]
        exact all_set hB (diceB_below _ _ _)
      · rw [List.take_left' (by simp)]
end Go.Mac
namespace Go.Mac
open Go Go.Conc Go.Proofs
set_option maxRecDepth 4000
theorem get_left {h k : List Blk} {i : Nat} {b : Blk} (hi : h[i]? = some b) : (h ++ k)[i]? = some b := by
  rw [List.getElem?_append_left (List.getElem?_eq_some_iff.1 hi).1]; exact hi
theorem set_left {h k : List Blk} {i : Nat} {b : Blk} (hl : i < h.length) : (h ++ k).set i b = h.set i b ++ k := List.set_append_left _ _ hl
theorem rolls_endK {h k : List Blk} {i : Nat} {r : Option (List Int)} {x : Int} {v : AV} {A : AV → Prop} (hb : h.all (belowBlk h.length) = true) (hv : below h.length v = true) (hq : A v) :
    ∃ v' n, v = v' ∧ h.length ≤ n ∧ below n v' = true ∧ ((h.set i (diceB r x) ++ k).take n).all (belowBlk n) = true ∧ ∃ v1 r' x', AEnd.ret v' = .ret v1 ∧ A v1 ∧ (h.set i (diceB r x) ++ k).take n = h.set i (diceB r' x') := by
  refine ⟨v, h.length, rfl, Nat.le_refl _, hv, ?_, v, r, x, rfl, hq, ?_⟩
  · rw [List.take_left' (by simp)]; exact all_set hb (diceB_below _ _ _)
  · rw [List.take_left' (by simp)]
structure okLay (l : Lay) (pages : Nat) : Prop where
  p0 : 0 ≤ l.page
  p1 : l.page < pages
  d : -1 ≤ l.down ∧ l.down ≤ 1
  r : -1 ≤ l.right ∧ l.right ≤ 1
theorem mem3 {v a : Int} (h : v ∈ [0, 0, a]) (ha : -1 ≤ a ∧ a ≤ 1) : -1 ≤ v ∧ v ≤ 1 := by
  simp at h; omega
theorem LayOf_ok (h : List Blk) (i : Nat) (r : Option (List Int)) (x : Int) (n : Nat) (hn : n ≤ 100) (hn0 : 0 < n) (hi : h[i]? = some (diceB r x)) : Rolls 45 [.ptr ⟨i, 0⟩ 0, .int .i64 n] h i fun a => ∃ l, a = .agg (cLay l) ∧ okLay l n := by
  have hl : i < h.length := (List.getElem?_eq_some_iff.1 hi).1
  unfold Rolls
  refine CallsA.of_wpe [] { shut := [14, 19] } 20 mixed Try.func45 (by kernel_rfl) rfl (by kernel_rfl) fun j hB hA => ?_; simp only [junk_succ, junk_zero, List.cons_append, List.nil_append, List.length_cons, List.length_nil, Nat.reduceAdd]
  simp (implicitDefEqProofs := false) (dsimp := false) only [go_sem, show IntKind.i64.wrap ((n : Int) - 1) = (n : Int) - 1 from wrap64 (by omega) (by omega)]
  refine Rolls.use (To_ok _ i r x _ (by omega) (get_left hi)) ?_
  rintro _ r x ⟨v, rfl, hv⟩
  rw [set_left hl]
  simp (implicitDefEqProofs := false) (dsimp := false) only [go_sem]
  refine Rolls.use (Once_ok _ i r x _ (by omega) (by omega) (get_ahead hl)) ?_
  rintro _ r x ⟨t, rfl⟩
  rw [set_ahead hl]
  simp (implicitDefEqProofs := false) (dsimp := false) only [go_sem]
  refine Rolls.use (From_ok _ i r x (-1) 1 (by omega) (by omega) (by omega) (by omega) (get_ahead hl)) ?_
  rintro _ r x ⟨a, rfl, ha⟩
  rw [set_ahead hl]
  simp (implicitDefEqProofs := false) (dsimp := false) only [go_sem]
  refine Rolls.use (One_ok _ i r x [0, 0, a] (by simp) (by simp) (get_ahead hl)) ?_
  rintro _ r x ⟨d, hd, rfl⟩
  rw [set_ahead hl]
  simp (implicitDefEqProofs := false) (dsimp := false) only [go_sem]
  refine Rolls.use (From_ok _ i r x (-1) 1 (by omega) (by omega) (by omega) (by omega) (get_ahead hl)) ?_
  rintro _ r x ⟨c, rfl, hc⟩
  rw [set_ahead hl]
  simp (implicitDefEqProofs := false) (dsimp := false) only [go_sem]
  refine Rolls.use (One_ok _ i r x [0, 0, c] (by simp) (by simp) (get_ahead hl)) ?_
  rintro _ r x ⟨e, he, rfl⟩
  rw [set_ahead hl]
  simp (implicitDefEqProofs := false) (dsimp := false) only [go_sem, get_past0, set_past0]
  exact rolls_endK hB rfl ⟨⟨v, t, d, e⟩, rfl, ⟨by simp only; omega, by simp only; omega, mem3 hd ha, mem3 he hc⟩⟩
end Go.Mac
namespace Go.Mac
open Go Go.Conc Go.Proofs
def oneGlyph (g : Glyph) : Prop := g.name.length = 1 ∧ 97 ≤ gkey g ∧ gkey g ≤ 122 ∧ 1 ≤ g.strokes ∧ g.strokes ≤ 63
theorem getLastD_mem {α : Type} {l : List α} {d : α} (h : l ≠ []) : l.getLastD d ∈ l := by
  cases l with
  | nil => exact absurd rfl h
  | cons a l => exact List.getLast_mem _
theorem gli_of : ∀ (l before : List Glyph), (∀ g ∈ l, oneGlyph g) → (∀ x ∈ before, x.name.length = 1) → (∀ x ∈ before, ∀ g ∈ l, gkey x < gkey g ∧ x.strokes ≠ g.strokes) → (l.Pairwise fun x g => gkey x < gkey g ∧ x.strokes ≠ g.strokes) → gliErr before l = 0
  | [], _, _, _, _, _ => rfl
  | g :: l, before, h1, h2, h3, h4 => by
    obtain ⟨e, k1, k2, s1, s2⟩ := h1 g (List.mem_cons_self ..)
    obtain ⟨c, hc, hk⟩ := one_name e
    have p1 := List.pairwise_cons.1 h4
    rw [gliErr, if_neg, if_neg, if_neg, if_neg]
    · refine gli_of l (before ++ [g]) (fun x hx => h1 x (List.mem_cons_of_mem _ hx)) ?_ ?_ p1.2
      · intro x hx
        rcases List.mem_append.1 hx with hx | hx
        · exact h2 x hx
        · rw [List.mem_singleton.1 hx]; exact e
      · intro x hx y hy
        rcases List.mem_append.1 hx with hx | hx
        · exact h3 x hx y (List.mem_cons_of_mem _ hy)
        · rw [List.mem_singleton.1 hx]; exact p1.1 y hy
    · rw [Bool.not_eq_true, List.any_eq_false]
      intro x hx
      have := (h3 x hx g (List.mem_cons_self ..)).2
      simpa using this
    · omega
    · rintro ⟨hb, hc2⟩
      have hm := getLastD_mem (d := (⟨[], 0⟩ : Glyph)) hb
      obtain ⟨d, hd, hkd⟩ := one_name (h2 _ hm)
      have hlt := (h3 _ hm g (List.mem_cons_self ..)).1
      rw [lastName, hd, hc, less_one] at hc2
      simp only [Bool.or_eq_true, decide_eq_true_eq, beq_iff_eq, List.cons.injEq, and_true] at hc2
      rcases hc2 with hc2 | hc2
      · have := UInt8.lt_iff_toNat_lt.1 hc2; omega
      · rw [hc2] at hk; omega
    · rintro (q | q | q)
      · exact q e
      · rw [hc, less_one, decide_eq_true_eq] at q
        have := UInt8.lt_iff_toNat_lt.1 q
        have : (97 : UInt8).toNat = 97 := rfl
        omega
      · rw [hc, less_one] at q
        simp only [Bool.or_eq_false_iff, decide_eq_false_iff_not, beq_eq_false_iff_ne, ne_eq, List.cons.injEq, and_true] at q
        have h5 : ¬ c.toNat < 122 := fun h => q.1 (UInt8.lt_iff_toNat_lt.2 h)
        exact q.2 (UInt8.toNat_inj.1 (by have : (122 : UInt8).toNat = 122 := rfl; omega))
theorem okGlyphs.err {gs : List Glyph} (h : okGlyphs gs) : glyphsErr gs = 0 := by
  unfold glyphsErr
  rw [if_neg (by have := h.pos; omega), if_neg (by have := h.most; omega)]
  exact gli_of gs [] h.one (by simp) (by simp) h.pair
theorem charsErr_of {m : List (Int × Int)} : ∀ {l : List UInt8}, (∀ c ∈ l, hasB m c.toNat = true) → charsErr m l = 0
  | [], _ => rfl
  | c :: l, h => by rw [charsErr, if_pos (h c (List.mem_cons_self ..))]; exact charsErr_of fun x hx => h x (List.mem_cons_of_mem _ hx)
theorem sizedB_of {n m : Int} (h1 : 1 ≤ n) (h2 : n ≤ m) : sizedB n m = 0 := by unfold sizedB; rw [if_neg (by omega), if_neg (by omega)]
theorem rowsErr_of {m : List (Int × Int)} {w : Nat} (h1 : 1 ≤ w) (h2 : w ≤ 4) : ∀ {l : List (List UInt8)}, (∀ r ∈ l, r.length = w ∧ ∀ c ∈ r, hasB m c.toNat = true) → rowsErr m w l = 0
  | [], _ => rfl
  | r :: l, h => by
    have h3 := h r (List.mem_cons_self ..)
    rw [rowsErr_fine (sizedB_of (by omega) (by omega)) h3.1 (charsErr_of h3.2)]
    exact rowsErr_of h1 h2 fun x hx => h x (List.mem_cons_of_mem _ hx)
theorem pageErr_of {m : List (Int × Int)} {p : List (List UInt8)} (ok : okPage p) (h : ∀ r ∈ p, ∀ c ∈ r, hasB m c.toNat = true) : pageErr m p = 0 := by
  unfold pageErr
  rw [if_neg (by rw [sizedB_of (by have := ok.pos; omega) (by have := ok.most; omega)]; simp)]
  exact rowsErr_of ok.wpos ok.wmost fun r hr => ⟨ok.wide r hr, h r hr⟩
theorem pagesErr_of {m : List (Int × Int)} : ∀ {l : List (List (List UInt8))}, (∀ p ∈ l, pageErr m p = 0) → pagesErr m l = 0
  | [], _ => rfl
  | p :: l, h => by rw [pagesErr, if_neg (by simp [h p (List.mem_cons_self ..)])]; exact pagesErr_of fun x hx => h x (List.mem_cons_of_mem _ hx)
theorem tracesErr_of : ∀ {l : List Trace}, (∀ t ∈ l, traceErr t = 0) → tracesErr l = 0
  | [], _ => rfl
  | t :: l, h => by rw [tracesErr_fine (h t (List.mem_cons_self ..))]; exact tracesErr_of fun x hx => h x (List.mem_cons_of_mem _ hx)
theorem cellRowsErr_of {w : Nat} (h1 : 1 ≤ w) (h2 : w ≤ 4) : ∀ {l : List (List Trace)}, (∀ r ∈ l, r.length = w ∧ ∀ t ∈ r, traceErr t = 0) → cellRowsErr w l = 0
  | [], _ => rfl
  | r :: l, h => by
    have h3 := h r (List.mem_cons_self ..)
    rw [cellRowsErr_fine (sizedB_of (by omega) (by omega)) h3.1 (tracesErr_of h3.2)]
    exact cellRowsErr_of h1 h2 fun x hx => h x (List.mem_cons_of_mem _ hx)
theorem cellsErr_of {cs : List (List Trace)} (ok : okCells cs) (h : ∀ r ∈ cs, ∀ t ∈ r, traceErr t = 0) : cellsErr cs = 0 := by
  unfold cellsErr
  rw [if_neg (by rw [sizedB_of (by have := ok.pos; omega) (by have := ok.most; omega)]; simp)]
  exact cellRowsErr_of ok.wpos ok.wmost fun r hr => ⟨ok.wide r hr, h r hr⟩
def madePage (gs : List Glyph) (p : List (List UInt8)) : Prop := okPage p ∧ ∀ r ∈ p, ∀ c ∈ r, hasB (mapB gs) c.toNat = true
structure okMade (b : Board) : Prop where
  gl : okGlyphs b.glyphs
  pos : 0 < b.pages.length
  most : b.pages.length ≤ 4
  page : ∀ p ∈ b.pages, madePage b.glyphs p
  cells : okCells b.cells
  trace : ∀ r ∈ b.cells, ∀ t ∈ r, traceErr t = 0
theorem okMade.err {b : Board} (h : okMade b) : boardErr b = 0 := by
  unfold boardErr
  rw [if_neg (by simp [h.gl.err]), if_neg (by rw [sizedB_of (by have := h.pos; omega) (by have := h.most; omega)]; simp), if_neg (by simp [pagesErr_of fun p hp => pageErr_of (h.page p hp).1 (h.page p hp).2])]
  exact cellsErr_of h.cells h.trace
theorem okMade.board {b : Board} (h : okMade b) : okBoard b := okBoard.of h.err
end Go.Mac
namespace Go.Mac
open Go Go.Conc Go.Proofs
set_option maxRecDepth 4000
def gNames : List (List UInt8) := [[97], [98], [99], [100], [111], [122]]
def gStr (z : Int) : List Int := [4, 9, 6, 12, 48, 8, 3, 16, 5, 10, 20, z]
def g0 (o : List Int) (z : Int) (j : Nat) : Glyph := ⟨gNames.getD j [], (gStr z).getD (o.getD j 0).toNat 0⟩
structure okTaken (js : List Nat) (i n : Nat) : Prop where
  up : js.Pairwise (· < ·)
  lt : ∀ j ∈ js, j < i
  most : js.length ≤ n
  left : n ≤ js.length + (6 - i)
def glyphA (gs : List Glyph) : AV := sliceOf cGlyph gs
theorem set_row2 {gs : List Glyph} {v : Nat} {z : Int} (hv : v < gs.length) : (gs.flatMap cGlyph).set (v * 2 + 1) (.int .i64 z) = (gs.set v ⟨gs[v].name, z⟩).flatMap cGlyph := by
  induction gs generalizing v with
  | nil => simp at hv
  | cons g gs ih =>
    cases v with
    | zero => rfl
    | succ v =>
      have e : (v + 1) * 2 + 1 = (v * 2 + 1) + 1 + 1 := by omega
      rw [e]
      simp only [List.flatMap_cons, cGlyph, List.cons_append, List.nil_append, List.set_cons_succ, List.getElem_cons_succ]
      rw [ih (by simpa using hv)]
theorem gNames_len : gNames.length = 6 := rfl
theorem gStr_len (z : Int) : (gStr z).length = 12 := rfl
theorem okTaken.skip {js : List Nat} {m c : Nat} (h : okTaken js m c) (h1 : c < js.length + (6 - m)) : okTaken js (m + 1) c :=
  ⟨h.up, fun j hj => by have := h.lt j hj; omega, h.most, by omega⟩
theorem okTaken.take {js : List Nat} {m c : Nat} (h : okTaken js m c) (hm : m < 6) (h1 : js.length < c) : okTaken (js ++ [m]) (m + 1) c :=
  ⟨List.pairwise_append.2 ⟨h.up, List.pairwise_singleton _ _, fun a ha b hb => by rw [List.mem_singleton.1 hb]; exact h.lt a ha⟩, fun j hj => by
    rcases List.mem_append.1 hj with hj | hj
    · have := h.lt j hj; omega
    · rw [List.mem_singleton.1 hj]; omega, by simp; omega, by have := h.left; simp; omega⟩
def gS11 : List Int := [4, 9, 6, 12, 48, 8, 3, 16, 5, 10, 20]
theorem gNames_one : ∀ j < 6, (gNames.getD j []).length = 1 ∧ 97 ≤ ((gNames.getD j []).headD 0).toNat ∧ ((gNames.getD j []).headD 0).toNat ≤ 122 := by decide
theorem gNames_up : ∀ b < 6, ∀ a < b, ((gNames.getD a []).headD 0).toNat < ((gNames.getD b []).headD 0).toNat := by decide
theorem gS11_one : ∀ k < 11, 1 ≤ gS11.getD k 0 ∧ gS11.getD k 0 ≤ 63 := by decide
theorem gS11_two : ∀ a < 11, ∀ b < 11, a ≠ b → gS11.getD a 0 ≠ gS11.getD b 0 := by decide
theorem gStr_at {z : Int} {k : Nat} (h : k < 11) : (gStr z).getD k 0 = gS11.getD k 0 := by
  rw [show gStr z = gS11 ++ [z] from rfl, List.getD_eq_getElem?_getD, List.getD_eq_getElem?_getD, List.getElem?_append_left (by simpa [gS11] using h)]
theorem okOrder.at {o : List Int} {n j : Nat} (h : okOrder o n) (hj : j < n) : ∃ hj' : j < o.length, o.getD j 0 = o[j] ∧ (o.getD j 0).toNat < n ∧ 0 ≤ o[j] := by
  have hj' : j < o.length := by rw [h.1]; exact hj
  have := h.2.1 _ (List.getElem_mem hj')
  have e : o.getD j 0 = o[j] := by simp [List.getD, hj']
  exact ⟨hj', e, by omega, this.1⟩
theorem okOrder.apart {o : List Int} {n a b : Nat} (h : okOrder o n) (ha : a < n) (hb : b < n) (hab : a ≠ b) : (o.getD a 0).toNat ≠ (o.getD b 0).toNat := by
  obtain ⟨a1, a2, _, a4⟩ := h.at ha
  obtain ⟨b1, b2, _, b4⟩ := h.at hb
  intro e
  rw [a2, b2] at e
  have hp := List.pairwise_iff_getElem.1 h.2.2
  rcases Nat.lt_or_gt_of_ne hab with q | q
  · exact hp a b a1 b1 q (by omega)
  · exact hp b a b1 a1 q (by omega)
theorem GlyphsOf_good {z : Int} {o : List Int} {js : List Nat} {m c : Nat} (hz : 1 ≤ z ∧ z ≤ 63) (ho : okOrder o 11) (hc0 : 0 < c) (h : okTaken js m c) (hm : m ≤ 6) (hjc : js.length = c) (hc6 : c ≤ 6) : okGlyphs (js.map (g0 o z)) := by
  have lt6 : ∀ j ∈ js, j < 6 := fun j hj => by have := h.lt j hj; omega
  refine ⟨by simp; omega, by simp; omega, ?_, ?_⟩
  · intro g hg
    obtain ⟨j, hj, rfl⟩ := List.mem_map.1 hg
    obtain ⟨q1, q2, q3⟩ := gNames_one j (lt6 j hj)
    obtain ⟨_, _, q4, _⟩ := ho.at (j := j) (by have := lt6 j hj; omega)
    have q5 := gS11_one _ q4
    exact ⟨q1, q2, q3, by simp only [g0, gStr_at q4]; exact q5.1, by simp only [g0, gStr_at q4]; exact q5.2⟩
  · rw [List.pairwise_map]
    refine List.Pairwise.imp_of_mem ?_ h.up
    intro a b ha hb hab
    have la := lt6 a ha
    have lb := lt6 b hb
    obtain ⟨_, _, qa, _⟩ := ho.at (j := a) (by omega)
    obtain ⟨_, _, qb, _⟩ := ho.at (j := b) (by omega)
    refine ⟨gNames_up b lb a hab, ?_⟩
    simp only [g0, gStr_at qa, gStr_at qb]
    exact gS11_two _ qa _ qb (ho.apart (by omega) (by omega) (by omega))
theorem okGlyphs.new {gs : List Glyph} {v : Nat} {z : Int} (h : okGlyphs gs) (hv : v < gs.length) (hz : 1 ≤ z ∧ z ≤ 63) (hn : ∀ g ∈ gs, g.strokes ≠ z) : okGlyphs (gs.set v ⟨gs[v].name, z⟩) := by
  refine ⟨by rw [List.length_set]; exact h.pos, by rw [List.length_set]; exact h.most, ?_, ?_⟩
  · intro g hg
    rcases List.mem_or_eq_of_mem_set hg with hg | rfl
    · exact h.one g hg
    · obtain ⟨a, b, c, _, _⟩ := h.one _ (List.getElem_mem hv)
      exact ⟨a, b, c, hz.1, hz.2⟩
  · have hp := List.pairwise_iff_getElem.1 h.pair
    rw [List.pairwise_iff_getElem]
    intro a b ha hb hab
    rw [List.length_set] at ha hb
    have := hp a b ha hb hab
    rw [List.getElem_set, List.getElem_set]
    have na := hn _ (List.getElem_mem ha)
    have nb := hn _ (List.getElem_mem hb)
    split
    · rename_i e1
      subst e1
      rw [if_neg (by omega)]
      exact ⟨this.1, fun e => nb e.symm⟩
    · split
      · rename_i e2
        subst e2
        exact ⟨this.1, na⟩
      · exact this
theorem glyphA_below (gs : List Glyph) (n : Nat) : below n (glyphA gs) = true := below_mono (Nat.zero_le n) _ (below_psl (f := cGlyph) (fun _ => rfl) gs)
theorem glyphs_end {h k : List Blk} {i n L : Nat} {r : Option (List Int)} {x : Int} {gs : List Glyph} (hb : h.all (belowBlk h.length) = true) (hL : L = gs.length) (hg : okGlyphs gs) (hn : gs.length ≤ n) :
    ∃ v' m, AV.psl (List.take (L * 2) (gs.flatMap cGlyph)) L = v' ∧ h.length ≤ m ∧ below m v' = true ∧ ((h.set i (diceB r x) ++ k).take m).all (belowBlk m) = true ∧ ∃ v1 r' x', AEnd.ret v' = .ret v1 ∧ (∃ gs, v1 = glyphA gs ∧ okGlyphs gs ∧ gs.length ≤ n) ∧ (h.set i (diceB r x) ++ k).take m = h.set i (diceB r' x') := by
  subst hL
  rw [List.take_of_length_le (by rw [length_rows cGlyph_len]; exact Nat.le_refl _)]
  exact rolls_endK hb (glyphA_below gs _) ⟨gs, rfl, hg, hn⟩
theorem drop_row2 {gs : List Glyph} {k : Nat} (h : k < gs.length) : (gs.flatMap cGlyph).drop (k * 2 + 1) = .int .i64 gs[k].strokes :: (gs.drop (k + 1)).flatMap cGlyph := by
  rw [← List.drop_drop, rowN cGlyph_len h]; rfl
theorem row2_le {gs : List Glyph} {k : Nat} (h : k < gs.length) : (k * 2 + 1 ≤ (gs.flatMap cGlyph).length) = True := by
  rw [length_rows cGlyph_len]; exact eq_true (by omega)
theorem GlyphsOf_ok (h : List Blk) (i : Nat) (r : Option (List Int)) (x : Int) (n : Nat) (hn : n ≤ 6) (hn0 : 0 < n) (hi : h[i]? = some (diceB r x)) : Rolls 76 [.ptr ⟨i, 0⟩ 0, .int .i64 n] h i fun a => ∃ gs, a = glyphA gs ∧ okGlyphs gs ∧ gs.length ≤ n := by
  have hl : i < h.length := (List.getElem?_eq_some_iff.1 hi).1
  unfold Rolls
  refine CallsA.of_wpe [4] { shut := [14, 17, 64], cut := [30, 47, 79, 89], tail := [(10, 14)] } 101 mixed Try.func76 (by kernel_rfl) rfl (by kernel_rfl) fun j hB hA => ?_; simp only [junk_succ, junk_zero, List.cons_append, List.nil_append, List.length_cons, List.length_nil, Nat.reduceAdd]
  simp (implicitDefEqProofs := false) (dsimp := false) only [go_sem]
  refine Rolls.use (From_ok _ i r x 1 63 (by omega) (by omega) (by omega) (by omega) hi) ?_
  rintro _ r x ⟨z, rfl, hz⟩
  simp (implicitDefEqProofs := false) (dsimp := false) only [go_sem]
  refine Rolls.use (Order_ok _ i r x 11 (by omega) (by simpa using List.getElem?_set_self hl)) ?_
  rintro _ r x ⟨o, rfl, ho⟩
  rw [List.set_set]
  simp (implicitDefEqProofs := false) (dsimp := false) only [go_sem, ints]
  refine Rolls.use (From_ok _ i r x 1 n (by omega) (by omega) (by omega) (by omega) (by simpa using List.getElem?_set_self hl)) ?_
  rintro _ r x ⟨c, rfl, hc⟩
  rw [List.set_set]
  obtain ⟨c, rfl⟩ : ∃ k : Nat, c = k := ⟨c.toNat, by omega⟩
  simp (implicitDefEqProofs := false) (dsimp := false) only [go_sem]
  refine WPI.turn (Turns.nilSlot (d := 8) (sz := 2) ?_) ?_
  · simp (implicitDefEqProofs := false) (dsimp := false) only [go_sem]
  simp (implicitDefEqProofs := false) (dsimp := false) only [go_sem, List.length_set]
  refine WP.loopI (fun (y : Nat × List Nat) s => (y.1 ≤ 6 ∧ okTaken y.2 y.1 c) ∧ s.sl.length = 103 ∧ s.df = [] ∧ s.gh = {} ∧ (∃ r x, s.hp = h.set i (diceB r x) ++ [.cells y.2.length ((y.2.map (g0 o z)).flatMap cGlyph)]) ∧ evA s.sl (.tmp 0) = .ptr ⟨i, 0⟩ 0 ∧ evA s.sl (.tmp 5) = .psl (gNames.flatMap cStr) 6 ∧ evA s.sl (.tmp 6) = .psl ((gStr z).flatMap cInt) 12 ∧ evA s.sl (.tmp 7) = .psl (o.flatMap cInt) o.length ∧ evA s.sl (.tmp 8) = .sl ⟨h.length, y.2.length⟩ 2 0 y.2.length ∧ evA s.sl (.tmp 9) = .int .i64 c ∧ evA s.sl (.tmp 10) = .int .i64 y.1) (fun (y : Nat × List Nat) => 6 - y.1) ((0, [])) ?_ ?_
  · simp (implicitDefEqProofs := false) (dsimp := false) only [go_sem, Nat.zero_le]
    exact ⟨⟨.nil, by simp, by simp, by simp; omega⟩, ⟨r, x, rfl⟩, rfl, rfl⟩
  · rintro ⟨m, js⟩ ⟨sl, df, hp, gh⟩ ⟨ab, al, rfl, rfl, ah, a0, a5, a6, a7, a8, a9, a10⟩
    simp only at ab al ah a0 a5 a6 a7 a8 a9 a10
    obtain ⟨j, rfl⟩ := slots_lit al; clear al; simp only [junk_succ, junk_zero, evA_tmp, nth_16, nth_four, nth_one, nth_zero, Nat.zero_add, Nat.reduceAdd] at  a0 a5 a6 a7 a8 a9 a10 ⊢
    refine wp_ok (so := { shut := [14, 17, 64], cut := [30, 47, 79, 89], tail := [(10, 14)] }) mixed _ (by kernel_rfl) ?_
    obtain ⟨r, x, rfl⟩ := ah
    obtain ⟨hm6, hok⟩ := ab
    by_cases hgo : m < 6 ∧ js.length < c
    · obtain ⟨hm, hj⟩ := hgo
      have hm' : (((m : Nat) : Int) < 6) = True := eq_true (by omega)
      have hw1 : IntKind.i64.wrap ((6 : Int) - m) = 6 - m := wrap64 (by omega) (by omega)
      have hw2 : IntKind.i64.wrap ((c : Int) - (js.length : Int)) = (c : Int) - js.length := wrap64 (by omega) (by omega)
      have hom : m < o.length := by rw [ho.1]; omega
      obtain ⟨k, hk⟩ : ∃ k : Nat, o[m] = k := ⟨o[m].toNat, by have := ho.2.1 _ (List.getElem_mem hom); omega⟩
      have hk12 : k < (gStr z).length := by have := ho.2.1 _ (List.getElem_mem hom); rw [gStr_len]; omega
      have hmn : m < gNames.length := hm
      have hk' : ((k : Int) < 12) = True := eq_true (by have := hk12; rw [gStr_len] at this; omega)
      have hgl : ((js.map (g0 o z)).flatMap cGlyph).length = js.length * 2 := by rw [length_rows cGlyph_len, List.length_map]
      have hg : [AV.str gNames[m], .int .i64 (gStr z)[k]] = cGlyph (g0 o z m) := by
        simp only [g0, cGlyph, List.getD_eq_getElem?_getD, List.getElem?_eq_getElem hmn, List.getElem?_eq_getElem hom, Option.getD_some, hk, Int.toNat_natCast, List.getElem?_eq_getElem hk12]
      have hend : IntKind.i64.wrap ((m : Int) + 1) = ((m + 1 : Nat) : Int) := wrap_succ (by omega)
      have hcs : (js.map (g0 o z)).flatMap cGlyph ++ [AV.str gNames[m], .int .i64 (gStr z)[k]] = ((js ++ [m]).map (g0 o z)).flatMap cGlyph := by
        rw [hg, List.map_append, List.flatMap_append]; simp
      by_cases hs : (c : Int) - js.length < 6 - m
      · have hs' : ((6 : Int) - (m : Int) > (c : Int) - (js.length : Int)) = True := eq_true hs
        simp (implicitDefEqProofs := false) (dsimp := false) only [go_sem, a0, a5, a6, a7, a8, a9, a10, hm', nat_lt hj, decide_true, hw1, hw2, hs', get_past0, set_past0]
        refine Rolls.use (Once_ok _ i r x 3 (by omega) (by omega) (get_ahead hl)) ?_
        rintro _ r x ⟨t, rfl⟩
        rw [set_ahead hl]
        simp (implicitDefEqProofs := false) (dsimp := false) only [go_sem, a0, a5, a6, a7, a8, a9, a10, row1 cStr_len hmn, row1_le cStr_len hmn, row1 cInt_len hom, row1_le cInt_len hom, hk, row1 cInt_len hk12, row1_le cInt_len hk12, cStr, cInt, hk', nat_lt hom, get_past0, set_past0, hgl, hm']
        refine ⟨fun ht => ?_, fun ht => ?_⟩
        · exact ⟨(m + 1, js), ⟨⟨hm, hok.skip (by omega)⟩, ⟨r, x, rfl⟩, rfl, hend⟩, by simp only; omega⟩
        · exact ⟨by omega, (m + 1, js ++ [m]), ⟨⟨hm, hok.take hm hj⟩, ⟨r, x, by simp only; rw [hcs, List.length_append, List.length_singleton]⟩, by simp only; rw [List.length_append, List.length_singleton], hend⟩, by simp only; omega⟩
      · have hs' : ((6 : Int) - (m : Int) > (c : Int) - (js.length : Int)) = False := eq_false hs
        simp (implicitDefEqProofs := false) (dsimp := false) only [go_sem, a0, a5, a6, a7, a8, a9, a10, hm', nat_lt hj, decide_true, decide_false, hw1, hw2, hs', row1 cStr_len hmn, row1_le cStr_len hmn, row1 cInt_len hom, row1_le cInt_len hom, hk, row1 cInt_len hk12, row1_le cInt_len hk12, cStr, cInt, hk', nat_lt hom, get_past0, set_past0, hgl]
        exact ⟨by omega, (m + 1, js ++ [m]), ⟨⟨hm, hok.take hm hj⟩, ⟨r, x, by simp only; rw [hcs, List.length_append, List.length_singleton]⟩, by simp only; rw [List.length_append, List.length_singleton], hend⟩, by simp only; omega⟩
    · have hjc : js.length = c := by have := hok.most; have := hok.left; omega
      have hjd : (((js.length : Nat) : Int) < (c : Int)) = False := eq_false (by omega)
      have h11 : 11 < (gStr z).length := by rw [gStr_len]; omega
      have hz11 : (gStr z)[11] = z := rfl
      have hw12 : IntKind.i64.wrap ((12 : Int) - 1) = ((11 : Nat) : Int) := rfl
      have h11' : (((11 : Nat) : Int) < 12) = True := eq_true (by omega)
      have hok2 := GlyphsOf_good hz ho (by omega) hok hm6 hjc (by omega)
      simp (implicitDefEqProofs := false) (dsimp := false) only [go_sem, a0, a5, a6, a7, a8, a9, a10, hjd, decide_false, get_past0, hw12, row1 cInt_len h11, row1_le cInt_len h11, h11', cInt, hz11]
      have hgl : (js.map (g0 o z)).length = c := by rw [List.length_map]; exact hjc
      generalize js.map (g0 o z) = gs at hok2 hgl
      have hN : c ≤ 6 := by omega
      refine ⟨fun _ => ?_, fun _ => ?_⟩
      all_goals
        refine WP.loopI (fun (y : Nat × Bool) s => (y.1 ≤ c ∧ (y.2 = true → ∀ g ∈ gs.take y.1, g.strokes ≠ z)) ∧ s.sl.length = 103 ∧ s.df = [] ∧ s.gh = {} ∧ (s.hp = h.set i (diceB r x) ++ [.cells js.length (gs.flatMap cGlyph)]) ∧ evA s.sl (.tmp 0) = .ptr ⟨i, 0⟩ 0 ∧ evA s.sl (.tmp 8) = .sl ⟨h.length, js.length⟩ 2 0 js.length ∧ evA s.sl (.tmp 11) = .int .i64 z ∧ evA s.sl (.tmp 12) = .bool y.2 ∧ evA s.sl (.tmp 13) = .int .i64 y.1) (fun (y : Nat × Bool) => c - y.1) ((0, true)) ?_ ?_
        · simp (implicitDefEqProofs := false) (dsimp := false) only [go_sem, Nat.zero_le]
          exact fun _ => by simp
        · rintro ⟨k, q⟩ ⟨sl, df, hp, gh⟩ ⟨bb, bl, rfl, rfl, rfl, b0, b8, b11, b12, b13⟩
          simp only at bb bl b0 b8 b11 b12 b13
          obtain ⟨j, rfl⟩ := slots_lit bl; clear bl; simp only [junk_succ, junk_zero, evA_tmp, nth_16, nth_four, nth_one, nth_zero, Nat.zero_add, Nat.reduceAdd] at  b0 b8 b11 b12 b13 ⊢
          refine wp_ok (so := { shut := [14, 17, 64], cut := [30, 47, 79, 89], tail := [(10, 14)] }) mixed _ (by kernel_rfl) ?_
          obtain ⟨hkc, hq⟩ := bb
          by_cases hk : k < js.length
          · have hkg : k < gs.length := by omega
            cases q with
            | true =>
              simp (implicitDefEqProofs := false) (dsimp := false) only [go_sem, b0, b8, b11, b12, b13, nat_lt hk, decide_true, get_past0, drop_row2 hkg, row2_le hkg]
              refine ⟨(k + 1, gs[k].strokes != z), ⟨⟨by omega, ?_⟩, rfl, wrap_succ (by omega)⟩, by simp only; omega⟩
              intro hne g hg
              rw [List.take_succ_eq_append_getElem hkg, List.mem_append, List.mem_singleton] at hg
              rcases hg with hg | rfl
              · exact hq rfl g hg
              · simpa using hne
            | false =>
              simp (implicitDefEqProofs := false) (dsimp := false) only [go_sem, b0, b8, b11, b12, b13, nat_lt hk, decide_true, get_past0]
              exact ⟨(k + 1, false), ⟨⟨by omega, by simp⟩, rfl, wrap_succ (by omega)⟩, by simp only; omega⟩
          · have hs : ((k : Int) < (js.length : Int)) = False := eq_false (by omega)
            have hkl : gs.take k = gs := List.take_of_length_le (by omega)
            rw [hkl] at hq
            cases q with
            | true =>
              simp (implicitDefEqProofs := false) (dsimp := false) only [go_sem, b0, b8, b11, b12, b13, hs, decide_false, get_past0]
              refine Rolls.use (Once_ok _ i r x 3 (by omega) (by omega) (get_ahead hl)) ?_
              rintro _ r x ⟨t, rfl⟩
              rw [set_ahead hl]
              have hw : IntKind.i64.wrap ((js.length : Int) - 1) = (js.length : Int) - 1 := wrap64 (by omega) (by omega)
              simp (implicitDefEqProofs := false) (dsimp := false) only [go_sem, get_past0, hw]
              refine ⟨fun ht => ?_, fun ht => ?_⟩
              · refine Rolls.use (To_ok _ i r x _ (by omega) (get_ahead hl)) ?_
                rintro _ r x ⟨v, rfl, hv⟩
                rw [set_ahead hl]
                have hvj : v < js.length := by omega
                have hvg : v < gs.length := by omega
                simp (implicitDefEqProofs := false) (dsimp := false) only [go_sem, get_past0, set_past0, nat_lt hvj, set_row2 hvg]
                refine ⟨by rw [length_rows cGlyph_len]; omega, ?_⟩
                exact glyphs_end hB (by rw [List.length_set]; omega) (okGlyphs.new hok2 hvg hz (hq rfl)) (by rw [List.length_set]; omega)
              · simp (implicitDefEqProofs := false) (dsimp := false) only [go_sem, set_past0]
                exact glyphs_end hB (by omega) hok2 (by omega)
            | false =>
              simp (implicitDefEqProofs := false) (dsimp := false) only [go_sem, b0, b8, b11, b12, b13, hs, decide_false, get_past0, set_past0]
              exact glyphs_end hB (by omega) hok2 (by omega)
end Go.Mac
namespace Go.Mac
open Go Go.Conc Go.Proofs
set_option maxRecDepth 4000
abbrev Dc := Option (List Int) × Int
abbrev dcB (d : Dc) : Blk := diceB d.1 d.2
theorem To_ex (d : Dc) (n : Int) : ∃ q : Nat × Dc, n ≤ 1000 → ((q.1 : Int) ≤ max n 0 ∧ ∀ h i, h[i]? = some (dcB d) → CallsA Try.prog 19 [.ptr ⟨i, 0⟩ 0, .int .i64 n] h fun e h' => e = .ret (.int .i64 q.1) ∧ h' = h.set i (dcB q.2)) := by
  by_cases hn : n ≤ 1000
  · obtain ⟨_, r', x', ⟨v, rfl, hv⟩, c⟩ := To_det d.1 d.2 n hn
    exact ⟨(v, r', x'), fun _ => ⟨hv, c⟩⟩
  · exact ⟨(0, none, 0), fun h => absurd h hn⟩
noncomputable def toQ (d : Dc) (n : Int) : Nat × Dc := Classical.choose (To_ex d n)
theorem toQ_le {d : Dc} {n : Int} (hn : n ≤ 1000) : ((toQ d n).1 : Int) ≤ max n 0 := (Classical.choose_spec (To_ex d n) hn).1
theorem toQ_run {d : Dc} {n : Int} (hn : n ≤ 1000) {h : List Blk} {i : Nat} (hi : h[i]? = some (dcB d)) : CallsA Try.prog 19 [.ptr ⟨i, 0⟩ 0, .int .i64 n] h fun e h' => e = .ret (.int .i64 (toQ d n).1) ∧ h' = h.set i (dcB (toQ d n).2) := (Classical.choose_spec (To_ex d n) hn).2 h i hi
def letterQ (gs : List Glyph) (n : Nat) : List UInt8 := if n = 0 then [45] else (gs.getD (n - 1) ⟨[], 0⟩).name
noncomputable def rowQ (gs : List Glyph) (d : Dc) : Nat → List UInt8 × Dc
  | 0 => ([], d)
  | k + 1 => ((rowQ gs d k).1 ++ letterQ gs (toQ (rowQ gs d k).2 gs.length).1, (toQ (rowQ gs d k).2 gs.length).2)
noncomputable def pageQ (gs : List Glyph) (w : Nat) (d : Dc) : Nat → List (List UInt8) × Dc
  | 0 => ([], d)
  | k + 1 => ((pageQ gs w d k).1 ++ [(rowQ gs (pageQ gs w d k).2 w).1], (rowQ gs (pageQ gs w d k).2 w).2)
theorem pageQ_len (gs : List Glyph) (w : Nat) (d : Dc) : ∀ k, (pageQ gs w d k).1.length = k
  | 0 => rfl
  | k + 1 => by simp [pageQ, pageQ_len gs w d k]
theorem hasB_dash (gs : List Glyph) : hasB (mapB gs) ((45 : UInt8).toNat : Int) = true := by simp [hasB, mapB]
theorem hasB_name {gs : List Glyph} (ok : okGlyphs gs) {g : Glyph} (hg : g ∈ gs) {c : UInt8} (hc : c ∈ g.name) : hasB (mapB gs) (c.toNat : Int) = true := by
  obtain ⟨c', e, hk⟩ := one_name (ok.one g hg).1
  rw [e, List.mem_singleton] at hc
  subst hc
  simp only [hasB, mapB, List.any_cons, List.any_map, Bool.or_eq_true, List.any_eq_true]
  exact .inr ⟨g, hg, by simp [hk]⟩
theorem letterQ_ok {gs : List Glyph} (ok : okGlyphs gs) {n : Nat} (hn : n ≤ gs.length) : (letterQ gs n).length = 1 ∧ ∀ c ∈ letterQ gs n, hasB (mapB gs) (c.toNat : Int) = true := by
  unfold letterQ
  split
  · exact ⟨rfl, fun c hc => by rw [List.mem_singleton.1 hc]; exact hasB_dash gs⟩
  · have hl : n - 1 < gs.length := by omega
    rw [show gs.getD (n - 1) ⟨[], 0⟩ = gs[n - 1] by simp [List.getD, hl]]
    exact ⟨(ok.one _ (List.getElem_mem hl)).1, fun c hc => hasB_name ok (List.getElem_mem hl) hc⟩
theorem toQ_len {gs : List Glyph} (ok : okGlyphs gs) (d : Dc) : (toQ d gs.length).1 ≤ gs.length := by
  have := toQ_le (d := d) (n := gs.length) (by have := ok.most; omega)
  omega
theorem rowQ_ok {gs : List Glyph} (ok : okGlyphs gs) (d : Dc) : ∀ k, (rowQ gs d k).1.length = k ∧ ∀ c ∈ (rowQ gs d k).1, hasB (mapB gs) (c.toNat : Int) = true
  | 0 => ⟨rfl, by simp [rowQ]⟩
  | k + 1 => by
    obtain ⟨h1, h2⟩ := rowQ_ok ok d k
    obtain ⟨h3, h4⟩ := letterQ_ok ok (toQ_len ok (rowQ gs d k).2)
    refine ⟨by simp [rowQ, h1, h3], fun c hc => ?_⟩
    simp only [rowQ, List.mem_append] at hc
    rcases hc with hc | hc
    · exact h2 c hc
    · exact h4 c hc
theorem pageQ_ok {gs : List Glyph} (ok : okGlyphs gs) (w : Nat) (d : Dc) : ∀ k, ∀ s ∈ (pageQ gs w d k).1, s.length = w ∧ ∀ c ∈ s, hasB (mapB gs) (c.toNat : Int) = true
  | 0, s, hs => by simp [pageQ] at hs
  | k + 1, s, hs => by
    simp only [pageQ, List.mem_append, List.mem_singleton] at hs
    rcases hs with hs | rfl
    · exact pageQ_ok ok w d k s hs
    · exact rowQ_ok ok _ w
theorem det_endK {h k : List Blk} {i : Nat} {r : Option (List Int)} {x : Int} {v : AV} (hb : h.all (belowBlk h.length) = true) (hv : below h.length v = true) :
    ∃ v' n, v = v' ∧ h.length ≤ n ∧ below n v' = true ∧ ((h.set i (diceB r x) ++ k).take n).all (belowBlk n) = true ∧ (AEnd.ret v' = .ret v ∧ (h.set i (diceB r x) ++ k).take n = h.set i (diceB r x)) := by
  refine ⟨v, h.length, rfl, Nat.le_refl _, hv, ?_, rfl, ?_⟩
  · rw [List.take_left' (by simp)]; exact all_set hb (diceB_below _ _ _)
  · rw [List.take_left' (by simp)]
theorem names_drop {gs : List Glyph} {k : Nat} (h : k < gs.length) : (gs.flatMap cGlyph).drop (k * 2) = .str gs[k].name :: .int .i64 gs[k].strokes :: (gs.drop (k + 1)).flatMap cGlyph := by
  rw [rowN cGlyph_len h]; rfl
theorem names_le {gs : List Glyph} {k : Nat} (h : k < gs.length) : (k * 2 + 0 ≤ (gs.flatMap cGlyph).length) = True := by
  rw [length_rows cGlyph_len]; exact eq_true (by omega)
theorem PageOf_det (gs : List Glyph) (ok : okGlyphs gs) (rows cols : Nat) (hr : rows ≤ 100) (hc : cols ≤ 100) (r : Option (List Int)) (x : Int) : Det 78 (fun i => [.ptr ⟨i, 0⟩ 0, glyphA gs, .int .i64 rows, .int .i64 cols]) r x fun a => ∃ p, a = sliceOf cStr p ∧ p.length = rows ∧ ∀ s ∈ p, s.length = cols ∧ ∀ c ∈ s, hasB (mapB gs) (c.toNat : Int) = true := by
  refine ⟨sliceOf cStr (pageQ gs cols (r, x) rows).1, (pageQ gs cols (r, x) rows).2.1, (pageQ gs cols (r, x) rows).2.2, ⟨(pageQ gs cols (r, x) rows).1, rfl, pageQ_len gs cols (r, x) rows, pageQ_ok ok cols (r, x) rows⟩, fun h i hi => ?_⟩
  have hl : i < h.length := (List.getElem?_eq_some_iff.1 hi).1
  have hm := ok.most
  refine CallsA.of_wpe [8] { shut := [42] } 41 mixed Try.func78 (by kernel_rfl) rfl (by kernel_rfl) fun j hB hA => ?_; simp only [junk_succ, junk_zero, List.cons_append, List.nil_append, List.length_cons, List.length_nil, Nat.reduceAdd]
  simp (implicitDefEqProofs := false) (dsimp := false) only [go_sem]
  refine WPI.turn (Turns.nilSlot (d := 9) (sz := 1) ?_) ?_
  · simp (implicitDefEqProofs := false) (dsimp := false) only [go_sem]
  simp (implicitDefEqProofs := false) (dsimp := false) only [go_sem]
  refine WP.loopI (fun (m : Nat) s => (m ≤ rows) ∧ s.sl.length = 45 ∧ s.df = [] ∧ s.gh = {} ∧ (s.hp = h.set i (dcB (pageQ gs cols (r, x) m).2) ++ [.cells m ((pageQ gs cols (r, x) m).1.flatMap cStr)]) ∧ evA s.sl (.tmp 0) = .ptr ⟨i, 0⟩ 0 ∧ evA s.sl (.tmp 1) = glyphA gs ∧ evA s.sl (.tmp 2) = .int .i64 rows ∧ evA s.sl (.tmp 3) = .int .i64 cols ∧ evA s.sl (.tmp 9) = .sl ⟨h.length, m⟩ 1 0 m ∧ evA s.sl (.tmp 10) = .int .i64 m) (fun (m : Nat) => rows - m) (0) ?_ ?_
  · simp (implicitDefEqProofs := false) (dsimp := false) only [go_sem, Nat.zero_le]
    show h ++ _ = h.set i (diceB r x) ++ _
    rw [set_same hi]; rfl
  · rintro m ⟨sl, df, hp, gh⟩ ⟨ab, al, rfl, rfl, rfl, a0, a1, a2, a3, a9, a10⟩
    simp only at ab al a0 a1 a2 a3 a9 a10
    obtain ⟨j, rfl⟩ := slots_lit al; clear al; simp only [junk_succ, junk_zero, evA_tmp, nth_16, nth_four, nth_one, nth_zero, Nat.zero_add, Nat.reduceAdd] at  a0 a1 a2 a3 a9 a10 ⊢
    refine wp_ok (so := { shut := [42] }) mixed _ (by kernel_rfl) ?_
    by_cases hm : m < rows
    · simp (implicitDefEqProofs := false) (dsimp := false) only [go_sem, a0, a1, a2, a3, a9, a10, nat_lt hm, decide_true]
      refine WP.loopI (fun (k : Nat) s => (k ≤ cols) ∧ s.sl.length = 45 ∧ s.df = [] ∧ s.gh = {} ∧ (s.hp = h.set i (dcB (rowQ gs (pageQ gs cols (r, x) m).2 k).2) ++ [.cells m ((pageQ gs cols (r, x) m).1.flatMap cStr)]) ∧ evA s.sl (.tmp 0) = .ptr ⟨i, 0⟩ 0 ∧ evA s.sl (.tmp 1) = glyphA gs ∧ evA s.sl (.tmp 2) = .int .i64 rows ∧ evA s.sl (.tmp 3) = .int .i64 cols ∧ evA s.sl (.tmp 9) = .sl ⟨h.length, m⟩ 1 0 m ∧ evA s.sl (.tmp 10) = .int .i64 m ∧ evA s.sl (.tmp 11) = .str (rowQ gs (pageQ gs cols (r, x) m).2 k).1 ∧ evA s.sl (.tmp 12) = .int .i64 k) (fun (k : Nat) => cols - k) (0) ?_ ?_
      · simp (implicitDefEqProofs := false) (dsimp := false) only [go_sem, Nat.zero_le]
        exact ⟨rfl, rfl⟩
      · rintro k ⟨sl, df, hp, gh⟩ ⟨bb, bl, rfl, rfl, rfl, b0, b1, b2, b3, b9, b10, b11, b12⟩
        simp only at bb bl b0 b1 b2 b3 b9 b10 b11 b12
        obtain ⟨j, rfl⟩ := slots_lit bl; clear bl; simp only [junk_succ, junk_zero, evA_tmp, nth_16, nth_four, nth_one, nth_zero, Nat.zero_add, Nat.reduceAdd] at  b0 b1 b2 b3 b9 b10 b11 b12 ⊢
        refine wp_ok (so := { shut := [42] }) mixed _ (by kernel_rfl) ?_
        by_cases hk : k < cols
        · simp (implicitDefEqProofs := false) (dsimp := false) only [go_sem, b0, b1, b2, b3, b9, b10, b11, b12, nat_lt hk, decide_true, glyphA]
          refine CallsA.mono (toQ_run (d := (rowQ gs (pageQ gs cols (r, x) m).2 k).2) (by omega) (get_ahead hl)) ?_
          rintro _ _ ⟨rfl, rfl⟩
          rw [set_ahead hl]
          have hq := toQ_len ok (rowQ gs (pageQ gs cols (r, x) m).2 k).2
          have hnext : rowQ gs (pageQ gs cols (r, x) m).2 (k + 1) = ((rowQ gs (pageQ gs cols (r, x) m).2 k).1 ++ letterQ gs (toQ (rowQ gs (pageQ gs cols (r, x) m).2 k).2 gs.length).1, (toQ (rowQ gs (pageQ gs cols (r, x) m).2 k).2 gs.length).2) := rfl
          have hlen := (rowQ_ok ok (pageQ gs cols (r, x) m).2 k).1
          generalize toQ (rowQ gs (pageQ gs cols (r, x) m).2 k).2 gs.length = q at hq hnext ⊢
          by_cases h0 : q.1 = 0
          · have h0' : (((q.1 : Nat) : Int) == 0) = true := by rw [h0]; rfl
            simp (implicitDefEqProofs := false) (dsimp := false) only [go_sem, h0']
            refine ⟨by omega, k + 1, ⟨by omega, ?_, rfl, ?_, wrap_succ (by omega)⟩, by omega⟩
            · rw [hnext]
            · rw [hnext, h0]; rfl
          · have h0' : (((q.1 : Nat) : Int) == 0) = false := by simpa using h0
            have hw : IntKind.i64.wrap ((q.1 : Int) - 1) = ((q.1 - 1 : Nat) : Int) := by rw [wrap64 (by omega) (by omega)]; omega
            have hq1 : q.1 - 1 < gs.length := by omega
            simp (implicitDefEqProofs := false) (dsimp := false) only [go_sem, h0', hw, glyphA, names_drop hq1, names_le hq1, nat_lt hq1]
            have h1 := (ok.one _ (List.getElem_mem hq1)).1
            refine ⟨by rw [length_rows cGlyph_len]; omega, by omega, k + 1, ⟨by omega, ?_, ?_, wrap_succ (by omega)⟩, by omega⟩
            · rw [hnext]
            · rw [hnext, letterQ, if_neg h0]; simp [List.getD, hq1]
        · have hs : ((k : Int) < (cols : Int)) = False := eq_false (by omega)
          have e : k = cols := by omega
          subst e
          have hlen : ((pageQ gs k (r, x) m).1.flatMap cStr).length = m := by rw [length_rows cStr_len, Nat.mul_one, pageQ_len]
          simp (implicitDefEqProofs := false) (dsimp := false) only [go_sem, b0, b1, b2, b3, b9, b10, b11, b12, hs, decide_false, get_past0, set_past0]
          exact ⟨⟨hlen, by omega⟩, m + 1, ⟨by omega, by simp only [pageQ, List.flatMap_append, List.flatMap_cons, List.flatMap_nil, cStr, List.append_nil], rfl, wrap_succ (by omega)⟩, by omega⟩
    · have hs : ((m : Int) < (rows : Int)) = False := eq_false (by omega)
      have e : m = rows := by omega
      subst e
      have hlen : ((pageQ gs cols (r, x) m).1.flatMap cStr).length = m := by rw [length_rows cStr_len, Nat.mul_one, pageQ_len]
      simp (implicitDefEqProofs := false) (dsimp := false) only [go_sem, a0, a1, a2, a3, a9, a10, hs, decide_false, get_past0, set_past0]
      rw [List.take_of_length_le (by omega), pageQ_len]
      exact det_endK hB (below_mono (Nat.zero_le _) (sliceOf cStr (pageQ gs cols (r, x) m).1) (below_psl (fun _ => rfl) _))
end Go.Mac
namespace Go.Mac
open Go Go.Conc Go.Proofs
set_option maxRecDepth 4000
theorem turn_use {f : FuncId} {args : List AV} {r r' : Option (List Int)} {x x' : Int} {v : AV} {h T : List Blk} {i : Nat} {K : AV → Prop}
    (hl : i < h.length) (c : ∀ h, h[i]? = some (diceB r x) → CallsA Try.prog f args h fun e h' => e = .ret v ∧ h' = h.set i (diceB r' x')) (hk : K v) : TurnCalls Try.prog f args (h.set i (diceB r x) ++ T) (h.set i (diceB r' x') ++ T) K := by
  refine TurnCalls.use ?_ hk
  have := c _ (get_ahead (k := T) hl)
  rwa [set_ahead hl] at this
def blankRow (w : Nat) : List Trace := List.replicate w ⟨0, 0⟩
structure okBlank (b : Board) (ng np nr nc : Nat) : Prop where
  made : okMade b
  gl : b.glyphs.length ≤ ng
  pl : b.pages.length ≤ np
  rows : ∀ p ∈ b.pages, p.length ≤ nr ∧ (p.headD []).length ≤ nc
  cl : b.cells.length ≤ nr
  blank : ∀ row ∈ b.cells, ∀ t ∈ row, t = ⟨0, 0⟩
def BlankP (own : Bool) (h : List Blk) (i ng np nr nc : Nat) (e : AEnd) (h' : List Blk) : Prop :=
  ∃ b r x, okBlank b ng np nr nc ∧ match own with
    | false => e = .ret (.agg (brdA b)) ∧ h' = h.set i (diceB r x)
    | true => ∃ g0 g1, e = .ret (.agg [sliceOf cGlyph b.glyphs, .sl ⟨h.length + 2, b.pages.length⟩ 1 0 b.pages.length, sliceOf cTraces b.cells]) ∧ h' = h.set i (diceB r x) ++ [g0, g1, .cells b.pages.length (b.pages.flatMap cPage)]
theorem madePage.of {gs : List Glyph} {p : List (List UInt8)} {nr nc n m : Nat} (h : p.length = n ∧ ∀ s ∈ p, s.length = m ∧ ∀ c ∈ s, hasB (mapB gs) (c.toNat : Int) = true) (hn : 0 < n) (hnr : n ≤ nr) (hm : 0 < m) (hmc : m ≤ nc) (hr : nr ≤ 3) (hc : nc ≤ 4) :
    madePage gs p ∧ p.length ≤ nr ∧ (p.headD []).length ≤ nc := by
  obtain ⟨h1, h2⟩ := h
  have hd : (p.headD []).length = m := by rw [headD_get (show 0 < p.length by omega)]; exact (h2 _ (List.getElem_mem _)).1
  exact ⟨⟨⟨by omega, by omega, fun s hs => by rw [hd]; exact (h2 s hs).1, by omega, by omega⟩, fun s hs => (h2 s hs).2⟩, by omega, by omega⟩
theorem below_strs (p : List (List UInt8)) (n : Nat) : belowL n (p.flatMap cStr) = true := belowL_flat (f := cStr) (fun _ => rfl) p
theorem blankRow_zero {m : Nat} (h : m ≤ 4) : (if m * 2 = 0 then [] else (List.range (m * 2)).map fun j => [AV.int .i64 0, .int .i64 0].getD (j % 2) .any) = (blankRow m).flatMap cTrace := by
  match m, h with
  | 0, _ | 1, _ | 2, _ | 3, _ | 4, _ => rfl
theorem blankRow_len (m : Nat) : (blankRow m).length = m := by simp [blankRow]
theorem blankRow_take (m : Nat) : ((blankRow m).flatMap cTrace).take (m * 2) = (blankRow m).flatMap cTrace := List.take_of_length_le (by rw [length_rows cTrace_len]; simp [blankRow])
theorem set_lastK {l : List AV} {k : Nat} {a b : AV} (h : l.length = k) : (l ++ [a]).set k b = l ++ [b] := by subst h; simp
theorem replicate_cells (k : Nat) (row : List Trace) : (List.replicate k row).flatMap cTraces ++ [sliceOf cTrace row] = (List.replicate (k + 1) row).flatMap cTraces := by
  rw [List.replicate_succ', List.flatMap_append]; rfl
theorem traceErr_blank : traceErr ⟨0, 0⟩ = 0 := by decide
theorem okBlank.of {gs : List Glyph} {ps : List (List (List UInt8))} {k m ng np nr nc : Nat} (okg : okGlyphs gs) (h0 : 0 < ps.length) (h4 : ps.length ≤ 4) (hnp : ps.length ≤ np) (hg : gs.length ≤ ng) (hk0 : 0 < k) (hp : ∀ p ∈ ps, madePage gs p ∧ p.length ≤ nr ∧ (p.headD []).length ≤ nc) (hk : k ≤ 3) (hkr : k ≤ nr) (hm0 : 0 < m) (hm : m ≤ 4) : okBlank ⟨gs, ps, List.replicate k (blankRow m)⟩ ng np nr nc := by
  have hd : ((List.replicate k (blankRow m)).headD []) = blankRow m := by cases k with | zero => omega | succ k => rfl
  refine ⟨⟨okg, h0, h4, fun p hp' => (hp p hp').1, ⟨by simp; omega, by simp; omega, fun row hr => ?_, ?_, ?_⟩, ?_⟩, hg, hnp, fun p hp' => (hp p hp').2, by simp; omega, ?_⟩
  · rw [hd]; rw [List.eq_of_mem_replicate hr]
  · simp only; rw [hd, blankRow_len]; omega
  · simp only; rw [hd, blankRow_len]; omega
  · intro row hr t ht
    have e := List.eq_of_mem_replicate hr
    subst e
    rw [List.eq_of_mem_replicate ht]; exact traceErr_blank
  · intro row hr t ht
    have e := List.eq_of_mem_replicate hr
    subst e
    exact List.eq_of_mem_replicate ht
theorem BlankOf_walk (own : Bool) (h : List Blk) (i : Nat) (r : Option (List Int)) (x : Int) (ng np nr nc : Nat) (hg : 0 < ng ∧ ng ≤ 6) (hp : 0 < np ∧ np ≤ 4) (hr : 0 < nr ∧ nr ≤ 3) (hc : 0 < nc ∧ nc ≤ 4) (hi : h[i]? = some (diceB r x)) :
    CallsA Try.prog 32 [.ptr ⟨i, 0⟩ 0, .int .i64 ng, .int .i64 np, .int .i64 nr, .int .i64 nc] h (BlankP own h i ng np nr nc) := by
  have hl : i < h.length := (List.getElem?_eq_some_iff.1 hi).1
  refine CallsA.of_wpe [] { shut := [39, 57], hand := [5, 9, 10, 11] } 56 mixed Try.func32 (by kernel_rfl) rfl (by kernel_rfl) fun j hB hA => ?_; simp only [junk_succ, junk_zero, List.cons_append, List.nil_append, List.length_cons, List.length_nil, Nat.reduceAdd]
  simp (implicitDefEqProofs := false) (dsimp := false) only [go_sem]
  refine Rolls.use (GlyphsOf_ok _ i r x ng hg.2 hg.1 (get_left hi)) ?_
  rintro _ r x ⟨gs, rfl, okg, hgl⟩
  rw [set_left hl]
  simp (implicitDefEqProofs := false) (dsimp := false) only [go_sem, glyphA, get_past0, set_past0, get_past, set_past]
  refine Rolls.use (From_ok _ i r x 1 np (by omega) (by omega) (by omega) (by omega) (get_ahead hl)) ?_
  rintro _ r x ⟨n, rfl, hn⟩
  rw [set_ahead hl]
  obtain ⟨n, rfl⟩ : ∃ k : Nat, n = k := ⟨n.toNat, by omega⟩
  simp (implicitDefEqProofs := false) (dsimp := false) only [go_sem]
  refine WPI.turn (Turns.nilCell (i := h.length + 1) (j := 1) (sz := 1) (by simp only; rw [get_past]; rfl) rfl) ?_
  refine WPI.turn (Turns.nilCell (i := h.length + 1) (j := 2) (sz := 1) (by simp only [List.append_assoc]; rw [set_past, List.append_assoc, get_past]; rfl) rfl) ?_
  simp only [set_past, List.append_assoc, List.set_cons_succ, List.set_cons_zero, List.cons_append, List.nil_append, List.length_append, List.length_set, List.length_cons, List.length_nil, Nat.zero_add, Nat.reduceAdd]
  refine WP.loopI (fun (y : List (List (List UInt8))) s => (y.length ≤ n ∧ ∀ p ∈ y, madePage gs p ∧ p.length ≤ nr ∧ (p.headD []).length ≤ nc) ∧ s.sl.length = 61 ∧ s.df = [] ∧ s.gh = {} ∧ (∃ r x, s.hp = h.set i (diceB r x) ++ [.cells 0 [.nilsl, .nilsl, .nilsl], .cells 0 [.psl (gs.flatMap cGlyph) gs.length, .sl ⟨h.length + 2, y.length⟩ 1 0 y.length, .sl ⟨h.length + 3, 0⟩ 1 0 0], .cells y.length (y.flatMap cPage), .cells 0 []]) ∧ evA s.sl (.tmp 0) = .ptr ⟨i, 0⟩ 0 ∧ evA s.sl (.tmp 3) = .int .i64 nr ∧ evA s.sl (.tmp 4) = .int .i64 nc ∧ evA s.sl (.tmp 10) = .ptr ⟨h.length, 0⟩ 0 ∧ evA s.sl (.tmp 11) = .ptr ⟨h.length + 1, 0⟩ 0 ∧ evA s.sl (.tmp 12) = .int .i64 ((n - y.length : Nat))) (fun (y : List (List (List UInt8))) => n - y.length) ([]) ?_ ?_
  · simp (implicitDefEqProofs := false) (dsimp := false) only [go_sem, Nat.zero_le]
    exact ⟨by simp, ⟨r, x, rfl⟩, rfl⟩
  · rintro ps ⟨sl, df, hp, gh⟩ ⟨ab, al, rfl, rfl, ah, a0, a3, a4, a10, a11, a12⟩
    simp only at ab al ah a0 a3 a4 a10 a11 a12
    obtain ⟨j, rfl⟩ := slots_lit al; clear al; simp only [junk_succ, junk_zero, evA_tmp, nth_16, nth_four, nth_one, nth_zero, Nat.zero_add, Nat.reduceAdd] at  a0 a3 a4 a10 a11 a12 ⊢
    refine wp_ok (so := { shut := [39, 57], hand := [5, 9, 10, 11] }) mixed _ (by kernel_rfl) ?_
    obtain ⟨r, x, rfl⟩ := ah
    by_cases hm : ps.length < n
    · have hs : (((n - ps.length : Nat) : Int) > 0) = True := eq_true (by omega)
      simp (implicitDefEqProofs := false) (dsimp := false) only [go_sem, a0, a3, a4, a10, a11, a12, hs, decide_true]
      obtain ⟨_, r1, x1, ⟨n1, rfl, hn1⟩, c1⟩ := From_det r x 1 nr (by omega) (by omega) (by omega) (by omega)
      obtain ⟨n1, rfl⟩ : ∃ k : Nat, n1 = k := ⟨n1.toNat, by omega⟩
      obtain ⟨_, r2, x2, ⟨m1, rfl, hm1⟩, c2⟩ := From_det r1 x1 1 nc (by omega) (by omega) (by omega) (by omega)
      obtain ⟨m1, rfl⟩ : ∃ k : Nat, m1 = k := ⟨m1.toNat, by omega⟩
      obtain ⟨_, r3, x3, ⟨pg, rfl, hpg⟩, c3⟩ := PageOf_det gs okg n1 m1 (by omega) (by omega) r2 x2
      refine WP.noisy (so := { shut := [39, 57], }) 13 [7, 10, 11] [0, 0, 0, 0, 0, 0, 0, 0, 0, 0, 0, 0, 3] [3, 3, 2, 2, 2, 0, 0, 0, 1, 1, 0, 0, 3] ((fun T => [h.set i (diceB r x) ++ T, h.set i (diceB r1 x1) ++ T, h.set i (diceB r2 x2) ++ T, h.set i (diceB r3 x3) ++ T]) _) rfl mixed (by kernel_rfl) (by kernel_rfl) (by decide) (by kernel_rfl) rfl ?_
      simp (implicitDefEqProofs := false) (dsimp := false) only [go_sem, get_past0, get_past]
      refine turn_use hl (fun h hi => c1 h i hi) ?_
      simp (implicitDefEqProofs := false) (dsimp := false) only [go_sem]
      refine turn_use hl (fun h hi => c2 h i hi) ?_
      simp (implicitDefEqProofs := false) (dsimp := false) only [go_sem]
      refine turn_use hl (fun h hi => c3 h i hi) ?_
      have hl1 : (ps.flatMap cPage).length = ps.length := cPage_len1 ps
      simp (implicitDefEqProofs := false) (dsimp := false) only [go_sem, get_past0, get_past, set_past0, set_past]
      have hw : IntKind.i64.wrap (((n - ps.length : Nat) : Int) - 1) = ((n - (ps ++ [pg]).length : Nat) : Int) := by rw [List.length_append, List.length_singleton, wrap64 (by omega) (by omega)]; omega
      refine ⟨below_strs pg _, ⟨hl1, by omega⟩, ps ++ [pg], ⟨⟨by simp; omega, ?_⟩, ⟨r3, x3, ?_⟩, hw⟩, by simp; omega⟩
      · intro p hp'
        rcases List.mem_append.1 hp' with hp' | hp'
        · exact ab.2 p hp'
        · rw [List.mem_singleton.1 hp']
          exact madePage.of hpg (by omega) (by omega) (by omega) (by omega) hr.2 hc.2
      · simp [cPage, sliceOf]
    · have hs : (((n - ps.length : Nat) : Int) > 0) = False := eq_false (by omega)
      obtain ⟨an, ap⟩ := ab
      have e : n = ps.length := by omega
      subst e
      simp (implicitDefEqProofs := false) (dsimp := false) only [go_sem, a0, a3, a4, a10, a11, a12, hs, decide_false]
      refine Rolls.use (From_ok _ i r x 1 nr (by omega) (by omega) (by omega) (by omega) (get_ahead hl)) ?_
      rintro _ r x ⟨n1, rfl, hn1⟩
      rw [set_ahead hl]
      obtain ⟨n1, rfl⟩ : ∃ k : Nat, n1 = k := ⟨n1.toNat, by omega⟩
      simp (implicitDefEqProofs := false) (dsimp := false) only [go_sem]
      refine Rolls.use (From_ok _ i r x 1 nc (by omega) (by omega) (by omega) (by omega) (get_ahead hl)) ?_
      rintro _ r x ⟨m1, rfl, hm1⟩
      rw [set_ahead hl]
      obtain ⟨m1, rfl⟩ : ∃ k : Nat, m1 = k := ⟨m1.toNat, by omega⟩
      simp (implicitDefEqProofs := false) (dsimp := false) only [go_sem]
      refine WP.loopI (fun (k : Nat) s => (k ≤ n1) ∧ s.sl.length = 61 ∧ s.df = [] ∧ s.gh = {} ∧ (∃ J, s.hp = h.set i (diceB r x) ++ .cells 0 [.nilsl, .nilsl, .nilsl] :: .cells 0 [.psl (gs.flatMap cGlyph) gs.length, .sl ⟨h.length + 2, ps.length⟩ 1 0 ps.length, .sl ⟨h.length + 3, k⟩ 1 0 k] :: .cells ps.length (ps.flatMap cPage) :: .cells k ((List.replicate k (blankRow m1)).flatMap cTraces) :: J) ∧ evA s.sl (.tmp 10) = .ptr ⟨h.length, 0⟩ 0 ∧ evA s.sl (.tmp 11) = .ptr ⟨h.length + 1, 0⟩ 0 ∧ evA s.sl (.tmp 13) = .int .i64 n1 ∧ evA s.sl (.tmp 14) = .int .i64 m1 ∧ evA s.sl (.tmp 15) = .int .i64 k) (fun (k : Nat) => n1 - k) (0) ?_ ?_
      · simp (implicitDefEqProofs := false) (dsimp := false) only [go_sem, Nat.zero_le]
        exact ⟨_, rfl, rfl⟩
      · rintro k ⟨sl, df, hp, gh⟩ ⟨bb, bl, rfl, rfl, bh, b10, b11, b13, b14, b15⟩
        simp only at bb bl bh b10 b11 b13 b14 b15
        obtain ⟨j, rfl⟩ := slots_lit bl; clear bl; simp only [junk_succ, junk_zero, evA_tmp, nth_16, nth_four, nth_one, nth_zero, Nat.zero_add, Nat.reduceAdd] at  b10 b11 b13 b14 b15 ⊢
        refine wp_ok (so := { shut := [39, 57], hand := [5, 9, 10, 11] }) mixed _ (by kernel_rfl) ?_
        obtain ⟨J, rfl⟩ := bh
        by_cases hk : k < n1
        · simp (implicitDefEqProofs := false) (dsimp := false) only [go_sem, b10, b11, b13, b14, b15, nat_lt hk, decide_true]
          refine WP.noisy (so := { shut := [39, 57], }) 5 [3] [0, 0, 0, 0, 1] [1, 1, 0, 0, 1] ((fun T => [h.set i (diceB r x) ++ T, h.set i (diceB r x) ++ (T ++ [.cells 0 ((blankRow m1).flatMap cTrace)])]) _) rfl mixed (by kernel_rfl) (by kernel_rfl) (by decide) (by kernel_rfl) rfl ?_
          simp (implicitDefEqProofs := false) (dsimp := false) only [go_sem, get_past0, get_past, set_past0, set_past]
          have hlk : ((List.replicate k (blankRow m1)).flatMap cTraces).length = k := by rw [cells_len1, List.length_replicate]
          refine ⟨⟨by omega, by omega⟩, blankRow_zero (by omega), by omega, ⟨hlk, by omega⟩, ?_⟩
          refine WPI.turn (Turns.seal_cell (i := h.length + 3) (g := k + 1) (j := k) (a := .sl ⟨h.length + (J.length + 1 + 1 + 1 + 1), 0⟩ 2 0 m1) (a' := sliceOf cTrace (blankRow m1)) (by simp only; rw [get_past]; rfl) (by rw [List.getElem?_append_right (by omega), hlk, Nat.sub_self]; rfl) (by simp only [sealV]; rw [get_past]; simp [sliceOf, blankRow_take, blankRow_len]) (by simp [nmOf])) ?_
          simp only [nmOf, set_past, List.set_cons_succ, List.set_cons_zero]
          rw [set_lastK hlk]
          refine wp_shut [] (so := { shut := [39, 57], }) mixed _ (by kernel_rfl) ?_
          simp (implicitDefEqProofs := false) (dsimp := false) only [go_sem]
          exact ⟨k + 1, ⟨by omega, ⟨_, rfl, ⟨rfl, replicate_cells _ _⟩, rfl⟩, wrap_succ (by omega)⟩, by omega⟩
        · have hs : ((k : Int) < (n1 : Int)) = False := eq_false (by omega)
          have e : k = n1 := by omega
          subst e
          have hlk : ((List.replicate k (blankRow m1)).flatMap cTraces).length = k := by rw [cells_len1, List.length_replicate]
          simp (implicitDefEqProofs := false) (dsimp := false) only [go_sem, b10, b11, b13, b14, b15, hs, decide_false]
          refine WPI.turn (Turns.seal_cell (i := h.length + 1) (g := 0) (j := 2) (a := .sl ⟨h.length + 3, k⟩ 1 0 k) (a' := sliceOf cTraces (List.replicate k (blankRow m1))) (by simp only; rw [get_past]; rfl) rfl (by simp only [sealV]; rw [get_past]; simp [sliceOf, List.take_of_length_le (Nat.le_of_eq hlk)]) (by simp [nmOf])) ?_
          simp only [nmOf, set_past, List.set_cons_succ, List.set_cons_zero]
          have hob : okBlank ⟨gs, ps, List.replicate k (blankRow m1)⟩ ng np nr nc := okBlank.of okg (by omega) (by omega) (by omega) hgl (by omega) (fun p hp => ap p hp) (by omega) (by omega) (by omega) (by omega)
          have hbl : ∀ n, belowL n (gs.flatMap cGlyph) = true ∧ belowL n (ps.flatMap cPage) = true ∧ belowL n ((List.replicate k (blankRow m1)).flatMap cTraces) = true := fun n => by
            have := belowL_mono (Nat.zero_le n) _ (slices_below ⟨gs, ps, List.replicate k (blankRow m1)⟩)
            simpa [belowL, sliceOf, below] using this
          cases own with
          | true =>
            refine wp_shut [] (so := { shut := [39, 57], }) mixed _ (by kernel_rfl) ?_
            simp (implicitDefEqProofs := false) (dsimp := false) only [go_sem, get_past0, get_past, set_past0, set_past]
            have tk : ∀ A B C K, List.take (h.length + 3) (h.set i (diceB r x) ++ A :: B :: C :: K) = h.set i (diceB r x) ++ [A, B, C] := fun A B C K => by
              rw [List.take_append, List.length_set, List.take_of_length_le (by simp), Nat.add_sub_cancel_left]; rfl
            refine ⟨_, h.length + 3, rfl, by omega, ?_, ?_, ⟨gs, ps, List.replicate k (blankRow m1)⟩, r, x, hob, ⟨_, _, rfl, tk _ _ _ _⟩⟩
            · simp only [below, belowL, hbl, Bool.and_true, Bool.true_and]; simp
            · rw [tk, List.all_append, all_set (allBelow_mono (by omega) hB) (diceB_below _ _ _)]
              simp [belowBlk, belowL, below, hbl]
          | false =>
            refine WPI.turn (Turns.seal_cell (i := h.length + 1) (g := 0) (j := 1) (a := .sl ⟨h.length + 2, ps.length⟩ 1 0 ps.length) (a' := sliceOf cPage ps) (by simp only; rw [get_past]; rfl) rfl (by simp only [sealV]; rw [get_past]; simp [sliceOf, List.take_of_length_le (Nat.le_of_eq (cPage_len1 ps))]) (by simp [nmOf])) ?_
            simp only [nmOf, set_past, List.set_cons_succ, List.set_cons_zero]
            refine wp_shut [] (so := { shut := [39, 57], }) mixed _ (by kernel_rfl) ?_
            simp (implicitDefEqProofs := false) (dsimp := false) only [go_sem, get_past0, get_past, set_past0, set_past]
            refine ⟨_, h.length, rfl, Nat.le_refl _, ?_, ?_, ⟨gs, ps, List.replicate k (blankRow m1)⟩, r, x, hob, rfl, ?_⟩
            · simp only [below, belowL, hbl, Bool.and_true]
            · rw [List.take_left' (by simp)]; exact all_set hB (diceB_below _ _ _)
            · rw [List.take_left' (by simp)]
end Go.Mac

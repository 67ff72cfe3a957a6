/- A part of the logic and of the contracts of the functions that the statement reaches; the statement itself is proved in the last text. -/
import Derived.Test.YtdioclckllbhpaaGreatLibB
import Derived.Test.YtdioclckllbhpaaGreatLibMacNZ

set_option linter.all false
set_option linter.unusedVariables false
set_option linter.unusedSimpArgs false
set_option linter.unnecessarySimpa false
namespace Go.Mac
open Go Go.Conc Go.Proofs
set_option maxRecDepth 4000
structure okBoard (b : Board) : Prop where
  pos : 0 < b.pages.length
  most : b.pages.length ≤ 4
  page : ∀ p ∈ b.pages, okPage p
  cells : okCells b.cells
def wayN (b : Board) (m : List (Int × Int)) (p n : Nat) : Lay × List Int := (layN p n, faceB m (b.pages.getD p []) b.cells (layN p n))
def ways (b : Board) (m : List (Int × Int)) (p : Nat) : List (Lay × List Int) := (List.range 18).map (wayN b m p)
def allWays (b : Board) (m : List (Int × Int)) : List (Lay × List Int) := (List.range b.pages.length).flatMap (ways b m)
def encW (x : Lay × List Int) : List AV := [.agg (cLay x.1), .agg (nums12 x.2)]
theorem ways_len (b : Board) (m : List (Int × Int)) (p : Nat) : (ways b m p).length = 18 := by simp [ways]
theorem allWays_len (b : Board) (m : List (Int × Int)) : (allWays b m).length = b.pages.length * 18 := by
  rw [allWays, length_rows (ways_len b m), List.length_range]
theorem ways18_eq {b : Board} {m : List (Int × Int)} {p : Nat} (hp : p < b.pages.length) : ways18 m b.pages[p] b.cells p = (ways b m p).map encW := by
  simp [ways18, ways, wayN, wayA, encW, List.getD, hp, Function.comp_def]
theorem allWays_at {b : Board} {m : List (Int × Int)} {p k : Nat} (hp : p < b.pages.length) (hk : k < 18) : (allWays b m)[p * 18 + k]? = some (wayN b m p k) := by
  have h := drop_rows (f := ways b m) (n := 18) (ways_len b m) (List.range b.pages.length) p (by simpa using hp)
  have e : (allWays b m)[p * 18 + k]? = ((allWays b m).drop (p * 18))[k]? := by rw [List.getElem?_drop]
  rw [e]
  unfold allWays
  rw [h, List.getElem?_append_left (by rw [ways_len]; exact hk)]
  simp [ways, hk]
theorem iter_ways (b : Board) (m : List (Int × Int)) (p : Nat) (hpl : p < b.pages.length) (ok : okBoard b) : IterA Tryz.prog 111 [.pptr [.int .i64 p], .pptr (bdA b m)] ((ways b m p).map encW) := by
  rw [← ways18_eq hpl]
  exact laysOf1_ok b m p hpl (ok.page _ (List.getElem_mem hpl)) ok.cells
theorem call_laysOf1 : callable Tryz.prog 111 := ⟨_, Tryz.func111, rfl, rfl⟩
theorem encW_len {l : List (Lay × List Int)} : ∀ x ∈ l.map encW, x.length = 2 := by
  intro x hx
  obtain ⟨y, _, rfl⟩ := List.mem_map.1 hx
  rfl
theorem own_ok {h1 h2 own : List Blk} {L : Nat} (e1 : h1.length = L) (e2 : h2.length = L) (b2 : h2.all (belowBlk L) = true) (hb : (h1 ++ own).all (belowBlk (h1 ++ own).length) = true) : (h2 ++ own).length = (h1 ++ own).length ∧ (h2 ++ own).all (belowBlk (h1 ++ own).length) = true := by
  rw [List.all_append, Bool.and_eq_true] at *
  exact ⟨by simp [e1, e2], allBelow_mono (by simp [e1]) b2, hb.2⟩
theorem getL {h bs : List Blk} {L i : Nat} (e : h.length = L) : (h ++ bs)[L + i]? = bs[i]? := by rw [← e]; exact hget _ _ _
theorem getL0 {h bs : List Blk} {L : Nat} (e : h.length = L) : (h ++ bs)[L]? = bs[0]? := by rw [← e]; exact hget0 _ _
theorem setL {h bs : List Blk} {L i : Nat} {b : Blk} (e : h.length = L) : (h ++ bs).set (L + i) b = h ++ bs.set i b := by rw [← e]; exact hset _ _ _ _
theorem setL0 {h bs : List Blk} {L : Nat} {b : Blk} (e : h.length = L) : (h ++ bs).set L b = h ++ bs.set 0 b := by rw [← e]; exact hset0 _ _ _
theorem cLay_leaf (l : Lay) : (cLay l).all leafA = true := rfl
@[simp] theorem cLay_len (l : Lay) : (cLay l).length = 4 := rfl
theorem cLay_take (l : Lay) : (cLay l).take 4 = cLay l := rfl
theorem face_len (m : List (Int × Int)) (p : List (List UInt8)) (cs : List (List Trace)) (l : Lay) : (faceB m p cs l).length = 12 := part12_len _ _
theorem setMany12 {t : List AV} {f : List Int} (ht : t.length = 12) (hf : f.length = 12) : setMany t 0 (nums12 f) = nums12 f := setMany_whole (by rw [nums12_len, hf, ht])
theorem same_tail {h1 h2 k x : List Blk} {L : Nat} (e1 : h1.length = L) (e2 : h2.length = L) : ∀ i, L ≤ i → i < (h1 ++ k).length → (h2 ++ (k ++ x))[i]? = (h1 ++ k)[i]? := fun i hi hlt => by
  rw [List.length_append] at hlt
  rw [List.getElem?_append_right (l₁ := h2) (by omega), List.getElem?_append_right (l₁ := h1) (by omega), List.getElem?_append_left (by omega), e1, e2]
theorem marks_loop {h1 h2 k : List Blk} {L hi : Nat} {df : List ADef} (e1 : h1.length = L) (e2 : h2.length = L) (hm : marksAt L (h1 ++ k) (h1 ++ k).length df) (hh : L + k.length < hi) : marksAt L (h2 ++ (k ++ [.defd, .dead])) hi (.mark ⟨L + k.length, 0⟩ :: df) := by
  refine marksAt_more hm rfl (by simp only; omega) (by simp only [List.length_append]; omega) ?_ (same_tail e1 e2) (by simp only; omega)
  simp only
  rw [getL e2, hget0]; rfl
theorem loop_cut {h k own e : List Blk} {c d l : Blk} : h ++ c :: (k ++ d :: l :: (own ++ e)) = (h ++ c :: k) ++ d :: l :: (own ++ e) := by simp
theorem setMany4 {a b c d : AV} {l : Lay} : setMany [a, b, c, d] 0 (cLay l) = cLay l := rfl
theorem setM12 {a0 a1 a2 a3 a4 a5 a6 a7 a8 a9 a10 a11 : AV} {f : List Int} (hf : f.length = 12) : setMany [a0, a1, a2, a3, a4, a5, a6, a7, a8, a9, a10, a11] 0 (nums12 f) = nums12 f := setMany12 rfl hf
theorem lays1_ok (b : Board) (m : List (Int × Int)) (ok : okBoard b) : IterA Tryz.prog 124 [.pptr (bdA b m)] ((allWays b m).map encW) := by
  intro n L J S hg hJ hS hY h h0
  have hlen : ((allWays b m).map encW).length = b.pages.length * 18 := by rw [List.length_map, allWays_len]
  have hL := (hJ 0 h h0).1
  refine CallsA.of_wpe [] {} 22 mixed Tryz.func124 (by kernel_rfl) rfl (by kernel_rfl) fun j hB hA => ?_; simp only [junk_succ, junk_zero, List.cons_append, List.nil_append, List.length_cons, List.length_nil, Nat.reduceAdd]
  simp (implicitDefEqProofs := false) (dsimp := false) only [go_sem, bdA]
  refine WP.loopI (fun (i : Nat) s => (i ≤ b.pages.length) ∧ s.sl.length = 24 ∧ True ∧ s.gh = {} ∧ (∃ h1 k, s.hp = h1 ++ .cells 0 [.yield n] :: k ∧ J (i * 18) h1 ∧ marksAt L s.hp s.hp.length s.df) ∧ evA s.sl (.tmp 1) = .pptr (bdA b m) ∧ evA s.sl (.tmp 2) = .ptr ⟨L, 0⟩ 0 ∧ evA s.sl (.tmp 9) = .int .i64 b.pages.length ∧ evA s.sl (.tmp 10) = .int .i64 i) (fun (i : Nat) => b.pages.length - i) (0) ?_ ?_
  · simp (implicitDefEqProofs := false) (dsimp := false) only [go_sem, bdA, Nat.zero_le]
    exact ⟨⟨h, [], by simp, h0, trivial⟩, by rw [hL]⟩
  · rintro i ⟨sl, df, hp, gh⟩ ⟨ab, al, ad, rfl, ah, a1, a2, a9, a10⟩
    simp only at ab al ah ad a1 a2 a9 a10
    obtain ⟨j, rfl⟩ := slots_lit al; clear al; simp only [junk_succ, junk_zero, evA_tmp, nth_16, nth_four, nth_one, nth_zero, Nat.zero_add, Nat.reduceAdd] at  a1 a2 a9 a10 ⊢
    refine wp_ok (so := {}) mixed _ (by kernel_rfl) ?_
    obtain ⟨h1, k, rfl, hj, hmk⟩ := ah
    obtain ⟨g1, g2, g3, g4⟩ := hJ _ _ hj
    by_cases hi : i < b.pages.length
    · have gL0 : ∀ bs : List Blk, (h1 ++ bs)[L]? = bs[0]? := fun bs => by rw [← g1]; exact hget0 _ _
      simp (implicitDefEqProofs := false) (dsimp := false) only [go_sem, a1, a2, a9, a10, bdA, nat_lt hi, decide_true]
      (first | refine CallsA.use (laysOf_ok b m i) ?_ | refine QuietCalls.use (laysOf_ok b m i) ?_)
      simp (implicitDefEqProofs := false) (dsimp := false) only [go_sem]
      refine WP.rangeIter (so := {}) mixed (by kernel_rfl) (by kernel_rfl) rfl rfl (call_laysOf1) rfl rfl (iter_ways b m i hi ok) (encW_len) (fun k2 h => ∃ h2, h = h2 ++ .cells 0 [.yield n] :: k ∧ J (i * 18 + k2) h2) (fun c h => c = .ret ∧ ∃ h2, h = h2 ++ .cells 0 [.yield n] :: k ∧ S h2) ?_ ?_ ?_ ?_ ?_ ?_
      · rintro k2 h hb ⟨h2, rfl, hj2⟩
        obtain ⟨q1, q2, _⟩ := hJ _ _ hj2
        exact own_ok g1 q1 q2 hb
      · rintro c h hb ⟨_, h2, rfl, hj2⟩
        obtain ⟨q1, q2⟩ := hS _ hj2
        exact own_ok g1 q1 q2 hb
      · exact ⟨h1, rfl, hj⟩
      · rintro k2 h own hk ⟨h2, rfl, hj2⟩ hl2
        rw [List.length_map, ways_len] at hk
        have ex : ((ways b m i).map encW)[k2]'(by rw [List.length_map, ways_len]; exact hk) = [.agg (cLay (layN i k2)), .agg (nums12 (faceB m b.pages[i] b.cells (layN i k2)))] := by simp [ways, wayN, encW, List.getD, hi]
        rw [ex]
        dsimp only
        obtain ⟨q1, q2, q3, q4⟩ := hJ _ _ hj2
        have aL : ∀ a, L + a + 1 = L + (a + 1) := fun a => Nat.add_assoc L a 1
        simp (implicitDefEqProofs := false) (dsimp := false) only [go_sem, a1, a2, a9, a10, bdA, g1, q1, aL, getL q1, getL0 q1, setL q1, setL0 q1, cLay_leaf, cLay_len, cLay_take, setMany4, setM12 (face_len _ _ _ _), nums_take (face_len _ _ _ _), nums_leaf, nums12_len, face_len, Nat.le_refl]
        refine ⟨hg, ?_, ?_⟩
        · rw [loopAr_append _ (by omega), q4 (by rw [hlen]; omega)]
          rw [encW_len _ (List.getElem_mem _)]
        · have ex2 : ((allWays b m).map encW)[i * 18 + k2]'(by rw [hlen]; omega) = [.agg (cLay (layN i k2)), .agg (nums12 (faceB m b.pages[i] b.cells (layN i k2)))] := by
            rw [List.getElem_map]
            have := allWays_at (b := b) (m := m) hi hk
            rw [List.getElem?_eq_getElem (by rw [allWays_len]; omega)] at this
            rw [Option.some.inj this]
            simp [wayN, encW, List.getD, hi]
          have hy := fun own => hY (i * 18 + k2) h2 own (by rw [hlen]; omega) hj2
          rw [ex2] at hy
          refine YieldA.mono (hy _) ?_
          rintro e h' ⟨q, h3, rfl, rfl, hq⟩
          cases q with
          | true =>
            simp (implicitDefEqProofs := false) (dsimp := false) only [go_sem]
            exact ⟨_, ⟨_, loop_cut⟩, h3, rfl, hq⟩
          | false =>
            simp (implicitDefEqProofs := false) (dsimp := false) only [go_sem]
            exact ⟨_, ⟨_, loop_cut⟩, h3, rfl, hq⟩
      · rintro h ⟨h2, rfl, hj2⟩
        rw [List.length_map, ways_len] at hj2
        simp (implicitDefEqProofs := false) (dsimp := false) only [go_sem, bdA]
        refine ⟨i + 1, ⟨by omega, ⟨h2, _, rfl, by rw [show (i + 1) * 18 = i * 18 + 18 by omega]; exact hj2, ?_⟩, wrap_succ (by have := ok.most; omega)⟩, by omega⟩
        rw [g1]
        exact marks_loop (k := .cells 0 [.yield n] :: k) g1 ((hJ _ _ hj2).1) hmk (by rw [(hJ _ _ hj2).1]; simp)
      · rintro c h ⟨rfl, h2, rfl, hj2⟩
        simp (implicitDefEqProofs := false) (dsimp := false) only [go_sem]
        obtain ⟨r1, r2⟩ := hS _ hj2
        rw [g1, ← unmarkK_mark (n := ⟨L + (k.length + 1), 0⟩)]
        refine unmarkK_marks (marks_loop (k := .cells 0 [.yield n] :: k) (hi := L + k.length + 3) g1 r1 hmk (by simp; omega)) fun h' e1 e2 => ⟨_, L, rfl, by omega, rfl, ?_⟩
        rw [e2, List.take_left' r1]
        exact ⟨r2, rfl, .inr hj2⟩
    · have hs : ((i : Int) < (b.pages.length : Int)) = False := eq_false (by omega)
      simp (implicitDefEqProofs := false) (dsimp := false) only [go_sem, a1, a2, a9, a10, hs, decide_false]
      have ei : i = b.pages.length := by omega
      refine unmarkK_marks hmk fun h' e1 e2 => ⟨_, L, rfl, by omega, rfl, ?_⟩
      rw [e2, List.take_left' g1, hlen]
      exact ⟨g2, rfl, .inl (by rw [← ei]; exact hj)⟩
end Go.Mac
namespace Go.Mac
open Go Go.Conc Go.Proofs
set_option maxRecDepth 4000
def rightB (b : Board) (x : Lay × List Int) : Bool := (misB x.2 b.cells).length == 0
def rightsB (b : Board) (m : List (Int × Int)) : List (Lay × List Int) := (allWays b m).filter (rightB b)
def rightsTo (b : Board) (m : List (Int × Int)) (k : Nat) : List (Lay × List Int) := ((allWays b m).take k).filter (rightB b)
def cLayF (x : Lay × List Int) : List AV := cLay x.1
def cFaceF (x : Lay × List Int) : List AV := nums12 x.2
theorem belowL_flat {α : Type} {f : α → List AV} {n : Nat} (h : ∀ x, belowL 0 (f x) = true) (l : List α) : belowL n (l.flatMap f) = true := by
  refine belowL_mono (Nat.zero_le n) _ ?_
  rw [belowL_all, List.all_flatMap, List.all_eq_true]
  intro x _
  have := h x
  rwa [belowL_all] at this
theorem nums_below (f : List Int) : belowL 0 (nums12 f) = true := by
  rw [belowL_all, List.all_eq_true]; intro x hx
  obtain ⟨y, _, rfl⟩ := List.mem_map.1 hx
  rfl
theorem allWays_face {b : Board} {m : List (Int × Int)} (k : Nat) (hk : k < (allWays b m).length) : (allWays b m)[k].2.length = 12 := by
  have h : ∀ x ∈ allWays b m, x.2.length = 12 := by
    intro x hx
    obtain ⟨p, _, hx⟩ := List.mem_flatMap.1 hx
    obtain ⟨n, _, rfl⟩ := List.mem_map.1 hx
    exact face_len _ _ _ _
  exact h _ (List.getElem_mem hk)
theorem call_lays1 : callable Tryz.prog 124 := ⟨_, Tryz.func124, rfl, rfl⟩
theorem rightsTo_succ {b : Board} {m : List (Int × Int)} {k : Nat} (hk : k < (allWays b m).length) : rightsTo b m (k + 1) = rightsTo b m k ++ if rightB b (allWays b m)[k] = true then [(allWays b m)[k]] else [] := by
  unfold rightsTo
  rw [List.take_add_one, List.getElem?_eq_getElem hk, List.filter_append]
  congr 1
  simp only [Option.toList_some, List.filter_cons, List.filter_nil]
@[simp] theorem cLayF_len (x) : (cLayF x).length = 4 := rfl
theorem cFaceF_len12 (x : Lay × List Int) (h : x.2.length = 12) : (cFaceF x).length = 12 := by rw [cFaceF, nums12_len, h]
theorem faces_len : ∀ (l : List (Lay × List Int)), (∀ x ∈ l, x.2.length = 12) → (l.flatMap cFaceF).length = l.length * 12
  | [], _ => rfl
  | x :: l, h => by
    rw [List.flatMap_cons, List.length_append, faces_len l (fun y hy => h y (by simp [hy])), cFaceF_len12 x (h x (by simp)), List.length_cons]
    omega
theorem rightsTo_face {b : Board} {m : List (Int × Int)} {k : Nat} (x) (hx : x ∈ rightsTo b m k) : x.2.length = 12 := by
  have h1 := List.mem_of_mem_take (List.mem_filter.1 hx).1
  obtain ⟨i, hi, rfl⟩ := List.mem_iff_getElem.1 h1
  exact allWays_face i hi
theorem rightsTo_le {b : Board} {m : List (Int × Int)} (ok : okBoard b) (k : Nat) : (rightsTo b m k).length ≤ 72 := by
  have h1 : (rightsTo b m k).length ≤ ((allWays b m).take k).length := List.length_filter_le _ _
  rw [List.length_take, allWays_len] at h1
  have := ok.most
  omega
theorem cLay_below {n : Nat} (l : Lay) : belowL n (cLay l) = true := belowL_mono (Nat.zero_le n) _ rfl
theorem nums_belowN {n : Nat} (f : List Int) : belowL n (nums12 f) = true := belowL_mono (Nat.zero_le n) _ (nums_below f)
theorem loop_cut5 {h own e : List Blk} {a b c d f g l : Blk} : h ++ a :: b :: c :: d :: f :: g :: l :: (own ++ e) = (h ++ [a, b, c, d, f]) ++ g :: l :: (own ++ e) := by simp
def rightsH (b : Board) (m : List (Int × Int)) (L : Nat) (l : List (Lay × List Int)) : List Blk :=
  [.cells 0 (bdA b m), .cells 0 [.sl ⟨L + 3, l.length⟩ 4 0 l.length], .cells 0 [.sl ⟨L + 4, l.length⟩ 12 0 l.length], .cells l.length (l.flatMap cLayF), .cells l.length (l.flatMap cFaceF)]
theorem mine_ok {h bs : List Blk} {n : Nat} (hB : h.all (belowBlk h.length) = true) (hn : n = h.length + bs.length) (hb : bs.all (belowBlk n) = true) : (h ++ bs).length = n ∧ (h ++ bs).all (belowBlk n) = true := by
  refine ⟨by rw [List.length_append, hn], ?_⟩
  rw [List.all_append, hb, allBelow_mono (by omega) hB]; rfl
theorem rightsH_below (b : Board) (m : List (Int × Int)) (L : Nat) (l : List (Lay × List Int)) {n : Nat} (hn : n = L + 5) : (rightsH b m L l).all (belowBlk n) = true := by
  have := belowL_mono (Nat.zero_le n) _ (bdA_below b m)
  subst hn
  simp only [rightsH, List.all_cons, List.all_nil, belowBlk, this, belowL, below, belowL_flat (f := cLayF) (fun _ => rfl), belowL_flat (f := cFaceF) (fun _ => nums_below _)]
  simp
theorem rights_ok (b : Board) (m : List (Int × Int)) (ok : okBoard b) : PureA Tryz.prog 69 [.agg (bdA b m)] (.tup [sliceOf cLayF (rightsB b m), sliceOf cFaceF (rightsB b m)]) := by
  refine PureA.of_wpe [2,3] { shut := [19, 23], hand := [7] } 26 mixed Tryz.func69 (by kernel_rfl) rfl (by kernel_rfl) (by simp only [below, belowL, sliceOf, belowL_flat (f := cLayF) (fun _ => rfl), belowL_flat (f := cFaceF) (fun _ => nums_below _), Bool.and_self]) fun h j hB => ?_
  simp only [junk_succ, junk_zero, List.cons_append, List.nil_append, List.length_cons, List.length_nil, Nat.reduceAdd]
  simp (implicitDefEqProofs := false) (dsimp := false) only [go_sem, bdA]
  (first | refine CallsA.use (lays_ok b m) ?_ | refine QuietCalls.use (lays_ok b m) ?_)
  simp (implicitDefEqProofs := false) (dsimp := false) only [go_sem]
  refine WPI.turn (Turns.nilCell (i := h.length + 1) (j := 0) (sz := 4) (by simp only; rw [hget]; rfl) rfl) ?_
  refine WPI.turn (Turns.nilCell (i := h.length + 2) (j := 0) (sz := 12) (by simp only [List.append_assoc]; rw [hset, List.append_assoc, hget]; rfl) rfl) ?_
  simp only [hset, List.append_assoc, List.set_cons_succ, List.set_cons_zero, List.cons_append, List.nil_append, List.length_append, List.length_cons, List.length_nil, Nat.zero_add, Nat.reduceAdd]
  refine WP.rangeIterN (h.length + 6) (by simp <;> omega)  (so := { shut := [19, 23], hand := [7] }) mixed (by kernel_rfl) (by kernel_rfl) rfl rfl (call_lays1) rfl rfl (lays1_ok b m ok) (encW_len) (fun k h1 => h1 = h ++ rightsH b m h.length (rightsTo b m k)) (fun _ _ => False) ?_ ?_ ?_ ?_ ?_ ?_
  · rintro k _ _ rfl
    exact mine_ok hB (by simp [rightsH]) (rightsH_below _ _ _ _ (by simp))
  · rintro _ _ _ ⟨⟩
  · simp [rightsH, rightsTo, bdA, sliceOf]
  · rintro k _ own hk rfl hl2
    rw [List.length_map] at hk
    have ex : ((allWays b m).map encW)[k]'(by rw [List.length_map]; exact hk) = [.agg (cLay (allWays b m)[k].1), .agg (nums12 (allWays b m)[k].2)] := by simp [encW]
    rw [ex]
    dsimp only
    have e12 := allWays_face (b := b) (m := m) k hk
    simp (implicitDefEqProofs := false) (dsimp := false) only [go_sem, rightsH, bdA, cLay_leaf, cLay_len, cLay_take, setMany4, setM12 e12, nums_take e12, nums_leaf, nums12_len, e12, Nat.le_refl]
    (first | refine CallsA.use (misfits_ok b m _ e12 ok.cells) ?_ | refine QuietCalls.use (misfits_ok b m _ e12 ok.cells) ?_)
    simp (implicitDefEqProofs := false) (dsimp := false) only [go_sem, len_eq0]
    refine ⟨fun hr => ?_, fun hr => ?_⟩
    · have hl : (rightsTo b m (k + 1)) = rightsTo b m k ++ [(allWays b m)[k]] := by
        rw [rightsTo_succ hk, rightB, hr]; rfl
      refine WP.noisy (so := { shut := [19, 23], }) 8 [3, 7] [0, 0, 0, 0, 0, 0, 0, 0] [0, 0, 0, 0, 1, 1, 1, 0] ((fun T => [h ++ .cells 0 (bdA b m) :: .cells 0 [.sl ⟨h.length + 3, (rightsTo b m k).length⟩ 4 0 (rightsTo b m k).length] :: .cells 0 [.sl ⟨h.length + 4, (rightsTo b m k).length⟩ 12 0 (rightsTo b m k).length] :: .cells (rightsTo b m k).length ((rightsTo b m k).flatMap cLayF) :: .cells (rightsTo b m k).length ((rightsTo b m k).flatMap cFaceF) :: T, h ++ .cells 0 (bdA b m) :: .cells 0 [.sl ⟨h.length + 3, (rightsTo b m k).length⟩ 4 0 (rightsTo b m k).length] :: .cells 0 [.sl ⟨h.length + 4, (rightsTo b m k).length⟩ 12 0 (rightsTo b m k).length] :: .cells ((rightsTo b m k).length + 1) ((rightsTo b m k).flatMap cLayF ++ cLay (allWays b m)[k].1) :: .cells (rightsTo b m k).length ((rightsTo b m k).flatMap cFaceF) :: T, h ++ .cells 0 (bdA b m) :: .cells 0 [.sl ⟨h.length + 3, (rightsTo b m k).length⟩ 4 0 (rightsTo b m k).length] :: .cells 0 [.sl ⟨h.length + 4, (rightsTo b m k).length⟩ 12 0 (rightsTo b m k).length] :: .cells ((rightsTo b m k).length + 1) ((rightsTo b m k).flatMap cLayF ++ cLay (allWays b m)[k].1) :: .cells ((rightsTo b m k).length + 1) ((rightsTo b m k).flatMap cFaceF ++ nums12 (allWays b m)[k].2) :: T]) _) rfl mixed (by kernel_rfl) (by kernel_rfl) (by decide) (by kernel_rfl) rfl ?_
      have hF := faces_len (rightsTo b m k) (fun x hx => rightsTo_face x hx)
      have hN := rightsTo_le (m := m) ok k
      simp (implicitDefEqProofs := false) (dsimp := false) only [go_sem, bdA, length_rows cLayF_len, hF, cLay_leaf, cLay_len, cLay_take, setMany4, setM12 e12, nums_take e12, nums_leaf, nums12_len, e12, Nat.le_refl, cLay_below, nums_belowN]
      refine ⟨by omega, by omega, _, ⟨_, loop_cut5⟩, ?_⟩
      rw [hl]
      simp [cLayF, cFaceF, rightsH, bdA, sliceOf]
    · have hl : (rightsTo b m (k + 1)) = rightsTo b m k := by
        rw [rightsTo_succ hk, rightB, hr]; simp
      rw [hl]
      exact ⟨_, ⟨_, loop_cut5⟩, rfl⟩
  · rintro _ rfl
    simp (implicitDefEqProofs := false) (dsimp := false) only [go_sem, rightsH]
    have hl : rightsTo b m ((allWays b m).map encW).length = rightsB b m := by rw [List.length_map, rightsTo, List.take_length]; rfl
    have hF := faces_len (rightsTo b m ((allWays b m).map encW).length) (fun x hx => rightsTo_face x hx)
    rw [List.take_of_length_le (by rw [length_rows cLayF_len]; exact Nat.le_refl _), List.take_of_length_le (by rw [hF]; exact Nat.le_refl _), hl]
    exact ⟨rfl, rfl⟩
  · rintro _ _ ⟨⟩
end Go.Mac
namespace Go.Mac
open Go Go.Conc Go.Proofs
set_option maxRecDepth 4000
theorem rowsErr_zero {m : List (Int × Int)} {w : Nat} : ∀ {l : List (List UInt8)}, rowsErr m w l = 0 → ∀ r ∈ l, sizedB r.length 4 = 0 ∧ r.length = w ∧ charsErr m r = 0
  | [], _, r, hr => by cases hr
  | row :: l, h, r, hr => by
    unfold rowsErr at h
    by_cases c1 : sizedB row.length 4 = 0
    · rw [if_neg (by simp [c1])] at h
      by_cases c2 : row.length = w
      · rw [if_neg (by simp [c2])] at h
        by_cases c3 : charsErr m row = 0
        · rw [if_neg (by simp [c3])] at h
          rcases List.mem_cons.1 hr with rfl | hr
          · exact ⟨c1, c2, c3⟩
          · exact rowsErr_zero h r hr
        · rw [if_pos c3] at h; cases h
      · rw [if_pos c2] at h; cases h
    · rw [if_pos c1] at h; exact absurd h c1
theorem headD_get {α : Type} {l : List α} {d : α} (h : 0 < l.length) : l.headD d = l[0] := by cases l with | nil => simp at h | cons a l => rfl
theorem okPage.of {m : List (Int × Int)} {p : List (List UInt8)} (h : pageErr m p = 0) : okPage p := by
  unfold pageErr at h
  by_cases c1 : sizedB p.length 3 = 0
  · rw [if_neg (by simp [c1])] at h
    have h1 := sizedB_zero c1
    have h2 := rowsErr_zero h
    have h3 := sizedB_zero (h2 _ (List.getElem_mem (show 0 < p.length by omega))).1
    have h4 := headD_get (d := ([] : List UInt8)) (show 0 < p.length by omega)
    exact ⟨by omega, by omega, fun r hr => (h2 r hr).2.1, by rw [h4]; omega, by rw [h4]; omega⟩
  · rw [if_pos c1] at h; exact absurd h c1
theorem pagesErr_zero {m : List (Int × Int)} : ∀ {l : List (List (List UInt8))}, pagesErr m l = 0 → ∀ p ∈ l, pageErr m p = 0
  | [], _, r, hr => by cases hr
  | q :: l, h, p, hp => by
    unfold pagesErr at h
    by_cases c : pageErr m q = 0
    · rw [if_neg (by simp [c])] at h
      rcases List.mem_cons.1 hp with rfl | hp
      · exact c
      · exact pagesErr_zero h p hp
    · rw [if_pos c] at h; exact absurd h c
theorem cellRowsErr_zero {w : Nat} : ∀ {l : List (List Trace)}, cellRowsErr w l = 0 → ∀ r ∈ l, sizedB r.length 4 = 0 ∧ r.length = w ∧ tracesErr r = 0
  | [], _, r, hr => by cases hr
  | row :: l, h, r, hr => by
    unfold cellRowsErr at h
    by_cases c1 : sizedB row.length 4 = 0
    · rw [if_neg (by simp [c1])] at h
      by_cases c2 : row.length = w
      · rw [if_neg (by simp [c2])] at h
        by_cases c3 : tracesErr row = 0
        · rw [if_neg (by simp [c3])] at h
          rcases List.mem_cons.1 hr with rfl | hr
          · exact ⟨c1, c2, c3⟩
          · exact cellRowsErr_zero h r hr
        · rw [if_pos c3] at h; exact absurd h c3
      · rw [if_pos c2] at h; cases h
    · rw [if_pos c1] at h; exact absurd h c1
theorem okCells.of {p : List (List Trace)} (h : cellsErr p = 0) : okCells p := by
  unfold cellsErr at h
  by_cases c1 : sizedB p.length 3 = 0
  · rw [if_neg (by simp [c1])] at h
    have h1 := sizedB_zero c1
    have h2 := cellRowsErr_zero h
    have h3 := sizedB_zero (h2 _ (List.getElem_mem (show 0 < p.length by omega))).1
    have h4 := headD_get (d := ([] : List Trace)) (show 0 < p.length by omega)
    exact ⟨by omega, by omega, fun r hr => (h2 r hr).2.1, by rw [h4]; omega, by rw [h4]; omega⟩
  · rw [if_pos c1] at h; exact absurd h c1
theorem boardErr_zero {b : Board} (h : boardErr b = 0) : glyphsErr b.glyphs = 0 ∧ sizedB b.pages.length 4 = 0 ∧ pagesErr (mapB b.glyphs) b.pages = 0 ∧ cellsErr b.cells = 0 := by
  unfold boardErr at h
  by_cases c1 : glyphsErr b.glyphs = 0
  · rw [if_neg (by simp [c1])] at h
    by_cases c2 : sizedB b.pages.length 4 = 0
    · rw [if_neg (by simp [c2])] at h
      by_cases c3 : pagesErr (mapB b.glyphs) b.pages = 0
      · rw [if_neg (by simp [c3])] at h
        exact ⟨c1, c2, c3, h⟩
      · rw [if_pos c3] at h; exact absurd h c3
    · rw [if_pos c2] at h; exact absurd h c2
  · rw [if_pos c1] at h; exact absurd h c1
theorem okBoard.of {b : Board} (h : boardErr b = 0) : okBoard b := by
  obtain ⟨_, h2, h3, h4⟩ := boardErr_zero h
  have := sizedB_zero h2
  exact ⟨by omega, by omega, fun p hp => okPage.of (pagesErr_zero h3 p hp), okCells.of h4⟩
theorem leaf4 {x y z t : AV} (h : [x, y, z, t].all leafA = true) : leafA x = true ∧ leafA y = true ∧ leafA z = true ∧ leafA t = true := by
  simp only [List.all_cons, List.all_nil, Bool.and_true, Bool.and_eq_true] at h
  exact ⟨h.1, h.2.1, h.2.2.1, h.2.2.2⟩
theorem open_use {b : Board} {h : List Blk} {Post : AEnd → List Blk → Prop} (h1 : boardErr b = 0 → Post (.ret (.tup [.agg (bdA b (mapB b.glyphs)), .int .i64 0])) h) (h2 : boardErr b ≠ 0 → (boardErr b != 0) = true → ∀ x y z t, leafA x = true → leafA y = true → leafA z = true → leafA t = true → Post (.ret (.tup [.agg [x, y, z, t], .int .i64 (boardErr b)])) h) : CallsA Tryz.prog 58 [.agg (brdA b)] h Post :=
  (open_ok b h).mono fun e h' q => by
    obtain ⟨rfl, ⟨e0, rfl⟩ | ⟨e1, x, y, z, t, hf, rfl⟩⟩ := q
    · exact h1 e0
    · obtain ⟨f1, f2, f3, f4⟩ := leaf4 hf
      exact h2 e1 (by simpa using e1) x y z t f1 f2 f3 f4
def laysB (b : Board) : List (Lay × List Int) := rightsB b (mapB b.glyphs)
def unlessErr (e : Int) (v : AV) : AV := if e = 0 then v else .nilsl
theorem unless_ok {e : Int} {v : AV} (h : e = 0) : unlessErr e v = v := if_pos h
theorem unless_bad {e : Int} {v : AV} (h : e ≠ 0) : unlessErr e v = .nilsl := if_neg h
theorem unless_below {e : Int} {v : AV} (h : below 0 v = true) : below 0 (unlessErr e v) = true := by
  unfold unlessErr; split
  · exact h
  · rfl
theorem Lays_ok (b : Board) : PureA Tryz.prog 43 [.agg (brdA b)] (.tup [unlessErr (boardErr b) (sliceOf cLayF (laysB b)), .int .i64 (boardErr b)]) := by
  refine PureA.of_wpp {} 21 mixed Tryz.func43 (by kernel_rfl) rfl (by kernel_rfl) (by simp only [below, belowL, unless_below (v := sliceOf cLayF (laysB b)) (below_psl (fun _ => rfl) _), Bool.and_self]) fun h j hB => ?_
  simp only [junk_succ, junk_zero, List.cons_append, List.nil_append, List.length_cons, List.length_nil, Nat.reduceAdd]
  simp (implicitDefEqProofs := false) (dsimp := false) only [go_sem, brdA]
  refine open_use (fun e0 => ?_) (fun e1 e2 x y z t f1 f2 f3 f4 => ?_)
  · simp (implicitDefEqProofs := false) (dsimp := false) only [go_sem, bdA]
    (first | refine CallsA.use (rights_ok b _ (okBoard.of e0)) ?_ | refine QuietCalls.use (rights_ok b _ (okBoard.of e0)) ?_)
    simp (implicitDefEqProofs := false) (dsimp := false) only [go_sem, e0, unless_ok e0]
    rfl
  · simp only [leafA] at f1 f2 f3 f4
    simp (implicitDefEqProofs := false) (dsimp := false) only [go_sem, f1, f2, f3, f4, e2, unless_bad e1]
end Go.Mac
namespace Go.Mac
open Go Go.Conc Go.Proofs
set_option maxRecDepth 4000
def cByte (n : Nat) : List AV := [.int .u8 n]
@[simp] theorem cByte_len (n) : (cByte n).length = 1 := rfl
def nameL (gs : List Glyph) : List Nat := 45 :: gs.map gkey
def changeB (m : List (Int × Int)) (gs : List Glyph) (l : Lay) (t : Trace) : Option Nat := (nameL gs).find? fun n => fitsB (asB l (inkB m n)) t
def changeA : Option Nat → AV
  | some n => .tup [.int .u8 n, .bool true]
  | none => .tup [.int .u8 0, .bool false]
theorem changeA_below (o : Option Nat) : below 0 (changeA o) = true := by cases o <;> rfl
def one12 (k : Nat) (v : Int) : List Int := part12 (fun i => if i = k then v else 0) 12
theorem one12_len (k : Nat) (v : Int) : (one12 k v).length = 12 := part12_len _ _
theorem one12_get {k : Nat} {v : Int} (h : k < 12) : (one12 k v).getD k 0 = v := by
  simp [one12, part12, List.getD, h]
theorem zeros_set {k : Nat} {v : Int} (h : k < 12) : [AV.int .i64 0, .int .i64 0, .int .i64 0, .int .i64 0, .int .i64 0, .int .i64 0, .int .i64 0, .int .i64 0, .int .i64 0, .int .i64 0, .int .i64 0, .int .i64 0].set k (.int .i64 v) = nums12 (one12 k v) := by
  apply List.ext_getElem?
  intro i
  by_cases hi : i < 12
  · have e : [AV.int .i64 0, .int .i64 0, .int .i64 0, .int .i64 0, .int .i64 0, .int .i64 0, .int .i64 0, .int .i64 0, .int .i64 0, .int .i64 0, .int .i64 0, .int .i64 0] = List.replicate 12 (.int .i64 0) := rfl
    rw [e, List.getElem?_set]
    simp only [List.length_replicate, h, if_true, nums12, one12, part12, List.getElem?_map, List.getElem?_range hi, hi, Option.map_some, List.getElem?_replicate]
    by_cases hk : k = i
    · subst hk; simp
    · rw [if_neg hk, if_neg (fun e : i = k => hk e.symm)]
  · rw [List.getElem?_eq_none (by simp; omega), List.getElem?_eq_none (by rw [nums12_len, one12_len]; omega)]
theorem name_wrap {gs : List Glyph} (h : okGlyphs gs) {x : Nat} (hx : x < (nameL gs).length) : IntKind.i32.wrap ((nameL gs)[x] : Int) = (((nameL gs)[x] : Nat) : Int) := by
  have hn : ∀ n ∈ nameL gs, n ≤ 122 := by
    intro n hn
    rcases List.mem_cons.1 hn with rfl | hn
    · decide
    · obtain ⟨g, hg, rfl⟩ := List.mem_map.1 hn
      exact (h.one g hg).2.2.1
  have := hn _ (List.getElem_mem hx)
  exact wrap32 (by omega) (by omega)
theorem change_ok (b : Board) (m : List (Int × Int)) (l : Lay) (okg : okGlyphs b.glyphs) (okc : okCells b.cells) (r c : Nat) (hr : r < b.cells.length) (hc : c < (b.cells.headD []).length) : PureA Tryz.prog 114 [.agg (bdA b m), .agg (cLay l), .int .i64 r, .int .i64 c] (changeA (changeB m b.glyphs l (traceAt b.cells r c))) := by
  refine PureA.of_wpp { shut := [29], tail := [(11, 10)] } 52 mixed Tryz.func114 (by kernel_rfl) rfl (by kernel_rfl) (changeA_below _) fun h j hB => ?_
  simp only [junk_succ, junk_zero, List.cons_append, List.nil_append, List.length_cons, List.length_nil, Nat.reduceAdd]
  have q1 := okc.most
  have q2 := okc.wmost
  have q3 := okg.most
  simp (implicitDefEqProofs := false) (dsimp := false) only [go_sem, bdA]
  refine WP.loopI (fun (i : Nat) s => (i ≤ b.glyphs.length) ∧ s.sl.length = 56 ∧ s.df = [] ∧ s.gh = {} ∧ (∃ k, s.hp = h ++ .cells 0 (bdA b m) :: .cells 0 (cLay l) :: .cells i ((nameL (b.glyphs.take i)).flatMap cByte) :: k) ∧ evA s.sl (.tmp 2) = .int .i64 r ∧ evA s.sl (.tmp 3) = .int .i64 c ∧ evA s.sl (.tmp 4) = .ptr ⟨h.length, 0⟩ 0 ∧ evA s.sl (.tmp 5) = .ptr ⟨h.length + 1, 0⟩ 0 ∧ evA s.sl (.tmp 10) = .sl ⟨h.length + 2, i⟩ 1 0 (i + 1) ∧ evA s.sl (.tmp 19) = sliceOf cGlyph b.glyphs ∧ evA s.sl (.tmp 20) = .int .i64 b.glyphs.length ∧ evA s.sl (.tmp 21) = .int .i64 i) (fun (i : Nat) => b.glyphs.length - i) (0) ?_ ?_
  · simp (implicitDefEqProofs := false) (dsimp := false) only [go_sem, bdA, Nat.zero_le]
    exact ⟨_, rfl, rfl⟩
  · rintro i ⟨sl, df, hp, gh⟩ ⟨ab, al, rfl, rfl, ah, a2, a3, a4, a5, a10, a19, a20, a21⟩
    simp only at ab al ah a2 a3 a4 a5 a10 a19 a20 a21
    obtain ⟨j, rfl⟩ := slots_lit al; clear al; simp only [junk_succ, junk_zero, evA_tmp, nth_16, nth_four, nth_one, nth_zero, Nat.zero_add, Nat.reduceAdd] at  a2 a3 a4 a5 a10 a19 a20 a21 ⊢
    refine wp_ok (so := { shut := [29], tail := [(11, 10)] }) mixed _ (by kernel_rfl) ?_
    obtain ⟨k, rfl⟩ := ah
    by_cases hi : i < b.glyphs.length
    · obtain ⟨c', hc', hk'⟩ := one_name (okg.one _ (List.getElem_mem hi)).1
      have hl : (nameL (b.glyphs.take i)).length = i + 1 := by simp [nameL]; omega
      simp (implicitDefEqProofs := false) (dsimp := false) only [go_sem, a2, a3, a4, a5, a10, a19, a20, a21, bdA, nat_lt hi, decide_true, rowN cGlyph_len hi, rowN_le cGlyph_len hi, hi, cGlyph, hc', length_rows cByte_len, hl]
      refine ⟨by omega, i + 1, ⟨by omega, ⟨_, ⟨rfl, ?_⟩, rfl⟩, rfl, wrap_succ (by omega)⟩, by omega⟩
      have ht : b.glyphs.take (i + 1) = b.glyphs.take i ++ [b.glyphs[i]] := by rw [List.take_add_one, List.getElem?_eq_getElem hi]; rfl
      rw [ht]
      simp only [nameL, List.map_append, List.map_cons, List.map_nil, List.flatMap_cons, List.flatMap_append, List.flatMap_nil, List.append_nil, cByte, hk', List.cons_append, List.nil_append]
    · have hs : ((i : Int) < (b.glyphs.length : Int)) = False := eq_false (by omega)
      have ei : i = b.glyphs.length := by omega
      subst ei
      rw [List.take_length]
      simp (implicitDefEqProofs := false) (dsimp := false) only [go_sem, a2, a3, a4, a5, a10, a19, a20, a21, bdA, hs, decide_false]
      have hl : (nameL b.glyphs).length = b.glyphs.length + 1 := by simp [nameL]
      refine WP.loopI (fun (x : Nat) s => (x ≤ b.glyphs.length + 1 ∧ ((nameL b.glyphs).drop x).find? (fun n : Nat => fitsB (asB l (inkB m n)) (traceAt b.cells r c)) = changeB m b.glyphs l (traceAt b.cells r c)) ∧ s.sl.length = 56 ∧ s.df = [] ∧ s.gh = {} ∧ (∃ k, s.hp = h ++ .cells 0 (bdA b m) :: .cells 0 (cLay l) :: .cells b.glyphs.length ((nameL b.glyphs).flatMap cByte) :: k) ∧ evA s.sl (.tmp 2) = .int .i64 r ∧ evA s.sl (.tmp 3) = .int .i64 c ∧ evA s.sl (.tmp 4) = .ptr ⟨h.length, 0⟩ 0 ∧ evA s.sl (.tmp 5) = .ptr ⟨h.length + 1, 0⟩ 0 ∧ evA s.sl (.tmp 32) = .sl ⟨h.length + 2, b.glyphs.length⟩ 1 0 (b.glyphs.length + 1) ∧ evA s.sl (.tmp 33) = .int .i64 (b.glyphs.length + 1 : Nat) ∧ evA s.sl (.tmp 34) = .int .i64 x) (fun (x : Nat) => b.glyphs.length + 1 - x) (0) ?_ ?_
      · simp (implicitDefEqProofs := false) (dsimp := false) only [go_sem, bdA, Nat.zero_le]
        rfl
      · rintro x ⟨sl, df, hp, gh⟩ ⟨eb, el, rfl, rfl, eh, e2, e3, e4, e5, e32, e33, e34⟩
        simp only at eb el eh e2 e3 e4 e5 e32 e33 e34
        obtain ⟨j, rfl⟩ := slots_lit el; clear el; simp only [junk_succ, junk_zero, evA_tmp, nth_16, nth_four, nth_one, nth_zero, Nat.zero_add, Nat.reduceAdd] at  e2 e3 e4 e5 e32 e33 e34 ⊢
        refine wp_ok (so := { shut := [29], tail := [(11, 10)] }) mixed _ (by kernel_rfl) ?_
        obtain ⟨k, rfl⟩ := eh
        obtain ⟨eb, eq⟩ := eb
        by_cases hx : x < b.glyphs.length + 1
        · have hx2 : x < (nameL b.glyphs).length := by omega
          rw [drop_get hx2] at eq
          have hg := row1 cByte_len hx2
          simp (implicitDefEqProofs := false) (dsimp := false) only [go_sem, e2, e3, e4, e5, e32, e33, e34, bdA, nat_lt hx, decide_true, hg, cByte, length_rows cByte_len, hl, name_wrap okg hx2, look92, cLay_len, cLay_take, Nat.le_refl]
          (first | refine CallsA.use (as_ok l _) ?_ | refine QuietCalls.use (as_ok l _) ?_)
          simp (implicitDefEqProofs := false) (dsimp := false) only [go_sem, zeros_set (k := r * 4 + c) (by omega), bdA, nums12_len, one12_len, Nat.le_refl, nums_take (one12_len _ _)]
          refine ⟨by omega, by omega, by omega, ?_⟩
          have hr1 := right_ok b m (one12 (r * 4 + c) (asB l (inkB m (nameL b.glyphs)[x]))) (one12_len _ _) okc r c hr hc
          rw [show 4 * r + c = r * 4 + c by omega, one12_get (by omega)] at hr1
          (first | refine CallsA.use (hr1) ?_ | refine QuietCalls.use (hr1) ?_)
          cases hf : fitsB (asB l (inkB m (nameL b.glyphs)[x])) (traceAt b.cells r c) with
          | true =>
            simp (implicitDefEqProofs := false) (dsimp := false) only [go_sem]
            simp only [List.find?_cons, hf] at eq
            rw [← eq]; rfl
          | false =>
            simp (implicitDefEqProofs := false) (dsimp := false) only [go_sem, bdA]
            simp only [List.find?_cons, hf] at eq
            exact ⟨x + 1, ⟨⟨by omega, eq⟩, wrap_succ (by omega)⟩, by omega⟩
        · have hs : ((x : Int) < ((b.glyphs.length + 1 : Nat) : Int)) = False := eq_false (by omega)
          simp (implicitDefEqProofs := false) (dsimp := false) only [go_sem, e2, e3, e4, e5, e32, e33, e34, bdA, hs, decide_false]
          rw [List.drop_eq_nil_of_le (by omega)] at eq
          rw [← eq]; rfl
end Go.Mac
namespace Go.Mac
open Go Go.Conc Go.Proofs
set_option maxRecDepth 4000
def setL2 (p : List (List UInt8)) (r c : Nat) (b : UInt8) : List (List UInt8) := p.set r ((p.getD r []).set c b)
def emStep (m : List (Int × Int)) (gs : List Glyph) (pg : List (List UInt8)) (cs : List (List Trace)) (l : Lay) (p : List (List UInt8)) (x : Int × Int) : Option (List (List UInt8)) :=
  match changeB m gs l (traceAt cs x.1.toNat x.2.toNat) with
  | some n => if (letterB pg l x.1 x.2).2.2 then some (setL2 p (letterB pg l x.1 x.2).1.toNat (letterB pg l x.1 x.2).2.1.toNat (UInt8.ofNat n)) else none
  | none => none
def emFold (m : List (Int × Int)) (gs : List Glyph) (pg : List (List UInt8)) (cs : List (List Trace)) (l : Lay) : List (Int × Int) → List (List UInt8) → Option (List (List UInt8))
  | [], p => some p
  | x :: xs, p => match emStep m gs pg cs l p x with
    | some q => emFold m gs pg cs l xs q
    | none => none
def wrongB (m : List (Int × Int)) (pg : List (List UInt8)) (cs : List (List Trace)) (l : Lay) : List (Int × Int) := misB (faceB m pg cs l) cs
def emendB (m : List (Int × Int)) (gs : List Glyph) (pg : List (List UInt8)) (cs : List (List Trace)) (l : Lay) : Option (List (List UInt8)) := emFold m gs pg cs l (wrongB m pg cs l) pg
structure Em where
  rows : List (List UInt8)
  letters : Int
  way : Lay
def cEm (e : Em) : List AV := sliceOf cStr e.rows :: .int .i64 e.letters :: cLay e.way
def noEm : List AV := [.nilsl, .int .i64 0, .int .i64 0, .bool false, .int .i64 0, .int .i64 0]
def emA : Option Em → AV
  | some e => .tup [.agg (cEm e), .bool true]
  | none => .tup [.agg noEm, .bool false]
def emOf (m : List (Int × Int)) (gs : List Glyph) (pg : List (List UInt8)) (cs : List (List Trace)) (l : Lay) : Option Em := (emendB m gs pg cs l).map fun p => ⟨p, (wrongB m pg cs l).length, l⟩
theorem emA_below (o : Option Em) : below 0 (emA o) = true := by
  cases o with
  | none => rfl
  | some e =>
    have := belowL_flat (n := 0) (f := cStr) (fun _ => rfl) e.rows
    simp [emA, cEm, cLay, below, belowL, sliceOf, this]
theorem misTo_mem {f : List Int} {cs : List (List Trace)} : ∀ {n : Nat}, n ≤ 4 * cs.length → ∀ x ∈ misTo f cs n, ∃ r c : Nat, x = ((r : Int), (c : Int)) ∧ r < cs.length ∧ c < (cs.headD []).length := by
  intro n hn x hx
  unfold misTo at hx
  obtain ⟨k, hk, hx⟩ := List.mem_flatMap.1 hx
  rw [List.mem_range] at hk
  split at hx
  · rename_i hc
    unfold misAt at hx
    split at hx
    · cases hx
    · rw [List.mem_singleton] at hx
      exact ⟨k / 4, k % 4, hx, by omega, hc⟩
  · cases hx
theorem misB_mem {f : List Int} {cs : List (List Trace)} (x) (hx : x ∈ misB f cs) : ∃ r c : Nat, x = ((r : Int), (c : Int)) ∧ r < cs.length ∧ c < (cs.headD []).length := misTo_mem (Nat.le_refl _) x hx
theorem letterB_bound {p : List (List UInt8)} {l : Lay} {row col : Int} (h : (letterB p l row col).2.2 = true) : ∃ r c : Nat, letterB p l row col = ((r : Int), (c : Int), true) ∧ r < p.length ∧ c < (p.headD []).length := by
  unfold letterB at h ⊢
  simp only at h ⊢
  split at h
  · cases h
  · rename_i hn
    rw [if_neg hn]
    split
    · exact ⟨((p.length : Int) - 1 - (row - l.down)).toNat, (col - l.right).toNat, by simp only [Prod.mk.injEq, and_true]; omega, by omega, by omega⟩
    · exact ⟨(row - l.down).toNat, (((p.headD []).length : Int) - 1 - (col - l.right)).toNat, by simp only [Prod.mk.injEq, and_true]; omega, by omega, by omega⟩
def cB (b : UInt8) : List AV := [.int .u8 b.toNat]
@[simp] theorem cB_len (b) : (cB b).length = 1 := rfl
def rowBlk (s : List UInt8) : Blk := .cells 0 (s.flatMap cB)
def rowsA (L w n : Nat) : List AV := (List.range n).map fun j => .sl ⟨L + (j + 6), 0⟩ 1 0 w
theorem rowsA_len (L w n : Nat) : (rowsA L w n).length = n := by simp [rowsA]
theorem rowsA_succ (L w n : Nat) : rowsA L w (n + 1) = rowsA L w n ++ [.sl ⟨L + (n + 6), 0⟩ 1 0 w] := by simp [rowsA, List.range_succ]
theorem rowsA_drop {L w n r : Nat} (h : r < n) : (rowsA L w n).drop r = .sl ⟨L + (r + 6), 0⟩ 1 0 w :: (rowsA L w n).drop (r + 1) := by
  rw [drop_get (by rw [rowsA_len]; exact h)]
  simp [rowsA]
theorem bytes_cB : ∀ (s : List UInt8), bytesA (s.flatMap cB) = some s
  | [] => rfl
  | b :: s => by
    simp only [List.flatMap_cons, cB, List.cons_append, List.nil_append, bytesA, bytes_cB s, Option.map_some]
    simp
theorem map_cB : ∀ (s : List UInt8), (s.map fun b => AV.int .u8 (b.toNat : Int)) = s.flatMap cB
  | [] => rfl
  | b :: s => by simp [cB, map_cB s]
theorem copied (s : List UInt8) : setMany (if s.length = 0 then [] else (List.range s.length).map fun j => [AV.int .u8 0].getD (j % 1) .any) 0 ((s.map fun b => AV.int .u8 (b.toNat : Int)).take (s.length.min s.length)) = s.flatMap cB := by
  have e : s.length.min s.length = s.length := Nat.min_self _
  rw [e, List.take_of_length_le (by simp), setMany_whole, map_cB]
  split
  · rename_i h; simp [h]
  · simp
theorem cBs_leaf (s : List UInt8) : (s.map fun b => AV.int .u8 (b.toNat : Int)).all leafA = true := by
  rw [List.all_eq_true]; intro x hx
  obtain ⟨b, _, rfl⟩ := List.mem_map.1 hx
  rfl
theorem copied_len (s : List UInt8) : s.length ≤ (if s.length = 0 then [] else (List.range s.length).map fun j => [AV.int .u8 0].getD (j % 1) .any).length := by
  split
  · rename_i h; simp [h]
  · simp
theorem cB_set (s : List UInt8) (c : Nat) (x : UInt8) : (s.flatMap cB).set c (.int .u8 (x.toNat : Int)) = (s.set c x).flatMap cB := by
  rw [← map_cB, ← map_cB, List.map_set]
theorem rows_set {pg : List (List UInt8)} {r c : Nat} {x : UInt8} (hr : r < pg.length) : (pg.map rowBlk).set r (.cells 0 ((pg[r].flatMap cB).set c (.int .u8 (x.toNat : Int)))) = (setL2 pg r c x).map rowBlk := by
  rw [cB_set]
  unfold setL2
  rw [List.map_set]
  simp [rowBlk, List.getD, hr]
theorem change_small {m : List (Int × Int)} {gs : List Glyph} {l : Lay} {t : Trace} (h : okGlyphs gs) {n : Nat} (hn : changeB m gs l t = some n) : n ≤ 122 := by
  have h1 := List.mem_of_find?_eq_some hn
  rcases List.mem_cons.1 h1 with rfl | h1
  · decide
  · obtain ⟨g, hg, rfl⟩ := List.mem_map.1 h1
    exact (h.one g hg).2.2.1
theorem setL2_len (p : List (List UInt8)) (r c : Nat) (x : UInt8) : (setL2 p r c x).length = p.length := by simp [setL2]
theorem setL2_wide {p : List (List UInt8)} {r c : Nat} {x : UInt8} {w : Nat} (h : ∀ s ∈ p, s.length = w) (hr : r < p.length) : ∀ s ∈ setL2 p r c x, s.length = w := by
  intro s hs
  rcases List.mem_or_eq_of_mem_set hs with hs | rfl
  · exact h s hs
  · simp only [List.getD, List.getElem?_eq_getElem hr, Option.getD_some, List.length_set]
    exact h _ (List.getElem_mem hr)
theorem fits_fault0 : zeroFits Tryz.prog 160 = true := fits_fault
theorem emRec_none (n k : Nat) (h : List Blk) (Post : List Blk → Prop) (hp : Post h) : RecA Tryz.prog 112 [.ptr ⟨n, 0⟩ 0, .ptr ⟨k, 0⟩ 0] h none Post := by
  refine RecA.of_wp { hand := [2] } 12 mixed Tryz.func112 (by kernel_rfl) rfl rfl rfl rfl rfl (by kernel_rfl) fun j hB => ?_
  simp only [junk_succ, junk_zero, List.cons_append, List.nil_append, List.length_cons, List.length_nil, Nat.reduceAdd]
  simp (implicitDefEqProofs := false) (dsimp := false) only [go_sem, List.take_left, fits_fault]
  exact ⟨hB, hp⟩
theorem emRec_some (n k : Nat) (hnk : n ≠ k) (h : List Blk) (Post : List Blk → Prop) (e : Int) (a0 a1 a2 a3 a4 a5 a6 : AV) (hn : h[n]? = some (.cells 0 [a0, a1, a2, a3, a4, a5])) (hk : h[k]? = some (.cells 0 [a6])) (he : e ≠ 0) (hp : Post ((h.set n (.cells 0 noEm)).set k (.cells 0 [.bool false]))) : RecA Tryz.prog 112 [.ptr ⟨n, 0⟩ 0, .ptr ⟨k, 0⟩ 0] h (some (faultA e)) Post := by
  have hlt : n < h.length := (List.getElem?_eq_some_iff.1 hn).1
  have hlk : k < h.length := (List.getElem?_eq_some_iff.1 hk).1
  refine RecA.of_wp { hand := [2] } 12 mixed Tryz.func112 (by kernel_rfl) rfl rfl rfl rfl rfl (by kernel_rfl) fun j hB => ?_
  simp only [junk_succ, junk_zero, List.cons_append, List.nil_append, List.length_cons, List.length_nil, Nat.reduceAdd]
  have hn2 : ∀ x, (h ++ x)[n]? = some (.cells 0 [a0, a1, a2, a3, a4, a5]) := fun x => by rw [List.getElem?_append_left hlt]; exact hn
  have hs2 : ∀ x b, (h ++ x).set n b = h.set n b ++ x := fun x b => by rw [List.set_append_left _ _ hlt]
  have hk2 : ∀ x, (h.set n (.cells 0 noEm) ++ x)[k]? = some (.cells 0 [a6]) := fun x => by rw [List.getElem?_append_left (by simpa using hlk), List.getElem?_set_ne hnk]; exact hk
  have hs3 : ∀ x b, (h.set n (.cells 0 noEm) ++ x).set k b = (h.set n (.cells 0 noEm)).set k b ++ x := fun x b => by rw [List.set_append_left _ _ (by simpa using hlk)]
  have hl2 : ((h.set n (.cells 0 noEm)).set k (.cells 0 [.bool false])).length = h.length := by simp
  have he2 : (e == 0) = false := by simpa using he
  simp only [noEm] at hk2 hs3 hl2
  have hg2 : ∀ x : List Blk, (h.set n (.cells 0 [.nilsl, .int .i64 0, .int .i64 0, .bool false, .int .i64 0, .int .i64 0]) ++ x)[h.length]? = x[0]? := fun x => getL0 (by simp)
  simp (implicitDefEqProofs := false) (dsimp := false) only [go_sem, hn2, hs2, hk2, hs3, fits_fault, he2]
  refine WP.noisy (so := { }) 5 [4] [0, 0, 0, 0, 0] [0, 1, 1, 1, 0] ([h ++ [.cells 0 [.int .i64 e]], h.set n (.cells 0 noEm) ++ [.cells 0 [.int .i64 e]]]) rfl mixed (by kernel_rfl) (by kernel_rfl) (by decide) (by kernel_rfl) rfl ?_
  simp (implicitDefEqProofs := false) (dsimp := false) only [go_sem, hn2, hs2, hk2, hs3, hg2, fits_fault, he2, noEm]
  rw [List.take_left' hl2]
  refine ⟨?_, hp⟩
  rw [List.all_eq_true] at *
  intro b hb
  rcases List.mem_or_eq_of_mem_set hb with hb | rfl
  · rcases List.mem_or_eq_of_mem_set hb with hb | rfl
    · exact hB b hb
    · rfl
  · rfl
theorem call_emend1 : callable Tryz.prog 112 := ⟨_, Tryz.func112, rfl, rfl⟩
theorem emend_ok (b : Board) (m : List (Int × Int)) (okg : okGlyphs b.glyphs) (l : Lay) (p : Nat) (hp : l.page = p) (hpl : p < b.pages.length) (ok : okPage b.pages[p]) (okc : okCells b.cells) (hd : -1000 ≤ l.down ∧ l.down ≤ 1000) (hrt : -1000 ≤ l.right ∧ l.right ≤ 1000) : PureA Tryz.prog 62 [.agg (bdA b m), .agg (cLay l)] (emA (emOf m b.glyphs b.pages[p] b.cells l)) := by
  intro h
  refine CallsA.of_wpr 112 [.ptr ⟨h.length + 2, 0⟩ 0, .ptr ⟨h.length + 3, 0⟩ 0] { shut := [41, 106], cut := [82], hand := [25] } 114 call_emend1 mixed Tryz.func62 (by kernel_rfl) rfl (by kernel_rfl) fun j hB hA => ?_
  simp only [junk_succ, junk_zero, List.cons_append, List.nil_append, List.length_cons, List.length_nil, Nat.reduceAdd]
  simp (implicitDefEqProofs := false) (dsimp := false) only [go_sem, bdA]
  refine WP.region_splitN (so := { shut := [41, 106], cut := [82], }) 1 [1] rfl (by decide) ?_
  simp (implicitDefEqProofs := false) (dsimp := false) only [go_sem]
  refine WPI.deferN rfl rfl rfl rfl rfl rfl ?_
  simp (implicitDefEqProofs := false) (dsimp := false) only [go_sem, cLay, hp, row1 cPage_len hpl, row1_le cPage_len hpl, hpl, cPage]
  refine ⟨by omega, ?_⟩
  refine WPI.turn (Turns.nilSlot (d := 6) (sz := 1) ?_) ?_
  · simp (implicitDefEqProofs := false) (dsimp := false) only [go_sem]
  refine WPI.turn (Turns.nilCell (i := h.length + 2) (j := 0) (sz := 1) (by simp only [List.append_assoc]; rw [hget]; rfl) rfl) ?_
  simp only [hset, List.append_assoc, List.set_cons_succ, List.set_cons_zero, List.cons_append, List.nil_append, List.length_append, List.length_cons, List.length_nil, Nat.zero_add, Nat.reduceAdd]
  have w0 := ok.most
  refine WP.loopI (fun (i : Nat) s => (i ≤ b.pages[p].length) ∧ s.sl.length = 116 ∧ s.df = [.call (.func 112) [.ptr ⟨h.length + 2, 0⟩ 0, .ptr ⟨h.length + 3, 0⟩ 0] []] ∧ s.gh = {} ∧ (∃ R, s.hp = h ++ .cells 0 (bdA b m) :: .cells 0 (cLay l) :: .cells 0 [.sl ⟨h.length + 5, 0⟩ 1 0 0, .int .i64 0, .int .i64 0, .bool false, .int .i64 0, .int .i64 0] :: .cells 0 [.bool false] :: .cells i (rowsA h.length (b.pages[p].headD []).length i) :: .cells 0 [] :: R ∧ R = (b.pages[p].take i).map rowBlk) ∧ evA s.sl (.tmp 2) = .ptr ⟨h.length, 0⟩ 0 ∧ evA s.sl (.tmp 3) = .ptr ⟨h.length + 1, 0⟩ 0 ∧ evA s.sl (.tmp 4) = .ptr ⟨h.length + 2, 0⟩ 0 ∧ evA s.sl (.tmp 5) = .ptr ⟨h.length + 3, 0⟩ 0 ∧ evA s.sl (.tmp 6) = .sl ⟨h.length + 4, i⟩ 1 0 i ∧ evA s.sl (.tmp 27) = sliceOf cStr b.pages[p] ∧ evA s.sl (.tmp 28) = .int .i64 b.pages[p].length ∧ evA s.sl (.tmp 29) = .int .i64 i) (fun (i : Nat) => b.pages[p].length - i) (0) ?_ ?_
  · simp (implicitDefEqProofs := false) (dsimp := false) only [go_sem, bdA, cLay, hp, Nat.zero_le]
    exact ⟨_, ⟨rfl, rfl⟩, rfl⟩
  · rintro i ⟨sl, df, hp, gh⟩ ⟨ab, al, rfl, rfl, ah, a2, a3, a4, a5, a6, a27, a28, a29⟩
    simp only at ab al ah a2 a3 a4 a5 a6 a27 a28 a29
    obtain ⟨j, rfl⟩ := slots_lit al; clear al; simp only [junk_succ, junk_zero, evA_tmp, nth_16, nth_four, nth_one, nth_zero, Nat.zero_add, Nat.reduceAdd] at  a2 a3 a4 a5 a6 a27 a28 a29 ⊢
    refine wp_ok (so := { shut := [41, 106], cut := [82], hand := [25] }) mixed _ (by kernel_rfl) ?_
    obtain ⟨R, rfl, hR⟩ := ah
    by_cases hi : i < b.pages[p].length
    · have hRl : R.length = i := by rw [hR, List.length_map, List.length_take]; omega
      have hw : b.pages[p][i].length = (b.pages[p].headD []).length := ok.row hi
      simp (implicitDefEqProofs := false) (dsimp := false) only [go_sem, a2, a3, a4, a5, a6, a27, a28, a29, bdA, nat_lt hi, decide_true, row1 cStr_len hi, row1_le cStr_len hi, hi, cStr, hRl, getL hRl, getL0 hRl, setL hRl, setL0 hRl, zeroRow_one]
      have w1 := ok.wmost
      refine ⟨⟨by omega, by omega⟩, ⟨copied_len _, by simp, cBs_leaf _⟩, by omega, ⟨rowsA_len _ _ _, by omega⟩, i + 1, ⟨by omega, ⟨_, ⟨⟨rfl, ?_⟩, rfl⟩, ?_⟩, rfl, wrap_succ (by omega)⟩, by omega⟩
      · rw [rowsA_succ, hw]
      · rw [copied, hR, List.take_add_one, List.getElem?_eq_getElem hi, List.map_append]
        rfl
    · have hs : ((i : Int) < (b.pages[p].length : Int)) = False := eq_false (by omega)
      have ei : i = b.pages[p].length := by omega
      subst ei
      simp (implicitDefEqProofs := false) (dsimp := false) only [go_sem, a2, a3, a4, a5, a6, a27, a28, a29, bdA, hs, decide_false]
      rw [List.take_length] at hR
      have hf12 : (faceB m b.pages[p] b.cells l).length = 12 := face_len _ _ _ _
      simp (implicitDefEqProofs := false) (dsimp := false) only [go_sem, cLay_len, cLay_take, Nat.le_refl]
      (first | refine CallsA.use (face_ok b m l p hp hpl ok okc hd hrt) ?_ | refine QuietCalls.use (face_ok b m l p hp hpl ok okc hd hrt) ?_)
      simp (implicitDefEqProofs := false) (dsimp := false) only [go_sem]
      (first | refine CallsA.use (misfits_ok b m _ hf12 okc) ?_ | refine QuietCalls.use (misfits_ok b m _ hf12 okc) ?_)
      simp (implicitDefEqProofs := false) (dsimp := false) only [go_sem]
      refine WP.loopI (fun (y : Nat × List (List UInt8)) s => (y.1 ≤ (wrongB m b.pages[p] b.cells l).length ∧ emFold m b.glyphs b.pages[p] b.cells l ((wrongB m b.pages[p] b.cells l).drop y.1) y.2 = emendB m b.glyphs b.pages[p] b.cells l ∧ y.2.length = b.pages[p].length ∧ (∀ r ∈ y.2, r.length = (b.pages[p].headD []).length)) ∧ s.sl.length = 116 ∧ s.df = [.call (.func 112) [.ptr ⟨h.length + 2, 0⟩ 0, .ptr ⟨h.length + 3, 0⟩ 0] []] ∧ s.gh = {} ∧ (∃ R, s.hp = h ++ .cells 0 (bdA b m) :: .cells 0 (cLay l) :: .cells 0 [.sl ⟨h.length + 5, 0⟩ 1 0 0, .int .i64 0, .int .i64 0, .bool false, .int .i64 0, .int .i64 0] :: .cells 0 [.bool false] :: .cells b.pages[p].length (rowsA h.length (b.pages[p].headD []).length b.pages[p].length) :: .cells 0 [] :: R ∧ R = y.2.map rowBlk) ∧ evA s.sl (.tmp 2) = .ptr ⟨h.length, 0⟩ 0 ∧ evA s.sl (.tmp 3) = .ptr ⟨h.length + 1, 0⟩ 0 ∧ evA s.sl (.tmp 4) = .ptr ⟨h.length + 2, 0⟩ 0 ∧ evA s.sl (.tmp 5) = .ptr ⟨h.length + 3, 0⟩ 0 ∧ evA s.sl (.tmp 6) = .sl ⟨h.length + 4, b.pages[p].length⟩ 1 0 b.pages[p].length ∧ evA s.sl (.tmp 10) = sliceOf cPair (wrongB m b.pages[p] b.cells l) ∧ evA s.sl (.tmp 49) = sliceOf cPair (wrongB m b.pages[p] b.cells l) ∧ evA s.sl (.tmp 50) = .int .i64 (wrongB m b.pages[p] b.cells l).length ∧ evA s.sl (.tmp 51) = .int .i64 y.1) (fun (y : Nat × List (List UInt8)) => (wrongB m b.pages[p] b.cells l).length - y.1) ((0, b.pages[p])) ?_ ?_
      · simp (implicitDefEqProofs := false) (dsimp := false) only [go_sem, bdA, Nat.zero_le]
        exact ⟨⟨rfl, ok.wide⟩, ⟨_, rfl, hR⟩, rfl, rfl, rfl⟩
      · rintro ⟨x, pg⟩ ⟨sl, df, hp, gh⟩ ⟨cb, cl, rfl, rfl, ch, c2, c3, c4, c5, c6, c10, c49, c50, c51⟩
        simp only at cb cl ch c2 c3 c4 c5 c6 c10 c49 c50 c51
        obtain ⟨j, rfl⟩ := slots_lit cl; clear cl; simp only [junk_succ, junk_zero, evA_tmp, nth_16, nth_four, nth_one, nth_zero, Nat.zero_add, Nat.reduceAdd] at  c2 c3 c4 c5 c6 c10 c49 c50 c51 ⊢
        refine wp_ok (so := { shut := [41, 106], cut := [82], hand := [25] }) mixed _ (by kernel_rfl) ?_
        obtain ⟨R, rfl, hR⟩ := ch
        obtain ⟨cb, cq, cn, cw⟩ := cb
        by_cases hx : x < (wrongB m b.pages[p] b.cells l).length
        · obtain ⟨r0, c0, ex, hr0, hc0⟩ := misB_mem _ (List.getElem_mem (l := wrongB m b.pages[p] b.cells l) hx)
          have hrow := row1 cPair_len hx
          rw [ex] at hrow
          rw [drop_get hx, ex] at cq
          have z0 := okc.most
          have z1 := okc.wmost
          simp (implicitDefEqProofs := false) (dsimp := false) only [go_sem, c2, c3, c4, c5, c6, c10, c49, c50, c51, bdA, nat_lt hx, decide_true, hrow, row1_le cPair_len hx, hx, cPair, cLay_len, cLay_take, Nat.le_refl]
          have hlet := letter_ok b m l r0 c0 p hp hpl ok.pos (by omega) (by omega) hd hrt (by omega) (by have := ok.wmost; omega)
          have hchg := change_ok b m l okg okc r0 c0 hr0 hc0
          have hbd := letterB_bound (p := b.pages[p]) (l := l) (row := r0) (col := c0)
          have hst : emStep m b.glyphs b.pages[p] b.cells l pg ((r0 : Int), (c0 : Int)) = match changeB m b.glyphs l (traceAt b.cells r0 c0) with
            | some n => if (letterB b.pages[p] l r0 c0).2.2 then some (setL2 pg (letterB b.pages[p] l r0 c0).1.toNat (letterB b.pages[p] l r0 c0).2.1.toNat (UInt8.ofNat n)) else none
            | none => none := rfl
          rw [emFold] at cq
          have hRl : R.length = b.pages[p].length := by rw [hR, List.length_map, cn]
          have fail : ∀ (Post : List Blk → Prop), Post (h ++ .cells 0 (bdA b m) :: .cells 0 (cLay l) :: .cells 0 noEm :: .cells 0 [.bool false] :: .cells b.pages[p].length (rowsA h.length (b.pages[p].headD []).length b.pages[p].length) :: .cells 0 [] :: R) →
              RecA Tryz.prog 112 [.ptr ⟨h.length + 2, 0⟩ 0, .ptr ⟨h.length + 3, 0⟩ 0] (h ++ .cells 0 (bdA b m) :: .cells 0 (cLay l) :: .cells 0 [.sl ⟨h.length + 5, 0⟩ 1 0 0, .int .i64 0, .int .i64 0, .bool false, .int .i64 0, .int .i64 0] :: .cells 0 [.bool false] :: .cells b.pages[p].length (rowsA h.length (b.pages[p].headD []).length b.pages[p].length) :: .cells 0 [] :: R) (some (faultA 11)) Post := fun Post hq => by
            refine emRec_some _ _ (by omega) _ _ 11 _ _ _ _ _ _ _ (by rw [hget]; rfl) (by rw [hget]; rfl) (by decide) ?_
            simp only [hset, List.set_cons_succ, List.set_cons_zero]
            exact hq
          have none_of : emStep m b.glyphs b.pages[p] b.cells l pg ((r0 : Int), (c0 : Int)) = none → emOf m b.glyphs b.pages[p] b.cells l = none := fun e => by
            rw [e] at cq
            simp only at cq
            rw [emOf, ← cq]; rfl
          generalize hlb : letterB b.pages[p] l r0 c0 = z at hlet hbd hst
          generalize hcb : changeB m b.glyphs l (traceAt b.cells r0 c0) = o at hchg hst
          obtain ⟨lr, lc, lt⟩ := z
          (first | refine CallsA.use (hlet) ?_ | refine QuietCalls.use (hlet) ?_)
          simp (implicitDefEqProofs := false) (dsimp := false) only [go_sem, tup3, cLay_len, cLay_take, Nat.le_refl]
          (first | refine CallsA.use (hchg) ?_ | refine QuietCalls.use (hchg) ?_)
          cases o with
          | none =>
            simp (implicitDefEqProofs := false) (dsimp := false) only [go_sem, changeA]
            rw [none_of hst]
            refine ⟨fun _ => fail _ ?_, fun _ => fail _ ?_⟩
            · simp (implicitDefEqProofs := false) (dsimp := false) only [go_sem, noEm]
              exact quiet_fine hB rfl
            · simp (implicitDefEqProofs := false) (dsimp := false) only [go_sem, noEm]
              exact quiet_fine hB rfl
          | some n =>
            cases lt with
            | false =>
              simp (implicitDefEqProofs := false) (dsimp := false) only [go_sem, changeA]
              rw [none_of hst]
              refine fail _ ?_
              simp (implicitDefEqProofs := false) (dsimp := false) only [go_sem, noEm]
              exact quiet_fine hB rfl
            | true =>
              obtain ⟨r, c1, e, hr, hc1⟩ := hbd rfl
              simp only [Prod.mk.injEq, and_true] at e
              obtain ⟨rfl, rfl⟩ := e
              have hrp : r < pg.length := by omega
              have hRr : R[r]? = some (.cells 0 (pg[r].flatMap cB)) := by
                rw [hR, List.getElem?_map, List.getElem?_eq_getElem hrp]; rfl
              have hn := change_small okg hcb
              have hnu : ((n : Nat) : Int) = ((UInt8.ofNat n).toNat : Int) := by simp; omega
              have hwr := cw _ (List.getElem_mem hrp)
              simp only [if_true] at hst
              rw [hst] at cq
              simp (implicitDefEqProofs := false) (dsimp := false) only [go_sem, changeA, bdA, rowsA_drop hr, hRr, length_rows cB_len, hwr]
              refine ⟨by omega, by omega, by omega, (x + 1, setL2 pg r c1 (UInt8.ofNat n)), ⟨⟨by simp only; omega, ?_, by simp only; rw [setL2_len]; exact cn, setL2_wide cw hrp⟩, ⟨_, rfl, ?_⟩, wrap_succ (by have := misTo_len (faceB m b.pages[p] b.cells l) b.cells (4 * b.cells.length); simp only [wrongB, misB] at hx; omega)⟩, by simp only; omega⟩
              · simpa using cq
              · simp only
                subst hR
                rw [hnu, rows_set]
        · have hs : ((x : Int) < ((wrongB m b.pages[p] b.cells l).length : Int)) = False := eq_false (by omega)
          simp (implicitDefEqProofs := false) (dsimp := false) only [go_sem, c2, c3, c4, c5, c6, c10, c49, c50, c51, bdA, hs, decide_false]
          have hRl : R.length = b.pages[p].length := by rw [hR, List.length_map, cn]
          rw [List.drop_eq_nil_of_le (by omega)] at cq
          have hsome : emOf m b.glyphs b.pages[p] b.cells l = some ⟨pg, (wrongB m b.pages[p] b.cells l).length, l⟩ := by
            rw [emOf, ← cq]; rfl
          rw [hsome]
          refine WP.loopI (fun (i : Nat) s => (i ≤ pg.length) ∧ s.sl.length = 116 ∧ s.df = [.call (.func 112) [.ptr ⟨h.length + 2, 0⟩ 0, .ptr ⟨h.length + 3, 0⟩ 0] []] ∧ s.gh = {} ∧ (s.hp = h ++ .cells 0 (bdA b m) :: .cells 0 (cLay l) :: .cells 0 [.sl ⟨h.length + 5, i⟩ 1 0 i, .int .i64 0, .int .i64 0, .bool false, .int .i64 0, .int .i64 0] :: .cells 0 [.bool false] :: .cells pg.length (rowsA h.length (b.pages[p].headD []).length pg.length) :: .cells i ((pg.take i).flatMap cStr) :: R) ∧ evA s.sl (.tmp 2) = .ptr ⟨h.length, 0⟩ 0 ∧ evA s.sl (.tmp 3) = .ptr ⟨h.length + 1, 0⟩ 0 ∧ evA s.sl (.tmp 4) = .ptr ⟨h.length + 2, 0⟩ 0 ∧ evA s.sl (.tmp 5) = .ptr ⟨h.length + 3, 0⟩ 0 ∧ evA s.sl (.tmp 10) = sliceOf cPair (wrongB m b.pages[p] b.cells l) ∧ evA s.sl (.tmp 96) = .sl ⟨h.length + 4, pg.length⟩ 1 0 pg.length ∧ evA s.sl (.tmp 97) = .int .i64 pg.length ∧ evA s.sl (.tmp 98) = .int .i64 i) (fun (i : Nat) => pg.length - i) (0) ?_ ?_
          · simp (implicitDefEqProofs := false) (dsimp := false) only [go_sem, bdA, cn, Nat.zero_le]
            rfl
          · rintro i ⟨sl, df, hp, gh⟩ ⟨db, dl, rfl, rfl, rfl, d2, d3, d4, d5, d10, d96, d97, d98⟩
            simp only at db dl d2 d3 d4 d5 d10 d96 d97 d98
            obtain ⟨j, rfl⟩ := slots_lit dl; clear dl; simp only [junk_succ, junk_zero, evA_tmp, nth_16, nth_four, nth_one, nth_zero, Nat.zero_add, Nat.reduceAdd] at  d2 d3 d4 d5 d10 d96 d97 d98 ⊢
            refine wp_ok (so := { shut := [41, 106], cut := [82], hand := [25] }) mixed _ (by kernel_rfl) ?_
            by_cases hi : i < pg.length
            · have hRr : R[i]? = some (.cells 0 (pg[i].flatMap cB)) := by
                rw [hR, List.getElem?_map, List.getElem?_eq_getElem hi]; rfl
              have hwr := cw _ (List.getElem_mem hi)
              have hby : bytesA ((pg[i].flatMap cB).take (b.pages[p].headD []).length) = some pg[i] := by
                rw [List.take_of_length_le (by rw [length_rows cB_len]; omega)]; exact bytes_cB _
              have htl : ((pg[i].flatMap cB).take (b.pages[p].headD []).length).length = (b.pages[p].headD []).length := by
                rw [List.length_take, length_rows cB_len]; omega
              simp (implicitDefEqProofs := false) (dsimp := false) only [go_sem, d2, d3, d4, d5, d10, d96, d97, d98, bdA, nat_lt hi, decide_true, rowsA_drop hi, hRr, length_rows cB_len, hwr, hby, htl, length_rows cStr_len]
              refine ⟨⟨by rw [List.length_take]; omega, by omega⟩, i + 1, ⟨by omega, ⟨rfl, rfl, ?_⟩, wrap_succ (by omega)⟩, by omega⟩
              rw [List.take_add_one, List.getElem?_eq_getElem hi, List.flatMap_append]
              rfl
            · have hs : ((i : Int) < (pg.length : Int)) = False := eq_false (by omega)
              have ei : i = pg.length := by omega
              subst ei
              simp (implicitDefEqProofs := false) (dsimp := false) only [go_sem, d2, d3, d4, d5, d10, d96, d97, d98, bdA, hs, decide_false]
              rw [List.take_length]
              refine WPI.turn (Turns.seal_cell (i := h.length + 2) (g := 0) (j := 0) (a := .sl ⟨h.length + 5, pg.length⟩ 1 0 pg.length) (a' := sliceOf cStr pg) (by simp only; rw [hget]; rfl) rfl (by simp only [sealV]; rw [hget]; simp only [List.getElem?_cons_succ, List.getElem?_cons_zero, if_true, List.drop_zero, Nat.mul_one]; rw [List.take_of_length_le (by rw [length_rows cStr_len]; omega)]; rfl) (by simp [nmOf])) ?_
              simp only [nmOf, hset, List.set_cons_succ, List.set_cons_zero]
              refine WP.noisy (so := { shut := [41, 106], cut := [82], }) 5 [4] [0, 0, 0, 0, 0] [0, 0, 1, 0, 0] ((fun T => [h ++ .cells 0 (bdA b m) :: .cells 0 (cLay l) :: .cells 0 [sliceOf cStr pg, .int .i64 0, .int .i64 0, .bool false, .int .i64 0, .int .i64 0] :: T, h ++ .cells 0 (bdA b m) :: .cells 0 (cLay l) :: .cells 0 [sliceOf cStr pg, .int .i64 (wrongB m b.pages[p] b.cells l).length, .int .i64 0, .bool false, .int .i64 0, .int .i64 0] :: T]) _) rfl mixed (by kernel_rfl) (by kernel_rfl) (by decide) (by kernel_rfl) rfl ?_
              simp (implicitDefEqProofs := false) (dsimp := false) only [go_sem, bdA, cLay]
              refine emRec_none _ _ _ _ ?_
              simp (implicitDefEqProofs := false) (dsimp := false) only [go_sem]
              exact quiet_fine (v := emA (some ⟨pg, (wrongB m b.pages[p] b.cells l).length, l⟩)) hB (below_mono (Nat.zero_le _) _ (emA_below _))
end Go.Mac
namespace Go.Mac
open Go Go.Conc Go.Proofs
set_option maxRecDepth 4000
def fewEm : Option Em → List AV
  | some e => [sliceOf cStr e.rows, .int .i64 e.letters, .int .i64 e.way.page, .bool e.way.turned, .int .i64 e.way.down, .int .i64 e.way.right, .int .i64 e.letters, .bool true, .fn (.func 60) [] []]
  | none => [.nilsl, .int .i64 0, .int .i64 0, .bool false, .int .i64 0, .int .i64 0, .int .i64 0, .bool false, .fn (.func 60) [] []]
def takeEm (o : Option Em) (x : Em) : Option Em :=
  match o with
  | none => some x
  | some b => if x.letters < b.letters then some x else some b
theorem countEm_ok (x : Em) : PureA Tryz.prog 60 [.agg (cEm x)] (.int .i64 x.letters) := by
  refine PureA.of_wpp {} 4 mixed Tryz.func60 (by kernel_rfl) rfl (by kernel_rfl) (rfl) fun h j hB => ?_
  simp only [junk_succ, junk_zero, List.cons_append, List.nil_append, List.length_cons, List.length_nil, Nat.reduceAdd]
  simp (implicitDefEqProofs := false) (dsimp := false) only [go_sem, cEm, cLay]
theorem set_fine {h k : List Blk} {n : Nat} {b : Blk} {v : AV} (hb : h.all (belowBlk h.length) = true) (hbb : belowBlk h.length b = true) (hv : below h.length v = true) : ∃ v' m, v = v' ∧ h.length ≤ m ∧ below m v' = true ∧ ((h.set n b ++ k).take m).all (belowBlk m) = true ∧ AEnd.ret v' = .ret v ∧ (h.set n b ++ k).take m = h.set n b := by
  have e : (h.set n b ++ k).take h.length = h.set n b := List.take_left' (by simp)
  refine ⟨_, h.length, rfl, Nat.le_refl _, hv, ?_, rfl, e⟩
  rw [e, List.all_eq_true] at *
  intro x hx
  rcases List.mem_or_eq_of_mem_set hx with hx | rfl
  · exact hb x hx
  · exact hbb
theorem set_same {h : List Blk} {n : Nat} {b : Blk} (hn : h[n]? = some b) : h.set n b = h := by
  obtain ⟨h1, h2⟩ := List.getElem?_eq_some_iff.1 hn
  rw [← h2]; exact List.set_getElem_self h1
theorem fewEm_below (o : Option Em) (n : Nat) : belowBlk n (.cells 0 (fewEm o)) = true := by
  cases o with
  | none => rfl
  | some e =>
    have := belowL_flat (n := n) (f := cStr) (fun _ => rfl) e.rows
    simp [belowBlk, fewEm, below, belowL, sliceOf, this]
theorem call_count : callable Tryz.prog 60 = True := eq_true ⟨_, Tryz.func60, rfl, rfl⟩
theorem takeEm_ok (n : Nat) (o : Option Em) (x : Em) (h : List Blk) (hn : h[n]? = some (.cells 0 (fewEm o))) : CallsA Tryz.prog 63 [.ptr ⟨n, 0⟩ 0, .agg (cEm x)] h fun e h' => e = .ret (.tup []) ∧ h' = h.set n (.cells 0 (fewEm (takeEm o x))) := by
  have hlt : n < h.length := (List.getElem?_eq_some_iff.1 hn).1
  refine CallsA.of_wpe [] { cut := [16], tail := [(1, 5)] } 33 mixed Tryz.func63 (by kernel_rfl) rfl (by kernel_rfl) fun j hB hA => ?_; simp only [junk_succ, junk_zero, List.cons_append, List.nil_append, List.length_cons, List.length_nil, Nat.reduceAdd]
  have hn2 : ∀ k, (h ++ k)[n]? = some (.cells 0 (fewEm o)) := fun k => by rw [List.getElem?_append_left hlt]; exact hn
  have hs2 : ∀ k b, (h ++ k).set n b = h.set n b ++ k := fun k b => by rw [List.set_append_left _ _ hlt]
  have hg2 : ∀ b k, (h.set n b ++ k)[n]? = some b := fun b k => by rw [List.getElem?_append_left (by simpa using hlt), List.getElem?_set_self hlt]
  have hs3 : ∀ k a b, (h.set n a ++ k).set n b = h.set n b ++ k := fun k a b => by rw [List.set_append_left _ _ (by simpa using hlt), List.set_set]
  cases o with
  | none =>
    simp only [fewEm] at hn2
    simp (implicitDefEqProofs := false) (dsimp := false) only [go_sem, hn2, cEm, cLay, call_count]
    (first | refine CallsA.use (countEm_ok x) ?_ | refine QuietCalls.use (countEm_ok x) ?_)
    simp (implicitDefEqProofs := false) (dsimp := false) only [go_sem, hn2, hs2, hg2, hs3]
    exact set_fine (b := .cells 0 (fewEm (some x))) (v := .tup []) hB (fewEm_below _ _) rfl
  | some b =>
    simp only [fewEm] at hn2
    simp (implicitDefEqProofs := false) (dsimp := false) only [go_sem, hn2, cEm, cLay, call_count]
    (first | refine CallsA.use (countEm_ok x) ?_ | refine QuietCalls.use (countEm_ok x) ?_)
    simp (implicitDefEqProofs := false) (dsimp := false) only [go_sem, hn2, hs2, hg2, hs3]
    refine ⟨fun hc => ?_, fun hc => ?_⟩
    · have e : takeEm (some b) x = some x := if_pos hc
      rw [e]
      exact set_fine (b := .cells 0 (fewEm (some x))) (v := .tup []) hB (fewEm_below _ _) rfl
    · have e : takeEm (some b) x = some b := if_neg hc
      rw [e, set_same hn]
      exact quiet_fine hB rfl
def emTo (b : Board) (m : List (Int × Int)) (p k : Nat) : Option Em := (List.range k).foldl (fun o n => match emOf m b.glyphs (b.pages.getD p []) b.cells (layN p n) with | some e => takeEm o e | none => o) none
theorem emTo_succ (b : Board) (m : List (Int × Int)) (p k : Nat) : emTo b m p (k + 1) = match emOf m b.glyphs (b.pages.getD p []) b.cells (layN p k) with | some e => takeEm (emTo b m p k) e | none => emTo b m p k := by
  simp [emTo, List.range_succ]
def emendR (b : Board) (page : Int) : Option Em × Int :=
  if boardErr b ≠ 0 then (none, boardErr b) else if ¬ (0 ≤ page ∧ page < b.pages.length) then (none, 3) else
    match emTo b (mapB b.glyphs) page.toNat 18 with
    | some e => (some e, 0)
    | none => (none, 11)
def emendA : Option Em × Int → AV
  | (some e, c) => .tup [sliceOf cStr e.rows, .int .i64 e.letters, .agg (cLay e.way), .int .i64 c]
  | (none, c) => .tup [.nilsl, .int .i64 0, .agg [.int .i64 0, .bool false, .int .i64 0, .int .i64 0], .int .i64 c]
theorem emendA_below (x : Option Em × Int) : below 0 (emendA x) = true := by
  obtain ⟨o, c⟩ := x
  cases o with
  | none => rfl
  | some e =>
    have := belowL_flat (n := 0) (f := cStr) (fun _ => rfl) e.rows
    simp [emendA, cLay, below, belowL, sliceOf, this]
def emendH (b : Board) (o : Option Em) : List Blk := [.cells 0 (brdA b), .cells 0 [.int .i64 0, .bool false, .int .i64 0, .int .i64 0], .cells 0 (bdA b (mapB b.glyphs)), .cells 0 (fewEm o)]
theorem emendH_below (b : Board) (o : Option Em) (n : Nat) : (emendH b o).all (belowBlk n) = true := by
  have h1 := belowL_mono (Nat.zero_le n) _ (bdA_below b (mapB b.glyphs))
  have h2 := belowL_mono (Nat.zero_le n) _ (slices_below b)
  have h3 := fewEm_below o n
  have h4 : belowBlk n (.cells 0 (brdA b)) = true := h2
  have h5 : belowBlk n (.cells 0 (bdA b (mapB b.glyphs))) = true := h1
  simp only [emendH, List.all_cons, List.all_nil, h4, h5, h3]
  rfl
theorem loop_cut4 {h own e : List Blk} {a b c d g l : Blk} : h ++ a :: b :: c :: d :: g :: l :: (own ++ e) = (h ++ [a, b, c, d]) ++ g :: l :: (own ++ e) := by simp
theorem Emend_ok (b : Board) (page : Int) : PureA Tryz.prog 16 [.agg (brdA b), .int .i64 page] (emendA (emendR b page)) := by
  refine PureA.of_wpe [] { tail := [(14, 11)] } 54 mixed Tryz.func16 (by kernel_rfl) rfl (by kernel_rfl) (emendA_below _) fun h j hB => ?_
  simp only [junk_succ, junk_zero, List.cons_append, List.nil_append, List.length_cons, List.length_nil, Nat.reduceAdd]
  simp (implicitDefEqProofs := false) (dsimp := false) only [go_sem, brdA]
  refine open_use (fun e0 => ?_) (fun e1 e2 x y z t f1 f2 f3 f4 => ?_)
  · simp (implicitDefEqProofs := false) (dsimp := false) only [go_sem, bdA]
    (first | refine CallsA.use (hasPage_ok b _ page) ?_ | refine QuietCalls.use (hasPage_ok b _ page) ?_)
    simp (implicitDefEqProofs := false) (dsimp := false) only [go_sem, e0]
    have hc : (decide (0 ≤ page) && decide (page < (b.pages.length : Int))) = decide (0 ≤ page ∧ page < (b.pages.length : Int)) := by simp
    refine ⟨fun c1 => ?_, fun c1 => ?_⟩
    · have c2 : ¬ (0 ≤ page ∧ page < (b.pages.length : Int)) := by simp at c1; omega
      rw [emendR, if_neg (by simp [e0]), if_pos c2]
      rfl
    · have c2 : 0 ≤ page ∧ page < (b.pages.length : Int) := by rw [hc] at c1; simpa using c1
      obtain ⟨p, rfl⟩ : ∃ p : Nat, page = p := ⟨page.toNat, by omega⟩
      have hp : p < b.pages.length := by omega
      have ok := okBoard.of e0
      obtain ⟨q1, _⟩ := boardErr_zero e0
      have okg := okGlyphs.of q1
      have hR : emendR b p = match emTo b (mapB b.glyphs) p 18 with | some e => (some e, 0) | none => (none, 11) := by
        rw [emendR, if_neg (by simp [e0]), if_neg (by omega)]; rfl
      rw [hR]
      (first | refine CallsA.use (laysOf_ok b _ p) ?_ | refine QuietCalls.use (laysOf_ok b _ p) ?_)
      simp (implicitDefEqProofs := false) (dsimp := false) only [go_sem]
      refine WP.rangeIterN (h.length + 5) (by simp <;> omega)  (so := { tail := [(14, 11)] }) mixed (by kernel_rfl) (by kernel_rfl) rfl rfl (call_laysOf1) rfl rfl (iter_ways b _ p hp ok) (encW_len) (fun k h1 => h1 = h ++ emendH b (emTo b (mapB b.glyphs) p k)) (fun _ _ => False) ?_ ?_ ?_ ?_ ?_ ?_
      · rintro k _ _ rfl
        exact mine_ok hB (by simp [emendH]) (emendH_below _ _ _)
      · rintro _ _ _ ⟨⟩
      · simp [emendH, emTo, brdA, bdA, sliceOf, fewEm]
      · rintro k _ own hk rfl hl2
        rw [List.length_map, ways_len] at hk
        have ex : ((ways b (mapB b.glyphs) p).map encW)[k]'(by rw [List.length_map, ways_len]; exact hk) = [.agg (cLay (layN p k)), .agg (nums12 (faceB (mapB b.glyphs) b.pages[p] b.cells (layN p k)))] := by simp [ways, wayN, encW, List.getD, hp]
        rw [ex]
        dsimp only
        simp (implicitDefEqProofs := false) (dsimp := false) only [go_sem, emendH, bdA, cLay_leaf, cLay_len, cLay_take, setMany4, Nat.le_refl]
        (first | refine CallsA.use (emend_ok b _ okg (layN p k) p rfl hp (ok.page _ (List.getElem_mem hp)) ok.cells (by simp only [layN]; omega) (by simp only [layN]; omega)) ?_ | refine QuietCalls.use (emend_ok b _ okg (layN p k) p rfl hp (ok.page _ (List.getElem_mem hp)) ok.cells (by simp only [layN]; omega) (by simp only [layN]; omega)) ?_)
        have hs := emTo_succ b (mapB b.glyphs) p k
        simp only [List.getD, List.getElem?_eq_getElem hp, Option.getD_some] at hs
        generalize emOf (mapB b.glyphs) b.glyphs b.pages[p] b.cells (layN p k) = o at hs ⊢
        cases o with
        | none =>
          simp only at hs
          simp (implicitDefEqProofs := false) (dsimp := false) only [go_sem, emA, noEm]
          exact ⟨_, ⟨_, loop_cut4⟩, by rw [hs]; rfl⟩
        | some e =>
          simp only at hs
          simp (implicitDefEqProofs := false) (dsimp := false) only [go_sem, emA, cEm, cLay]
          refine (takeEm_ok _ (emTo b (mapB b.glyphs) p k) e _ (by rw [hget]; rfl)).mono ?_
          rintro _ _ ⟨rfl, rfl⟩
          simp (implicitDefEqProofs := false) (dsimp := false) only [go_sem]
          exact ⟨_, ⟨_, loop_cut4⟩, by rw [hs]; rfl⟩
      · rintro _ rfl
        rw [List.length_map, ways_len]
        generalize emTo b (mapB b.glyphs) p 18 = o
        cases o with
        | none =>
          simp (implicitDefEqProofs := false) (dsimp := false) only [go_sem, emendH, fewEm]
          rfl
        | some e =>
          simp (implicitDefEqProofs := false) (dsimp := false) only [go_sem, emendH, fewEm]
          rfl
      · rintro _ _ ⟨⟩
  · simp only [leafA] at f1 f2 f3 f4
    simp (implicitDefEqProofs := false) (dsimp := false) only [go_sem, f1, f2, f3, f4, e2]
    rw [emendR, if_pos e1]
    rfl
end Go.Mac
namespace Go.Mac
open Go Go.Conc Go.Proofs
set_option maxRecDepth 4000
theorem length_rowsM {α β : Type} {f : α → List β} {n : Nat} : ∀ {l : List α}, (∀ x ∈ l, (f x).length = n) → (l.flatMap f).length = l.length * n
  | [], _ => by simp
  | x :: l, h => by
    rw [List.flatMap_cons, List.length_append, h x (by simp), length_rowsM fun y hy => h y (by simp [hy]), List.length_cons, Nat.succ_mul]
    omega
theorem drop_rowsM {α β : Type} {f : α → List β} {n : Nat} : ∀ {l : List α} {i : Nat} (_ : ∀ x ∈ l, (f x).length = n) (h : i < l.length), (l.flatMap f).drop (i * n) = f l[i] ++ (l.drop (i + 1)).flatMap f
  | [], i, _, h => by simp at h
  | x :: l, 0, _, h => by simp
  | x :: l, i + 1, hf, h => by
    have hi : i < l.length := by simpa using h
    simp only [List.flatMap_cons, List.getElem_cons_succ, List.drop_succ_cons]
    rw [show (i + 1) * n = n + i * n by rw [Nat.succ_mul]; omega, List.drop_append, hf x (by simp)]
    rw [show n + i * n - n = i * n by omega, List.drop_eq_nil_of_le (by rw [hf x (by simp)]; omega), List.nil_append]
    exact drop_rowsM (fun y hy => hf y (by simp [hy])) hi
theorem WPI.sendN {P : Program} {fk : FK} {K : AExit → AS → Prop} {ops : Array Oper} {i : Nat} {o : Oper} {ch x : Operand} {n : Nm} {bv : Bool} {out : List (Nm × Value)} {ri : Nat} {sl : List AV} {df : List ADef} {hp : List Blk} {todo : List (List (Nm × Value))} (hro : hp[ri]? = some (.role false)) (ho : ops[i]? = some o) (hop : o.op = .send ch x) (hog : o.guard = none) (hod : o.dst = none) (hc : evA sl ch = .chan n) (hx : evA sl x = .bool bv)
    (hne : out ≠ []) (hlive : hp[n.id]? = some (.chan n.gen)) (h : K .normal ⟨sl, df, hp, ⟨out, todo⟩⟩) : WPI P fk [.inRegion ops [i]] K ⟨sl, df, hp, ⟨(n, .bool bv) :: out, todo⟩⟩ := by
  refine WPI.send hro ho hop hog hc hx rfl hne hlive (WPI.region_end ?_)
  rw [hod]; exact h
def bitsFrom (cs : List (List Trace)) (p q : Int) (x : List Int) (i : Nat) : Nat → List (List Int) → List Bool
  | _, [] => []
  | k, y :: ys => (if p ≠ q ∨ i < k then [togetherB cs x y] else []) ++ bitsFrom cs p q x i (k + 1) ys
def msgs (met done : Nm) (bs : List Bool) : List (Nm × Value) := bs.map (fun b => (met, .bool b)) ++ [(done, .bool true)]
theorem msgs_cons (met done : Nm) (b : Bool) (bs : List Bool) : msgs met done (b :: bs) = (met, .bool b) :: msgs met done bs := rfl
theorem msgs_ne (met done : Nm) (bs : List Bool) : msgs met done bs ≠ [] := by simp [msgs]
def cF (f : List Int) : List AV := nums12 f
theorem double1_ok (b : Board) (m : List (Int × Int)) (okc : okCells b.cells) (p q : Int) (i : Nat) (x : List Int) (hx : x.length = 12) (fs : List (List Int)) (hf : ∀ y ∈ fs, y.length = 12) (hl : fs.length ≤ 1000) (hil : i ≤ 1000) (met done : Nm) (h : List Blk) (h0 : h[0]? = some (.role false)) (h1 : h[met.id]? = some (.chan met.gen)) (h2 : h[done.id]? = some (.chan done.gen)) :
    SendA Tryz.prog 125 [.pptr [sliceOf cF fs], .pptr [.int .i64 p], .pptr [.int .i64 q], .pptr [.int .i64 i], .pptr [.chan met], .pptr (bdA b m), .pptr (nums12 x), .pptr [.chan done]] h (msgs met done (bitsFrom b.cells p q x i 0 fs)) := by
  apply SendA.of_body (n := done) (ri := 0) (ht := ty190) (hf := Tryz.func125)
  iterate 11 (exact rfl)
  simp only [List.length_cons, List.length_nil, Nat.reduceAdd]
  refine wp_ok (so := { cut := [20], hand := [4] }) mixed _ (by kernel_rfl) ?_
  rw [show Tryz.f125.ntmps - 8 = 24 from rfl]
  simp only [List.replicate_succ, List.replicate_zero, List.cons_append, List.nil_append]
  have l0 : 0 < h.length := (List.getElem?_eq_some_iff.1 h0).1
  have l1 : met.id < h.length := (List.getElem?_eq_some_iff.1 h1).1
  have l2 : done.id < h.length := (List.getElem?_eq_some_iff.1 h2).1
  have g0 : ∀ k, (h ++ k)[0]? = some (.role false) := fun k => by rw [List.getElem?_append_left l0]; exact h0
  have g1 : ∀ k, (h ++ k)[met.id]? = some (.chan met.gen) := fun k => by rw [List.getElem?_append_left l1]; exact h1
  have g2 : ∀ k, (h ++ k)[done.id]? = some (.chan done.gen) := fun k => by rw [List.getElem?_append_left l2]; exact h2
  simp (implicitDefEqProofs := false) (dsimp := false) only [go_sem, bdA]
  refine WP.loopI (fun (k : Nat) s => (k ≤ fs.length) ∧ s.sl.length = 32 ∧ s.df = [] ∧ s.gh = { out := msgs met done (bitsFrom b.cells p q x i k (fs.drop k)) } ∧ (∃ e, s.hp = h ++ e) ∧ evA s.sl (.tmp 1) = .pptr [.int .i64 p] ∧ evA s.sl (.tmp 2) = .pptr [.int .i64 q] ∧ evA s.sl (.tmp 3) = .pptr [.int .i64 i] ∧ evA s.sl (.tmp 4) = .pptr [.chan met] ∧ evA s.sl (.tmp 5) = .pptr (bdA b m) ∧ evA s.sl (.tmp 6) = .pptr (nums12 x) ∧ evA s.sl (.tmp 7) = .pptr [.chan done] ∧ evA s.sl (.tmp 10) = sliceOf cF fs ∧ evA s.sl (.tmp 11) = .int .i64 fs.length ∧ evA s.sl (.tmp 12) = .int .i64 k) (fun (k : Nat) => fs.length - k) (0) ?_ ?_
  · simp (implicitDefEqProofs := false) (dsimp := false) only [go_sem, bdA, Nat.zero_le]
  · rintro k ⟨sl, df, hp, gh⟩ ⟨ab, al, rfl, rfl, ah, a1, a2, a3, a4, a5, a6, a7, a10, a11, a12⟩
    simp only at ab al ah a1 a2 a3 a4 a5 a6 a7 a10 a11 a12
    obtain ⟨j, rfl⟩ := slots_lit al; clear al; simp only [junk_succ, junk_zero, evA_tmp, nth_16, nth_four, nth_one, nth_zero, Nat.zero_add, Nat.reduceAdd] at  a1 a2 a3 a4 a5 a6 a7 a10 a11 a12 ⊢
    refine wp_ok (so := { cut := [20], hand := [4] }) mixed _ (by kernel_rfl) ?_
    obtain ⟨e, rfl⟩ := ah
    by_cases hk : k < fs.length
    · have hy := hf _ (List.getElem_mem hk)
      have hcl : ∀ y ∈ fs, (cF y).length = 12 := fun y hy => by rw [cF, nums12_len, hf y hy]
      have hr := drop_rowsM hcl hk
      have hrl : k * 12 ≤ (fs.flatMap cF).length := by rw [length_rowsM hcl]; omega
      rw [drop_get hk, bitsFrom]
      have hTk : ∀ R, (nums12 fs[k] ++ R).take 12 = nums12 fs[k] := fun R => List.take_left' (by rw [nums12_len, hy])
      have hTx := nums_take hx
      simp (implicitDefEqProofs := false) (dsimp := false) only [go_sem, a1, a2, a3, a4, a5, a6, a7, a10, a11, a12, bdA, nat_lt hk, decide_true, hr, hrl, cF, hTk, nums12_len, hy, nums_leaf, setM12 hy, Nat.le_refl]
      refine ⟨by omega, fun c1 => ?_, fun c1 => ⟨fun c2 => ?_, fun c2 => ?_⟩⟩
      · have c3 : p ≠ q := by simpa using c1
        rw [if_pos (by exact .inl c3)]
        simp only [List.cons_append, List.nil_append, msgs_cons]
        refine WP.quietS (so := { cut := [20] }) 5 rfl mixed (by kernel_rfl) (by kernel_rfl) (by decide) ?_
        simp (implicitDefEqProofs := false) (dsimp := false) only [go_sem, bdA, g0, g1, hTx, nums12_len, hx, hy, Nat.le_refl, nums_take hy]
        (first | refine CallsA.use (together_ok b m x fs[k] hx hy okc) ?_ | refine QuietCalls.use (together_ok b m x fs[k] hx hy okc) ?_)
        simp (implicitDefEqProofs := false) (dsimp := false) only [go_sem]
        refine WPI.sendN (n := met) (ri := 0) (g0 _) rfl rfl rfl rfl rfl rfl (msgs_ne _ _ _) (g1 _) ?_
        simp (implicitDefEqProofs := false) (dsimp := false) only [go_sem]
        exact ⟨k + 1, ⟨by omega, rfl, wrap_succ (by omega)⟩, by omega⟩
      · have c3 : p = q := by simpa using c1
        rw [if_pos (by exact .inr (by omega))]
        simp only [List.cons_append, List.nil_append, msgs_cons]
        refine WP.quietS (so := { cut := [20] }) 5 rfl mixed (by kernel_rfl) (by kernel_rfl) (by decide) ?_
        simp (implicitDefEqProofs := false) (dsimp := false) only [go_sem, bdA, g0, g1, hTx, nums12_len, hx, hy, Nat.le_refl, nums_take hy]
        (first | refine CallsA.use (together_ok b m x fs[k] hx hy okc) ?_ | refine QuietCalls.use (together_ok b m x fs[k] hx hy okc) ?_)
        simp (implicitDefEqProofs := false) (dsimp := false) only [go_sem]
        refine WPI.sendN (n := met) (ri := 0) (g0 _) rfl rfl rfl rfl rfl rfl (msgs_ne _ _ _) (g1 _) ?_
        simp (implicitDefEqProofs := false) (dsimp := false) only [go_sem]
        exact ⟨k + 1, ⟨by omega, rfl, wrap_succ (by omega)⟩, by omega⟩
      · have c3 : p = q := by simpa using c1
        rw [if_neg (by omega)]
        exact ⟨k + 1, ⟨by omega, rfl, wrap_succ (by omega)⟩, by omega⟩
    · have hs : ((k : Int) < (fs.length : Int)) = False := eq_false (by omega)
      rw [List.drop_eq_nil_of_le (by omega), bitsFrom]
      simp (implicitDefEqProofs := false) (dsimp := false) only [go_sem, a1, a2, a3, a4, a5, a6, a7, a10, a11, a12, bdA, hs, decide_false, g0, g2]
      rfl
end Go.Mac

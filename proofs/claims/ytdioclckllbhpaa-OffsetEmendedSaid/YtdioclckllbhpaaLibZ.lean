/- A part of the logic and of the contracts of the functions that the statement reaches; the statement itself is proved in the last text. -/
import Derived.Test.YtdioclckllbhpaaLibD
import Derived.Test.YtdioclckllbhpaaLibF

set_option linter.all false
set_option linter.unusedVariables false
set_option linter.unusedSimpArgs false
set_option linter.unnecessarySimpa false
namespace Go.Mac
open Go Go.Conc Go.Proofs
set_option maxRecDepth 4000
end Go.Mac
namespace Go.Mac
open Go Go.Conc Go.Proofs
theorem layK_ok {b : Board} {p n : Nat} (hp : p < b.pages.length) (hn : n < 18) : layErr b (layN p n) = 0 := by
  unfold layErr layN
  simp only
  rw [if_neg (by simp; omega), if_neg (by omega)]
theorem face_get {m : List (Int × Int)} {p : List (List UInt8)} {cs : List (List Trace)} {l : Lay} {r c : Nat} (hr : r < cs.length) (hr3 : cs.length ≤ 3) (hc : c < (cs.headD []).length) (hc4 : (cs.headD []).length ≤ 4) : (faceB m p cs l).getD (4 * r + c) 0 = shownB m p l r c := by
  unfold faceB part12
  have : 4 * r + c < 12 := by omega
  rw [List.getD_eq_getElem?_getD, List.getElem?_map, List.getElem?_range this]
  simp only [Option.map_some, Option.getD_some, this, if_true, faceAt]
  rw [show (4 * r + c) / 4 = r by omega, show (4 * r + c) % 4 = c by omega, if_pos ⟨hr, hc⟩]
section
variable {xs : List (Lay × List Int)} {i : Nat} (h64 : ∀ x ∈ xs, is64 (x.2.getD i 0))
include h64
end
end Go.Mac
namespace Go.Mac
open Go Go.Conc Go.Proofs
set_option maxRecDepth 4000
def layErr2 (b : Board) (l : Lay) : Int := if boardErr b ≠ 0 then boardErr b else layErr b l
def misR (b : Board) (l : Lay) : List (Int × Int) := wrongB (mapB b.glyphs) (b.pages.getD l.page.toNat []) b.cells l
theorem pair_below (l : List (Int × Int)) : below 0 (sliceOf cPair l) = true := below_psl (fun _ => rfl) _
theorem Misfits_ok (b : Board) (l : Lay) (hd : isI64 l.down) (hr : isI64 l.right) : PureA Try.prog 25 [.agg (brdA b), .agg (cLay l)] (.tup [unlessErr (layErr2 b l) (sliceOf cPair (misR b l)), .int .i64 (layErr2 b l)]) := by
  refine PureA.of_wpp {} 24 mixed Try.func25 (by kernel_rfl) rfl (by kernel_rfl) (by simp only [below, belowL, unless_below (pair_below _), Bool.and_self]) fun h j hB => ?_
  simp only [junk_succ, junk_zero, List.cons_append, List.nil_append, List.length_cons, List.length_nil, Nat.reduceAdd]
  simp (implicitDefEqProofs := false) (dsimp := false) only [go_sem, brdA, cLay]
  refine open_use (fun e0 => ?_) (fun e1 e2 x y z t f1 f2 f3 f4 => ?_)
  · have hl2 : layErr2 b l = layErr b l := by rw [layErr2, if_neg (by simp [e0])]
    rw [hl2]
    simp (implicitDefEqProofs := false) (dsimp := false) only [go_sem, bdA]
    (first | refine CallsA.use (checkLay_ok b (mapB b.glyphs) l hd hr) ?_ | refine QuietCalls.use (checkLay_ok b (mapB b.glyphs) l hd hr) ?_)
    simp (implicitDefEqProofs := false) (dsimp := false) only [go_sem]
    refine ⟨fun c => ?_, fun c => ?_⟩
    · have c' : layErr b l ≠ 0 := by simpa using c
      rw [unless_bad c']
    · have c0 : layErr b l = 0 := by simpa using c
      obtain ⟨p0, p1, q⟩ := layErr_zero c0
      have okb := okBoard.of e0
      have hp : l.page.toNat < b.pages.length := by omega
      have hpg : b.pages.getD l.page.toNat [] = b.pages[l.page.toNat] := by simp [List.getD, hp]
      (first | refine CallsA.use (face_ok b (mapB b.glyphs) l l.page.toNat (by omega) hp (okb.page _ (List.getElem_mem hp)) okb.cells (by omega) (by omega)) ?_ | refine QuietCalls.use (face_ok b (mapB b.glyphs) l l.page.toNat (by omega) hp (okb.page _ (List.getElem_mem hp)) okb.cells (by omega) (by omega)) ?_)
      simp (implicitDefEqProofs := false) (dsimp := false) only [go_sem]
      (first | refine CallsA.use (misfits_ok b (mapB b.glyphs) _ (face_len _ _ _ _) okb.cells) ?_ | refine QuietCalls.use (misfits_ok b (mapB b.glyphs) _ (face_len _ _ _ _) okb.cells) ?_)
      simp (implicitDefEqProofs := false) (dsimp := false) only [go_sem]
      rw [c0, unless_ok rfl, misR, wrongB, hpg]
      exact ⟨rfl, rfl⟩
  · simp only [leafA] at f1 f2 f3 f4
    have hl2 : layErr2 b l = boardErr b := by rw [layErr2, if_pos e1]
    rw [hl2]
    simp (implicitDefEqProofs := false) (dsimp := false) only [go_sem, f1, f2, f3, f4, e2, eq_false e1]
    rw [unless_bad e1]
    exact fun _ => rfl
def misN (b : Board) (l : Lay) : Nat := (misR b l).length
theorem allWays_mis {b : Board} {i : Nat} (h : i < (allWays b (mapB b.glyphs)).length) : (misB (allWays b (mapB b.glyphs))[i].2 b.cells).length = misN b (layK i) := by
  have hl := h
  rw [allWays_len] at hl
  have h1 := allWays_at (b := b) (m := mapB b.glyphs) (p := i / 18) (k := i % 18) (by omega) (by omega)
  rw [show i / 18 * 18 + i % 18 = i by omega, List.getElem?_eq_getElem h] at h1
  rw [Option.some.inj h1]; rfl
theorem lays_some {b : Board} : 0 < (laysB b).length ↔ ∃ i, i < 18 * b.pages.length ∧ misN b (layK i) = 0 := by
  have hl := allWays_len b (mapB b.glyphs)
  constructor
  · intro h
    have hm := List.getElem_mem h
    unfold laysB rightsB at hm
    obtain ⟨h1, h2⟩ := List.mem_filter.1 hm
    obtain ⟨i, hi, e⟩ := List.mem_iff_getElem.1 h1
    refine ⟨i, by omega, ?_⟩
    rw [← allWays_mis hi, e]
    simpa [rightB] using h2
  · rintro ⟨i, hi, h0⟩
    have hi2 : i < (allWays b (mapB b.glyphs)).length := by omega
    refine List.length_pos_of_mem (a := (allWays b (mapB b.glyphs))[i]) ?_
    unfold laysB rightsB
    refine List.mem_filter.2 ⟨List.getElem_mem hi2, ?_⟩
    rw [rightB, allWays_mis hi2, h0]; rfl
end Go.Mac
namespace Go.Mac
open Go Go.Conc Go.Proofs
set_option maxRecDepth 4000
end Go.Mac
namespace Go.Mac
open Go Go.Conc Go.Proofs
end Go.Mac
namespace Go.Mac
open Go Go.Conc Go.Proofs
set_option maxRecDepth 4000
end Go.Mac
namespace Go.Mac
open Go Go.Conc Go.Proofs
set_option maxRecDepth 4000
end Go.Mac
namespace Go.Mac
open Go Go.Conc Go.Proofs
end Go.Mac
namespace Go.Mac
open Go Go.Conc Go.Proofs
def cntK (f : Nat → Bool) : Nat → Nat
  | 0 => 0
  | k + 1 => cntK f k + if f k then 1 else 0
theorem cntK_le (f : Nat → Bool) : ∀ n, cntK f n ≤ n
  | 0 => Nat.le_refl _
  | n + 1 => by rw [cntK]; have := cntK_le f n; split <;> omega
end Go.Mac
namespace Go.Mac
open Go Go.Conc Go.Proofs
end Go.Mac
namespace Go.Mac
open Go Go.Conc Go.Proofs
set_option maxRecDepth 4000
theorem cInt_len1 (l : List Int) : (l.flatMap cInt).length = l.length := rows_length (fun _ => rfl) l
theorem cInt_zero (n : Nat) : ((List.range n).map fun q => [AV.int .i64 0].getD (q % 1) .any) = (List.replicate n (0 : Int)).flatMap cInt := by
  induction n with
  | zero => rfl
  | succ n ih => rw [List.range_succ, List.map_append, ih, List.replicate_succ', List.flatMap_append]; simp [cInt, Nat.mod_one]
theorem cInt_set : ∀ (l : List Int) (m : Nat) (v : Int), (l.flatMap cInt).set m (.int .i64 v) = (l.set m v).flatMap cInt
  | [], _, _ => rfl
  | _ :: _, 0, _ => rfl
  | x :: l, m + 1, v => by
    have := cInt_set l m v
    simp only [List.flatMap_cons, cInt, List.cons_append, List.nil_append, List.set_cons_succ] at this ⊢
    rw [this]
end Go.Mac
namespace Go.Mac
open Go Go.Conc Go.Proofs
def fil (f : Nat → Bool) (t : Nat) : List Nat := (List.range t).filter f
theorem fil_succ (f : Nat → Bool) (t : Nat) : fil f (t + 1) = fil f t ++ if f t = true then [t] else [] := by
  rw [fil, List.range_succ, List.filter_append]; congr 1
  simp only [List.filter_cons, List.filter_nil]
theorem fil_mem {f : Nat → Bool} {t x : Nat} : x ∈ fil f t ↔ x < t ∧ f x = true := by rw [fil, List.mem_filter, List.mem_range]
end Go.Mac
namespace Go.Mac
open Go Go.Conc Go.Proofs
end Go.Mac
namespace Go.Mac
open Go Go.Conc Go.Proofs
def chr2 (p : List (List UInt8)) (r c : Nat) : UInt8 := (p.getD r []).getD c 0
theorem chr2_set {p : List (List UInt8)} {r c r' c' w : Nat} {b : UInt8} (hr : r < p.length) (hw : ∀ s ∈ p, s.length = w) (hc : c < w) : chr2 (setL2 p r c b) r' c' = if r' = r ∧ c' = c then b else chr2 p r' c' := by
  have hl : p[r].length = w := hw _ (List.getElem_mem hr)
  unfold chr2 setL2
  rw [List.getD_eq_getElem?_getD (l := p.set ..), List.getElem?_set]
  by_cases e : r = r'
  · subst e
    rw [if_pos rfl, if_pos hr, Option.getD_some, List.getD_eq_getElem?_getD, List.getElem?_set]
    rw [List.getD_eq_getElem?_getD (l := p), List.getElem?_eq_getElem hr, Option.getD_some]
    by_cases e2 : c = c'
    · subst e2
      rw [if_pos rfl, if_pos (by omega), if_pos ⟨rfl, rfl⟩]; rfl
    · rw [if_neg e2, if_neg (fun h => e2 h.2.symm), List.getD_eq_getElem?_getD]
  · rw [if_neg e, if_neg (fun h => e h.1.symm), List.getD_eq_getElem?_getD (l := p)]
def fitC (m : List (Int × Int)) (pg : List (List UInt8)) (cs : List (List Trace)) (l : Lay) (r c : Nat) : Bool := fitsB (shownB m pg l r c) (traceAt cs r c)
theorem wrong_mem {m : List (Int × Int)} {pg : List (List UInt8)} {cs : List (List Trace)} {l : Lay} (okc : okCells cs) {r c : Nat} : ((r : Int), (c : Int)) ∈ wrongB m pg cs l ↔ r < cs.length ∧ c < (cs.headD []).length ∧ fitC m pg cs l r c = false := by
  have h3 := okc.most
  have h4 := okc.wmost
  unfold wrongB misB misTo
  rw [List.mem_flatMap]
  constructor
  · rintro ⟨k, hk, h⟩
    have hk := List.mem_range.1 hk
    split at h
    · rename_i hw
      unfold misAt at h
      split at h
      · cases h
      · rename_i hf
        rw [List.mem_singleton, Prod.mk.injEq] at h
        have e1 : r = k / 4 := by omega
        have e2 : c = k % 4 := by omega
        subst e1; subst e2
        refine ⟨by omega, hw, ?_⟩
        have := face_get (m := m) (p := pg) (cs := cs) (l := l) (r := k / 4) (c := k % 4) (by omega) h3 hw h4
        rw [show 4 * (k / 4) + k % 4 = k by omega] at this
        rw [this] at hf
        simpa [fitC] using hf
    · cases h
  · rintro ⟨h1, h2, h⟩
    refine ⟨4 * r + c, List.mem_range.2 (by omega), ?_⟩
    have e1 : (4 * r + c) / 4 = r := by omega
    have e2 : (4 * r + c) % 4 = c := by omega
    rw [e2, if_pos h2, misAt, e1, e2, face_get h1 h3 h2 h4, if_neg (by rw [show fitsB _ _ = false from h]; simp)]
    exact List.mem_singleton.2 rfl
theorem misTo_small {f : List Int} {cs : List (List Trace)} : ∀ {n : Nat}, ∀ x ∈ misTo f cs n, 4 * x.1 + x.2 < n := by
  intro n x hx
  unfold misTo at hx
  obtain ⟨k, hk, hx⟩ := List.mem_flatMap.1 hx
  rw [List.mem_range] at hk
  split at hx
  · unfold misAt at hx
    split at hx
    · cases hx
    · rw [List.mem_singleton] at hx
      subst hx
      simp only
      omega
  · cases hx
theorem misTo_nodup {f : List Int} {cs : List (List Trace)} : ∀ n, (misTo f cs n).Nodup
  | 0 => by simp [misTo]
  | n + 1 => by
    rw [misTo_succ, List.nodup_append]
    refine ⟨misTo_nodup n, ?_, ?_⟩
    · split
      · unfold misAt; split <;> simp
      · simp
    · intro x hx y hy
      have h1 := misTo_small x hx
      split at hy
      · unfold misAt at hy
        split at hy
        · cases hy
        · rw [List.mem_singleton] at hy
          subst hy
          intro e
          subst e
          simp only at h1
          omega
      · cases hy
theorem wrong_nodup (m : List (Int × Int)) (pg : List (List UInt8)) (cs : List (List Trace)) (l : Lay) : (wrongB m pg cs l).Nodup := misTo_nodup _
theorem letterB_inj {pg : List (List UInt8)} {l : Lay} {x y : Int × Int} {z : Int × Int} (h1 : letterB pg l x.1 x.2 = (z.1, z.2, true)) (h2 : letterB pg l y.1 y.2 = (z.1, z.2, true)) : x = y := by
  obtain ⟨a, b⟩ := x
  obtain ⟨c, d⟩ := y
  unfold letterB at h1 h2
  simp only at h1 h2
  split at h1
  · simp at h1
  · split at h2
    · simp at h2
    · split at h1 <;> (rename_i ht; simp only [ht, if_true, if_false, Bool.false_eq_true, Prod.mk.injEq, and_true] at h1 h2; rw [Prod.mk.injEq]; omega)
theorem letterB_same {p q : List (List UInt8)} {l : Lay} (h1 : q.length = p.length) (h2 : (q.headD []).length = (p.headD []).length) (r c : Int) : letterB q l r c = letterB p l r c := by
  unfold letterB; rw [h1, h2]
theorem emFold_get {m : List (Int × Int)} {gs : List Glyph} {pg : List (List UInt8)} {cs : List (List Trace)} {l : Lay} {w : Nat} (hw : w = (pg.headD []).length) : ∀ (xs : List (Int × Int)) (p q : List (List UInt8)), emFold m gs pg cs l xs p = some q → p.length = pg.length → (∀ s ∈ p, s.length = w) →
    (xs.Pairwise fun x y => ∀ r c : Nat, letterB pg l x.1 x.2 = ((r : Int), (c : Int), true) → letterB pg l y.1 y.2 ≠ ((r : Int), (c : Int), true)) →
    q.length = p.length ∧ (∀ s ∈ q, s.length = w) ∧ (∀ x ∈ xs, ∃ r c n : Nat, letterB pg l x.1 x.2 = ((r : Int), (c : Int), true) ∧ r < pg.length ∧ c < w ∧ changeB m gs l (traceAt cs x.1.toNat x.2.toNat) = some n ∧ chr2 q r c = UInt8.ofNat n) ∧ (∀ r c : Nat, (∀ x ∈ xs, letterB pg l x.1 x.2 ≠ ((r : Int), (c : Int), true)) → chr2 q r c = chr2 p r c)
  | [], p, q, h, hl, hp, _ => by
    cases h
    exact ⟨rfl, hp, fun x hx => absurd hx (List.not_mem_nil), fun _ _ _ => rfl⟩
  | x :: xs, p, q, h, hl, hp, hd => by
    rw [emFold] at h
    cases hs : emStep m gs pg cs l p x with
    | none => rw [hs] at h; cases h
    | some p1 =>
      rw [hs] at h
      simp only at h
      unfold emStep at hs
      cases hc : changeB m gs l (traceAt cs x.1.toNat x.2.toNat) with
      | none => rw [hc] at hs; cases hs
      | some n =>
        rw [hc] at hs
        simp only at hs
        split at hs
        · rename_i ht
          obtain ⟨r, c, e, hr, hcw⟩ := letterB_bound ht
          rw [e] at hs
          simp only [Int.toNat_natCast, Option.some.injEq] at hs
          have hrp : r < p.length := by omega
          have hcw' : c < w := by omega
          rw [List.pairwise_cons] at hd
          obtain ⟨q1, q2, q3, q4⟩ := emFold_get hw xs p1 q h (by rw [← hs, setL2_len, hl]) (by rw [← hs]; exact setL2_wide hp hrp) hd.2
          have hset : ∀ r' c', chr2 p1 r' c' = if r' = r ∧ c' = c then UInt8.ofNat n else chr2 p r' c' := fun r' c' => by rw [← hs]; exact chr2_set hrp hp hcw'
          refine ⟨by rw [q1, ← hs, setL2_len], q2, fun y hy => ?_, fun r' c' hn => ?_⟩
          · rcases List.mem_cons.1 hy with rfl | hy
            · refine ⟨r, c, n, e, hr, hcw', hc, ?_⟩
              rw [q4 r c fun z hz => hd.1 z hz r c e, hset, if_pos ⟨rfl, rfl⟩]
            · exact q3 y hy
          · rw [q4 r' c' fun z hz => hn z (List.mem_cons_of_mem _ hz), hset, if_neg]
            rintro ⟨rfl, rfl⟩
            exact hn x (List.mem_cons_self ..) e
        · cases hs
theorem emFold_some {m : List (Int × Int)} {gs : List Glyph} {pg : List (List UInt8)} {cs : List (List Trace)} {l : Lay} : ∀ (xs : List (Int × Int)) (p : List (List UInt8)), (∀ x ∈ xs, (letterB pg l x.1 x.2).2.2 = true ∧ changeB m gs l (traceAt cs x.1.toNat x.2.toNat) ≠ none) → ∃ q, emFold m gs pg cs l xs p = some q
  | [], p, _ => ⟨p, rfl⟩
  | x :: xs, p, h => by
    obtain ⟨h1, h2⟩ := h x (List.mem_cons_self ..)
    cases hc : changeB m gs l (traceAt cs x.1.toNat x.2.toNat) with
    | none => exact absurd hc h2
    | some n =>
      obtain ⟨q, hq⟩ := emFold_some (m := m) (gs := gs) (pg := pg) (cs := cs) (l := l) xs (setL2 p (letterB pg l x.1 x.2).1.toNat (letterB pg l x.1 x.2).2.1.toNat (UInt8.ofNat n)) fun y hy => h y (List.mem_cons_of_mem _ hy)
      exact ⟨q, by rw [emFold, emStep, hc]; simp only [h1, if_true]; exact hq⟩
theorem wrong_apart {m : List (Int × Int)} {pg : List (List UInt8)} {cs : List (List Trace)} {l : Lay} : (wrongB m pg cs l).Pairwise fun x y => ∀ r c : Nat, letterB pg l x.1 x.2 = ((r : Int), (c : Int), true) → letterB pg l y.1 y.2 ≠ ((r : Int), (c : Int), true) :=
  List.Pairwise.imp (fun {x y} h (r c : Nat) h1 h2 => h (letterB_inj (z := (((r : Int), (c : Int)) : Int × Int)) h1 h2)) (wrong_nodup m pg cs l)
def difF (a b : List (List UInt8)) (w k : Nat) : Bool := chr2 a (k / w) (k % w) != chr2 b (k / w) (k % w)
def difN (a b : List (List UInt8)) (w n : Nat) : Nat := cntK (difF a b w) n
theorem cntK_fil {f : Nat → Bool} : ∀ n, cntK f n = (fil f n).length
  | 0 => rfl
  | n + 1 => by
    rw [cntK, cntK_fil n, fil_succ, List.length_append]
    split <;> rfl
theorem cnt_ge {f : Nat → Bool} {n : Nat} {P : List Nat} (hn : P.Nodup) (h : ∀ k ∈ P, k < n ∧ f k = true) : P.length ≤ cntK f n := by
  rw [cntK_fil]
  exact hn.length_le_of_subset fun k hk => fil_mem.2 (h k hk)
theorem cnt_le {f : Nat → Bool} {n : Nat} {P : List Nat} (h : ∀ k, k < n → f k = true → k ∈ P) : cntK f n ≤ P.length := by
  rw [cntK_fil]
  refine List.Nodup.length_le_of_subset (List.Nodup.sublist List.filter_sublist List.nodup_range) fun k hk => ?_
  obtain ⟨h1, h2⟩ := fil_mem.1 hk
  exact h k h1 h2
def posW (pg : List (List UInt8)) (l : Lay) (w : Nat) (x : Int × Int) : Nat := (letterB pg l x.1 x.2).1.toNat * w + (letterB pg l x.1 x.2).2.1.toNat
theorem posW_at {pg : List (List UInt8)} {l : Lay} {w : Nat} {x : Int × Int} {r c : Nat} (h : letterB pg l x.1 x.2 = ((r : Int), (c : Int), true)) (hr : r < pg.length) (hc : c < w) : posW pg l w x = r * w + c ∧ (r * w + c) / w = r ∧ (r * w + c) % w = c ∧ r * w + c < pg.length * w := by
  have hw : 0 < w := by omega
  refine ⟨by rw [posW, h]; rfl, ?_, ?_, ?_⟩
  · rw [Nat.mul_comm, Nat.mul_add_div hw, Nat.div_eq_of_lt hc]; omega
  · rw [Nat.mul_comm, Nat.mul_add_mod, Nat.mod_eq_of_lt hc]
  · have : (r + 1) * w ≤ pg.length * w := Nat.mul_le_mul_right _ hr
    rw [Nat.succ_mul] at this
    omega
theorem pos_nodup {m : List (Int × Int)} {pg : List (List UInt8)} {cs : List (List Trace)} {l : Lay} {w : Nat} (h : ∀ x ∈ wrongB m pg cs l, ∃ r c : Nat, letterB pg l x.1 x.2 = ((r : Int), (c : Int), true) ∧ r < pg.length ∧ c < w) : ((wrongB m pg cs l).map (posW pg l w)).Nodup := by
  unfold List.Nodup
  rw [List.pairwise_map]
  refine List.Pairwise.imp_of_mem (R := fun x y => x ≠ y) (fun {x y} hx hy hne e => hne ?_) (wrong_nodup m pg cs l)
  obtain ⟨r, c, e1, h1, h2⟩ := h x hx
  obtain ⟨r', c', e2, h3, h4⟩ := h y hy
  obtain ⟨a1, a2, a3, _⟩ := posW_at e1 h1 h2
  obtain ⟨b1, b2, b3, _⟩ := posW_at e2 h3 h4
  have e3 : r * w + c = r' * w + c' := by rw [← a1, ← b1]; exact e
  have er : r = r' := by rw [← a2, ← b2, e3]
  have ec : c = c' := by rw [← a3, ← b3, e3]
  subst er; subst ec
  exact letterB_inj (z := ((r : Int), (c : Int))) e1 e2
theorem shownB_at {m : List (Int × Int)} {pg : List (List UInt8)} {l : Lay} {r c : Int} {r' c' : Nat} (h : letterB pg l r c = ((r' : Int), (c' : Int), true)) : shownB m pg l r c = asB l (inkB m ((chr2 pg r' c').toNat : Int)) := by
  unfold shownB; rw [h]; rfl
theorem shownB_out {m : List (Int × Int)} {pg : List (List UInt8)} {l : Lay} {r c : Int} (h : (letterB pg l r c).2.2 = false) : shownB m pg l r c = 0 := by
  unfold shownB; simp only [h]; rfl
theorem wrong_pair {m : List (Int × Int)} {pg : List (List UInt8)} {cs : List (List Trace)} {l : Lay} (okc : okCells cs) {x : Int × Int} (hx : x ∈ wrongB m pg cs l) : ∃ r c : Nat, x = ((r : Int), (c : Int)) ∧ r < cs.length ∧ c < (cs.headD []).length ∧ fitC m pg cs l r c = false := by
  obtain ⟨r, c, rfl, _, _⟩ := misB_mem x hx
  exact ⟨r, c, rfl, (wrong_mem okc).1 hx⟩
theorem hasB_nameL {gs : List Glyph} {c : Nat} : hasB (mapB gs) c = true ↔ c ∈ nameL gs := by
  unfold hasB mapB nameL
  simp only [List.any_cons, List.any_map, Bool.or_eq_true, beq_iff_eq, List.any_eq_true, List.mem_cons, List.mem_map, Function.comp]
  constructor
  · rintro (h | ⟨g, hg, h⟩)
    · left; omega
    · right; exact ⟨g, hg, by omega⟩
  · rintro (h | ⟨g, hg, h⟩)
    · left; omega
    · right; exact ⟨g, hg, by omega⟩
theorem chr2_mem {p : List (List UInt8)} {r c w : Nat} (hr : r < p.length) (hw : ∀ s ∈ p, s.length = w) (hc : c < w) : ∃ s ∈ p, chr2 p r c ∈ s := by
  have hl : p[r].length = w := hw _ (List.getElem_mem hr)
  refine ⟨p[r], List.getElem_mem hr, ?_⟩
  unfold chr2
  rw [List.getD_eq_getElem?_getD (l := p), List.getElem?_eq_getElem hr, Option.getD_some, List.getD_eq_getElem?_getD, List.getElem?_eq_getElem (by omega), Option.getD_some]
  exact List.getElem_mem _
theorem emend_right {gs : List Glyph} (okg : okGlyphs gs) {pg : List (List UInt8)} (okp : madePage gs pg) {cs : List (List Trace)} (okc : okCells cs) {l : Lay} {q : List (List UInt8)} (h : emendB (mapB gs) gs pg cs l = some q) :
    madePage gs q ∧ q.length = pg.length ∧ (q.headD []).length = (pg.headD []).length ∧ (∀ r c, r < cs.length → c < (cs.headD []).length → fitC (mapB gs) q cs l r c = true) ∧ difN pg q (pg.headD []).length (pg.length * (pg.headD []).length) = (wrongB (mapB gs) pg cs l).length := by
  obtain ⟨w, hw⟩ : ∃ w, w = (pg.headD []).length := ⟨_, rfl⟩
  have hpw : ∀ s ∈ pg, s.length = w := fun s hs => by rw [hw]; exact okp.1.wide s hs
  have wpos : 0 < w := by rw [hw]; exact okp.1.wpos
  obtain ⟨q1, q2, q3, q4⟩ := emFold_get hw _ pg q h rfl hpw wrong_apart
  have hp0 := okp.1.pos
  have hq0 : 0 < q.length := by omega
  have hqh : (q.headD []).length = w := by rw [headD_get hq0]; exact q2 _ (List.getElem_mem _)
  have hsame : ∀ r c : Int, letterB q l r c = letterB pg l r c := letterB_same q1 (by rw [hqh, hw])
  have hnew : ∀ x ∈ wrongB (mapB gs) pg cs l, ∃ r c n : Nat, letterB pg l x.1 x.2 = ((r : Int), (c : Int), true) ∧ r < pg.length ∧ c < w ∧ n ∈ nameL gs ∧ (chr2 q r c).toNat = n ∧ fitsB (asB l (inkB (mapB gs) n)) (traceAt cs x.1.toNat x.2.toNat) = true := fun x hx => by
    obtain ⟨r, c, n, e, h1, h2, h3, h4⟩ := q3 x hx
    have hs := change_small okg h3
    refine ⟨r, c, n, e, h1, h2, List.mem_of_find?_eq_some h3, ?_, ?_⟩
    · rw [h4]; exact Nat.mod_eq_of_lt (by omega)
    · have h5 := List.find?_some (p := fun n : Nat => fitsB (asB l (inkB (mapB gs) n)) (traceAt cs x.1.toNat x.2.toNat)) h3
      exact h5
  have hmade : madePage gs q := by
    refine ⟨⟨hq0, by have := okp.1.most; omega, fun s hs => by rw [hqh]; exact q2 s hs, by omega, by rw [hqh, hw]; exact okp.1.wmost⟩, fun s hs b hb => ?_⟩
    obtain ⟨r, hr, rfl⟩ := List.mem_iff_getElem.1 hs
    obtain ⟨c, hc, rfl⟩ := List.mem_iff_getElem.1 hb
    have hcw : c < w := by rw [← q2 _ (List.getElem_mem hr)]; exact hc
    have e : q[r][c] = chr2 q r c := by
      unfold chr2
      rw [List.getD_eq_getElem?_getD (l := q), List.getElem?_eq_getElem hr, Option.getD_some, List.getD_eq_getElem?_getD, List.getElem?_eq_getElem hc, Option.getD_some]
    rw [e]
    by_cases hx : ∃ x ∈ wrongB (mapB gs) pg cs l, letterB pg l x.1 x.2 = ((r : Int), (c : Int), true)
    · obtain ⟨x, hx, ex⟩ := hx
      obtain ⟨r', c', n, e', _, _, hn, hcn, _⟩ := hnew x hx
      rw [ex] at e'
      simp only [Prod.mk.injEq, and_true] at e'
      rw [show r = r' by omega, show c = c' by omega, hcn]
      exact hasB_nameL.2 hn
    · rw [q4 r c fun x hx' e' => hx ⟨x, hx', e'⟩]
      obtain ⟨s, hs, hm⟩ := chr2_mem (r := r) (c := c) (by omega) hpw hcw
      exact okp.2 s hs _ hm
  refine ⟨hmade, q1, by rw [hqh, hw], fun r c hr hc => ?_, ?_⟩
  · cases hl : (letterB pg l r c).2.2 with
    | false =>
      have hnw : ¬ ((r : Int), (c : Int)) ∈ wrongB (mapB gs) pg cs l := fun hx => by
        obtain ⟨r', c', n, e', _⟩ := hnew _ hx
        simp only at e'
        rw [e'] at hl; cases hl
      rw [wrong_mem okc] at hnw
      have hf : fitC (mapB gs) pg cs l r c = true := by
        cases hf : fitC (mapB gs) pg cs l r c with
        | true => rfl
        | false => exact absurd ⟨hr, hc, hf⟩ hnw
      unfold fitC at hf ⊢
      rw [shownB_out (by rw [hsame]; exact hl)]
      rwa [shownB_out hl] at hf
    | true =>
      obtain ⟨r', c', e, h1, h2⟩ := letterB_bound hl
      by_cases hx : ((r : Int), (c : Int)) ∈ wrongB (mapB gs) pg cs l
      · obtain ⟨r2, c2, n, e2, _, _, _, hcn, hfn⟩ := hnew _ hx
        simp only at e2
        rw [e] at e2
        simp only [Prod.mk.injEq, and_true] at e2
        unfold fitC
        rw [shownB_at (by rw [hsame]; exact e), show r' = r2 by omega, show c' = c2 by omega, hcn]
        simpa using hfn
      · have hf : fitC (mapB gs) pg cs l r c = true := by
          cases hf : fitC (mapB gs) pg cs l r c with
          | true => rfl
          | false => exact absurd ((wrong_mem okc).2 ⟨hr, hc, hf⟩) hx
        unfold fitC at hf ⊢
        rw [shownB_at (by rw [hsame]; exact e)]
        rw [shownB_at e] at hf
        rw [q4 r' c' fun x hx' e' => hx ?_]
        · exact hf
        · rwa [letterB_inj (x := ((r : Int), (c : Int))) (y := x) (z := ((r' : Int), (c' : Int))) e e']
  · rw [← hw]
    have hpos : ∀ x ∈ wrongB (mapB gs) pg cs l, ∃ r c : Nat, letterB pg l x.1 x.2 = ((r : Int), (c : Int), true) ∧ r < pg.length ∧ c < w := fun x hx => by
      obtain ⟨r, c, n, e, h1, h2, _⟩ := hnew x hx
      exact ⟨r, c, e, h1, h2⟩
    have hnd := pos_nodup hpos
    refine Nat.le_antisymm ?_ ?_
    · have hh := cnt_le (f := difF pg q w) (n := pg.length * w) (P := (wrongB (mapB gs) pg cs l).map (posW pg l w)) fun k hk hf => ?_
      · rwa [List.length_map] at hh
      · have hr : k / w < pg.length := by rw [Nat.div_lt_iff_lt_mul wpos]; exact hk
        have hc : k % w < w := Nat.mod_lt _ wpos
        by_cases hx : ∃ x ∈ wrongB (mapB gs) pg cs l, letterB pg l x.1 x.2 = (((k / w : Nat) : Int), ((k % w : Nat) : Int), true)
        · obtain ⟨x, hx, ex⟩ := hx
          refine List.mem_map.2 ⟨x, hx, ?_⟩
          rw [(posW_at ex hr hc).1]
          exact Nat.div_add_mod' k w
        · have := q4 (k / w) (k % w) fun x hx' e' => hx ⟨x, hx', e'⟩
          rw [difF, this] at hf
          simp at hf
    · have hh := cnt_ge (f := difF pg q w) (n := pg.length * w) hnd fun k hk => ?_
      · rwa [List.length_map] at hh
      · obtain ⟨x, hx, rfl⟩ := List.mem_map.1 hk
        obtain ⟨r, c, n, e, h1, h2, _, hcn, hfn⟩ := hnew x hx
        obtain ⟨a1, a2, a3, a4⟩ := posW_at e h1 h2
        obtain ⟨r0, c0, rfl, b1, b2, b3⟩ := wrong_pair okc hx
        refine ⟨by rw [a1]; exact a4, ?_⟩
        rw [a1, difF, a2, a3, bne_iff_ne]
        intro e3
        unfold fitC at b3
        rw [shownB_at e, e3, hcn] at b3
        simp only [Int.toNat_natCast] at hfn
        rw [hfn] at b3; cases b3
theorem emend_least {gs : List Glyph} {pg pg' : List (List UInt8)} (okp : madePage gs pg) (okp' : madePage gs pg') (h1 : pg'.length = pg.length) (h2 : (pg'.headD []).length = (pg.headD []).length) {cs : List (List Trace)} (okc : okCells cs) {l : Lay} (hf : ∀ r c, r < cs.length → c < (cs.headD []).length → fitC (mapB gs) pg' cs l r c = true) :
    (∃ q, emendB (mapB gs) gs pg cs l = some q) ∧ (wrongB (mapB gs) pg cs l).length ≤ difN pg pg' (pg.headD []).length (pg.length * (pg.headD []).length) := by
  obtain ⟨w, hw⟩ : ∃ w, w = (pg.headD []).length := ⟨_, rfl⟩
  have hsame : ∀ r c : Int, letterB pg' l r c = letterB pg l r c := letterB_same h1 h2
  have hpw' : ∀ s ∈ pg', s.length = w := fun s hs => by rw [hw, ← h2]; exact okp'.1.wide s hs
  have key : ∀ x ∈ wrongB (mapB gs) pg cs l, ∃ r c : Nat, letterB pg l x.1 x.2 = ((r : Int), (c : Int), true) ∧ r < pg.length ∧ c < w ∧ chr2 pg r c ≠ chr2 pg' r c ∧ changeB (mapB gs) gs l (traceAt cs x.1.toNat x.2.toNat) ≠ none := fun x hx => by
    obtain ⟨r0, c0, rfl, b1, b2, b3⟩ := wrong_pair okc hx
    have hg := hf r0 c0 b1 b2
    cases hl : (letterB pg l r0 c0).2.2 with
    | false =>
      unfold fitC at hg b3
      rw [shownB_out (by rw [hsame]; exact hl)] at hg
      rw [shownB_out hl, hg] at b3; cases b3
    | true =>
      obtain ⟨r, c, e, a1, a2⟩ := letterB_bound hl
      have hcw : c < w := by omega
      refine ⟨r, c, e, a1, hcw, fun e2 => ?_, fun hn => ?_⟩
      · unfold fitC at hg b3
        rw [shownB_at (by rw [hsame]; exact e), ← e2] at hg
        rw [shownB_at e, hg] at b3; cases b3
      · unfold fitC at hg
        rw [shownB_at (by rw [hsame]; exact e)] at hg
        obtain ⟨s, hs, hm⟩ := chr2_mem (r := r) (c := c) (by omega) hpw' hcw
        have hin : (chr2 pg' r c).toNat ∈ nameL gs := hasB_nameL.1 (okp'.2 s hs _ hm)
        have := List.find?_eq_none.1 hn _ hin
        simp only [Int.toNat_natCast] at this
        exact this hg
  refine ⟨emFold_some _ _ fun x hx => ?_, ?_⟩
  · obtain ⟨r, c, e, _, _, _, h6⟩ := key x hx
    exact ⟨by rw [e], h6⟩
  · rw [← hw]
    have hpos : ∀ x ∈ wrongB (mapB gs) pg cs l, ∃ r c : Nat, letterB pg l x.1 x.2 = ((r : Int), (c : Int), true) ∧ r < pg.length ∧ c < w := fun x hx => by
      obtain ⟨r, c, e, a1, a2, _⟩ := key x hx
      exact ⟨r, c, e, a1, a2⟩
    have hnd := pos_nodup hpos
    have hh := cnt_ge (f := difF pg pg' w) (n := pg.length * w) hnd fun k hk => ?_
    · rwa [List.length_map] at hh
    · obtain ⟨x, hx, rfl⟩ := List.mem_map.1 hk
      obtain ⟨r, c, e, a1, a2, a3, _⟩ := key x hx
      obtain ⟨d1, d2, d3, d4⟩ := posW_at e a1 a2
      refine ⟨by rw [d1]; exact d4, ?_⟩
      rw [d1, difF, d2, d3, bne_iff_ne]
      exact a3
theorem emTo_spec {b : Board} {m : List (Int × Int)} {p : Nat} : ∀ k, (emTo b m p k = none → ∀ i, i < k → emOf m b.glyphs (b.pages.getD p []) b.cells (layN p i) = none) ∧ (∀ e, emTo b m p k = some e → (∃ i, i < k ∧ emOf m b.glyphs (b.pages.getD p []) b.cells (layN p i) = some e) ∧ ∀ i, i < k → ∀ e', emOf m b.glyphs (b.pages.getD p []) b.cells (layN p i) = some e' → e.letters ≤ e'.letters)
  | 0 => ⟨fun _ i h => by omega, fun e h => by cases h⟩
  | k + 1 => by
    obtain ⟨ih1, ih2⟩ := emTo_spec (b := b) (m := m) (p := p) k
    rw [emTo_succ]
    cases hk : emOf m b.glyphs (b.pages.getD p []) b.cells (layN p k) with
    | none =>
      simp only
      refine ⟨fun h i hi => ?_, fun e h => ?_⟩
      · by_cases q : i = k
        · rw [q]; exact hk
        · exact ih1 h i (by omega)
      · obtain ⟨⟨i, h1, h2⟩, h3⟩ := ih2 e h
        refine ⟨⟨i, by omega, h2⟩, fun i' hi' e' he' => ?_⟩
        by_cases q : i' = k
        · rw [q, hk] at he'; cases he'
        · exact h3 i' (by omega) e' he'
    | some x =>
      simp only
      cases ho : emTo b m p k with
      | none =>
        refine ⟨fun h => by simp [takeEm] at h, fun e h => ?_⟩
        simp only [takeEm, Option.some.injEq] at h
        subst h
        refine ⟨⟨k, by omega, hk⟩, fun i' hi' e' he' => ?_⟩
        by_cases q : i' = k
        · rw [q, hk] at he'; cases he'; exact Int.le_refl _
        · rw [ih1 ho i' (by omega)] at he'; cases he'
      | some y =>
        obtain ⟨⟨i, h1, h2⟩, h3⟩ := ih2 y ho
        refine ⟨fun h => ?_, fun e h => ?_⟩
        · simp only [takeEm] at h
          split at h <;> cases h
        · simp only [takeEm] at h
          split at h
          · rename_i hlt
            cases h
            refine ⟨⟨k, by omega, hk⟩, fun i' hi' e' he' => ?_⟩
            by_cases q : i' = k
            · rw [q, hk] at he'; cases he'; exact Int.le_refl _
            · have := h3 i' (by omega) e' he'; omega
          · rename_i hlt
            cases h
            refine ⟨⟨i, by omega, h2⟩, fun i' hi' e' he' => ?_⟩
            by_cases q : i' = k
            · rw [q, hk] at he'; cases he'; omega
            · exact h3 i' (by omega) e' he'
end Go.Mac
namespace Go.Mac
open Go Go.Conc Go.Proofs
theorem wrong_nil {m : List (Int × Int)} {pg : List (List UInt8)} {cs : List (List Trace)} {l : Lay} (okc : okCells cs) : wrongB m pg cs l = [] ↔ ∀ r c, r < cs.length → c < (cs.headD []).length → fitC m pg cs l r c = true := by
  rw [List.eq_nil_iff_forall_not_mem]
  constructor
  · intro h r c hr hc
    cases hf : fitC m pg cs l r c with
    | true => rfl
    | false => exact absurd ((wrong_mem okc).2 ⟨hr, hc, hf⟩) (h _)
  · intro h x hx
    obtain ⟨r, c, _, h1, h2, h3⟩ := wrong_pair okc hx
    rw [h r c h1 h2] at h3; cases h3
theorem emendR_cases {b : Board} {p : Nat} (ok : okMade b) (hp : p < b.pages.length) : (∃ e, emendR b p = (some e, 0) ∧ emTo b (mapB b.glyphs) p 18 = some e) ∨ (emendR b p = (none, 11) ∧ emTo b (mapB b.glyphs) p 18 = none) := by
  unfold emendR
  rw [if_neg (by simp [ok.err]), if_neg (by omega)]
  simp only [Int.toNat_natCast]
  cases h : emTo b (mapB b.glyphs) p 18 with
  | some e => exact .inl ⟨e, rfl, rfl⟩
  | none => exact .inr ⟨rfl, rfl⟩
theorem page_get {b : Board} {p : Nat} (hp : p < b.pages.length) : b.pages.getD p [] = b.pages[p] := by simp [List.getD, hp]
theorem emended_right {b : Board} (ok : okMade b) {p : Nat} (hp : p < b.pages.length) {e : Em} (h : emTo b (mapB b.glyphs) p 18 = some e) :
    ∃ i, i < 18 ∧ e.way = layN p i ∧ madePage b.glyphs e.rows ∧ e.rows.length = b.pages[p].length ∧ (e.rows.headD []).length = (b.pages[p].headD []).length ∧ misR { b with pages := b.pages.set p e.rows } e.way = [] ∧ e.letters = (difN b.pages[p] e.rows (b.pages[p].headD []).length (b.pages[p].length * (b.pages[p].headD []).length) : Int) := by
  obtain ⟨⟨i, hi, he⟩, _⟩ := (emTo_spec (b := b) (m := mapB b.glyphs) (p := p) 18).2 e h
  rw [page_get hp] at he
  unfold emOf at he
  cases hq : emendB (mapB b.glyphs) b.glyphs b.pages[p] b.cells (layN p i) with
  | none => rw [hq] at he; cases he
  | some q =>
    rw [hq] at he
    simp only [Option.map_some, Option.some.injEq] at he
    subst he
    obtain ⟨h1, h2, h3, h4, h5⟩ := emend_right ok.gl (ok.page _ (List.getElem_mem hp)) ok.cells hq
    refine ⟨i, hi, rfl, h1, h2, h3, ?_, by simp only; rw [h5]⟩
    unfold misR
    simp only
    have e1 : (b.pages.set p q).getD (layN p i).page.toNat [] = q := by
      simp only [layN, Int.toNat_natCast]
      rw [List.getD_eq_getElem?_getD, List.getElem?_set_self hp]; rfl
    rw [e1, wrong_nil ok.cells]
    exact h4
theorem emended_least {b : Board} (ok : okMade b) {p : Nat} (hp : p < b.pages.length) {pg' : List (List UInt8)} (okp' : madePage b.glyphs pg') (h1 : pg'.length = b.pages[p].length) (h2 : (pg'.headD []).length = (b.pages[p].headD []).length)
    (h : emTo b (mapB b.glyphs) p 18 = none ∨ ∃ e, emTo b (mapB b.glyphs) p 18 = some e ∧ (difN b.pages[p] pg' (b.pages[p].headD []).length (b.pages[p].length * (b.pages[p].headD []).length) : Int) < e.letters) : (laysB { b with pages := [pg'] }).length = 0 := by
  refine Classical.byContradiction fun hn => ?_
  obtain ⟨i, hi, h0⟩ := (lays_some (b := { b with pages := [pg'] })).1 (by omega)
  have hi18 : i < 18 := hi
  have hm : misR { b with pages := [pg'] } (layK i) = [] := List.length_eq_zero_iff.1 h0
  unfold misR at hm
  simp only at hm
  have e0 : layK i = layN ((0 : Nat) : Int) i := by rw [layK, show i / 18 = 0 by omega, show i % 18 = i by omega]
  rw [e0] at hm
  have e1 : ([pg'] : List (List (List UInt8))).getD (layN ((0 : Nat) : Int) i).page.toNat [] = pg' := rfl
  rw [e1, wrong_nil ok.cells] at hm
  obtain ⟨⟨q, hq⟩, hle⟩ := emend_least (ok.page _ (List.getElem_mem hp)) okp' h1 h2 ok.cells (l := layN p i) hm
  have hem : emOf (mapB b.glyphs) b.glyphs (b.pages.getD p []) b.cells (layN p i) = some ⟨q, (wrongB (mapB b.glyphs) b.pages[p] b.cells (layN p i)).length, layN p i⟩ := by
    rw [page_get hp, emOf, hq]; rfl
  obtain ⟨s1, s2⟩ := emTo_spec (b := b) (m := mapB b.glyphs) (p := p) 18
  rcases h with h | ⟨e, h, hlt⟩
  · rw [s1 h i hi18] at hem; cases hem
  · have := (s2 e h).2 i hi18 _ hem
    simp only at this
    omega
def wordsB (n : Nat) : Nat → List (List Int)
  | 0 => [[]]
  | k + 1 => (wordsB n k).flatMap fun w => (List.range n).map fun x : Nat => w ++ [(x : Int)]
theorem wordsB_len (n : Nat) : ∀ k, (wordsB n k).length = n ^ k
  | 0 => rfl
  | k + 1 => by
    have : ∀ l : List (List Int), (l.flatMap fun w => (List.range n).map fun x : Nat => w ++ [(x : Int)]).length = l.length * n := by
      intro l
      induction l with
      | nil => simp
      | cons w l ih => rw [List.flatMap_cons, List.length_append, ih, List.length_map, List.length_range, List.length_cons, Nat.succ_mul]; omega
    rw [wordsB, this, wordsB_len n k, Nat.pow_succ]
theorem wordsB_mem {n : Nat} : ∀ {k : Nat} {w : List Int}, w ∈ wordsB n k → w.length = k ∧ ∀ x ∈ w, ∃ y : Nat, x = y ∧ y < n
  | 0, w, h => by
    rw [wordsB, List.mem_singleton] at h
    subst h
    exact ⟨rfl, fun x hx => by cases hx⟩
  | k + 1, w, h => by
    rw [wordsB] at h
    obtain ⟨v, hv, h⟩ := List.mem_flatMap.1 h
    obtain ⟨y, hy, rfl⟩ := List.mem_map.1 h
    obtain ⟨h1, h2⟩ := wordsB_mem hv
    refine ⟨by simp [h1], fun x hx => ?_⟩
    rcases List.mem_append.1 hx with hx | hx
    · exact h2 x hx
    · exact ⟨y, List.mem_singleton.1 hx, List.mem_range.1 hy⟩
end Go.Mac
namespace Go.Mac
open Go Go.Conc Go.Proofs
set_option maxRecDepth 4000
theorem cStr_len1 (l : List (List UInt8)) : (l.flatMap cStr).length = l.length := rows_length (fun _ => rfl) l
def wordA : List Int → AV
  | [] => .nilsl
  | x :: l => sliceOf cInt (x :: l)
def cWord (l : List Int) : List AV := [wordA l]
@[simp] theorem cWord_len (l) : (cWord l).length = 1 := rfl
theorem cWord_len1 (l : List (List Int)) : (l.flatMap cWord).length = l.length := rows_length (fun _ => rfl) l
theorem wordA_pos {l : List Int} (h : 0 < l.length) : wordA l = sliceOf cInt l := by
  cases l with
  | nil => simp at h
  | cons x l => rfl
theorem below_words (l : List (List Int)) : below 0 (sliceOf cWord l) = true := by
  refine below_psl (fun x => ?_) l
  cases x with
  | nil => rfl
  | cons y t => have := below_psl (f := cInt) (fun _ => rfl) (y :: t); simp [cWord, wordA, this]
def dupI (l : List Int) (k : Nat) : List AV := (l.take k ++ List.replicate (l.length - k) (0 : Int)).flatMap cInt
theorem dupI_zero (l : List Int) : dupI l 0 = (List.replicate l.length (0 : Int)).flatMap cInt := by simp [dupI]
theorem dupI_end (l : List Int) : dupI l l.length = l.flatMap cInt := by simp [dupI]
theorem dupI_len {l : List Int} {k : Nat} (h : k < l.length) : (dupI l k).length = l.length := by rw [dupI, cInt_len1]; simp; omega
theorem dupI_set {l : List Int} {k : Nat} (h : k < l.length) : (dupI l k).set k (.int .i64 l[k]) = dupI l (k + 1) := by
  rw [dupI, cInt_set, dupI]
  congr 1
  rw [List.set_append_right _ _ (by rw [List.length_take]; omega), List.length_take, show k - min k l.length = 0 by omega, show l.length - k = (l.length - (k + 1)) + 1 by omega, List.replicate_succ, List.set_cons_zero, List.take_succ_eq_append_getElem h, List.append_assoc]; rfl
theorem difN_succ {a b : List (List UInt8)} {w r k : Nat} (hk : k < w) : difN a b w (r * w + (k + 1)) = difN a b w (r * w + k) + if chr2 a r k = chr2 b r k then 0 else 1 := by
  have e1 : (r * w + k) / w = r := by rw [Nat.mul_comm, Nat.mul_add_div (by omega), Nat.div_eq_of_lt hk]; omega
  have e2 : (r * w + k) % w = k := by rw [Nat.mul_comm, Nat.mul_add_mod, Nat.mod_eq_of_lt hk]
  unfold difN
  rw [← Nat.add_assoc, cntK, difF, e1, e2]
  by_cases e : chr2 a r k = chr2 b r k
  · rw [if_pos e, if_neg (by simp [e])]
  · rw [if_neg e, if_pos (by simpa using e)]
theorem chr2_at {p : List (List UInt8)} {r c : Nat} (hr : r < p.length) (hc : c < p[r].length) : chr2 p r c = p[r][c] := by
  unfold chr2
  rw [List.getD_eq_getElem?_getD (l := p), List.getElem?_eq_getElem hr, Option.getD_some, List.getD_eq_getElem?_getD, List.getElem?_eq_getElem hc, Option.getD_some]
theorem difN_le {a b : List (List UInt8)} {w n : Nat} : difN a b w n ≤ n := cntK_le _ _
theorem DupInts_ok (l : List Int) (hl : l.length ≤ 1000) (h : List Blk) : CallsA Try.prog 72 [wordA l] h fun e h' => e = .ret (.sl ⟨h.length, 0⟩ 1 0 l.length) ∧ h' = h ++ [.cells 0 (l.flatMap cInt)] := by
  cases l with
  | nil =>
    refine CallsA.of_wpe [] {} 21 mixed Try.func72 (by kernel_rfl) rfl (by kernel_rfl) fun j hB hA => ?_; simp only [junk_succ, junk_zero, List.cons_append, List.nil_append, List.length_cons, List.length_nil, Nat.reduceAdd]
    simp (implicitDefEqProofs := false) (dsimp := false) only [go_sem, wordA]
    refine ⟨by decide, ?_⟩
    refine WP.loopI (fun (k : Nat) s => (k = 0) ∧ s.sl.length = 22 ∧ s.df = [] ∧ s.gh = {} ∧ (s.hp = h ++ [.cells 0 []]) ∧ evA s.sl (.tmp 0) = .nilsl ∧ evA s.sl (.tmp 3) = .sl ⟨h.length, 0⟩ 1 0 0 ∧ evA s.sl (.tmp 4) = .int .i64 0) (fun (k : Nat) => 0) (0) ?_ ?_
    · simp (implicitDefEqProofs := false) (dsimp := false) only [go_sem]
    · rintro k ⟨sl, df, hp, gh⟩ ⟨zb, zl, rfl, rfl, rfl, z0, z3, z4⟩
      simp only at zb zl z0 z3 z4
      obtain ⟨j, rfl⟩ := slots_lit zl; clear zl; simp only [junk_succ, junk_zero, evA_tmp, nth_16, nth_four, nth_one, nth_zero, Nat.zero_add, Nat.reduceAdd] at  z0 z3 z4 ⊢
      refine wp_ok (so := {}) mixed _ (by kernel_rfl) ?_
      simp (implicitDefEqProofs := false) (dsimp := false) only [go_sem, z0, z3, z4]
      refine ⟨_, h.length + 1, rfl, by omega, ?_, ?_, rfl, ?_⟩
      · simp [below]
      · rw [List.take_of_length_le (by simp), List.all_append, allBelow_mono (by omega) hB]; rfl
      · rw [List.take_of_length_le (by simp)]; rfl
  | cons x t =>
    rw [wordA_pos (by simp)]
    have hpos : 0 < (x :: t).length := by simp
    generalize x :: t = l at hl hpos ⊢
    refine CallsA.of_wpe [] {} 21 mixed Try.func72 (by kernel_rfl) rfl (by kernel_rfl) fun j hB hA => ?_; simp only [junk_succ, junk_zero, List.cons_append, List.nil_append, List.length_cons, List.length_nil, Nat.reduceAdd]
    simp (implicitDefEqProofs := false) (dsimp := false) only [go_sem]
    have hl0 : 0 < l.length := hpos
    refine ⟨⟨by omega, by omega⟩, ?_⟩
    rw [if_neg (by omega), cInt_zero]
    refine WP.loopI (fun (k : Nat) s => (k ≤ l.length) ∧ s.sl.length = 22 ∧ s.df = [] ∧ s.gh = {} ∧ (s.hp = h ++ [.cells 0 (dupI l k)]) ∧ evA s.sl (.tmp 0) = sliceOf cInt l ∧ evA s.sl (.tmp 3) = .sl ⟨h.length, 0⟩ 1 0 l.length ∧ evA s.sl (.tmp 4) = .int .i64 k) (fun (k : Nat) => l.length - k) (0) ?_ ?_
    · simp (implicitDefEqProofs := false) (dsimp := false) only [go_sem, Nat.zero_le, dupI_zero]
    · rintro k ⟨sl, df, hp, gh⟩ ⟨zb, zl, rfl, rfl, rfl, z0, z3, z4⟩
      simp only at zb zl z0 z3 z4
      obtain ⟨j, rfl⟩ := slots_lit zl; clear zl; simp only [junk_succ, junk_zero, evA_tmp, nth_16, nth_four, nth_one, nth_zero, Nat.zero_add, Nat.reduceAdd] at  z0 z3 z4 ⊢
      refine wp_ok (so := {}) mixed _ (by kernel_rfl) ?_
      by_cases hk : k < l.length
      · simp (implicitDefEqProofs := false) (dsimp := false) only [go_sem, z0, z3, z4, nat_lt hk, decide_true, row1 cInt_len hk, row1_le cInt_len hk, cInt, dupI_len hk]
        exact ⟨by omega, k + 1, ⟨by omega, dupI_set hk, wrap_succ (by omega)⟩, by omega⟩
      · have hs : ((k : Int) < (l.length : Int)) = False := eq_false (by omega)
        have ek : k = l.length := by omega
        subst ek
        simp (implicitDefEqProofs := false) (dsimp := false) only [go_sem, z0, z3, z4, hs, decide_false, dupI_end]
        refine ⟨_, h.length + 1, rfl, by omega, ?_, ?_, rfl, ?_⟩
        · simp [below]
        · rw [List.take_of_length_le (by simp), List.all_append, allBelow_mono (by omega) hB]
          have hb : belowL (h.length + 1) (l.flatMap cInt) = true := belowL_flat (f := cInt) (fun _ => rfl) _
          simp [belowBlk, hb]
        · rw [List.take_of_length_le (by simp)]
theorem differ_ok (a b : List (List UInt8)) (oka : okPage a) (okb : okPage b) (hl : b.length = a.length) (hw : (b.headD []).length = (a.headD []).length) : PureA Try.prog 28 [sliceOf cStr a, sliceOf cStr b] (.int .i64 (difN a b (a.headD []).length (a.length * (a.headD []).length))) := by
  refine PureA.of_wpp {} 53 mixed Try.func28 (by kernel_rfl) rfl (by kernel_rfl) (rfl) fun h j hB => ?_
  simp only [junk_succ, junk_zero, List.cons_append, List.nil_append, List.length_cons, List.length_nil, Nat.reduceAdd]
  have a3 := oka.most
  have a4 := oka.wmost
  have aw : ∀ k (hk : k < a.length), a[k].length = (a.headD []).length := fun k hk => oka.wide _ (List.getElem_mem hk)
  have bw : ∀ k (hk : k < b.length), b[k].length = (a.headD []).length := fun k hk => by rw [← hw]; exact okb.wide _ (List.getElem_mem hk)
  simp (implicitDefEqProofs := false) (dsimp := false) only [go_sem, hl, bne_self_eq_false]
  refine WP.loopI (fun (r : Nat) s => (r ≤ a.length) ∧ s.sl.length = 55 ∧ s.df = [] ∧ s.gh = {} ∧ (s.hp = h) ∧ evA s.sl (.tmp 0) = .psl (a.flatMap cStr) a.length ∧ evA s.sl (.tmp 1) = .psl (b.flatMap cStr) a.length ∧ evA s.sl (.tmp 5) = .int .i64 (difN a b (a.headD []).length (r * (a.headD []).length)) ∧ evA s.sl (.tmp 6) = .int .i64 r) (fun (r : Nat) => a.length - r) (0) ?_ ?_
  · simp (implicitDefEqProofs := false) (dsimp := false) only [go_sem, Nat.zero_le, Nat.zero_mul]
    rfl
  · rintro r ⟨sl, df, hp, gh⟩ ⟨cb, cl, rfl, rfl, ch, c0, c1, c5, c6⟩
    simp only at cb cl ch c0 c1 c5 c6
    obtain ⟨j, rfl⟩ := slots_lit cl; clear cl; simp only [junk_succ, junk_zero, evA_tmp, nth_16, nth_four, nth_one, nth_zero, Nat.zero_add, Nat.reduceAdd] at  c0 c1 c5 c6 ⊢
    refine wp_ok (so := {}) mixed _ (by kernel_rfl) ?_
    have ch := ch.symm
    subst ch
    by_cases hr : r < a.length
    · have hrb : r < b.length := by omega
      have har := aw r hr
      have hbr := bw r hrb
      have hself : (((a.headD []).length : Int) != ((a.headD []).length : Int)) = false := bne_self_eq_false _
      simp (implicitDefEqProofs := false) (dsimp := false) only [go_sem, c0, c1, c5, c6, nat_lt hr, decide_true, row1 cStr_len hr, row1_le cStr_len hr, row1 cStr_len hrb, row1_le cStr_len hrb, cStr, har, hbr, hself]
      refine WP.loopI (fun (k : Nat) s => (k ≤ (a.headD []).length) ∧ s.sl.length = 55 ∧ s.df = [] ∧ s.gh = {} ∧ (s.hp = h) ∧ evA s.sl (.tmp 0) = .psl (a.flatMap cStr) a.length ∧ evA s.sl (.tmp 1) = .psl (b.flatMap cStr) a.length ∧ evA s.sl (.tmp 5) = .int .i64 (difN a b (a.headD []).length (r * (a.headD []).length + k)) ∧ evA s.sl (.tmp 6) = .int .i64 r ∧ evA s.sl (.tmp 7) = .int .i64 k) (fun (k : Nat) => (a.headD []).length - k) (0) ?_ ?_
      · simp (implicitDefEqProofs := false) (dsimp := false) only [go_sem, Nat.zero_le, Nat.add_zero]
      · rintro k ⟨sl, df, hp, gh⟩ ⟨db, dl, rfl, rfl, dh, d0, d1, d5, d6, d7⟩
        simp only at db dl dh d0 d1 d5 d6 d7
        obtain ⟨j, rfl⟩ := slots_lit dl; clear dl; simp only [junk_succ, junk_zero, evA_tmp, nth_16, nth_four, nth_one, nth_zero, Nat.zero_add, Nat.reduceAdd] at  d0 d1 d5 d6 d7 ⊢
        refine wp_ok (so := {}) mixed _ (by kernel_rfl) ?_
        have dh := dh.symm
        subst dh
        by_cases hk : k < (a.headD []).length
        · have hka : k < a[r].length := by omega
          have hkb : k < b[r].length := by omega
          have ga : a[r][k]? = some a[r][k] := List.getElem?_eq_getElem hka
          have gb : b[r][k]? = some b[r][k] := List.getElem?_eq_getElem hkb
          have hds := difN_succ (a := a) (b := b) (r := r) hk
          rw [chr2_at hr hka, chr2_at hrb hkb] at hds
          have hdb := difN_le (a := a) (b := b) (w := (a.headD []).length) (n := r * (a.headD []).length + k)
          have hrw : r * (a.headD []).length ≤ 3 * 4 := Nat.mul_le_mul (by omega) (by omega)
          by_cases hch : a[r][k] = b[r][k]
          · rw [if_pos hch, Nat.add_zero] at hds
            have hb : (((a[r][k]).toNat : Int) != ((b[r][k]).toNat : Int)) = false := by rw [hch]; exact bne_self_eq_false _
            simp (implicitDefEqProofs := false) (dsimp := false) only [go_sem, d0, d1, d5, d6, d7, nat_lt hr, nat_lt hk, decide_true, row1 cStr_len hr, row1_le cStr_len hr, row1 cStr_len hrb, row1_le cStr_len hrb, cStr, har, hbr, ga, gb, hb]
            exact ⟨k + 1, ⟨by omega, by omega, wrap_succ (by omega)⟩, by omega⟩
          · rw [if_neg hch] at hds
            have hb : (((a[r][k]).toNat : Int) != ((b[r][k]).toNat : Int)) = true := by
              rw [bne_iff_ne]; intro e; exact hch (UInt8.toNat_inj.1 (by omega))
            simp (implicitDefEqProofs := false) (dsimp := false) only [go_sem, d0, d1, d5, d6, d7, nat_lt hr, nat_lt hk, decide_true, row1 cStr_len hr, row1_le cStr_len hr, row1 cStr_len hrb, row1_le cStr_len hrb, cStr, har, hbr, ga, gb, hb]
            exact ⟨k + 1, ⟨by omega, by rw [hds]; exact wrap_succ (by omega), wrap_succ (by omega)⟩, by omega⟩
        · have hs : ((k : Int) < ((a.headD []).length : Int)) = False := eq_false (by omega)
          have ek : k = (a.headD []).length := by omega
          subst ek
          simp (implicitDefEqProofs := false) (dsimp := false) only [go_sem, d0, d1, d5, d6, d7, nat_lt hr, hs, decide_false, row1 cStr_len hr, row1_le cStr_len hr, cStr, har]
          exact ⟨r + 1, ⟨by omega, by rw [Nat.succ_mul], wrap_succ (by omega)⟩, by omega⟩
    · have hs : ((r : Int) < (a.length : Int)) = False := eq_false (by omega)
      have er : r = a.length := by omega
      subst er
      simp (implicitDefEqProofs := false) (dsimp := false) only [go_sem, c0, c1, c5, c6, hs, decide_false]
def longB (n : Nat) (l : List (List Int)) (i k : Nat) : List (List Int) := ((l.take i).flatMap fun w => (List.range n).map fun x : Nat => w ++ [(x : Int)]) ++ ((List.range k).map fun x : Nat => (l.getD i []) ++ [(x : Int)])
theorem longB_zero (n : Nat) (l : List (List Int)) : longB n l 0 0 = [] := by simp [longB]
theorem longB_next {n : Nat} {l : List (List Int)} {i : Nat} (h : i < l.length) : longB n l i n = longB n l (i + 1) 0 := by
  unfold longB
  rw [List.take_succ_eq_append_getElem h, List.flatMap_append, List.range_zero, List.map_nil, List.append_nil, List.getD_eq_getElem?_getD, List.getElem?_eq_getElem h]; simp
theorem longB_succ (n : Nat) (l : List (List Int)) (i k : Nat) : longB n l i (k + 1) = longB n l i k ++ [l.getD i [] ++ [(k : Int)]] := by
  unfold longB
  rw [List.range_succ, List.map_append, List.append_assoc]; rfl
theorem longB_end (n : Nat) (l : List (List Int)) : longB n l l.length 0 = l.flatMap fun w => (List.range n).map fun x : Nat => w ++ [(x : Int)] := by simp [longB]
theorem longB_len {n : Nat} {l : List (List Int)} {i k : Nat} (hi : i ≤ l.length) (hk : k ≤ n) : (longB n l i k).length ≤ l.length * n + n := by
  have : ∀ l : List (List Int), (l.flatMap fun w => (List.range n).map fun x : Nat => w ++ [(x : Int)]).length = l.length * n := by
    intro l
    induction l with
    | nil => simp
    | cons w l ih => rw [List.flatMap_cons, List.length_append, ih, List.length_map, List.length_range, List.length_cons, Nat.succ_mul]; omega
  rw [longB, List.length_append, this, List.length_map, List.length_range, List.length_take, Nat.min_eq_left hi]
  have := Nat.mul_le_mul_right n hi
  omega
theorem Words_ok (n m : Nat) (hn : n ≤ 7) (hm : m ≤ 4) : PureA Try.prog 29 [.int .i64 n, .int .i64 m] (sliceOf cWord (wordsB n m)) := by
  refine PureA.of_wps [5] { shut := [10, 34, 36], hand := [12, 13] } 38 mixed Try.func29 (by kernel_rfl) rfl (by kernel_rfl) (below_words _) fun h j hB => ?_
  simp only [junk_succ, junk_zero, List.cons_append, List.nil_append, List.length_cons, List.length_nil, Nat.reduceAdd]
  have hlen : ∀ k, k ≤ 4 → (wordsB n k).length ≤ 2401 := fun k hk => by
    rw [wordsB_len]
    calc n ^ k ≤ 7 ^ k := Nat.pow_le_pow_left hn k
      _ ≤ 7 ^ 4 := Nat.pow_le_pow_right (by omega) hk
      _ = 2401 := rfl
  simp (implicitDefEqProofs := false) (dsimp := false) only [go_sem]
  refine WP.loopI (fun (g : Nat) s => (g ≤ m) ∧ s.sl.length = 40 ∧ s.df = [] ∧ s.gh = {} ∧ (∃ J, s.hp = h ++ J) ∧ evA s.sl (.tmp 0) = .int .i64 n ∧ evA s.sl (.tmp 1) = .int .i64 m ∧ evA s.sl (.tmp 5) = .psl ((wordsB n g).flatMap cWord) (wordsB n g).length ∧ evA s.sl (.tmp 6) = .int .i64 g) (fun (g : Nat) => m - g) (0) ?_ ?_
  · simp (implicitDefEqProofs := false) (dsimp := false) only [go_sem, Nat.zero_le]
    rfl
  · rintro g ⟨sl, df, hp, gh⟩ ⟨ab, al, rfl, rfl, ah, a0, a1, a5, a6⟩
    simp only at ab al ah a0 a1 a5 a6
    obtain ⟨j, rfl⟩ := slots_lit al; clear al; simp only [junk_succ, junk_zero, evA_tmp, nth_16, nth_four, nth_one, nth_zero, Nat.zero_add, Nat.reduceAdd] at  a0 a1 a5 a6 ⊢
    refine wp_ok (so := { shut := [10, 34, 36], hand := [12, 13] }) mixed _ (by kernel_rfl) ?_
    obtain ⟨J, rfl⟩ := ah
    by_cases hs : g < m
    · simp (implicitDefEqProofs := false) (dsimp := false) only [go_sem, a0, a1, a5, a6, nat_lt hs, decide_true]
      have hW4 := hlen g (by omega)
      have hWm : ∀ w ∈ wordsB n g, w.length = g := fun w hw => (wordsB_mem hw).1
      have hWs : wordsB n (g + 1) = (wordsB n g).flatMap fun w => (List.range n).map fun x : Nat => w ++ [(x : Int)] := rfl
      generalize wordsB n g = W at hW4 hWm hWs ⊢
      have hln : ∀ i k, i ≤ W.length → k ≤ n → (longB n W i k).length ≤ 20000 := fun i k hi hk => by
        have h1 := longB_len (l := W) hi hk
        have h2 : W.length * n ≤ 2401 * 7 := Nat.mul_le_mul hW4 hn
        omega
      have hE0 : ∀ (y : Blk) (l : List Blk), (J ++ y :: l)[J.length]? = some y := fun y l => by rw [List.getElem?_append_right (Nat.le_refl _), Nat.sub_self]; rfl
      have hS0 : ∀ (y z : Blk) (l : List Blk), (J ++ y :: l).set J.length z = J ++ z :: l := fun y z l => by rw [List.set_append_right _ _ (Nat.le_refl _), Nat.sub_self]; rfl
      refine WPI.turn (Turns.nilSlot (d := 7) (sz := 1) ?_) ?_
      · simp (implicitDefEqProofs := false) (dsimp := false) only [go_sem]
      simp (implicitDefEqProofs := false) (dsimp := false) only [go_sem]
      refine WP.loopI (fun (i : Nat) s => (i ≤ W.length) ∧ s.sl.length = 40 ∧ s.df = [] ∧ s.gh = {} ∧ (∃ J2, s.hp = h ++ (J ++ .cells (longB n W i 0).length ((longB n W i 0).flatMap cWord) :: J2)) ∧ evA s.sl (.tmp 0) = .int .i64 n ∧ evA s.sl (.tmp 1) = .int .i64 m ∧ evA s.sl (.tmp 5) = .psl (W.flatMap cWord) W.length ∧ evA s.sl (.tmp 6) = .int .i64 g ∧ evA s.sl (.tmp 7) = .sl ⟨h.length + J.length, (longB n W i 0).length⟩ 1 0 (longB n W i 0).length ∧ evA s.sl (.tmp 8) = .int .i64 i) (fun (i : Nat) => W.length - i) (0) ?_ ?_
      · simp (implicitDefEqProofs := false) (dsimp := false) only [go_sem, Nat.zero_le, longB_zero]
        exact ⟨_, rfl, rfl⟩
      · rintro i ⟨sl, df, hp, gh⟩ ⟨cb, cl, rfl, rfl, ch, c0, c1, c5, c6, c7, c8⟩
        simp only at cb cl ch c0 c1 c5 c6 c7 c8
        obtain ⟨j, rfl⟩ := slots_lit cl; clear cl; simp only [junk_succ, junk_zero, evA_tmp, nth_16, nth_four, nth_one, nth_zero, Nat.zero_add, Nat.reduceAdd] at  c0 c1 c5 c6 c7 c8 ⊢
        refine wp_ok (so := { shut := [10, 34, 36], hand := [12, 13] }) mixed _ (by kernel_rfl) ?_
        obtain ⟨J2, rfl⟩ := ch
        by_cases hi : i < W.length
        · simp (implicitDefEqProofs := false) (dsimp := false) only [go_sem, c0, c1, c5, c6, c7, c8, nat_lt hi, decide_true]
          refine WP.loopI (fun (k : Nat) s => (k ≤ n) ∧ s.sl.length = 40 ∧ s.df = [] ∧ s.gh = {} ∧ (∃ J2, s.hp = h ++ (J ++ .cells (longB n W i k).length ((longB n W i k).flatMap cWord) :: J2)) ∧ evA s.sl (.tmp 0) = .int .i64 n ∧ evA s.sl (.tmp 1) = .int .i64 m ∧ evA s.sl (.tmp 5) = .psl (W.flatMap cWord) W.length ∧ evA s.sl (.tmp 6) = .int .i64 g ∧ evA s.sl (.tmp 7) = .sl ⟨h.length + J.length, (longB n W i k).length⟩ 1 0 (longB n W i k).length ∧ evA s.sl (.tmp 8) = .int .i64 i ∧ evA s.sl (.tmp 9) = .int .i64 k) (fun (k : Nat) => n - k) (0) ?_ ?_
          · simp (implicitDefEqProofs := false) (dsimp := false) only [go_sem, Nat.zero_le]
          · rintro k ⟨sl, df, hp, gh⟩ ⟨db, dl, rfl, rfl, dh, d0, d1, d5, d6, d7, d8, d9⟩
            simp only at db dl dh d0 d1 d5 d6 d7 d8 d9
            obtain ⟨j, rfl⟩ := slots_lit dl; clear dl; simp only [junk_succ, junk_zero, evA_tmp, nth_16, nth_four, nth_one, nth_zero, Nat.zero_add, Nat.reduceAdd] at  d0 d1 d5 d6 d7 d8 d9 ⊢
            refine wp_ok (so := { shut := [10, 34, 36], hand := [12, 13] }) mixed _ (by kernel_rfl) ?_
            obtain ⟨J2, rfl⟩ := dh
            by_cases hk : k < n
            · have hWi : W[i].length = g := hWm _ (List.getElem_mem hi)
              have hlk := hln i k (by omega) (by omega)
              have hls := longB_succ n W i k
              rw [List.getD_eq_getElem?_getD, List.getElem?_eq_getElem hi, Option.getD_some] at hls
              have hE1 : ∀ y z : Blk, (J ++ y :: (J2 ++ [z]))[J.length + (J2.length + 1)]? = some z := fun y z => by
                rw [List.getElem?_append_right (by omega), Nat.add_sub_cancel_left, List.getElem?_cons_succ, List.getElem?_append_right (Nat.le_refl _), Nat.sub_self]; rfl
              have hS1 : ∀ y z z' : Blk, (J ++ y :: (J2 ++ [z])).set (J.length + (J2.length + 1)) z' = J ++ y :: (J2 ++ [z']) := fun y z z' => by
                rw [List.set_append_right _ _ (by omega), Nat.add_sub_cancel_left, List.set_cons_succ, List.set_append_right _ _ (Nat.le_refl _), Nat.sub_self]; rfl
              simp (implicitDefEqProofs := false) (dsimp := false) only [go_sem, d0, d1, d5, d6, d7, d8, d9, nat_lt hk, decide_true]
              refine WP.region_splitN (so := { shut := [10, 34, 36], }) 9 [9, 10, 11] rfl (by decide) ?_
              simp (implicitDefEqProofs := false) (dsimp := false) only [go_sem, nat_lt hi, row1 cWord_len hi, row1_le cWord_len hi, cWord]
              refine CallsA.mono (DupInts_ok W[i] (by omega) _) ?_
              rintro _ _ ⟨rfl, rfl⟩
              have hcl := cInt_len1 W[i]
              simp (implicitDefEqProofs := false) (dsimp := false) only [go_sem, hE1, hS1, hcl]
              have hcw := cWord_len1 (longB n W i k)
              have hwa : wordA (W[i] ++ [(k : Int)]) = .psl ((W[i].flatMap cInt ++ [.int .i64 k])) (W[i].length + 1) := by
                rw [wordA_pos (by simp), sliceOf, List.flatMap_append, List.length_append]; rfl
              have htk : (W[i].flatMap cInt ++ [AV.int .i64 k]).take (W[i].length + 1) = W[i].flatMap cInt ++ [.int .i64 k] := List.take_of_length_le (by rw [List.length_append, hcl]; simp)
              refine ⟨by omega, ?_⟩
              refine wpi_shut [35] ?_
              simp (implicitDefEqProofs := false) (dsimp := false) only [go_sem, hE1, hS1, htk]
              refine WPI.region_from (so := { shut := [36] }) 9 rfl ?_
              simp (implicitDefEqProofs := false) (dsimp := false) only [go_sem, hE0, hS0, hcw]
              have hb : ∀ N, belowL N (W[i].flatMap cInt ++ [.int .i64 (k : Int)]) = true := fun N => by
                have := belowL_flat (n := N) (f := cInt) (fun _ => rfl) (W[i] ++ [(k : Int)])
                rw [List.flatMap_append] at this; exact this
              refine ⟨hb _, by omega, k + 1, ⟨by omega, ⟨_, ⟨by rw [hls, List.length_append]; rfl, ?_⟩, rfl⟩, by rw [hls, List.length_append]; rfl, wrap_succ (by omega)⟩, by omega⟩
              rw [hls, List.flatMap_append, List.flatMap_cons, List.flatMap_nil, cWord, hwa]; rfl
            · have hf : ((k : Int) < (n : Int)) = False := eq_false (by omega)
              have ek : k = n := by omega
              subst ek
              simp (implicitDefEqProofs := false) (dsimp := false) only [go_sem, d0, d1, d5, d6, d7, d8, d9, hf, decide_false]
              rw [longB_next hi]
              exact ⟨i + 1, ⟨by omega, ⟨_, ⟨rfl, rfl⟩, rfl⟩, rfl, wrap_succ (by omega)⟩, by omega⟩
        · have hf : ((i : Int) < (W.length : Int)) = False := eq_false (by omega)
          have ei : i = W.length := by omega
          subst ei
          simp (implicitDefEqProofs := false) (dsimp := false) only [go_sem, c0, c1, c5, c6, c7, c8, hf, decide_false]
          have hcw := cWord_len1 (longB n W W.length 0)
          refine wp_shut [7] (so := { shut := [10, 34, 36], }) mixed _ (by kernel_rfl) ?_
          simp (implicitDefEqProofs := false) (dsimp := false) only [go_sem, hE0, hS0]
          refine ⟨g + 1, ⟨by omega, ?_, wrap_succ (by omega)⟩, by omega⟩
          rw [List.take_of_length_le (by rw [hcw]; exact Nat.le_refl _), longB_end, ← hWs]
    · have hf : ((g : Int) < (m : Int)) = False := eq_false (by omega)
      have eg : g = m := by omega
      subst eg
      simp (implicitDefEqProofs := false) (dsimp := false) only [go_sem, a0, a1, a5, a6, hf, decide_false]
end Go.Mac
namespace Go.Mac
open Go Go.Conc Go.Proofs
set_option maxRecDepth 4000
theorem dice_at {h k : List Blk} {r : Option (List Int)} {x : Int} : (h ++ diceB r x :: k)[h.length]? = some (diceB r x) := by
  rw [List.getElem?_append_right (Nat.le_refl _), Nat.sub_self]; rfl
theorem dice_set {h k : List Blk} {r r' : Option (List Int)} {x x' : Int} : (h ++ diceB r x :: k).set h.length (diceB r' x') = h ++ diceB r' x' :: k := by
  rw [List.set_append_right _ _ (Nat.le_refl _), Nat.sub_self]; rfl
theorem role_left {h k : List Blk} (hro : h[0]? = some (.role true)) : (h ++ k)[0]? = some (.role true) := by
  rw [List.getElem?_append_left (List.getElem?_eq_some_iff.1 hro).1]; exact hro
end Go.Mac
namespace Go.Mac
open Go Go.Conc Go.Proofs
set_option maxRecDepth 4000
theorem WPI.tail2 {P : Program} {fk : FK} {its : List Item} {Q : AExit → AS → Prop} {n : Nat} {sl : List AV} {df : List ADef} {gh : Gst} {h Kk : List Blk} {A B : Blk} (h1 : (Kk)[1]? = some A) (h2 : (Kk)[n]? = some B)
    (hk : ∀ Kk : List Blk, (Kk)[1]? = some A → (Kk)[n]? = some B → WPI P fk its Q ⟨sl, df, h ++ Kk, gh⟩) : WPI P fk its Q ⟨sl, df, h ++ Kk, gh⟩ := hk Kk h1 h2
end Go.Mac
namespace Go.Mac
open Go Go.Conc Go.Proofs
set_option maxRecDepth 4000
theorem WPI.dup {P : Program} {fk : FK} {its : List Item} {Q : AExit → AS → Prop} {sl : List AV} {df : List ADef} {gh : Gst} {A : List Blk} {b : Board} {gl pg : AV} {m : Nat} (hA : A.length = m)
    (hk : WPI P fk its Q ⟨sl, df, A ++ .dead :: (List.replicate b.cells.length .dead ++ [.cells 0 [gl, pg, sliceOf cTraces b.cells]]), gh⟩) :
    WPI P fk its Q ⟨sl, df, A ++ .cells b.cells.length (slsFrom 1 (m + 1) b.cells) :: (b.cells.map rowB ++ [.cells 0 [gl, pg, .sl ⟨m, b.cells.length⟩ 1 0 b.cells.length]]), gh⟩ := by
  refine WPI.rows (by rw [hA]) ?_
  have hct : (b.cells.flatMap cTraces).take b.cells.length = b.cells.flatMap cTraces := List.take_of_length_le (by rw [cells_len1]; exact Nat.le_refl _)
  have g1 : ∀ x : Blk, (A ++ x :: (List.replicate b.cells.length Blk.dead ++ [.cells 0 [gl, pg, .sl ⟨m, b.cells.length⟩ 1 0 b.cells.length]]))[m + (1 + b.cells.length)]? = some (.cells 0 [gl, pg, .sl ⟨m, b.cells.length⟩ 1 0 b.cells.length]) := fun x => by
    rw [← hA, List.getElem?_append_right (by omega), Nat.add_sub_cancel_left, Nat.add_comm 1, List.getElem?_cons_succ, List.getElem?_append_right (by simp), List.length_replicate, Nat.sub_self]; rfl
  have g2 : ∀ (x : Blk) (l : List Blk), (A ++ x :: l)[m]? = some x := fun x l => by rw [← hA, List.getElem?_append_right (Nat.le_refl _), Nat.sub_self]; rfl
  have s2 : ∀ (x y : Blk) (l : List Blk), (A ++ x :: l).set m y = A ++ y :: l := fun x y l => by rw [← hA, List.set_append_right _ _ (Nat.le_refl _), Nat.sub_self]; rfl
  have s1 : ∀ (x y : Blk), (A ++ x :: (List.replicate b.cells.length Blk.dead ++ [.cells 0 [gl, pg, .sl ⟨m, b.cells.length⟩ 1 0 b.cells.length]])).set (m + (1 + b.cells.length)) y = A ++ x :: (List.replicate b.cells.length Blk.dead ++ [y]) := fun x y => by
    rw [← hA, List.set_append_right _ _ (by omega), Nat.add_sub_cancel_left, Nat.add_comm 1, List.set_cons_succ, List.set_append_right _ _ (by simp), List.length_replicate, Nat.sub_self]; rfl
  refine WPI.turn (Turns.seal_cell (i := m + (1 + b.cells.length)) (g := 0) (j := 2) (a := .sl ⟨m, b.cells.length⟩ 1 0 b.cells.length) (a' := sliceOf cTraces b.cells) (g1 _) rfl (by simp only [sealV]; rw [g2]; simp [sliceOf, hct]) (by simp [nmOf])) ?_
  simp only [nmOf, s2, s1, List.set_cons_succ, List.set_cons_zero]
  exact hk
theorem WPI.tail3 {P : Program} {fk : FK} {its : List Item} {Q : AExit → AS → Prop} {n : Nat} {sl : List AV} {df : List ADef} {gh : Gst} {h Kk : List Blk} {A B C : Blk} (h1 : (Kk)[1]? = some A) (h2 : (Kk)[2]? = some B) (h3 : (Kk)[n]? = some C)
    (hk : ∀ Kk : List Blk, (Kk)[1]? = some A → (Kk)[2]? = some B → (Kk)[n]? = some C → WPI P fk its Q ⟨sl, df, h ++ Kk, gh⟩) : WPI P fk its Q ⟨sl, df, h ++ Kk, gh⟩ := hk Kk h1 h2 h3
theorem cutK5 {l K T : List Blk} {b1 b2 b3 b4 b5 x : Blk} : l ++ (K ++ b1 :: b2 :: b3 :: b4 :: b5 :: x :: T) = (l ++ (K ++ [b1, b2, b3, b4, b5])) ++ x :: T := by simp
theorem n71 (n : Nat) : n + 7 + 1 = n + 8 := rfl
theorem n72 (n : Nat) : n + 7 + 2 = n + 9 := rfl
theorem cut8 {l T : List Blk} {b1 b2 b3 b4 b5 b6 b7 b8 x : Blk} : l ++ b1 :: b2 :: b3 :: b4 :: b5 :: b6 :: b7 :: b8 :: x :: T = (l ++ [b1, b2, b3, b4, b5, b6, b7, b8]) ++ x :: T := by simp
def namesS (gs : List Glyph) (k : Nat) : List UInt8 := 45 :: (gs.take k).map fun g => g.name.headD 0
theorem one_of {row : List UInt8} {c : Nat} (hc : c < row.length) : (row.drop c).take (c + 1 - c) = [row[c]] := by
  rw [List.drop_eq_getElem_cons hc, Nat.add_sub_cancel_left]; rfl
theorem namesS_succ {gs : List Glyph} {k : Nat} (h : k < gs.length) (h1 : gs[k].name.length = 1) : namesS gs (k + 1) = namesS gs k ++ gs[k].name := by
  obtain ⟨c, e, _⟩ := one_name h1
  rw [namesS, List.take_succ_eq_append_getElem h, List.map_append, namesS, e]; simp [e]
theorem namesS_len {gs : List Glyph} {k : Nat} (h : k ≤ gs.length) : (namesS gs k).length = k + 1 := by simp [namesS]; omega
theorem namesS_has {gs : List Glyph} {c : UInt8} (h : c ∈ namesS gs gs.length) : hasB (mapB gs) c.toNat = true := by
  rw [hasB_nameL]
  unfold namesS at h
  rw [List.take_length] at h
  rcases List.mem_cons.1 h with rfl | h
  · exact List.mem_cons_self ..
  · obtain ⟨g, hg, rfl⟩ := List.mem_map.1 h
    exact List.mem_cons_of_mem _ (List.mem_map.2 ⟨g, hg, rfl⟩)
def letW (ns : List UInt8) (wd : List Int) (k : Nat) : UInt8 := ns.getD (wd.getD k 0).toNat 0
def rowW (ns : List UInt8) (wd : List Int) (w r c : Nat) : List UInt8 := (List.range c).map fun k => letW ns wd (r * w + k)
def pageW (ns : List UInt8) (wd : List Int) (w r : Nat) : List (List UInt8) := (List.range r).map fun q => rowW ns wd w q w
theorem rowW_succ (ns : List UInt8) (wd : List Int) (w r c : Nat) : rowW ns wd w r (c + 1) = rowW ns wd w r c ++ [letW ns wd (r * w + c)] := by simp [rowW, List.range_succ]
theorem pageW_succ (ns : List UInt8) (wd : List Int) (w r : Nat) : pageW ns wd w (r + 1) = pageW ns wd w r ++ [rowW ns wd w r w] := by simp [pageW, List.range_succ]
theorem rowW_len (ns : List UInt8) (wd : List Int) (w r c : Nat) : (rowW ns wd w r c).length = c := by simp [rowW]
theorem pageW_len (ns : List UInt8) (wd : List Int) (w r : Nat) : (pageW ns wd w r).length = r := by simp [pageW]
theorem pageW_made {gs : List Glyph} {wd : List Int} {w n : Nat} (hn : 0 < n) (hn3 : n ≤ 3) (hw : 0 < w) (hw4 : w ≤ 4) (hl : wd.length = n * w) (hd : ∀ x ∈ wd, ∃ y : Nat, x = y ∧ y < gs.length + 1) : madePage gs (pageW (namesS gs gs.length) wd w n) ∧ ((pageW (namesS gs gs.length) wd w n).headD []).length = w := by
  have hh : ((pageW (namesS gs gs.length) wd w n).headD []).length = w := by
    rw [headD_get (by rw [pageW_len]; exact hn)]
    simp only [pageW, List.getElem_map, List.getElem_range, rowW_len]
  refine ⟨⟨⟨by rw [pageW_len]; exact hn, by rw [pageW_len]; exact hn3, fun s hs => ?_, by omega, by omega⟩, fun s hs c hc => ?_⟩, hh⟩
  · rw [hh]
    obtain ⟨q, _, rfl⟩ := List.mem_map.1 hs
    exact rowW_len ..
  · obtain ⟨q, hq, rfl⟩ := List.mem_map.1 hs
    obtain ⟨k, hk, rfl⟩ := List.mem_map.1 hc
    have hq := List.mem_range.1 hq
    have hk := List.mem_range.1 hk
    refine namesS_has ?_
    have hlt : q * w + k < wd.length := by
      have : (q + 1) * w ≤ n * w := Nat.mul_le_mul_right _ hq
      rw [Nat.succ_mul] at this; omega
    obtain ⟨y, e, hy⟩ := hd _ (List.getElem_mem hlt)
    unfold letW
    rw [List.getD_eq_getElem?_getD (l := wd), List.getElem?_eq_getElem hlt, Option.getD_some, e, Int.toNat_natCast, List.getD_eq_getElem?_getD, List.getElem?_eq_getElem (by rw [namesS_len (Nat.le_refl _)]; exact hy), Option.getD_some]
    exact List.getElem_mem _
theorem cPage_set (l : List (List (List UInt8))) (k : Nat) (p : List (List UInt8)) : (l.flatMap cPage).set k (sliceOf cStr p) = (l.set k p).flatMap cPage := by
  induction l generalizing k with
  | nil => rfl
  | cons x l ih =>
    cases k with
    | zero => rfl
    | succ k =>
      have := ih k
      simp only [List.flatMap_cons, cPage, List.cons_append, List.nil_append, List.set_cons_succ] at this ⊢
      rw [this]
set_option maxHeartbeats 4000000 in
theorem Emend_walk (r : Option (List Int)) (h : List Blk) (hro : h[0]? = some (.role true)) : CallsA Try.prog 4 [leftA r] h fun e h' => e = .ret (.bool true) ∧ h' = h := by
  refine CallsA.of_wpe [] { shut := [154, 168], cut := [52, 73, 79, 84, 158, 177], hand := [10, 11, 35, 37] } 182 mixed Try.func4 (by kernel_rfl) rfl (by kernel_rfl) fun j hB hA => ?_; simp only [junk_succ, junk_zero, List.cons_append, List.nil_append, List.length_cons, List.length_nil, Nat.reduceAdd]
  simp (implicitDefEqProofs := false) (dsimp := false) only [go_sem]
  refine CallsA.mono (NewDice_ok r h) ?_
  rintro _ _ ⟨rfl, rfl⟩
  simp (implicitDefEqProofs := false) (dsimp := false) only [go_sem]
  refine Rolls.use (BoardOf_ok _ h.length r 1 2 2 2 2 (by omega) (by omega) (by omega) (by omega) dice_at) ?_
  rintro _ r x ⟨b, rfl, ok⟩
  rw [dice_set]
  have okm := ok.made
  have okb := okm.board
  have hpos := okm.pos
  have hmost := ok.pl
  have hgl := ok.gl
  have hw1 : IntKind.i64.wrap ((b.pages.length : Int) - 1) = (b.pages.length : Int) - 1 := wrap64 (by omega) (by omega)
  simp (implicitDefEqProofs := false) (dsimp := false) only [go_sem, brdA, hw1]
  refine Rolls.use (To_ok _ h.length r x ((b.pages.length : Int) - 1) (by omega) dice_at) ?_
  rintro _ r x ⟨p, rfl, hp⟩
  rw [dice_set]
  generalize diceB r x = D
  have hpl : p < b.pages.length := by omega
  have okp := okm.page _ (List.getElem_mem hpl)
  obtain ⟨hrows, hcols⟩ := ok.rows _ (List.getElem_mem hpl)
  have hcases := emendR_cases okm hpl
  have hE := Emend_ok b p
  simp (implicitDefEqProofs := false) (dsimp := false) only [go_sem, brdA, nat_lt hpl, row1 cPage_len hpl, row1_le cPage_len hpl, cPage]
  rcases hcases with ⟨e, he, ht⟩ | ⟨he, ht⟩
  case' inl =>
    rw [he] at hE
    simp only [emendA] at hE
    (first | refine CallsA.use (hE) ?_ | refine QuietCalls.use (hE) ?_)
    simp (implicitDefEqProofs := false) (dsimp := false) only [go_sem, cLay, brdA]
    refine CallsA.mono (DupBoard_ok b okm.sizes _) ?_
    rintro _ _ ⟨u0, u1, u2, u3, rfl, rfl⟩
    simp only [List.append_assoc, List.cons_append, List.nil_append, List.length_append, List.length_cons, List.length_nil, Nat.zero_add, Nat.add_assoc, Nat.reduceAdd]
    simp (implicitDefEqProofs := false) (dsimp := false) only [go_sem, dupA, dupH, n71, n72]
    simp only [Nat.add_assoc, Nat.reduceAdd, List.length_map]
    rw [cut8]
    refine WPI.dup (by simp) ?_
    simp only [List.append_assoc, List.cons_append, List.nil_append]
    have hT : ∀ (y : Blk) (l : List Blk), (List.replicate b.cells.length Blk.dead ++ y :: l)[b.cells.length]? = some y := fun y l => by rw [List.getElem?_append_right (by simp), List.length_replicate, Nat.sub_self]; rfl
    have hS : ∀ (y z : Blk) (l : List Blk), (List.replicate b.cells.length Blk.dead ++ y :: l).set b.cells.length z = List.replicate b.cells.length Blk.dead ++ z :: l := fun y z l => by rw [List.set_append_right _ _ (by simp), List.length_replicate, Nat.sub_self]; rfl
    have hpc : (b.pages.flatMap cPage).length = b.pages.length := cPage_len1 _
    refine wp_shut [] (so := { shut := [154, 168], cut := [52, 73, 79, 84, 158, 177], }) mixed _ (by kernel_rfl) ?_
    simp (implicitDefEqProofs := false) (dsimp := false) only [go_sem, hT, hS, nat_lt hpl, hpc]
    refine ⟨by omega, ?_⟩
    have hset := cPage_set b.pages p e.rows
    simp only [sliceOf] at hset
    rw [hset]
    have hpk : ((b.pages.set p e.rows).flatMap cPage).take b.pages.length = (b.pages.set p e.rows).flatMap cPage := List.take_of_length_le (by rw [cPage_len1, List.length_set]; exact Nat.le_refl _)
    refine WPI.turn (Turns.seal_cell (i := h.length + (b.cells.length + 9)) (g := 0) (j := 1) (a := .sl ⟨h.length + 7, b.pages.length⟩ 1 0 b.pages.length) (a' := sliceOf cPage (b.pages.set p e.rows)) (by simp only; rw [hget]; exact hT _ _) rfl (by simp only [sealV]; rw [hget]; simp [sliceOf, hpk]) (by simp [nmOf])) ?_
    simp only [nmOf, Mac.hset, List.set_cons_succ, List.set_cons_zero, hS]
    obtain ⟨i0, hi0, hway, hmade, hrl, hrw, hmis, hlet⟩ := emended_right okm hpl ht
    obtain ⟨b2, hb2⟩ : ∃ b2 : Board, b2 = { b with pages := b.pages.set p e.rows } := ⟨_, rfl⟩
    have okx : okMade b2 := by
      rw [hb2]
      refine ⟨okm.gl, by simp; exact okm.pos, by simp; exact okm.most, fun y hy => ?_, okm.cells, okm.trace⟩
      rcases List.mem_or_eq_of_mem_set hy with hy | rfl
      · exact okm.page y hy
      · exact hmade
    have hl2 : b2.pages.length = b.pages.length := by rw [hb2]; exact List.length_set ..
    rw [← hb2] at hmis
    refine WPI.tail3 (n := b.cells.length + 9) (A := .cells 0 (brdA b)) (B := .cells 0 (cLay e.way)) (C := .cells 0 (brdA b2)) rfl rfl (by rw [hb2]; exact hT _ _) fun K hK1 hK2 hK3 => ?_
    have hM := Misfits_ok b2 e.way (by rw [hway]; exact ⟨by simp only [layN]; omega, by simp only [layN]; omega⟩) (by rw [hway]; exact ⟨by simp only [layN]; omega, by simp only [layN]; omega⟩)
    have he2 : layErr2 b2 e.way = 0 := by rw [layErr2, if_neg (by simp [okx.err]), hway]; exact layK_ok (by omega) hi0
    rw [he2, unless_ok rfl, hmis] at hM
    have hwp : e.way.page = (p : Int) := by rw [hway]; rfl
    have hdf := differ_ok b.pages[p] e.rows okp.1 hmade.1 hrl hrw
    rw [← hlet] at hdf
    simp only [brdA, cLay] at hK1 hK2 hK3
    have hself : ∀ y : Int, (y != y) = false := fun y => bne_self_eq_false y
    refine wp_shut [] (so := { shut := [154, 168], cut := [52, 73, 79, 84, 158, 177], }) mixed _ (by kernel_rfl) ?_
    simp (implicitDefEqProofs := false) (dsimp := false) only [go_sem, hK2, hK3]
    (first | refine CallsA.use (hM) ?_ | refine QuietCalls.use (hM) ?_)
    simp (implicitDefEqProofs := false) (dsimp := false) only [go_sem, hK2, hwp, hself]
    (first | refine CallsA.use (hdf) ?_ | refine QuietCalls.use (hdf) ?_)
    simp (implicitDefEqProofs := false) (dsimp := false) only [go_sem, hself]
    obtain ⟨nn, hn8⟩ : ∃ nn : Int, nn = e.letters := ⟨_, rfl⟩
    obtain ⟨ee, he10⟩ : ∃ ee : Int, ee = 0 := ⟨_, rfl⟩
    have hle : (ee = 11 ∧ emTo b (mapB b.glyphs) p 18 = none) ∨ (ee = 0 ∧ ∃ e, emTo b (mapB b.glyphs) p 18 = some e ∧ e.letters = nn) := .inr ⟨he10, e, ht, hn8.symm⟩
  case' inr =>
    rw [he] at hE
    simp only [emendA] at hE
    (first | refine CallsA.use (hE) ?_ | refine QuietCalls.use (hE) ?_)
    simp (implicitDefEqProofs := false) (dsimp := false) only [go_sem, cLay, brdA]
    refine WPI.tail2 (n := 1) (A := .cells 0 (brdA b)) (B := .cells 0 (brdA b)) rfl rfl fun K hK1 hK2 => ?_
    simp only [brdA] at hK1
    obtain ⟨nn, hn8⟩ : ∃ nn : Int, nn = 0 := ⟨_, rfl⟩
    obtain ⟨ee, he10⟩ : ∃ ee : Int, ee = 11 := ⟨_, rfl⟩
    have hle : (ee = 11 ∧ emTo b (mapB b.glyphs) p 18 = none) ∨ (ee = 0 ∧ ∃ e, emTo b (mapB b.glyphs) p 18 = some e ∧ e.letters = nn) := .inl ⟨he10, ht⟩
  all_goals
    have hw0 : b.pages[p][0]'(okp.1.pos) = b.pages[p][0]'(okp.1.pos) := rfl
    have P0 := okp.1.pos
    have w0 := okp.1.wpos
    have hPw : ∀ k (hk : k < b.pages[p].length), b.pages[p][k].length = (b.pages[p].headD []).length := fun k hk => okp.1.wide _ (List.getElem_mem hk)
    have hs0 : (b.pages[p].flatMap cStr).getD 0 .any = .str b.pages[p][0] := by
      have h1 := row1 cStr_len P0
      rw [List.drop_zero] at h1
      rw [h1]; rfl
    have hsl : (b.pages[p].flatMap cStr).length = b.pages[p].length := cStr_len1 _
    have hnl : (namesS b.glyphs b.glyphs.length).length = b.glyphs.length + 1 := namesS_len (Nat.le_refl _)
    have hmx : b.pages[p].length * (b.pages[p].headD []).length ≤ 2 * 2 := Nat.mul_le_mul hrows hcols
    have hmul : IntKind.i64.wrap ((b.pages[p].length : Int) * ((b.pages[p].headD []).length : Int)) = ((b.pages[p].length * (b.pages[p].headD []).length : Nat) : Int) := by
      rw [← Int.natCast_mul]; exact wrap64 (by omega) (by omega)
    have h0P : ((0 : Int) < (b.pages[p].length : Int)) = True := eq_true (by omega)
    have h1P : (1 ≤ b.pages[p].length) = True := eq_true (by omega)
    refine WP.loopI (fun (i : Nat) s => (i ≤ b.glyphs.length) ∧ s.sl.length = 183 ∧ s.df = [] ∧ s.gh = {} ∧ (s.hp = h ++ K) ∧ evA s.sl (.tmp 4) = .ptr ⟨h.length + 1, 0⟩ 0 ∧ evA s.sl (.tmp 6) = .psl (b.pages[p].flatMap cStr) b.pages[p].length ∧ evA s.sl (.tmp 8) = .int .i64 nn ∧ evA s.sl (.tmp 10) = .int .i64 ee ∧ evA s.sl (.tmp 14) = .str (namesS b.glyphs i) ∧ evA s.sl (.tmp 15) = .int .i64 i) (fun (i : Nat) => b.glyphs.length - i) (0) ?_ ?_
    · simp (implicitDefEqProofs := false) (dsimp := false) only [go_sem, Nat.zero_le]
      exact ⟨hn8.symm, he10.symm, rfl⟩
    · rintro i ⟨sl, df, hp, gh⟩ ⟨ab, al, rfl, rfl, rfl, a4, a6, a8, a10, a14, a15⟩
      simp only at ab al a4 a6 a8 a10 a14 a15
      obtain ⟨j, rfl⟩ := slots_lit al; clear al; simp only [junk_succ, junk_zero, evA_tmp, nth_16, nth_four, nth_one, nth_zero, Nat.zero_add, Nat.reduceAdd] at  a4 a6 a8 a10 a14 a15 ⊢
      refine wp_ok (so := { shut := [154, 168], cut := [52, 73, 79, 84, 158, 177], hand := [10, 11, 35, 37] }) mixed _ (by kernel_rfl) ?_
      by_cases hi : i < b.glyphs.length
      · obtain ⟨hg1, _⟩ := okm.gl.one _ (List.getElem_mem hi)
        have hnl2 := namesS_len (gs := b.glyphs) (k := i) (by omega)
        simp (implicitDefEqProofs := false) (dsimp := false) only [go_sem, a4, a6, a8, a10, a14, a15, hK1, nat_lt hi, decide_true, rowN cGlyph_len hi, rowN_le cGlyph_len hi, cGlyph, names_drop hi, names_le hi, hg1, hnl2]
        exact ⟨by omega, i + 1, ⟨by omega, (namesS_succ hi hg1).symm, wrap_succ (by omega)⟩, by omega⟩
      · have hs : ((i : Int) < (b.glyphs.length : Int)) = False := eq_false (by omega)
        have ei : i = b.glyphs.length := by omega
        subst ei
        simp (implicitDefEqProofs := false) (dsimp := false) only [go_sem, a4, a6, a8, a10, a14, a15, hK1, hs, decide_false, hs0, hsl, h0P, h1P, Nat.zero_le, hPw 0 P0, hnl, hmul]
        (first | refine CallsA.use (Words_ok (b.glyphs.length + 1) (b.pages[p].length * (b.pages[p].headD []).length) (by omega) (by omega)) ?_ | refine QuietCalls.use (Words_ok (b.glyphs.length + 1) (b.pages[p].length * (b.pages[p].headD []).length) (by omega) (by omega)) ?_)
        simp (implicitDefEqProofs := false) (dsimp := false) only [go_sem]
        have hWm : ∀ w ∈ wordsB (b.glyphs.length + 1) (b.pages[p].length * (b.pages[p].headD []).length), w.length = b.pages[p].length * (b.pages[p].headD []).length ∧ ∀ x ∈ w, ∃ y : Nat, x = y ∧ y < b.glyphs.length + 1 := fun w hw => wordsB_mem hw
        have hWl : (wordsB (b.glyphs.length + 1) (b.pages[p].length * (b.pages[p].headD []).length)).length ≤ 81 := by
          rw [wordsB_len]
          calc (b.glyphs.length + 1) ^ (b.pages[p].length * (b.pages[p].headD []).length) ≤ 3 ^ (b.pages[p].length * (b.pages[p].headD []).length) := Nat.pow_le_pow_left (by omega) _
            _ ≤ 3 ^ 4 := Nat.pow_le_pow_right (by omega) hmx
            _ = 81 := rfl
        generalize wordsB (b.glyphs.length + 1) (b.pages[p].length * (b.pages[p].headD []).length) = W at hWm hWl ⊢
        refine WP.loopI (fun (i : Nat) s => (i ≤ W.length) ∧ s.sl.length = 183 ∧ s.df = [] ∧ s.gh = {} ∧ (∃ K2 : List Blk, s.hp = h ++ K2 ∧ K2[1]? = some (.cells 0 (brdA b))) ∧ evA s.sl (.tmp 4) = .ptr ⟨h.length + 1, 0⟩ 0 ∧ evA s.sl (.tmp 6) = .psl (b.pages[p].flatMap cStr) b.pages[p].length ∧ evA s.sl (.tmp 8) = .int .i64 nn ∧ evA s.sl (.tmp 10) = .int .i64 ee ∧ evA s.sl (.tmp 14) = .str (namesS b.glyphs b.glyphs.length) ∧ evA s.sl (.tmp 16) = .int .i64 (b.pages[p].headD []).length ∧ evA s.sl (.tmp 17) = .psl (W.flatMap cWord) W.length ∧ evA s.sl (.tmp 18) = .int .i64 i) (fun (i : Nat) => W.length - i) (0) ?_ ?_
        · simp (implicitDefEqProofs := false) (dsimp := false) only [go_sem, Nat.zero_le]
          exact ⟨K, rfl, hK1⟩
        · rintro i ⟨sl, df, hp, gh⟩ ⟨cb, cl, rfl, rfl, ch, c4, c6, c8, c10, c14, c16, c17, c18⟩
          simp only at cb cl ch c4 c6 c8 c10 c14 c16 c17 c18
          obtain ⟨j, rfl⟩ := slots_lit cl; clear cl; simp only [junk_succ, junk_zero, evA_tmp, nth_16, nth_four, nth_one, nth_zero, Nat.zero_add, Nat.reduceAdd] at  c4 c6 c8 c10 c14 c16 c17 c18 ⊢
          refine wp_ok (so := { shut := [154, 168], cut := [52, 73, 79, 84, 158, 177], hand := [10, 11, 35, 37] }) mixed _ (by kernel_rfl) ?_
          obtain ⟨K2, rfl, hK2⟩ := ch
          simp only [brdA] at hK2
          have hKl : 1 < K2.length := (List.getElem?_eq_some_iff.1 hK2).1
          have hKy : ∀ y : Blk, (K2 ++ [y])[1]? = K2[1]? := fun y => List.getElem?_append_left hKl
          have hKe : ∀ y : Blk, (K2 ++ [y])[K2.length]? = some y := fun y => by simp
          have hKs : ∀ y z : Blk, (K2 ++ [y]).set K2.length z = K2 ++ [z] := fun y z => by simp
          by_cases hi : i < W.length
          · obtain ⟨hwl, hwd⟩ := hWm _ (List.getElem_mem hi)
            have hwa : wordA W[i] = .psl (W[i].flatMap cInt) W[i].length := wordA_pos (by rw [hwl]; exact Nat.mul_pos P0 w0)
            simp (implicitDefEqProofs := false) (dsimp := false) only [go_sem, c4, c6, c8, c10, c14, c16, c17, c18, nat_lt hi, decide_true]
            refine WPI.turn (Turns.nilSlot (d := 19) (sz := 1) ?_) ?_
            · simp (implicitDefEqProofs := false) (dsimp := false) only [go_sem]
            simp (implicitDefEqProofs := false) (dsimp := false) only [go_sem]
            refine WP.loopI (fun (q : Nat) s => (q ≤ b.pages[p].length) ∧ s.sl.length = 183 ∧ s.df = [] ∧ s.gh = {} ∧ (s.hp = h ++ (K2 ++ [.cells q ((pageW (namesS b.glyphs b.glyphs.length) W[i] (b.pages[p].headD []).length q).flatMap cStr)])) ∧ evA s.sl (.tmp 4) = .ptr ⟨h.length + 1, 0⟩ 0 ∧ evA s.sl (.tmp 6) = .psl (b.pages[p].flatMap cStr) b.pages[p].length ∧ evA s.sl (.tmp 8) = .int .i64 nn ∧ evA s.sl (.tmp 10) = .int .i64 ee ∧ evA s.sl (.tmp 14) = .str (namesS b.glyphs b.glyphs.length) ∧ evA s.sl (.tmp 16) = .int .i64 (b.pages[p].headD []).length ∧ evA s.sl (.tmp 17) = .psl (W.flatMap cWord) W.length ∧ evA s.sl (.tmp 18) = .int .i64 i ∧ evA s.sl (.tmp 19) = .sl ⟨h.length + K2.length, q⟩ 1 0 q ∧ evA s.sl (.tmp 20) = .int .i64 q) (fun (q : Nat) => b.pages[p].length - q) (0) ?_ ?_
            · simp (implicitDefEqProofs := false) (dsimp := false) only [go_sem, Nat.zero_le]
              rfl
            · rintro q ⟨sl, df, hp, gh⟩ ⟨db, dl, rfl, rfl, rfl, d4, d6, d8, d10, d14, d16, d17, d18, d19, d20⟩
              simp only at db dl d4 d6 d8 d10 d14 d16 d17 d18 d19 d20
              obtain ⟨j, rfl⟩ := slots_lit dl; clear dl; simp only [junk_succ, junk_zero, evA_tmp, nth_16, nth_four, nth_one, nth_zero, Nat.zero_add, Nat.reduceAdd] at  d4 d6 d8 d10 d14 d16 d17 d18 d19 d20 ⊢
              refine wp_ok (so := { shut := [154, 168], cut := [52, 73, 79, 84, 158, 177], hand := [10, 11, 35, 37] }) mixed _ (by kernel_rfl) ?_
              by_cases hq : q < b.pages[p].length
              · simp (implicitDefEqProofs := false) (dsimp := false) only [go_sem, d4, d6, d8, d10, d14, d16, d17, d18, d19, d20, nat_lt hq, decide_true]
                refine WP.loopI (fun (k : Nat) s => (k ≤ (b.pages[p].headD []).length) ∧ s.sl.length = 183 ∧ s.df = [] ∧ s.gh = {} ∧ (s.hp = h ++ (K2 ++ [.cells q ((pageW (namesS b.glyphs b.glyphs.length) W[i] (b.pages[p].headD []).length q).flatMap cStr)])) ∧ evA s.sl (.tmp 4) = .ptr ⟨h.length + 1, 0⟩ 0 ∧ evA s.sl (.tmp 6) = .psl (b.pages[p].flatMap cStr) b.pages[p].length ∧ evA s.sl (.tmp 8) = .int .i64 nn ∧ evA s.sl (.tmp 10) = .int .i64 ee ∧ evA s.sl (.tmp 14) = .str (namesS b.glyphs b.glyphs.length) ∧ evA s.sl (.tmp 16) = .int .i64 (b.pages[p].headD []).length ∧ evA s.sl (.tmp 17) = .psl (W.flatMap cWord) W.length ∧ evA s.sl (.tmp 18) = .int .i64 i ∧ evA s.sl (.tmp 19) = .sl ⟨h.length + K2.length, q⟩ 1 0 q ∧ evA s.sl (.tmp 20) = .int .i64 q ∧ evA s.sl (.tmp 21) = .str (rowW (namesS b.glyphs b.glyphs.length) W[i] (b.pages[p].headD []).length q k) ∧ evA s.sl (.tmp 22) = .int .i64 k) (fun (k : Nat) => (b.pages[p].headD []).length - k) (0) ?_ ?_
                · simp (implicitDefEqProofs := false) (dsimp := false) only [go_sem, Nat.zero_le]
                  rfl
                · rintro k ⟨sl, df, hp, gh⟩ ⟨fb, fl, rfl, rfl, rfl, f4, f6, f8, f10, f14, f16, f17, f18, f19, f20, f21, f22⟩
                  simp only at fb fl f4 f6 f8 f10 f14 f16 f17 f18 f19 f20 f21 f22
                  obtain ⟨j, rfl⟩ := slots_lit fl; clear fl; simp only [junk_succ, junk_zero, evA_tmp, nth_16, nth_four, nth_one, nth_zero, Nat.zero_add, Nat.reduceAdd] at  f4 f6 f8 f10 f14 f16 f17 f18 f19 f20 f21 f22 ⊢
                  refine wp_ok (so := { shut := [154, 168], cut := [52, 73, 79, 84, 158, 177], hand := [10, 11, 35, 37] }) mixed _ (by kernel_rfl) ?_
                  by_cases hk : k < (b.pages[p].headD []).length
                  · have hqw : (q + 1) * (b.pages[p].headD []).length ≤ b.pages[p].length * (b.pages[p].headD []).length := Nat.mul_le_mul_right _ hq
                    rw [Nat.succ_mul] at hqw
                    have hidx : q * (b.pages[p].headD []).length + k < W[i].length := by omega
                    obtain ⟨y, hy, hyl⟩ := hwd _ (List.getElem_mem hidx)
                    have hm1 : IntKind.i64.wrap ((q : Int) * ((b.pages[p].headD []).length : Int)) = ((q * (b.pages[p].headD []).length : Nat) : Int) := by rw [← Int.natCast_mul]; exact wrap64 (by omega) (by omega)
                    have hm2 : IntKind.i64.wrap (((q * (b.pages[p].headD []).length : Nat) : Int) + (k : Int)) = ((q * (b.pages[p].headD []).length + k : Nat) : Int) := by rw [← Int.natCast_add]; exact wrap64 (by omega) (by omega)
                    have hyn : y < (namesS b.glyphs b.glyphs.length).length := by omega
                    have hone := one_of hyn
                    have hy1 := wrap_succ (i := y) (by omega)
                    have hlet : letW (namesS b.glyphs b.glyphs.length) W[i] (q * (b.pages[p].headD []).length + k) = (namesS b.glyphs b.glyphs.length)[y] := by
                      unfold letW
                      rw [List.getD_eq_getElem?_getD (l := W[i]), List.getElem?_eq_getElem hidx, Option.getD_some, hy, Int.toNat_natCast, List.getD_eq_getElem?_getD, List.getElem?_eq_getElem hyn, Option.getD_some]
                    simp (implicitDefEqProofs := false) (dsimp := false) only [go_sem, f4, f6, f8, f10, f14, f16, f17, f18, f19, f20, f21, f22, nat_lt hk, decide_true, nat_lt hi, row1 cWord_len hi, row1_le cWord_len hi, cWord, hwa, hm1, hm2, nat_lt hidx, row1 cInt_len hidx, row1_le cInt_len hidx, cInt, hy, hy1, hone, hnl]
                    exact ⟨⟨by omega, by omega⟩, by rw [rowW_len]; omega, k + 1, ⟨by omega, by rw [rowW_succ, hlet], wrap_succ (by omega)⟩, by omega⟩
                  · have hs : ((k : Int) < ((b.pages[p].headD []).length : Int)) = False := eq_false (by omega)
                    have ek : k = (b.pages[p].headD []).length := by omega
                    have hpc : ((pageW (namesS b.glyphs b.glyphs.length) W[i] (b.pages[p].headD []).length q).flatMap cStr).length = q := by rw [cStr_len1, pageW_len]
                    simp (implicitDefEqProofs := false) (dsimp := false) only [go_sem, f4, f6, f8, f10, f14, f16, f17, f18, f19, f20, f21, f22, hs, decide_false, hKe, hKs, hpc]
                    refine ⟨by omega, q + 1, ⟨by omega, ⟨rfl, ?_⟩, rfl, wrap_succ (by omega)⟩, by omega⟩
                    rw [ek, pageW_succ, List.flatMap_append]; rfl
              · have hs : ((q : Int) < (b.pages[p].length : Int)) = False := eq_false (by omega)
                have eq2 : q = b.pages[p].length := by omega
                obtain ⟨made, mw⟩ := pageW_made (gs := b.glyphs) (wd := W[i]) (w := (b.pages[p].headD []).length) (n := b.pages[p].length) P0 okp.1.most w0 okp.1.wmost hwl hwd
                have hpl2 := pageW_len (namesS b.glyphs b.glyphs.length) W[i] (b.pages[p].headD []).length b.pages[p].length
                have hleast := emended_least okm hpl made hpl2 mw
                have hdf := differ_ok b.pages[p] _ okp.1 made.1 hpl2 mw
                simp (implicitDefEqProofs := false) (dsimp := false) only [go_sem, d4, d6, d8, d10, d14, d16, d17, d18, d19, d20, hs, decide_false]
                rw [eq2]
                generalize pageW (namesS b.glyphs b.glyphs.length) W[i] (b.pages[p].headD []).length b.pages[p].length = pg at made mw hpl2 hleast hdf ⊢
                have hpt : (pg.flatMap cStr).take b.pages[p].length = pg.flatMap cStr := List.take_of_length_le (by rw [cStr_len1]; omega)
                have hbel : ∀ N, belowL N (pg.flatMap cStr) = true := fun N => below_strs _ N
                simp only [sliceOf, hpl2] at hdf
                obtain ⟨dn, hdn⟩ : ∃ dn : Nat, dn = difN b.pages[p] pg (b.pages[p].headD []).length (b.pages[p].length * (b.pages[p].headD []).length) := ⟨_, rfl⟩
                rw [← hdn] at hleast hdf
                have h3 : (ee = 0 ∧ ((dn : Int) ≥ nn) = True) ∨ (ee = 11 ∧ (laysB { b with pages := [pg] }).length = 0) ∨ (ee = 0 ∧ ((dn : Int) ≥ nn) = False ∧ (laysB { b with pages := [pg] }).length = 0) := by
                  rcases hle with ⟨h1, h2⟩ | ⟨h1, e', h2, h3⟩
                  · exact .inr (.inl ⟨h1, hleast (.inl h2)⟩)
                  · by_cases hge : (dn : Int) ≥ nn
                    · exact .inl ⟨h1, eq_true hge⟩
                    · exact .inr (.inr ⟨h1, eq_false hge, hleast (.inr ⟨e', h2, by omega⟩)⟩)
                clear he10 hle
                rcases h3 with ⟨rfl, hge⟩ | h3
                · refine wp_shut [19] (so := { shut := [154, 168], cut := [52, 73, 79, 84, 158, 177], }) mixed _ (by kernel_rfl) ?_
                  simp (implicitDefEqProofs := false) (dsimp := false) only [go_sem, hKe, hKs, hpt]
                  (first | refine CallsA.use (hdf) ?_ | refine QuietCalls.use (hdf) ?_)
                  simp (implicitDefEqProofs := false) (dsimp := false) only [go_sem, hge, decide_true]
                  exact ⟨i + 1, ⟨by omega, ⟨_, rfl, by rw [hKy]; exact hK2⟩, wrap_succ (by omega)⟩, by omega⟩
                · rcases h3 with ⟨rfl, hz⟩ | ⟨rfl, hge, hz⟩
                  case' inl =>
                    refine wp_shut [19] (so := { shut := [154, 168], cut := [52, 73, 79, 84, 158, 177], }) mixed _ (by kernel_rfl) ?_
                    simp (implicitDefEqProofs := false) (dsimp := false) only [go_sem, hKe, hKs, hpt, hKy, hK2]
                  case' inr =>
                    refine wp_shut [19] (so := { shut := [154, 168], cut := [52, 73, 79, 84, 158, 177], }) mixed _ (by kernel_rfl) ?_
                    simp (implicitDefEqProofs := false) (dsimp := false) only [go_sem, hKe, hKs, hpt]
                    (first | refine CallsA.use (hdf) ?_ | refine QuietCalls.use (hdf) ?_)
                    simp (implicitDefEqProofs := false) (dsimp := false) only [go_sem, hge, decide_false, hKy, hK2]
                  all_goals
                    refine CallsA.mono (DupBoard_ok b okm.sizes _) ?_
                    rintro _ _ ⟨u0, u1, u2, u3, rfl, rfl⟩
                    obtain ⟨K3, hK3⟩ : ∃ K3, K3 = K2 ++ [Blk.dead] := ⟨_, rfl⟩
                    have hK31 : K3[1]? = some (.cells 0 (brdA b)) := by rw [hK3, hKy]; exact hK2
                    rw [← hK3]
                    simp only [List.append_assoc, List.cons_append, List.nil_append, List.length_append, Nat.add_assoc, Nat.reduceAdd]
                    simp (implicitDefEqProofs := false) (dsimp := false) only [go_sem, dupA, dupH]
                    simp only [Nat.add_assoc, Nat.reduceAdd, List.length_map]
                    rw [cutK5]
                    refine WPI.dup (m := h.length + (K3.length + 5)) (by simp) ?_
                    simp only [List.append_assoc, List.cons_append, List.nil_append]
                    have hX : ∀ B y : Blk, (K3 ++ u0 :: u1 :: u2 :: u3 :: B :: .dead :: (List.replicate b.cells.length Blk.dead ++ [y]))[K3.length + (b.cells.length + 6)]? = some y := fun B y => by
                      rw [List.getElem?_append_right (by omega), Nat.add_sub_cancel_left]
                      simp only [List.getElem?_cons_succ]
                      rw [List.getElem?_append_right (by simp), List.length_replicate, Nat.sub_self]; rfl
                    have hXs : ∀ B y z : Blk, (K3 ++ u0 :: u1 :: u2 :: u3 :: B :: .dead :: (List.replicate b.cells.length Blk.dead ++ [y])).set (K3.length + (b.cells.length + 6)) z = K3 ++ u0 :: u1 :: u2 :: u3 :: B :: .dead :: (List.replicate b.cells.length Blk.dead ++ [z]) := fun B y z => by
                      rw [List.set_append_right _ _ (by omega), Nat.add_sub_cancel_left]
                      simp only [List.set_cons_succ]
                      rw [List.set_append_right _ _ (by simp), List.length_replicate, Nat.sub_self]; rfl
                    have okx3 : okMade { b with pages := [pg] } := ⟨okm.gl, by simp, by simp, fun y hy => by rw [List.mem_singleton.1 hy]; exact made, okm.cells, okm.trace⟩
                    have hLx := Lays_ok { b with pages := [pg] }
                    rw [unless_ok okx3.err, okx3.err, show laysB { b with pages := [pg] } = [] from List.length_eq_zero_iff.1 hz, show brdA { b with pages := [pg] } = [sliceOf cGlyph b.glyphs, .psl [.psl (pg.flatMap cStr) b.pages[p].length] 1, sliceOf cTraces b.cells] by simp [brdA, sliceOf, cPage, hpl2]] at hLx
                    refine wp_shut [] (so := { shut := [154, 168], cut := [52, 73, 79, 84, 158, 177], }) mixed _ (by kernel_rfl) ?_
                    simp (implicitDefEqProofs := false) (dsimp := false) only [go_sem, hX, hXs, hbel]
                    (first | refine CallsA.use (hLx) ?_ | refine QuietCalls.use (hLx) ?_)
                    simp (implicitDefEqProofs := false) (dsimp := false) only [go_sem]
                    exact ⟨i + 1, ⟨by omega, ⟨_, rfl, by rw [List.getElem?_append_left (List.getElem?_eq_some_iff.1 hK31).1]; exact hK31⟩, wrap_succ (by omega)⟩, by omega⟩
          · have hs : ((i : Int) < (W.length : Int)) = False := eq_false (by omega)
            simp (implicitDefEqProofs := false) (dsimp := false) only [go_sem, c4, c6, c8, c10, c14, c16, c17, c18, hs, decide_false]
            refine QuietAt.use (pressed_ok _ (role_left hro)) ?_
            simp (implicitDefEqProofs := false) (dsimp := false) only [go_sem]
            exact quiet_fine hB rfl
end Go.Mac


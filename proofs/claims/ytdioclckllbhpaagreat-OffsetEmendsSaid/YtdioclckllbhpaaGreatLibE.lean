/- A part of the logic and of the contracts of the functions that the statement reaches; the statement itself is proved in the last text. -/
import Derived.Test.YtdioclckllbhpaaGreatLibC
import Derived.Test.YtdioclckllbhpaaGreatLibD
import Derived.Test.YtdioclckllbhpaaGreatLibMacNZ

set_option linter.all false
set_option linter.unusedVariables false
set_option linter.unusedSimpArgs false
set_option linter.unnecessarySimpa false
namespace Go.Mac
open Go Go.Conc Go.Proofs
set_option maxRecDepth 4000
def leftA : Option (List Int) → AV
  | none => .nilsl
  | some l => ints l
def diceB (r : Option (List Int)) (x : Int) : Blk := .cells 0 [leftA r, .int .u64 x]
def isU64 (x : Int) : Prop := 0 ≤ x ∧ x < 18446744073709551616
theorem wrapU (n : Int) : isU64 (IntKind.u64.wrap n) := by
  have e : IntKind.u64.wrap n = n % 18446744073709551616 := by
    simp [IntKind.wrap, IntKind.bits, IntKind.signed]
  rw [isU64, e]; omega
theorem xorU (a b : Int) : isU64 (xorK .u64 a b) := wrapU _
theorem shr32 {x : Int} (h : isU64 x) : 0 ≤ shrK .u64 x 32 ∧ shrK .u64 x 32 < 4294967296 := by
  have e : shrK .u64 x 32 = x / 4294967296 := by
    unfold shrK
    rw [show min (32 : Int).toNat IntKind.u64.bits = 32 by decide, show (2 : Int) ^ 32 = 4294967296 by decide, Int.fdiv_eq_ediv_of_nonneg _ (by decide)]
  rw [e]; unfold isU64 at h; omega
theorem leftA_below (r : Option (List Int)) (n : Nat) : below n (leftA r) = true := by
  cases r with
  | none => rfl
  | some l => exact below_mono (Nat.zero_le n) _ (below_psl (f := cInt) (fun _ => rfl) l)
theorem diceB_below (r : Option (List Int)) (x : Int) (n : Nat) : belowBlk n (diceB r x) = true := by
  simp only [diceB, belowBlk, belowL, leftA_below, below, Bool.and_self]
theorem all_set {P : Blk → Bool} {h : List Blk} {i : Nat} {b : Blk} (hh : h.all P = true) (hb : P b = true) : (h.set i b).all P = true := by
  rw [List.all_eq_true] at *
  intro x hx
  rcases List.mem_or_eq_of_mem_set hx with hx | rfl
  · exact hh x hx
  · exact hb
theorem set_end {h : List Blk} {i : Nat} {b : Blk} {v : AV} {Q : AEnd → List Blk → Prop} (hb : h.all (belowBlk h.length) = true) (hb2 : belowBlk h.length b = true) (hv : below h.length v = true) (hq : Q (.ret v) (h.set i b)) :
    ∃ v' n, v = v' ∧ h.length ≤ n ∧ below n v' = true ∧ ((h.set i b).take n).all (belowBlk n) = true ∧ Q (.ret v') ((h.set i b).take n) := by
  refine ⟨v, h.length, rfl, Nat.le_refl _, hv, ?_, ?_⟩ <;> rw [List.take_of_length_le (by simp)]
  · exact all_set hb hb2
  · exact hq
def Rolls (f : FuncId) (args : List AV) (h : List Blk) (i : Nat) (A : AV → Prop) : Prop :=
  CallsA Tryz.prog f args h fun e h' => ∃ v r' x', e = .ret v ∧ A v ∧ h' = h.set i (diceB r' x')
theorem Rolls.use {f : FuncId} {args : List AV} {h : List Blk} {i : Nat} {A : AV → Prop} {Post : AEnd → List Blk → Prop} (c : Rolls f args h i A) (hp : ∀ v r' x', A v → Post (.ret v) (h.set i (diceB r' x'))) : CallsA Tryz.prog f args h Post := by
  refine CallsA.mono c ?_
  rintro _ _ ⟨v, r', x', rfl, q, rfl⟩
  exact hp v r' x' q
theorem rolls_end {h : List Blk} {i : Nat} {r : Option (List Int)} {x : Int} {v : AV} {A : AV → Prop} (hb : h.all (belowBlk h.length) = true) (hv : below h.length v = true) (hq : A v) :
    ∃ v' n, v = v' ∧ h.length ≤ n ∧ below n v' = true ∧ ((h.set i (diceB r x)).take n).all (belowBlk n) = true ∧ ∃ v1 r' x', AEnd.ret v' = .ret v1 ∧ A v1 ∧ (h.set i (diceB r x)).take n = h.set i (diceB r' x') :=
  set_end (Q := fun e h' => ∃ v1 r' x', e = .ret v1 ∧ A v1 ∧ h' = h.set i (diceB r' x')) hb (diceB_below r x _) hv ⟨v, r, x, rfl, hq, rfl⟩
def Det (f : FuncId) (args : Nat → List AV) (r : Option (List Int)) (x : Int) (A : AV → Prop) : Prop :=
  ∃ v r' x', A v ∧ ∀ h i, h[i]? = some (diceB r x) → CallsA Tryz.prog f (args i) h fun e h' => e = .ret v ∧ h' = h.set i (diceB r' x')
theorem Det.rolls {f : FuncId} {args : Nat → List AV} {r : Option (List Int)} {x : Int} {A : AV → Prop} {h : List Blk} {i : Nat} (c : Det f args r x A) (hi : h[i]? = some (diceB r x)) : Rolls f (args i) h i A := by
  obtain ⟨v, r', x', ha, c⟩ := c
  refine CallsA.mono (c h i hi) ?_
  rintro _ _ ⟨rfl, rfl⟩
  exact ⟨v, r', x', rfl, ha, rfl⟩
theorem det_end {h : List Blk} {i : Nat} {r : Option (List Int)} {x : Int} {v : AV} (hb : h.all (belowBlk h.length) = true) (hv : below h.length v = true) :
    ∃ v' n, v = v' ∧ h.length ≤ n ∧ below n v' = true ∧ ((h.set i (diceB r x)).take n).all (belowBlk n) = true ∧ (AEnd.ret v' = .ret v ∧ (h.set i (diceB r x)).take n = h.set i (diceB r x)) :=
  set_end (Q := fun e h' => e = .ret v ∧ h' = h.set i (diceB r x)) hb (diceB_below r x _) hv ⟨rfl, rfl⟩
def lastD (x more : Int) : Int :=
  let y := IntKind.u64.wrap (IntKind.u64.wrap (IntKind.u64.wrap (x + more) + 6364136223846793005) * 15074714826142052245)
  xorK .u64 y (shrK .u64 y 29)
def outD (x : Int) : Int := shrK .u64 (IntKind.u64.wrap (xorK .u64 x (shrK .u64 x 33) * 18397679294719823053)) 32
theorem roll_det (r : Option (List Int)) (x : Int) : Det 57 (fun i => [.ptr ⟨i, 0⟩ 0]) r x fun a => ∃ v, a = .int .u64 v ∧ (0 ≤ v ∧ v < 4294967296) := by
  unfold Det
  rcases r with _ | _ | ⟨a, l⟩
  · refine ⟨.int .u64 (outD (lastD x 0)), none, lastD x 0, ⟨_, rfl, shr32 (wrapU _)⟩, fun h i hi => ?g⟩
    case g =>
      have hl : i < h.length := (List.getElem?_eq_some_iff.1 hi).1
      have hs : ∀ b : Blk, (h.set i b)[i]? = some b := fun b => List.getElem?_set_self hl
      refine CallsA.of_wpe [] { tail := [(6, 11)] } 62 mixed Tryz.func57 (by kernel_rfl) rfl (by kernel_rfl) fun j hB hA => ?_; simp only [junk_succ, junk_zero, List.cons_append, List.nil_append, List.length_cons, List.length_nil, Nat.reduceAdd]
      simp (implicitDefEqProofs := false) (dsimp := false) only [go_sem, hi, diceB, leftA, hs, List.set_set]
      exact det_end (r := none) hB (by rfl)
  · refine ⟨.int .u64 (outD (lastD x 0)), some [], lastD x 0, ⟨_, rfl, shr32 (wrapU _)⟩, fun h i hi => ?g⟩
    case g =>
      have hl : i < h.length := (List.getElem?_eq_some_iff.1 hi).1
      have hs : ∀ b : Blk, (h.set i b)[i]? = some b := fun b => List.getElem?_set_self hl
      refine CallsA.of_wpe [] { tail := [(6, 11)] } 62 mixed Tryz.func57 (by kernel_rfl) rfl (by kernel_rfl) fun j hB hA => ?_; simp only [junk_succ, junk_zero, List.cons_append, List.nil_append, List.length_cons, List.length_nil, Nat.reduceAdd]
      simp (implicitDefEqProofs := false) (dsimp := false) only [go_sem, hi, diceB, leftA, hs, List.set_set, ints]
      exact det_end (r := some []) hB (by rfl)
  · refine ⟨.int .u64 (outD (lastD x (IntKind.u64.wrap a))), some l, lastD x (IntKind.u64.wrap a), ⟨_, rfl, shr32 (wrapU _)⟩, fun h i hi => ?g⟩
    case g =>
      have hl : i < h.length := (List.getElem?_eq_some_iff.1 hi).1
      have hs : ∀ b : Blk, (h.set i b)[i]? = some b := fun b => List.getElem?_set_self hl
      have h0 : (((l.length + 1 : Nat) : Int) > 0) = True := eq_true (by omega)
      have hfl : (l.flatMap cInt).length = l.length := by rw [length_rows cInt_len, Nat.mul_one]
      have htk : (l.flatMap cInt).take l.length = l.flatMap cInt := List.take_of_length_le (by omega)
      refine CallsA.of_wpe [] { tail := [(6, 11)] } 62 mixed Tryz.func57 (by kernel_rfl) rfl (by kernel_rfl) fun j hB hA => ?_; simp only [junk_succ, junk_zero, List.cons_append, List.nil_append, List.length_cons, List.length_nil, Nat.reduceAdd]
      simp (implicitDefEqProofs := false) (dsimp := false) only [go_sem, hi, diceB, leftA, hs, List.set_set, ints, List.flatMap_cons, cInt, h0, decide_true, hfl, htk, Nat.add_sub_cancel, Nat.le_refl]
      refine ⟨⟨by omega, by omega⟩, ?_⟩
      exact det_end (r := some l) hB (by rfl)
theorem To_det (r : Option (List Int)) (x n : Int) (hn : n ≤ 1000) : Det 14 (fun i => [.ptr ⟨i, 0⟩ 0, .int .i64 n]) r x fun a => ∃ v : Nat, a = .int .i64 v ∧ (v : Int) ≤ max n 0 := by
  unfold Det
  by_cases c : n ≤ 0
  · refine ⟨.int .i64 0, r, x, ⟨0, rfl, by omega⟩, fun h i hi => ?_⟩
    refine CallsA.of_wpe [] {} 13 mixed Tryz.func14 (by kernel_rfl) rfl (by kernel_rfl) fun j hB hA => ?_; simp only [junk_succ, junk_zero, List.cons_append, List.nil_append, List.length_cons, List.length_nil, Nat.reduceAdd]
    simp (implicitDefEqProofs := false) (dsimp := false) only [go_sem, eq_true c, decide_true]
    have := det_end (i := i) (r := r) (x := x) (v := .int .i64 0) hB rfl
    rw [set_same hi] at this ⊢
    exact this
  · obtain ⟨_, r', x', ⟨v, rfl, hv⟩, c1⟩ := roll_det r x
    have c' : 0 < n := by omega
    have e : IntKind.i64.wrap (shrK IntKind.u64 (IntKind.u64.wrap (v * IntKind.u64.wrap (IntKind.i64.wrap (n + 1)))) 32) = ((v * (n + 1) / 4294967296).toNat : Int) ∧ v * (n + 1) / 4294967296 ≤ n ∧ 0 ≤ v * (n + 1) / 4294967296 := by
      obtain ⟨m, rfl⟩ : ∃ m : Nat, n = m := ⟨n.toNat, by omega⟩
      obtain ⟨w, rfl⟩ : ∃ w : Nat, v = w := ⟨v.toNat, by omega⟩
      have h1 : w * (m + 1) ≤ 4294967295 * (m + 1) := Nat.mul_le_mul_right _ (by omega)
      have h2 : ((w : Int) * ((m : Int) + 1)) = ((w * (m + 1) : Nat) : Int) := by simp
      have eU : ∀ k : Int, 0 ≤ k → k < 18446744073709551616 → IntKind.u64.wrap k = k := by
        intro k a1 a2
        have e : IntKind.u64.wrap k = k % 18446744073709551616 := by simp [IntKind.wrap, IntKind.bits, IntKind.signed]
        rw [e]; omega
      have eS : ∀ k : Int, shrK .u64 k 32 = k / 4294967296 := by
        intro k
        unfold shrK
        rw [show min (32 : Int).toNat IntKind.u64.bits = 32 by decide, show (2 : Int) ^ 32 = 4294967296 by decide, Int.fdiv_eq_ediv_of_nonneg _ (by decide)]
      rw [show IntKind.i64.wrap ((m : Int) + 1) = (m : Int) + 1 from wrap64 (by omega) (by omega), eU ((m : Int) + 1) (by omega) (by omega), h2]
      generalize w * (m + 1) = z at *
      rw [eU (z : Int) (by omega) (by omega), eS, wrap64 (by omega) (by omega)]
      omega
    refine ⟨.int .i64 ((v * (n + 1) / 4294967296).toNat : Nat), r', x', ⟨_, rfl, by omega⟩, fun h i hi => ?_⟩
    refine CallsA.of_wpe [] {} 13 mixed Tryz.func14 (by kernel_rfl) rfl (by kernel_rfl) fun j hB hA => ?_; simp only [junk_succ, junk_zero, List.cons_append, List.nil_append, List.length_cons, List.length_nil, Nat.reduceAdd]
    simp (implicitDefEqProofs := false) (dsimp := false) only [go_sem, eq_false c, decide_false]
    refine CallsA.mono (c1 h i hi) ?_
    rintro _ _ ⟨rfl, rfl⟩
    simp (implicitDefEqProofs := false) (dsimp := false) only [go_sem]
    rw [e.1]
    exact det_end hB rfl
theorem Once_det (r : Option (List Int)) (x n : Int) (hn0 : 0 ≤ n) (hn : n ≤ 1000) : Det 55 (fun i => [.ptr ⟨i, 0⟩ 0, .int .i64 n]) r x fun a => ∃ v : Bool, a = .bool v := by
  unfold Det
  obtain ⟨_, r', x', ⟨v, rfl, hv⟩, c1⟩ := To_det r x (n - 1) (by omega)
  apply Exists.intro
  refine ⟨r', x', ?a, fun h i hi => ?g⟩
  case g =>
    refine CallsA.of_wpe [] {} 10 mixed Tryz.func55 (by kernel_rfl) rfl (by kernel_rfl) fun j hB hA => ?_; simp only [junk_succ, junk_zero, List.cons_append, List.nil_append, List.length_cons, List.length_nil, Nat.reduceAdd]
    simp (implicitDefEqProofs := false) (dsimp := false) only [go_sem, show IntKind.i64.wrap (n - 1) = n - 1 from wrap64 (by omega) (by omega)]
    refine CallsA.mono (c1 h i hi) ?_
    rintro _ _ ⟨rfl, rfl⟩
    simp (implicitDefEqProofs := false) (dsimp := false) only [go_sem]
    exact det_end hB (by rfl)
  case a => exact ⟨_, rfl⟩
theorem One_det (r : Option (List Int)) (x : Int) (l : List Int) (hn0 : 0 < l.length) (hn : l.length ≤ 1000) : Det 76 (fun i => [.ptr ⟨i, 0⟩ 0, ints l]) r x fun a => ∃ v ∈ l, a = .int .i64 v := by
  unfold Det
  obtain ⟨_, r', x', ⟨v, rfl, hv⟩, c1⟩ := To_det r x ((l.length : Int) - 1) (by omega)
  have hl : v < l.length := by omega
  refine ⟨_, r', x', ⟨_, List.getElem_mem hl, rfl⟩, fun h i hi => ?_⟩
  refine CallsA.of_wpe [] {} 11 mixed Tryz.func76 (by kernel_rfl) rfl (by kernel_rfl) fun j hB hA => ?_; simp only [junk_succ, junk_zero, List.cons_append, List.nil_append, List.length_cons, List.length_nil, Nat.reduceAdd]
  simp (implicitDefEqProofs := false) (dsimp := false) only [go_sem, ints, show IntKind.i64.wrap ((l.length : Int) - 1) = (l.length : Int) - 1 from wrap64 (by omega) (by omega)]
  refine CallsA.mono (c1 h i hi) ?_
  rintro _ _ ⟨rfl, rfl⟩
  simp (implicitDefEqProofs := false) (dsimp := false) only [go_sem, row1 cInt_len hl, row1_le cInt_len hl, cInt, nat_lt hl]
  exact det_end hB rfl
theorem From_det (r : Option (List Int)) (x lo hi' : Int) (h1 : -1000 ≤ lo) (h2 : lo ≤ hi') (h3 : hi' ≤ 1000) (h4 : hi' - lo ≤ 1000) : Det 77 (fun i => [.ptr ⟨i, 0⟩ 0, .int .i64 lo, .int .i64 hi']) r x fun a => ∃ v : Int, a = .int .i64 v ∧ lo ≤ v ∧ v ≤ hi' := by
  unfold Det
  obtain ⟨_, r', x', ⟨v, rfl, hv⟩, c1⟩ := To_det r x (hi' - lo) (by omega)
  refine ⟨.int .i64 (lo + v), r', x', ⟨_, rfl, by omega, by omega⟩, fun h i hi => ?_⟩
  refine CallsA.of_wpe [] {} 11 mixed Tryz.func77 (by kernel_rfl) rfl (by kernel_rfl) fun j hB hA => ?_; simp only [junk_succ, junk_zero, List.cons_append, List.nil_append, List.length_cons, List.length_nil, Nat.reduceAdd]
  simp (implicitDefEqProofs := false) (dsimp := false) only [go_sem, show IntKind.i64.wrap (hi' - lo) = hi' - lo from wrap64 (by omega) (by omega)]
  refine CallsA.mono (c1 h i hi) ?_
  rintro _ _ ⟨rfl, rfl⟩
  simp (implicitDefEqProofs := false) (dsimp := false) only [go_sem]
  rw [show IntKind.i64.wrap (lo + v) = lo + v from wrap64 (by omega) (by omega)]
  exact det_end hB rfl
theorem To_ok (h : List Blk) (i : Nat) (r : Option (List Int)) (x n : Int) (hn : n ≤ 1000) (hi : h[i]? = some (diceB r x)) : Rolls 14 [.ptr ⟨i, 0⟩ 0, .int .i64 n] h i fun a => ∃ v : Nat, a = .int .i64 v ∧ (v : Int) ≤ max n 0 := (To_det r x n hn).rolls hi
theorem Once_ok (h : List Blk) (i : Nat) (r : Option (List Int)) (x n : Int) (hn0 : 0 ≤ n) (hn : n ≤ 1000) (hi : h[i]? = some (diceB r x)) : Rolls 55 [.ptr ⟨i, 0⟩ 0, .int .i64 n] h i fun a => ∃ v : Bool, a = .bool v := (Once_det r x n hn0 hn).rolls hi
theorem One_ok (h : List Blk) (i : Nat) (r : Option (List Int)) (x : Int) (l : List Int) (hn0 : 0 < l.length) (hn : l.length ≤ 1000) (hi : h[i]? = some (diceB r x)) : Rolls 76 [.ptr ⟨i, 0⟩ 0, ints l] h i fun a => ∃ v ∈ l, a = .int .i64 v := (One_det r x l hn0 hn).rolls hi
theorem From_ok (h : List Blk) (i : Nat) (r : Option (List Int)) (x lo hi' : Int) (h1 : -1000 ≤ lo) (h2 : lo ≤ hi') (h3 : hi' ≤ 1000) (h4 : hi' - lo ≤ 1000) (hi : h[i]? = some (diceB r x)) : Rolls 77 [.ptr ⟨i, 0⟩ 0, .int .i64 lo, .int .i64 hi'] h i fun a => ∃ v : Int, a = .int .i64 v ∧ lo ≤ v ∧ v ≤ hi' := (From_det r x lo hi' h1 h2 h3 h4).rolls hi
end Go.Mac
namespace Go.Mac
open Go Go.Conc Go.Proofs
set_option maxRecDepth 4000
theorem get_ahead {h k : List Blk} {i : Nat} {b : Blk} (hl : i < h.length) : (h.set i b ++ k)[i]? = some b := by
  rw [List.getElem?_append_left (by simpa using hl), List.getElem?_set_self hl]
theorem set_ahead {h k : List Blk} {i : Nat} {b b' : Blk} (hl : i < h.length) : (h.set i b ++ k).set i b' = h.set i b' ++ k := by
  rw [List.set_append_left _ _ (by simpa using hl), List.set_set]
theorem get_past {h k : List Blk} {i j : Nat} {b : Blk} : (h.set i b ++ k)[h.length + j]? = k[j]? := by
  have := hget (h.set i b) k j
  simpa using this
theorem set_past {h k : List Blk} {i j : Nat} {b c : Blk} : (h.set i b ++ k).set (h.length + j) c = h.set i b ++ k.set j c := by
  have := hset (h.set i b) k j c
  simpa using this
theorem get_past0 {h k : List Blk} {i : Nat} {b : Blk} : (h.set i b ++ k)[h.length]? = k[0]? := get_past (j := 0)
theorem set_past0 {h k : List Blk} {i : Nat} {b c : Blk} : (h.set i b ++ k).set h.length c = h.set i b ++ k.set 0 c := set_past (j := 0)
def okOrder (l : List Int) (n : Nat) : Prop := l.length = n ∧ (∀ v ∈ l, 0 ≤ v ∧ v < n) ∧ l.Nodup
theorem okOrder_ins {l : List Int} {n k : Nat} (h : okOrder l n) : okOrder (l.take k ++ (n : Int) :: l.drop k) (n + 1) := by
  obtain ⟨h1, h2, h3⟩ := h
  refine ⟨by simp; omega, ?_, ?_⟩
  · intro v hv
    rw [List.mem_append, List.mem_cons] at hv
    rcases hv with hv | rfl | hv
    · have := h2 v (List.mem_of_mem_take hv); omega
    · omega
    · have := h2 v (List.mem_of_mem_drop hv); omega
  · have hn : (n : Int) ∉ l := fun hm => by have := h2 _ hm; omega
    have h4 := h3
    rw [← List.take_append_drop k l, List.nodup_append] at h4
    obtain ⟨q1, q2, q3⟩ := h4
    rw [List.nodup_append]
    refine ⟨q1, List.nodup_cons.2 ⟨fun hm => hn (List.mem_of_mem_drop hm), q2⟩, ?_⟩
    intro a ha b hb
    rcases List.mem_cons.1 hb with rfl | hb
    · rintro rfl; exact hn (List.mem_of_mem_take ha)
    · exact q3 a ha b hb
theorem Order_ok (h : List Blk) (i : Nat) (r : Option (List Int)) (x : Int) (n : Nat) (hn : n ≤ 100) (hi : h[i]? = some (diceB r x)) : Rolls 142 [.ptr ⟨i, 0⟩ 0, .int .i64 n] h i fun a => ∃ l, a = ints l ∧ okOrder l n := by
  have hl : i < h.length := (List.getElem?_eq_some_iff.1 hi).1
  unfold Rolls
  refine CallsA.of_wpe [4] { shut := [18] } 37 mixed Tryz.func142 (by kernel_rfl) rfl (by kernel_rfl) fun j hB hA => ?_; simp only [junk_succ, junk_zero, List.cons_append, List.nil_append, List.length_cons, List.length_nil, Nat.reduceAdd]
  simp (implicitDefEqProofs := false) (dsimp := false) only [go_sem]
  refine WPI.turn (Turns.nilSlot (d := 5) (sz := 1) ?_) ?_
  · simp (implicitDefEqProofs := false) (dsimp := false) only [go_sem]
  simp (implicitDefEqProofs := false) (dsimp := false) only [go_sem]
  refine WP.loopI (fun (m : Nat) s => (m ≤ n) ∧ s.sl.length = 39 ∧ s.df = [] ∧ s.gh = {} ∧ (∃ l r x, okOrder l m ∧ s.hp = h.set i (diceB r x) ++ [.cells m (l.flatMap cInt)]) ∧ evA s.sl (.tmp 0) = .ptr ⟨i, 0⟩ 0 ∧ evA s.sl (.tmp 1) = .int .i64 n ∧ evA s.sl (.tmp 5) = .sl ⟨h.length, m⟩ 1 0 m ∧ evA s.sl (.tmp 6) = .int .i64 m) (fun (m : Nat) => n - m) (0) ?_ ?_
  · simp (implicitDefEqProofs := false) (dsimp := false) only [go_sem, Nat.zero_le]
    refine ⟨[], r, x, ⟨rfl, by simp, .nil⟩, ?_⟩
    rw [set_same hi]
    rfl
  · rintro m ⟨sl, df, hp, gh⟩ ⟨ab, al, rfl, rfl, ah, a0, a1, a5, a6⟩
    simp only at ab al ah a0 a1 a5 a6
    obtain ⟨j, rfl⟩ := slots_lit al; clear al; simp only [junk_succ, junk_zero, evA_tmp, nth_16, nth_four, nth_one, nth_zero, Nat.zero_add, Nat.reduceAdd] at  a0 a1 a5 a6 ⊢
    refine wp_ok (so := { shut := [18] }) mixed _ (by kernel_rfl) ?_
    obtain ⟨l, r, x, hok, rfl⟩ := ah
    by_cases hm : m < n
    · simp (implicitDefEqProofs := false) (dsimp := false) only [go_sem, a0, a1, a5, a6, nat_lt hm, decide_true]
      refine Rolls.use (To_ok _ i r x m (by omega) (get_ahead hl)) ?_
      rintro _ r' x' ⟨v, rfl, hv⟩
      rw [set_ahead hl]
      have hlen : (l.flatMap cInt).length = m := by rw [length_rows cInt_len, Nat.mul_one, hok.1]
      simp (implicitDefEqProofs := false) (dsimp := false) only [go_sem, a0, a1, a5, a6, get_past0, set_past0, hlen]
      refine ⟨by omega, ?_⟩
      refine WP.loopI (fun (k : Nat) s => (v ≤ k ∧ k ≤ m) ∧ s.sl.length = 39 ∧ s.df = [] ∧ s.gh = {} ∧ (∃ y, s.hp = h.set i (diceB r' x') ++ [.cells (m + 1) ((l.take k ++ y :: l.drop k).flatMap cInt)]) ∧ evA s.sl (.tmp 0) = .ptr ⟨i, 0⟩ 0 ∧ evA s.sl (.tmp 1) = .int .i64 n ∧ evA s.sl (.tmp 5) = .sl ⟨h.length, m + 1⟩ 1 0 (m + 1) ∧ evA s.sl (.tmp 6) = .int .i64 m ∧ evA s.sl (.tmp 7) = .int .i64 v ∧ evA s.sl (.tmp 8) = .int .i64 k) (fun (k : Nat) => k - v) (m) ?_ ?_
      · simp (implicitDefEqProofs := false) (dsimp := false) only [go_sem]
        refine ⟨⟨by omega, Nat.le_refl _⟩, 0, ?_⟩
        rw [List.take_of_length_le (by rw [hok.1]; exact Nat.le_refl _), List.drop_of_length_le (by rw [hok.1]; exact Nat.le_refl _)]
        simp [cInt]
      · rintro k ⟨sl, df, hp, gh⟩ ⟨bb, bl, rfl, rfl, bh, b0, b1, b5, b6, b7, b8⟩
        simp only at bb bl bh b0 b1 b5 b6 b7 b8
        obtain ⟨j, rfl⟩ := slots_lit bl; clear bl; simp only [junk_succ, junk_zero, evA_tmp, nth_16, nth_four, nth_one, nth_zero, Nat.zero_add, Nat.reduceAdd] at  b0 b1 b5 b6 b7 b8 ⊢
        refine wp_ok (so := { shut := [18] }) mixed _ (by kernel_rfl) ?_
        obtain ⟨y, rfl⟩ := bh
        by_cases hk : v < k
        · have h1 : ((k : Int) > (v : Int)) = True := eq_true (by omega)
          obtain ⟨k, rfl⟩ : ∃ k', k = k' + 1 := ⟨k - 1, by omega⟩
          have hkl : k < l.length := by rw [hok.1]; omega
          have hw : IntKind.i64.wrap (((k + 1 : Nat) : Int) - 1) = (k : Int) := by rw [wrap64 (by omega) (by omega)]; omega
          have hL : (l.take (k + 1) ++ y :: l.drop (k + 1)).flatMap cInt = (l.take k).flatMap cInt ++ .int .i64 l[k] :: .int .i64 y :: (l.drop (k + 1)).flatMap cInt := by
            rw [List.take_succ_eq_append_getElem hkl]
            simp only [List.flatMap_append, List.flatMap_cons, List.flatMap_nil, cInt, List.append_assoc, List.cons_append, List.nil_append]
          have hA : ((l.take k).flatMap cInt).length = k := by rw [length_rows cInt_len, Nat.mul_one, List.length_take]; omega
          have hd : ∀ rest : List AV, ((l.take k).flatMap cInt ++ rest).drop k = rest := fun rest => List.drop_left' hA
          have ht : ∀ (a b c : AV) (rest : List AV), setMany ((l.take k).flatMap cInt ++ a :: b :: rest) (k + 1) [c] = (l.take k).flatMap cInt ++ a :: c :: rest := by
            intro a b c rest
            simp only [setMany]
            rw [List.set_append_right _ _ (by omega), hA, Nat.add_sub_cancel_left]
            rfl
          simp (implicitDefEqProofs := false) (dsimp := false) only [go_sem, b0, b1, b5, b6, b7, b8, h1, decide_true, get_past0, set_past0, hw, hL, hd, ht]
          have hB2 : ((l.drop (k + 1)).flatMap cInt).length = l.length - (k + 1) := by rw [length_rows cInt_len, Nat.mul_one, List.length_drop]
          refine ⟨by omega, by omega, by omega, k, ⟨⟨by omega, by omega⟩, ⟨l[k], ?_⟩, rfl⟩, by omega⟩
          have := ht (.int .i64 l[k]) (.int .i64 y) (.int .i64 l[k]) ((l.drop (k + 1)).flatMap cInt)
          simp only [setMany] at this
          rw [this, List.drop_eq_getElem_cons hkl]
          simp only [List.flatMap_append, List.flatMap_cons, cInt, List.cons_append, List.nil_append]
        · have h1 : ((k : Int) > (v : Int)) = False := eq_false (by omega)
          have e : k = v := by omega
          subst e
          simp (implicitDefEqProofs := false) (dsimp := false) only [go_sem, b0, b1, b5, b6, b7, b8, h1, decide_false, get_past0, set_past0]
          have hkl : k ≤ l.length := by rw [hok.1]; omega
          have hA : ((l.take k).flatMap cInt).length = k := by rw [length_rows cInt_len, Nat.mul_one, List.length_take]; omega
          have hL : ((l.take k ++ y :: l.drop k).flatMap cInt).set k (.int .i64 m) = (l.take k ++ (m : Int) :: l.drop k).flatMap cInt := by
            simp only [List.flatMap_append, List.flatMap_cons, cInt, List.cons_append, List.nil_append]
            rw [List.set_append_right _ _ (by omega), hA, Nat.sub_self]
            rfl
          refine ⟨by omega, ?_, m + 1, ⟨by omega, ⟨_, r', x', okOrder_ins (k := k) hok, ?_⟩, rfl, wrap_succ (by omega)⟩, by omega⟩
          · rw [length_rows cInt_len, Nat.mul_one]; simp; omega
          · rw [hL]
    · have hs : ((m : Int) < (n : Int)) = False := eq_false (by omega)
      have e : m = n := by omega
      subst e
      have hlen : (l.flatMap cInt).length = m := by rw [length_rows cInt_len, Nat.mul_one, hok.1]
      simp (implicitDefEqProofs := false) (dsimp := false) only [go_sem, a0, a1, a5, a6, hs, decide_false, get_past0, set_past0]
      rw [List.take_of_length_le (by omega)]
      refine ⟨_, h.length, rfl, Nat.le_refl _, ?_, ?_, ⟨_, r, x, rfl, ⟨l, by rw [hok.1], hok⟩, ?_⟩⟩
      · exact below_mono (Nat.zero_le _) _ (below_psl (f := cInt) (fun _ => rfl) l)
      · rw [List.take_left' (by simp)]
        exact all_set hB (diceB_below _ _ _)
      · rw [List.take_left' (by simp)]
end Go.Mac
namespace Go.Mac
open Go Go.Conc Go.Proofs
set_option maxRecDepth 4000
theorem get_left {h k : List Blk} {i : Nat} {b : Blk} (hi : h[i]? = some b) : (h ++ k)[i]? = some b := by
  rw [List.getElem?_append_left (List.getElem?_eq_some_iff.1 hi).1]; exact hi
theorem set_left {h k : List Blk} {i : Nat} {b : Blk} (hl : i < h.length) : (h ++ k).set i b = h.set i b ++ k := List.set_append_left _ _ hl
theorem rolls_endK {h k : List Blk} {i : Nat} {r : Option (List Int)} {x : Int} {v : AV} {A : AV → Prop} (hb : h.all (belowBlk h.length) = true) (hv : below h.length v = true) (hq : A v) :
    ∃ v' n, v = v' ∧ h.length ≤ n ∧ below n v' = true ∧ ((h.set i (diceB r x) ++ k).take n).all (belowBlk n) = true ∧ ∃ v1 r' x', AEnd.ret v' = .ret v1 ∧ A v1 ∧ (h.set i (diceB r x) ++ k).take n = h.set i (diceB r' x') := by
  refine ⟨v, h.length, rfl, Nat.le_refl _, hv, ?_, v, r, x, rfl, hq, ?_⟩
  · rw [List.take_left' (by simp)]; exact all_set hb (diceB_below _ _ _)
  · rw [List.take_left' (by simp)]
structure okLay (l : Lay) (pages : Nat) : Prop where
  p0 : 0 ≤ l.page
  p1 : l.page < pages
  d : -1 ≤ l.down ∧ l.down ≤ 1
  r : -1 ≤ l.right ∧ l.right ≤ 1
theorem mem3 {v a : Int} (h : v ∈ [0, 0, a]) (ha : -1 ≤ a ∧ a ≤ 1) : -1 ≤ v ∧ v ≤ 1 := by
  simp at h; omega
theorem LayOf_ok (h : List Blk) (i : Nat) (r : Option (List Int)) (x : Int) (n : Nat) (hn : n ≤ 100) (hn0 : 0 < n) (hi : h[i]? = some (diceB r x)) : Rolls 27 [.ptr ⟨i, 0⟩ 0, .int .i64 n] h i fun a => ∃ l, a = .agg (cLay l) ∧ okLay l n := by
  have hl : i < h.length := (List.getElem?_eq_some_iff.1 hi).1
  unfold Rolls
  refine CallsA.of_wpe [] { shut := [14, 19] } 20 mixed Tryz.func27 (by kernel_rfl) rfl (by kernel_rfl) fun j hB hA => ?_; simp only [junk_succ, junk_zero, List.cons_append, List.nil_append, List.length_cons, List.length_nil, Nat.reduceAdd]
  simp (implicitDefEqProofs := false) (dsimp := false) only [go_sem, show IntKind.i64.wrap ((n : Int) - 1) = (n : Int) - 1 from wrap64 (by omega) (by omega)]
  refine Rolls.use (To_ok _ i r x _ (by omega) (get_left hi)) ?_
  rintro _ r x ⟨v, rfl, hv⟩
  rw [set_left hl]
  simp (implicitDefEqProofs := false) (dsimp := false) only [go_sem]
  refine Rolls.use (Once_ok _ i r x _ (by omega) (by omega) (get_ahead hl)) ?_
  rintro _ r x ⟨t, rfl⟩
  rw [set_ahead hl]
  simp (implicitDefEqProofs := false) (dsimp := false) only [go_sem]
  refine Rolls.use (From_ok _ i r x (-1) 1 (by omega) (by omega) (by omega) (by omega) (get_ahead hl)) ?_
  rintro _ r x ⟨a, rfl, ha⟩
  rw [set_ahead hl]
  simp (implicitDefEqProofs := false) (dsimp := false) only [go_sem]
  refine Rolls.use (One_ok _ i r x [0, 0, a] (by simp) (by simp) (get_ahead hl)) ?_
  rintro _ r x ⟨d, hd, rfl⟩
  rw [set_ahead hl]
  simp (implicitDefEqProofs := false) (dsimp := false) only [go_sem]
  refine Rolls.use (From_ok _ i r x (-1) 1 (by omega) (by omega) (by omega) (by omega) (get_ahead hl)) ?_
  rintro _ r x ⟨c, rfl, hc⟩
  rw [set_ahead hl]
  simp (implicitDefEqProofs := false) (dsimp := false) only [go_sem]
  refine Rolls.use (One_ok _ i r x [0, 0, c] (by simp) (by simp) (get_ahead hl)) ?_
  rintro _ r x ⟨e, he, rfl⟩
  rw [set_ahead hl]
  simp (implicitDefEqProofs := false) (dsimp := false) only [go_sem, get_past0, set_past0]
  exact rolls_endK hB rfl ⟨⟨v, t, d, e⟩, rfl, ⟨by simp only; omega, by simp only; omega, mem3 hd ha, mem3 he hc⟩⟩
end Go.Mac
namespace Go.Mac
open Go Go.Conc Go.Proofs
def oneGlyph (g : Glyph) : Prop := g.name.length = 1 ∧ 97 ≤ gkey g ∧ gkey g ≤ 122 ∧ 1 ≤ g.strokes ∧ g.strokes ≤ 63
theorem getLastD_mem {α : Type} {l : List α} {d : α} (h : l ≠ []) : l.getLastD d ∈ l := by
  cases l with
  | nil => exact absurd rfl h
  | cons a l => exact List.getLast_mem _
theorem gli_of : ∀ (l before : List Glyph), (∀ g ∈ l, oneGlyph g) → (∀ x ∈ before, x.name.length = 1) → (∀ x ∈ before, ∀ g ∈ l, gkey x < gkey g ∧ x.strokes ≠ g.strokes) → (l.Pairwise fun x g => gkey x < gkey g ∧ x.strokes ≠ g.strokes) → gliErr before l = 0
  | [], _, _, _, _, _ => rfl
  | g :: l, before, h1, h2, h3, h4 => by
    obtain ⟨e, k1, k2, s1, s2⟩ := h1 g (List.mem_cons_self ..)
    obtain ⟨c, hc, hk⟩ := one_name e
    have p1 := List.pairwise_cons.1 h4
    rw [gliErr, if_neg, if_neg, if_neg, if_neg]
    · refine gli_of l (before ++ [g]) (fun x hx => h1 x (List.mem_cons_of_mem _ hx)) ?_ ?_ p1.2
      · intro x hx
        rcases List.mem_append.1 hx with hx | hx
        · exact h2 x hx
        · rw [List.mem_singleton.1 hx]; exact e
      · intro x hx y hy
        rcases List.mem_append.1 hx with hx | hx
        · exact h3 x hx y (List.mem_cons_of_mem _ hy)
        · rw [List.mem_singleton.1 hx]; exact p1.1 y hy
    · rw [Bool.not_eq_true, List.any_eq_false]
      intro x hx
      have := (h3 x hx g (List.mem_cons_self ..)).2
      simpa using this
    · omega
    · rintro ⟨hb, hc2⟩
      have hm := getLastD_mem (d := (⟨[], 0⟩ : Glyph)) hb
      obtain ⟨d, hd, hkd⟩ := one_name (h2 _ hm)
      have hlt := (h3 _ hm g (List.mem_cons_self ..)).1
      rw [lastName, hd, hc, less_one] at hc2
      simp only [Bool.or_eq_true, decide_eq_true_eq, beq_iff_eq, List.cons.injEq, and_true] at hc2
      rcases hc2 with hc2 | hc2
      · have := UInt8.lt_iff_toNat_lt.1 hc2; omega
      · rw [hc2] at hk; omega
    · rintro (q | q | q)
      · exact q e
      · rw [hc, less_one, decide_eq_true_eq] at q
        have := UInt8.lt_iff_toNat_lt.1 q
        have : (97 : UInt8).toNat = 97 := rfl
        omega
      · rw [hc, less_one] at q
        simp only [Bool.or_eq_false_iff, decide_eq_false_iff_not, beq_eq_false_iff_ne, ne_eq, List.cons.injEq, and_true] at q
        have h5 : ¬ c.toNat < 122 := fun h => q.1 (UInt8.lt_iff_toNat_lt.2 h)
        exact q.2 (UInt8.toNat_inj.1 (by have : (122 : UInt8).toNat = 122 := rfl; omega))
theorem okGlyphs.err {gs : List Glyph} (h : okGlyphs gs) : glyphsErr gs = 0 := by
  unfold glyphsErr
  rw [if_neg (by have := h.pos; omega), if_neg (by have := h.most; omega)]
  exact gli_of gs [] h.one (by simp) (by simp) h.pair
theorem charsErr_of {m : List (Int × Int)} : ∀ {l : List UInt8}, (∀ c ∈ l, hasB m c.toNat = true) → charsErr m l = 0
  | [], _ => rfl
  | c :: l, h => by rw [charsErr, if_pos (h c (List.mem_cons_self ..))]; exact charsErr_of fun x hx => h x (List.mem_cons_of_mem _ hx)
theorem sizedB_of {n m : Int} (h1 : 1 ≤ n) (h2 : n ≤ m) : sizedB n m = 0 := by unfold sizedB; rw [if_neg (by omega), if_neg (by omega)]
theorem rowsErr_of {m : List (Int × Int)} {w : Nat} (h1 : 1 ≤ w) (h2 : w ≤ 4) : ∀ {l : List (List UInt8)}, (∀ r ∈ l, r.length = w ∧ ∀ c ∈ r, hasB m c.toNat = true) → rowsErr m w l = 0
  | [], _ => rfl
  | r :: l, h => by
    have h3 := h r (List.mem_cons_self ..)
    rw [rowsErr_fine (sizedB_of (by omega) (by omega)) h3.1 (charsErr_of h3.2)]
    exact rowsErr_of h1 h2 fun x hx => h x (List.mem_cons_of_mem _ hx)
theorem pageErr_of {m : List (Int × Int)} {p : List (List UInt8)} (ok : okPage p) (h : ∀ r ∈ p, ∀ c ∈ r, hasB m c.toNat = true) : pageErr m p = 0 := by
  unfold pageErr
  rw [if_neg (by rw [sizedB_of (by have := ok.pos; omega) (by have := ok.most; omega)]; simp)]
  exact rowsErr_of ok.wpos ok.wmost fun r hr => ⟨ok.wide r hr, h r hr⟩
theorem pagesErr_of {m : List (Int × Int)} : ∀ {l : List (List (List UInt8))}, (∀ p ∈ l, pageErr m p = 0) → pagesErr m l = 0
  | [], _ => rfl
  | p :: l, h => by rw [pagesErr, if_neg (by simp [h p (List.mem_cons_self ..)])]; exact pagesErr_of fun x hx => h x (List.mem_cons_of_mem _ hx)
theorem tracesErr_of : ∀ {l : List Trace}, (∀ t ∈ l, traceErr t = 0) → tracesErr l = 0
  | [], _ => rfl
  | t :: l, h => by rw [tracesErr_fine (h t (List.mem_cons_self ..))]; exact tracesErr_of fun x hx => h x (List.mem_cons_of_mem _ hx)
theorem cellRowsErr_of {w : Nat} (h1 : 1 ≤ w) (h2 : w ≤ 4) : ∀ {l : List (List Trace)}, (∀ r ∈ l, r.length = w ∧ ∀ t ∈ r, traceErr t = 0) → cellRowsErr w l = 0
  | [], _ => rfl
  | r :: l, h => by
    have h3 := h r (List.mem_cons_self ..)
    rw [cellRowsErr_fine (sizedB_of (by omega) (by omega)) h3.1 (tracesErr_of h3.2)]
    exact cellRowsErr_of h1 h2 fun x hx => h x (List.mem_cons_of_mem _ hx)
theorem cellsErr_of {cs : List (List Trace)} (ok : okCells cs) (h : ∀ r ∈ cs, ∀ t ∈ r, traceErr t = 0) : cellsErr cs = 0 := by
  unfold cellsErr
  rw [if_neg (by rw [sizedB_of (by have := ok.pos; omega) (by have := ok.most; omega)]; simp)]
  exact cellRowsErr_of ok.wpos ok.wmost fun r hr => ⟨ok.wide r hr, h r hr⟩
def madePage (gs : List Glyph) (p : List (List UInt8)) : Prop := okPage p ∧ ∀ r ∈ p, ∀ c ∈ r, hasB (mapB gs) c.toNat = true
structure okMade (b : Board) : Prop where
  gl : okGlyphs b.glyphs
  pos : 0 < b.pages.length
  most : b.pages.length ≤ 4
  page : ∀ p ∈ b.pages, madePage b.glyphs p
  cells : okCells b.cells
  trace : ∀ r ∈ b.cells, ∀ t ∈ r, traceErr t = 0
theorem okMade.err {b : Board} (h : okMade b) : boardErr b = 0 := by
  unfold boardErr
  rw [if_neg (by simp [h.gl.err]), if_neg (by rw [sizedB_of (by have := h.pos; omega) (by have := h.most; omega)]; simp), if_neg (by simp [pagesErr_of fun p hp => pageErr_of (h.page p hp).1 (h.page p hp).2])]
  exact cellsErr_of h.cells h.trace
theorem okMade.board {b : Board} (h : okMade b) : okBoard b := okBoard.of h.err
end Go.Mac
namespace Go.Mac
open Go Go.Conc Go.Proofs
set_option maxRecDepth 4000
def gNames : List (List UInt8) := [[97], [98], [99], [100], [111], [122]]
def gStr (z : Int) : List Int := [4, 9, 6, 12, 48, 8, 3, 16, 5, 10, 20, z]
def g0 (o : List Int) (z : Int) (j : Nat) : Glyph := ⟨gNames.getD j [], (gStr z).getD (o.getD j 0).toNat 0⟩
structure okTaken (js : List Nat) (i n : Nat) : Prop where
  up : js.Pairwise (· < ·)
  lt : ∀ j ∈ js, j < i
  most : js.length ≤ n
  left : n ≤ js.length + (6 - i)
def glyphA (gs : List Glyph) : AV := sliceOf cGlyph gs
theorem set_row2 {gs : List Glyph} {v : Nat} {z : Int} (hv : v < gs.length) : (gs.flatMap cGlyph).set (v * 2 + 1) (.int .i64 z) = (gs.set v ⟨gs[v].name, z⟩).flatMap cGlyph := by
  induction gs generalizing v with
  | nil => simp at hv
  | cons g gs ih =>
    cases v with
    | zero => rfl
    | succ v =>
      have e : (v + 1) * 2 + 1 = (v * 2 + 1) + 1 + 1 := by omega
      rw [e]
      simp only [List.flatMap_cons, cGlyph, List.cons_append, List.nil_append, List.set_cons_succ, List.getElem_cons_succ]
      rw [ih (by simpa using hv)]
theorem gNames_len : gNames.length = 6 := rfl
theorem gStr_len (z : Int) : (gStr z).length = 12 := rfl
theorem okTaken.skip {js : List Nat} {m c : Nat} (h : okTaken js m c) (h1 : c < js.length + (6 - m)) : okTaken js (m + 1) c :=
  ⟨h.up, fun j hj => by have := h.lt j hj; omega, h.most, by omega⟩
theorem okTaken.take {js : List Nat} {m c : Nat} (h : okTaken js m c) (hm : m < 6) (h1 : js.length < c) : okTaken (js ++ [m]) (m + 1) c :=
  ⟨List.pairwise_append.2 ⟨h.up, List.pairwise_singleton _ _, fun a ha b hb => by rw [List.mem_singleton.1 hb]; exact h.lt a ha⟩, fun j hj => by
    rcases List.mem_append.1 hj with hj | hj
    · have := h.lt j hj; omega
    · rw [List.mem_singleton.1 hj]; omega, by simp; omega, by have := h.left; simp; omega⟩
def gS11 : List Int := [4, 9, 6, 12, 48, 8, 3, 16, 5, 10, 20]
theorem gNames_one : ∀ j < 6, (gNames.getD j []).length = 1 ∧ 97 ≤ ((gNames.getD j []).headD 0).toNat ∧ ((gNames.getD j []).headD 0).toNat ≤ 122 := by decide
theorem gNames_up : ∀ b < 6, ∀ a < b, ((gNames.getD a []).headD 0).toNat < ((gNames.getD b []).headD 0).toNat := by decide
theorem gS11_one : ∀ k < 11, 1 ≤ gS11.getD k 0 ∧ gS11.getD k 0 ≤ 63 := by decide
theorem gS11_two : ∀ a < 11, ∀ b < 11, a ≠ b → gS11.getD a 0 ≠ gS11.getD b 0 := by decide
theorem gStr_at {z : Int} {k : Nat} (h : k < 11) : (gStr z).getD k 0 = gS11.getD k 0 := by
  rw [show gStr z = gS11 ++ [z] from rfl, List.getD_eq_getElem?_getD, List.getD_eq_getElem?_getD, List.getElem?_append_left (by simpa [gS11] using h)]
theorem okOrder.at {o : List Int} {n j : Nat} (h : okOrder o n) (hj : j < n) : ∃ hj' : j < o.length, o.getD j 0 = o[j] ∧ (o.getD j 0).toNat < n ∧ 0 ≤ o[j] := by
  have hj' : j < o.length := by rw [h.1]; exact hj
  have := h.2.1 _ (List.getElem_mem hj')
  have e : o.getD j 0 = o[j] := by simp [List.getD, hj']
  exact ⟨hj', e, by omega, this.1⟩
theorem okOrder.apart {o : List Int} {n a b : Nat} (h : okOrder o n) (ha : a < n) (hb : b < n) (hab : a ≠ b) : (o.getD a 0).toNat ≠ (o.getD b 0).toNat := by
  obtain ⟨a1, a2, _, a4⟩ := h.at ha
  obtain ⟨b1, b2, _, b4⟩ := h.at hb
  intro e
  rw [a2, b2] at e
  have hp := List.pairwise_iff_getElem.1 h.2.2
  rcases Nat.lt_or_gt_of_ne hab with q | q
  · exact hp a b a1 b1 q (by omega)
  · exact hp b a b1 a1 q (by omega)
theorem GlyphsOf_good {z : Int} {o : List Int} {js : List Nat} {m c : Nat} (hz : 1 ≤ z ∧ z ≤ 63) (ho : okOrder o 11) (hc0 : 0 < c) (h : okTaken js m c) (hm : m ≤ 6) (hjc : js.length = c) (hc6 : c ≤ 6) : okGlyphs (js.map (g0 o z)) := by
  have lt6 : ∀ j ∈ js, j < 6 := fun j hj => by have := h.lt j hj; omega
  refine ⟨by simp; omega, by simp; omega, ?_, ?_⟩
  · intro g hg
    obtain ⟨j, hj, rfl⟩ := List.mem_map.1 hg
    obtain ⟨q1, q2, q3⟩ := gNames_one j (lt6 j hj)
    obtain ⟨_, _, q4, _⟩ := ho.at (j := j) (by have := lt6 j hj; omega)
    have q5 := gS11_one _ q4
    exact ⟨q1, q2, q3, by simp only [g0, gStr_at q4]; exact q5.1, by simp only [g0, gStr_at q4]; exact q5.2⟩
  · rw [List.pairwise_map]
    refine List.Pairwise.imp_of_mem ?_ h.up
    intro a b ha hb hab
    have la := lt6 a ha
    have lb := lt6 b hb
    obtain ⟨_, _, qa, _⟩ := ho.at (j := a) (by omega)
    obtain ⟨_, _, qb, _⟩ := ho.at (j := b) (by omega)
    refine ⟨gNames_up b lb a hab, ?_⟩
    simp only [g0, gStr_at qa, gStr_at qb]
    exact gS11_two _ qa _ qb (ho.apart (by omega) (by omega) (by omega))
theorem okGlyphs.new {gs : List Glyph} {v : Nat} {z : Int} (h : okGlyphs gs) (hv : v < gs.length) (hz : 1 ≤ z ∧ z ≤ 63) (hn : ∀ g ∈ gs, g.strokes ≠ z) : okGlyphs (gs.set v ⟨gs[v].name, z⟩) := by
  refine ⟨by rw [List.length_set]; exact h.pos, by rw [List.length_set]; exact h.most, ?_, ?_⟩
  · intro g hg
    rcases List.mem_or_eq_of_mem_set hg with hg | rfl
    · exact h.one g hg
    · obtain ⟨a, b, c, _, _⟩ := h.one _ (List.getElem_mem hv)
      exact ⟨a, b, c, hz.1, hz.2⟩
  · have hp := List.pairwise_iff_getElem.1 h.pair
    rw [List.pairwise_iff_getElem]
    intro a b ha hb hab
    rw [List.length_set] at ha hb
    have := hp a b ha hb hab
    rw [List.getElem_set, List.getElem_set]
    have na := hn _ (List.getElem_mem ha)
    have nb := hn _ (List.getElem_mem hb)
    split
    · rename_i e1
      subst e1
      rw [if_neg (by omega)]
      exact ⟨this.1, fun e => nb e.symm⟩
    · split
      · rename_i e2
        subst e2
        exact ⟨this.1, na⟩
      · exact this
theorem glyphA_below (gs : List Glyph) (n : Nat) : below n (glyphA gs) = true := below_mono (Nat.zero_le n) _ (below_psl (f := cGlyph) (fun _ => rfl) gs)
theorem glyphs_end {h k : List Blk} {i n L : Nat} {r : Option (List Int)} {x : Int} {gs : List Glyph} (hb : h.all (belowBlk h.length) = true) (hL : L = gs.length) (hg : okGlyphs gs) (hn : gs.length ≤ n) :
    ∃ v' m, AV.psl (List.take (L * 2) (gs.flatMap cGlyph)) L = v' ∧ h.length ≤ m ∧ below m v' = true ∧ ((h.set i (diceB r x) ++ k).take m).all (belowBlk m) = true ∧ ∃ v1 r' x', AEnd.ret v' = .ret v1 ∧ (∃ gs, v1 = glyphA gs ∧ okGlyphs gs ∧ gs.length ≤ n) ∧ (h.set i (diceB r x) ++ k).take m = h.set i (diceB r' x') := by
  subst hL
  rw [List.take_of_length_le (by rw [length_rows cGlyph_len]; exact Nat.le_refl _)]
  exact rolls_endK hb (glyphA_below gs _) ⟨gs, rfl, hg, hn⟩
theorem drop_row2 {gs : List Glyph} {k : Nat} (h : k < gs.length) : (gs.flatMap cGlyph).drop (k * 2 + 1) = .int .i64 gs[k].strokes :: (gs.drop (k + 1)).flatMap cGlyph := by
  rw [← List.drop_drop, rowN cGlyph_len h]; rfl
theorem row2_le {gs : List Glyph} {k : Nat} (h : k < gs.length) : (k * 2 + 1 ≤ (gs.flatMap cGlyph).length) = True := by
  rw [length_rows cGlyph_len]; exact eq_true (by omega)
theorem GlyphsOf_ok (h : List Blk) (i : Nat) (r : Option (List Int)) (x : Int) (n : Nat) (hn : n ≤ 6) (hn0 : 0 < n) (hi : h[i]? = some (diceB r x)) : Rolls 132 [.ptr ⟨i, 0⟩ 0, .int .i64 n] h i fun a => ∃ gs, a = glyphA gs ∧ okGlyphs gs ∧ gs.length ≤ n := by
  have hl : i < h.length := (List.getElem?_eq_some_iff.1 hi).1
  unfold Rolls
  refine CallsA.of_wpe [4] { shut := [14, 17, 64], cut := [30, 47, 79, 89], tail := [(10, 14)] } 101 mixed Tryz.func132 (by kernel_rfl) rfl (by kernel_rfl) fun j hB hA => ?_; simp only [junk_succ, junk_zero, List.cons_append, List.nil_append, List.length_cons, List.length_nil, Nat.reduceAdd]
  simp (implicitDefEqProofs := false) (dsimp := false) only [go_sem]
  refine Rolls.use (From_ok _ i r x 1 63 (by omega) (by omega) (by omega) (by omega) hi) ?_
  rintro _ r x ⟨z, rfl, hz⟩
  simp (implicitDefEqProofs := false) (dsimp := false) only [go_sem]
  refine Rolls.use (Order_ok _ i r x 11 (by omega) (by simpa using List.getElem?_set_self hl)) ?_
  rintro _ r x ⟨o, rfl, ho⟩
  rw [List.set_set]
  simp (implicitDefEqProofs := false) (dsimp := false) only [go_sem, ints]
  refine Rolls.use (From_ok _ i r x 1 n (by omega) (by omega) (by omega) (by omega) (by simpa using List.getElem?_set_self hl)) ?_
  rintro _ r x ⟨c, rfl, hc⟩
  rw [List.set_set]
  obtain ⟨c, rfl⟩ : ∃ k : Nat, c = k := ⟨c.toNat, by omega⟩
  simp (implicitDefEqProofs := false) (dsimp := false) only [go_sem]
  refine WPI.turn (Turns.nilSlot (d := 8) (sz := 2) ?_) ?_
  · simp (implicitDefEqProofs := false) (dsimp := false) only [go_sem]
  simp (implicitDefEqProofs := false) (dsimp := false) only [go_sem, List.length_set]
  refine WP.loopI (fun (y : Nat × List Nat) s => (y.1 ≤ 6 ∧ okTaken y.2 y.1 c) ∧ s.sl.length = 103 ∧ s.df = [] ∧ s.gh = {} ∧ (∃ r x, s.hp = h.set i (diceB r x) ++ [.cells y.2.length ((y.2.map (g0 o z)).flatMap cGlyph)]) ∧ evA s.sl (.tmp 0) = .ptr ⟨i, 0⟩ 0 ∧ evA s.sl (.tmp 5) = .psl (gNames.flatMap cStr) 6 ∧ evA s.sl (.tmp 6) = .psl ((gStr z).flatMap cInt) 12 ∧ evA s.sl (.tmp 7) = .psl (o.flatMap cInt) o.length ∧ evA s.sl (.tmp 8) = .sl ⟨h.length, y.2.length⟩ 2 0 y.2.length ∧ evA s.sl (.tmp 9) = .int .i64 c ∧ evA s.sl (.tmp 10) = .int .i64 y.1) (fun (y : Nat × List Nat) => 6 - y.1) ((0, [])) ?_ ?_
  · simp (implicitDefEqProofs := false) (dsimp := false) only [go_sem, Nat.zero_le]
    exact ⟨⟨.nil, by simp, by simp, by simp; omega⟩, ⟨r, x, rfl⟩, rfl, rfl⟩
  · rintro ⟨m, js⟩ ⟨sl, df, hp, gh⟩ ⟨ab, al, rfl, rfl, ah, a0, a5, a6, a7, a8, a9, a10⟩
    simp only at ab al ah a0 a5 a6 a7 a8 a9 a10
    obtain ⟨j, rfl⟩ := slots_lit al; clear al; simp only [junk_succ, junk_zero, evA_tmp, nth_16, nth_four, nth_one, nth_zero, Nat.zero_add, Nat.reduceAdd] at  a0 a5 a6 a7 a8 a9 a10 ⊢
    refine wp_ok (so := { shut := [14, 17, 64], cut := [30, 47, 79, 89], tail := [(10, 14)] }) mixed _ (by kernel_rfl) ?_
    obtain ⟨r, x, rfl⟩ := ah
    obtain ⟨hm6, hok⟩ := ab
    by_cases hgo : m < 6 ∧ js.length < c
    · obtain ⟨hm, hj⟩ := hgo
      have hm' : (((m : Nat) : Int) < 6) = True := eq_true (by omega)
      have hw1 : IntKind.i64.wrap ((6 : Int) - m) = 6 - m := wrap64 (by omega) (by omega)
      have hw2 : IntKind.i64.wrap ((c : Int) - (js.length : Int)) = (c : Int) - js.length := wrap64 (by omega) (by omega)
      have hom : m < o.length := by rw [ho.1]; omega
      obtain ⟨k, hk⟩ : ∃ k : Nat, o[m] = k := ⟨o[m].toNat, by have := ho.2.1 _ (List.getElem_mem hom); omega⟩
      have hk12 : k < (gStr z).length := by have := ho.2.1 _ (List.getElem_mem hom); rw [gStr_len]; omega
      have hmn : m < gNames.length := hm
      have hk' : ((k : Int) < 12) = True := eq_true (by have := hk12; rw [gStr_len] at this; omega)
      have hgl : ((js.map (g0 o z)).flatMap cGlyph).length = js.length * 2 := by rw [length_rows cGlyph_len, List.length_map]
      have hg : [AV.str gNames[m], .int .i64 (gStr z)[k]] = cGlyph (g0 o z m) := by
        simp only [g0, cGlyph, List.getD_eq_getElem?_getD, List.getElem?_eq_getElem hmn, List.getElem?_eq_getElem hom, Option.getD_some, hk, Int.toNat_natCast, List.getElem?_eq_getElem hk12]
      have hend : IntKind.i64.wrap ((m : Int) + 1) = ((m + 1 : Nat) : Int) := wrap_succ (by omega)
      have hcs : (js.map (g0 o z)).flatMap cGlyph ++ [AV.str gNames[m], .int .i64 (gStr z)[k]] = ((js ++ [m]).map (g0 o z)).flatMap cGlyph := by
        rw [hg, List.map_append, List.flatMap_append]; simp
      by_cases hs : (c : Int) - js.length < 6 - m
      · have hs' : ((6 : Int) - (m : Int) > (c : Int) - (js.length : Int)) = True := eq_true hs
        simp (implicitDefEqProofs := false) (dsimp := false) only [go_sem, a0, a5, a6, a7, a8, a9, a10, hm', nat_lt hj, decide_true, hw1, hw2, hs', get_past0, set_past0]
        refine Rolls.use (Once_ok _ i r x 3 (by omega) (by omega) (get_ahead hl)) ?_
        rintro _ r x ⟨t, rfl⟩
        rw [set_ahead hl]
        simp (implicitDefEqProofs := false) (dsimp := false) only [go_sem, a0, a5, a6, a7, a8, a9, a10, row1 cStr_len hmn, row1_le cStr_len hmn, row1 cInt_len hom, row1_le cInt_len hom, hk, row1 cInt_len hk12, row1_le cInt_len hk12, cStr, cInt, hk', nat_lt hom, get_past0, set_past0, hgl, hm']
        refine ⟨fun ht => ?_, fun ht => ?_⟩
        · exact ⟨(m + 1, js), ⟨⟨hm, hok.skip (by omega)⟩, ⟨r, x, rfl⟩, rfl, hend⟩, by simp only; omega⟩
        · exact ⟨by omega, (m + 1, js ++ [m]), ⟨⟨hm, hok.take hm hj⟩, ⟨r, x, by simp only; rw [hcs, List.length_append, List.length_singleton]⟩, by simp only; rw [List.length_append, List.length_singleton], hend⟩, by simp only; omega⟩
      · have hs' : ((6 : Int) - (m : Int) > (c : Int) - (js.length : Int)) = False := eq_false hs
        simp (implicitDefEqProofs := false) (dsimp := false) only [go_sem, a0, a5, a6, a7, a8, a9, a10, hm', nat_lt hj, decide_true, decide_false, hw1, hw2, hs', row1 cStr_len hmn, row1_le cStr_len hmn, row1 cInt_len hom, row1_le cInt_len hom, hk, row1 cInt_len hk12, row1_le cInt_len hk12, cStr, cInt, hk', nat_lt hom, get_past0, set_past0, hgl]
        exact ⟨by omega, (m + 1, js ++ [m]), ⟨⟨hm, hok.take hm hj⟩, ⟨r, x, by simp only; rw [hcs, List.length_append, List.length_singleton]⟩, by simp only; rw [List.length_append, List.length_singleton], hend⟩, by simp only; omega⟩
    · have hjc : js.length = c := by have := hok.most; have := hok.left; omega
      have hjd : (((js.length : Nat) : Int) < (c : Int)) = False := eq_false (by omega)
      have h11 : 11 < (gStr z).length := by rw [gStr_len]; omega
      have hz11 : (gStr z)[11] = z := rfl
      have hw12 : IntKind.i64.wrap ((12 : Int) - 1) = ((11 : Nat) : Int) := rfl
      have h11' : (((11 : Nat) : Int) < 12) = True := eq_true (by omega)
      have hok2 := GlyphsOf_good hz ho (by omega) hok hm6 hjc (by omega)
      simp (implicitDefEqProofs := false) (dsimp := false) only [go_sem, a0, a5, a6, a7, a8, a9, a10, hjd, decide_false, get_past0, hw12, row1 cInt_len h11, row1_le cInt_len h11, h11', cInt, hz11]
      have hgl : (js.map (g0 o z)).length = c := by rw [List.length_map]; exact hjc
      generalize js.map (g0 o z) = gs at hok2 hgl
      have hN : c ≤ 6 := by omega
      refine ⟨fun _ => ?_, fun _ => ?_⟩
      all_goals
        refine WP.loopI (fun (y : Nat × Bool) s => (y.1 ≤ c ∧ (y.2 = true → ∀ g ∈ gs.take y.1, g.strokes ≠ z)) ∧ s.sl.length = 103 ∧ s.df = [] ∧ s.gh = {} ∧ (s.hp = h.set i (diceB r x) ++ [.cells js.length (gs.flatMap cGlyph)]) ∧ evA s.sl (.tmp 0) = .ptr ⟨i, 0⟩ 0 ∧ evA s.sl (.tmp 8) = .sl ⟨h.length, js.length⟩ 2 0 js.length ∧ evA s.sl (.tmp 11) = .int .i64 z ∧ evA s.sl (.tmp 12) = .bool y.2 ∧ evA s.sl (.tmp 13) = .int .i64 y.1) (fun (y : Nat × Bool) => c - y.1) ((0, true)) ?_ ?_
        · simp (implicitDefEqProofs := false) (dsimp := false) only [go_sem, Nat.zero_le]
          exact fun _ => by simp
        · rintro ⟨k, q⟩ ⟨sl, df, hp, gh⟩ ⟨bb, bl, rfl, rfl, rfl, b0, b8, b11, b12, b13⟩
          simp only at bb bl b0 b8 b11 b12 b13
          obtain ⟨j, rfl⟩ := slots_lit bl; clear bl; simp only [junk_succ, junk_zero, evA_tmp, nth_16, nth_four, nth_one, nth_zero, Nat.zero_add, Nat.reduceAdd] at  b0 b8 b11 b12 b13 ⊢
          refine wp_ok (so := { shut := [14, 17, 64], cut := [30, 47, 79, 89], tail := [(10, 14)] }) mixed _ (by kernel_rfl) ?_
          obtain ⟨hkc, hq⟩ := bb
          by_cases hk : k < js.length
          · have hkg : k < gs.length := by omega
            cases q with
            | true =>
              simp (implicitDefEqProofs := false) (dsimp := false) only [go_sem, b0, b8, b11, b12, b13, nat_lt hk, decide_true, get_past0, drop_row2 hkg, row2_le hkg]
              refine ⟨(k + 1, gs[k].strokes != z), ⟨⟨by omega, ?_⟩, rfl, wrap_succ (by omega)⟩, by simp only; omega⟩
              intro hne g hg
              rw [List.take_succ_eq_append_getElem hkg, List.mem_append, List.mem_singleton] at hg
              rcases hg with hg | rfl
              · exact hq rfl g hg
              · simpa using hne
            | false =>
              simp (implicitDefEqProofs := false) (dsimp := false) only [go_sem, b0, b8, b11, b12, b13, nat_lt hk, decide_true, get_past0]
              exact ⟨(k + 1, false), ⟨⟨by omega, by simp⟩, rfl, wrap_succ (by omega)⟩, by simp only; omega⟩
          · have hs : ((k : Int) < (js.length : Int)) = False := eq_false (by omega)
            have hkl : gs.take k = gs := List.take_of_length_le (by omega)
            rw [hkl] at hq
            cases q with
            | true =>
              simp (implicitDefEqProofs := false) (dsimp := false) only [go_sem, b0, b8, b11, b12, b13, hs, decide_false, get_past0]
              refine Rolls.use (Once_ok _ i r x 3 (by omega) (by omega) (get_ahead hl)) ?_
              rintro _ r x ⟨t, rfl⟩
              rw [set_ahead hl]
              have hw : IntKind.i64.wrap ((js.length : Int) - 1) = (js.length : Int) - 1 := wrap64 (by omega) (by omega)
              simp (implicitDefEqProofs := false) (dsimp := false) only [go_sem, get_past0, hw]
              refine ⟨fun ht => ?_, fun ht => ?_⟩
              · refine Rolls.use (To_ok _ i r x _ (by omega) (get_ahead hl)) ?_
                rintro _ r x ⟨v, rfl, hv⟩
                rw [set_ahead hl]
                have hvj : v < js.length := by omega
                have hvg : v < gs.length := by omega
                simp (implicitDefEqProofs := false) (dsimp := false) only [go_sem, get_past0, set_past0, nat_lt hvj, set_row2 hvg]
                refine ⟨by rw [length_rows cGlyph_len]; omega, ?_⟩
                exact glyphs_end hB (by rw [List.length_set]; omega) (okGlyphs.new hok2 hvg hz (hq rfl)) (by rw [List.length_set]; omega)
              · simp (implicitDefEqProofs := false) (dsimp := false) only [go_sem, set_past0]
                exact glyphs_end hB (by omega) hok2 (by omega)
            | false =>
              simp (implicitDefEqProofs := false) (dsimp := false) only [go_sem, b0, b8, b11, b12, b13, hs, decide_false, get_past0, set_past0]
              exact glyphs_end hB (by omega) hok2 (by omega)
end Go.Mac
namespace Go.Mac
open Go Go.Conc Go.Proofs
set_option maxRecDepth 4000
abbrev Dc := Option (List Int) × Int
abbrev dcB (d : Dc) : Blk := diceB d.1 d.2
theorem To_ex (d : Dc) (n : Int) : ∃ q : Nat × Dc, n ≤ 1000 → ((q.1 : Int) ≤ max n 0 ∧ ∀ h i, h[i]? = some (dcB d) → CallsA Tryz.prog 14 [.ptr ⟨i, 0⟩ 0, .int .i64 n] h fun e h' => e = .ret (.int .i64 q.1) ∧ h' = h.set i (dcB q.2)) := by
  by_cases hn : n ≤ 1000
  · obtain ⟨_, r', x', ⟨v, rfl, hv⟩, c⟩ := To_det d.1 d.2 n hn
    exact ⟨(v, r', x'), fun _ => ⟨hv, c⟩⟩
  · exact ⟨(0, none, 0), fun h => absurd h hn⟩
noncomputable def toQ (d : Dc) (n : Int) : Nat × Dc := Classical.choose (To_ex d n)
theorem toQ_le {d : Dc} {n : Int} (hn : n ≤ 1000) : ((toQ d n).1 : Int) ≤ max n 0 := (Classical.choose_spec (To_ex d n) hn).1
theorem toQ_run {d : Dc} {n : Int} (hn : n ≤ 1000) {h : List Blk} {i : Nat} (hi : h[i]? = some (dcB d)) : CallsA Tryz.prog 14 [.ptr ⟨i, 0⟩ 0, .int .i64 n] h fun e h' => e = .ret (.int .i64 (toQ d n).1) ∧ h' = h.set i (dcB (toQ d n).2) := (Classical.choose_spec (To_ex d n) hn).2 h i hi
def letterQ (gs : List Glyph) (n : Nat) : List UInt8 := if n = 0 then [45] else (gs.getD (n - 1) ⟨[], 0⟩).name
noncomputable def rowQ (gs : List Glyph) (d : Dc) : Nat → List UInt8 × Dc
  | 0 => ([], d)
  | k + 1 => ((rowQ gs d k).1 ++ letterQ gs (toQ (rowQ gs d k).2 gs.length).1, (toQ (rowQ gs d k).2 gs.length).2)
noncomputable def pageQ (gs : List Glyph) (w : Nat) (d : Dc) : Nat → List (List UInt8) × Dc
  | 0 => ([], d)
  | k + 1 => ((pageQ gs w d k).1 ++ [(rowQ gs (pageQ gs w d k).2 w).1], (rowQ gs (pageQ gs w d k).2 w).2)
theorem pageQ_len (gs : List Glyph) (w : Nat) (d : Dc) : ∀ k, (pageQ gs w d k).1.length = k
  | 0 => rfl
  | k + 1 => by simp [pageQ, pageQ_len gs w d k]
theorem hasB_dash (gs : List Glyph) : hasB (mapB gs) ((45 : UInt8).toNat : Int) = true := by simp [hasB, mapB]
theorem hasB_name {gs : List Glyph} (ok : okGlyphs gs) {g : Glyph} (hg : g ∈ gs) {c : UInt8} (hc : c ∈ g.name) : hasB (mapB gs) (c.toNat : Int) = true := by
  obtain ⟨c', e, hk⟩ := one_name (ok.one g hg).1
  rw [e, List.mem_singleton] at hc
  subst hc
  simp only [hasB, mapB, List.any_cons, List.any_map, Bool.or_eq_true, List.any_eq_true]
  exact .inr ⟨g, hg, by simp [hk]⟩
theorem letterQ_ok {gs : List Glyph} (ok : okGlyphs gs) {n : Nat} (hn : n ≤ gs.length) : (letterQ gs n).length = 1 ∧ ∀ c ∈ letterQ gs n, hasB (mapB gs) (c.toNat : Int) = true := by
  unfold letterQ
  split
  · exact ⟨rfl, fun c hc => by rw [List.mem_singleton.1 hc]; exact hasB_dash gs⟩
  · have hl : n - 1 < gs.length := by omega
    rw [show gs.getD (n - 1) ⟨[], 0⟩ = gs[n - 1] by simp [List.getD, hl]]
    exact ⟨(ok.one _ (List.getElem_mem hl)).1, fun c hc => hasB_name ok (List.getElem_mem hl) hc⟩
theorem toQ_len {gs : List Glyph} (ok : okGlyphs gs) (d : Dc) : (toQ d gs.length).1 ≤ gs.length := by
  have := toQ_le (d := d) (n := gs.length) (by have := ok.most; omega)
  omega
theorem rowQ_ok {gs : List Glyph} (ok : okGlyphs gs) (d : Dc) : ∀ k, (rowQ gs d k).1.length = k ∧ ∀ c ∈ (rowQ gs d k).1, hasB (mapB gs) (c.toNat : Int) = true
  | 0 => ⟨rfl, by simp [rowQ]⟩
  | k + 1 => by
    obtain ⟨h1, h2⟩ := rowQ_ok ok d k
    obtain ⟨h3, h4⟩ := letterQ_ok ok (toQ_len ok (rowQ gs d k).2)
    refine ⟨by simp [rowQ, h1, h3], fun c hc => ?_⟩
    simp only [rowQ, List.mem_append] at hc
    rcases hc with hc | hc
    · exact h2 c hc
    · exact h4 c hc
theorem pageQ_ok {gs : List Glyph} (ok : okGlyphs gs) (w : Nat) (d : Dc) : ∀ k, ∀ s ∈ (pageQ gs w d k).1, s.length = w ∧ ∀ c ∈ s, hasB (mapB gs) (c.toNat : Int) = true
  | 0, s, hs => by simp [pageQ] at hs
  | k + 1, s, hs => by
    simp only [pageQ, List.mem_append, List.mem_singleton] at hs
    rcases hs with hs | rfl
    · exact pageQ_ok ok w d k s hs
    · exact rowQ_ok ok _ w
theorem det_endK {h k : List Blk} {i : Nat} {r : Option (List Int)} {x : Int} {v : AV} (hb : h.all (belowBlk h.length) = true) (hv : below h.length v = true) :
    ∃ v' n, v = v' ∧ h.length ≤ n ∧ below n v' = true ∧ ((h.set i (diceB r x) ++ k).take n).all (belowBlk n) = true ∧ (AEnd.ret v' = .ret v ∧ (h.set i (diceB r x) ++ k).take n = h.set i (diceB r x)) := by
  refine ⟨v, h.length, rfl, Nat.le_refl _, hv, ?_, rfl, ?_⟩
  · rw [List.take_left' (by simp)]; exact all_set hb (diceB_below _ _ _)
  · rw [List.take_left' (by simp)]
theorem names_drop {gs : List Glyph} {k : Nat} (h : k < gs.length) : (gs.flatMap cGlyph).drop (k * 2) = .str gs[k].name :: .int .i64 gs[k].strokes :: (gs.drop (k + 1)).flatMap cGlyph := by
  rw [rowN cGlyph_len h]; rfl
theorem names_le {gs : List Glyph} {k : Nat} (h : k < gs.length) : (k * 2 + 0 ≤ (gs.flatMap cGlyph).length) = True := by
  rw [length_rows cGlyph_len]; exact eq_true (by omega)
theorem PageOf_det (gs : List Glyph) (ok : okGlyphs gs) (rows cols : Nat) (hr : rows ≤ 100) (hc : cols ≤ 100) (r : Option (List Int)) (x : Int) : Det 133 (fun i => [.ptr ⟨i, 0⟩ 0, glyphA gs, .int .i64 rows, .int .i64 cols]) r x fun a => ∃ p, a = sliceOf cStr p ∧ p.length = rows ∧ ∀ s ∈ p, s.length = cols ∧ ∀ c ∈ s, hasB (mapB gs) (c.toNat : Int) = true := by
  refine ⟨sliceOf cStr (pageQ gs cols (r, x) rows).1, (pageQ gs cols (r, x) rows).2.1, (pageQ gs cols (r, x) rows).2.2, ⟨(pageQ gs cols (r, x) rows).1, rfl, pageQ_len gs cols (r, x) rows, pageQ_ok ok cols (r, x) rows⟩, fun h i hi => ?_⟩
  have hl : i < h.length := (List.getElem?_eq_some_iff.1 hi).1
  have hm := ok.most
  refine CallsA.of_wpe [8] { shut := [42] } 41 mixed Tryz.func133 (by kernel_rfl) rfl (by kernel_rfl) fun j hB hA => ?_; simp only [junk_succ, junk_zero, List.cons_append, List.nil_append, List.length_cons, List.length_nil, Nat.reduceAdd]
  simp (implicitDefEqProofs := false) (dsimp := false) only [go_sem]
  refine WPI.turn (Turns.nilSlot (d := 9) (sz := 1) ?_) ?_
  · simp (implicitDefEqProofs := false) (dsimp := false) only [go_sem]
  simp (implicitDefEqProofs := false) (dsimp := false) only [go_sem]
  refine WP.loopI (fun (m : Nat) s => (m ≤ rows) ∧ s.sl.length = 45 ∧ s.df = [] ∧ s.gh = {} ∧ (s.hp = h.set i (dcB (pageQ gs cols (r, x) m).2) ++ [.cells m ((pageQ gs cols (r, x) m).1.flatMap cStr)]) ∧ evA s.sl (.tmp 0) = .ptr ⟨i, 0⟩ 0 ∧ evA s.sl (.tmp 1) = glyphA gs ∧ evA s.sl (.tmp 2) = .int .i64 rows ∧ evA s.sl (.tmp 3) = .int .i64 cols ∧ evA s.sl (.tmp 9) = .sl ⟨h.length, m⟩ 1 0 m ∧ evA s.sl (.tmp 10) = .int .i64 m) (fun (m : Nat) => rows - m) (0) ?_ ?_
  · simp (implicitDefEqProofs := false) (dsimp := false) only [go_sem, Nat.zero_le]
    show h ++ _ = h.set i (diceB r x) ++ _
    rw [set_same hi]; rfl
  · rintro m ⟨sl, df, hp, gh⟩ ⟨ab, al, rfl, rfl, rfl, a0, a1, a2, a3, a9, a10⟩
    simp only at ab al a0 a1 a2 a3 a9 a10
    obtain ⟨j, rfl⟩ := slots_lit al; clear al; simp only [junk_succ, junk_zero, evA_tmp, nth_16, nth_four, nth_one, nth_zero, Nat.zero_add, Nat.reduceAdd] at  a0 a1 a2 a3 a9 a10 ⊢
    refine wp_ok (so := { shut := [42] }) mixed _ (by kernel_rfl) ?_
    by_cases hm : m < rows
    · simp (implicitDefEqProofs := false) (dsimp := false) only [go_sem, a0, a1, a2, a3, a9, a10, nat_lt hm, decide_true]
      refine WP.loopI (fun (k : Nat) s => (k ≤ cols) ∧ s.sl.length = 45 ∧ s.df = [] ∧ s.gh = {} ∧ (s.hp = h.set i (dcB (rowQ gs (pageQ gs cols (r, x) m).2 k).2) ++ [.cells m ((pageQ gs cols (r, x) m).1.flatMap cStr)]) ∧ evA s.sl (.tmp 0) = .ptr ⟨i, 0⟩ 0 ∧ evA s.sl (.tmp 1) = glyphA gs ∧ evA s.sl (.tmp 2) = .int .i64 rows ∧ evA s.sl (.tmp 3) = .int .i64 cols ∧ evA s.sl (.tmp 9) = .sl ⟨h.length, m⟩ 1 0 m ∧ evA s.sl (.tmp 10) = .int .i64 m ∧ evA s.sl (.tmp 11) = .str (rowQ gs (pageQ gs cols (r, x) m).2 k).1 ∧ evA s.sl (.tmp 12) = .int .i64 k) (fun (k : Nat) => cols - k) (0) ?_ ?_
      · simp (implicitDefEqProofs := false) (dsimp := false) only [go_sem, Nat.zero_le]
        exact ⟨rfl, rfl⟩
      · rintro k ⟨sl, df, hp, gh⟩ ⟨bb, bl, rfl, rfl, rfl, b0, b1, b2, b3, b9, b10, b11, b12⟩
        simp only at bb bl b0 b1 b2 b3 b9 b10 b11 b12
        obtain ⟨j, rfl⟩ := slots_lit bl; clear bl; simp only [junk_succ, junk_zero, evA_tmp, nth_16, nth_four, nth_one, nth_zero, Nat.zero_add, Nat.reduceAdd] at  b0 b1 b2 b3 b9 b10 b11 b12 ⊢
        refine wp_ok (so := { shut := [42] }) mixed _ (by kernel_rfl) ?_
        by_cases hk : k < cols
        · simp (implicitDefEqProofs := false) (dsimp := false) only [go_sem, b0, b1, b2, b3, b9, b10, b11, b12, nat_lt hk, decide_true, glyphA]
          refine CallsA.mono (toQ_run (d := (rowQ gs (pageQ gs cols (r, x) m).2 k).2) (by omega) (get_ahead hl)) ?_
          rintro _ _ ⟨rfl, rfl⟩
          rw [set_ahead hl]
          have hq := toQ_len ok (rowQ gs (pageQ gs cols (r, x) m).2 k).2
          have hnext : rowQ gs (pageQ gs cols (r, x) m).2 (k + 1) = ((rowQ gs (pageQ gs cols (r, x) m).2 k).1 ++ letterQ gs (toQ (rowQ gs (pageQ gs cols (r, x) m).2 k).2 gs.length).1, (toQ (rowQ gs (pageQ gs cols (r, x) m).2 k).2 gs.length).2) := rfl
          have hlen := (rowQ_ok ok (pageQ gs cols (r, x) m).2 k).1
          generalize toQ (rowQ gs (pageQ gs cols (r, x) m).2 k).2 gs.length = q at hq hnext ⊢
          by_cases h0 : q.1 = 0
          · have h0' : (((q.1 : Nat) : Int) == 0) = true := by rw [h0]; rfl
            simp (implicitDefEqProofs := false) (dsimp := false) only [go_sem, h0']
            refine ⟨by omega, k + 1, ⟨by omega, ?_, rfl, ?_, wrap_succ (by omega)⟩, by omega⟩
            · rw [hnext]
            · rw [hnext, h0]; rfl
          · have h0' : (((q.1 : Nat) : Int) == 0) = false := by simpa using h0
            have hw : IntKind.i64.wrap ((q.1 : Int) - 1) = ((q.1 - 1 : Nat) : Int) := by rw [wrap64 (by omega) (by omega)]; omega
            have hq1 : q.1 - 1 < gs.length := by omega
            simp (implicitDefEqProofs := false) (dsimp := false) only [go_sem, h0', hw, glyphA, names_drop hq1, names_le hq1, nat_lt hq1]
            have h1 := (ok.one _ (List.getElem_mem hq1)).1
            refine ⟨by rw [length_rows cGlyph_len]; omega, by omega, k + 1, ⟨by omega, ?_, ?_, wrap_succ (by omega)⟩, by omega⟩
            · rw [hnext]
            · rw [hnext, letterQ, if_neg h0]; simp [List.getD, hq1]
        · have hs : ((k : Int) < (cols : Int)) = False := eq_false (by omega)
          have e : k = cols := by omega
          subst e
          have hlen : ((pageQ gs k (r, x) m).1.flatMap cStr).length = m := by rw [length_rows cStr_len, Nat.mul_one, pageQ_len]
          simp (implicitDefEqProofs := false) (dsimp := false) only [go_sem, b0, b1, b2, b3, b9, b10, b11, b12, hs, decide_false, get_past0, set_past0]
          exact ⟨⟨hlen, by omega⟩, m + 1, ⟨by omega, by simp only [pageQ, List.flatMap_append, List.flatMap_cons, List.flatMap_nil, cStr, List.append_nil], rfl, wrap_succ (by omega)⟩, by omega⟩
    · have hs : ((m : Int) < (rows : Int)) = False := eq_false (by omega)
      have e : m = rows := by omega
      subst e
      have hlen : ((pageQ gs cols (r, x) m).1.flatMap cStr).length = m := by rw [length_rows cStr_len, Nat.mul_one, pageQ_len]
      simp (implicitDefEqProofs := false) (dsimp := false) only [go_sem, a0, a1, a2, a3, a9, a10, hs, decide_false, get_past0, set_past0]
      rw [List.take_of_length_le (by omega), pageQ_len]
      exact det_endK hB (below_mono (Nat.zero_le _) (sliceOf cStr (pageQ gs cols (r, x) m).1) (below_psl (fun _ => rfl) _))
end Go.Mac
namespace Go.Mac
open Go Go.Conc Go.Proofs
set_option maxRecDepth 4000
theorem turn_use {f : FuncId} {args : List AV} {r r' : Option (List Int)} {x x' : Int} {v : AV} {h T : List Blk} {i : Nat} {K : AV → Prop}
    (hl : i < h.length) (c : ∀ h, h[i]? = some (diceB r x) → CallsA Tryz.prog f args h fun e h' => e = .ret v ∧ h' = h.set i (diceB r' x')) (hk : K v) : TurnCalls Tryz.prog f args (h.set i (diceB r x) ++ T) (h.set i (diceB r' x') ++ T) K := by
  refine TurnCalls.use ?_ hk
  have := c _ (get_ahead (k := T) hl)
  rwa [set_ahead hl] at this
def blankRow (w : Nat) : List Trace := List.replicate w ⟨0, 0⟩
structure okBlank (b : Board) (ng np nr nc : Nat) : Prop where
  made : okMade b
  gl : b.glyphs.length ≤ ng
  pl : b.pages.length ≤ np
  rows : ∀ p ∈ b.pages, p.length ≤ nr ∧ (p.headD []).length ≤ nc
  cl : b.cells.length ≤ nr
  blank : ∀ row ∈ b.cells, ∀ t ∈ row, t = ⟨0, 0⟩
def BlankP (own : Bool) (h : List Blk) (i ng np nr nc : Nat) (e : AEnd) (h' : List Blk) : Prop :=
  ∃ b r x, okBlank b ng np nr nc ∧ match own with
    | false => e = .ret (.agg (brdA b)) ∧ h' = h.set i (diceB r x)
    | true => ∃ g0 g1, e = .ret (.agg [sliceOf cGlyph b.glyphs, .sl ⟨h.length + 2, b.pages.length⟩ 1 0 b.pages.length, sliceOf cTraces b.cells]) ∧ h' = h.set i (diceB r x) ++ [g0, g1, .cells b.pages.length (b.pages.flatMap cPage)]
theorem madePage.of {gs : List Glyph} {p : List (List UInt8)} {nr nc n m : Nat} (h : p.length = n ∧ ∀ s ∈ p, s.length = m ∧ ∀ c ∈ s, hasB (mapB gs) (c.toNat : Int) = true) (hn : 0 < n) (hnr : n ≤ nr) (hm : 0 < m) (hmc : m ≤ nc) (hr : nr ≤ 3) (hc : nc ≤ 4) :
    madePage gs p ∧ p.length ≤ nr ∧ (p.headD []).length ≤ nc := by
  obtain ⟨h1, h2⟩ := h
  have hd : (p.headD []).length = m := by rw [headD_get (show 0 < p.length by omega)]; exact (h2 _ (List.getElem_mem _)).1
  exact ⟨⟨⟨by omega, by omega, fun s hs => by rw [hd]; exact (h2 s hs).1, by omega, by omega⟩, fun s hs => (h2 s hs).2⟩, by omega, by omega⟩
theorem below_strs (p : List (List UInt8)) (n : Nat) : belowL n (p.flatMap cStr) = true := belowL_flat (f := cStr) (fun _ => rfl) p
theorem blankRow_zero {m : Nat} (h : m ≤ 4) : (if m * 2 = 0 then [] else (List.range (m * 2)).map fun j => [AV.int .i64 0, .int .i64 0].getD (j % 2) .any) = (blankRow m).flatMap cTrace := by
  match m, h with
  | 0, _ | 1, _ | 2, _ | 3, _ | 4, _ => rfl
theorem blankRow_len (m : Nat) : (blankRow m).length = m := by simp [blankRow]
theorem blankRow_take (m : Nat) : ((blankRow m).flatMap cTrace).take (m * 2) = (blankRow m).flatMap cTrace := List.take_of_length_le (by rw [length_rows cTrace_len]; simp [blankRow])
theorem set_lastK {l : List AV} {k : Nat} {a b : AV} (h : l.length = k) : (l ++ [a]).set k b = l ++ [b] := by subst h; simp
theorem replicate_cells (k : Nat) (row : List Trace) : (List.replicate k row).flatMap cTraces ++ [sliceOf cTrace row] = (List.replicate (k + 1) row).flatMap cTraces := by
  rw [List.replicate_succ', List.flatMap_append]; rfl
theorem traceErr_blank : traceErr ⟨0, 0⟩ = 0 := by decide
theorem okBlank.of {gs : List Glyph} {ps : List (List (List UInt8))} {k m ng np nr nc : Nat} (okg : okGlyphs gs) (h0 : 0 < ps.length) (h4 : ps.length ≤ 4) (hnp : ps.length ≤ np) (hg : gs.length ≤ ng) (hk0 : 0 < k) (hp : ∀ p ∈ ps, madePage gs p ∧ p.length ≤ nr ∧ (p.headD []).length ≤ nc) (hk : k ≤ 3) (hkr : k ≤ nr) (hm0 : 0 < m) (hm : m ≤ 4) : okBlank ⟨gs, ps, List.replicate k (blankRow m)⟩ ng np nr nc := by
  have hd : ((List.replicate k (blankRow m)).headD []) = blankRow m := by cases k with | zero => omega | succ k => rfl
  refine ⟨⟨okg, h0, h4, fun p hp' => (hp p hp').1, ⟨by simp; omega, by simp; omega, fun row hr => ?_, ?_, ?_⟩, ?_⟩, hg, hnp, fun p hp' => (hp p hp').2, by simp; omega, ?_⟩
  · rw [hd]; rw [List.eq_of_mem_replicate hr]
  · simp only; rw [hd, blankRow_len]; omega
  · simp only; rw [hd, blankRow_len]; omega
  · intro row hr t ht
    have e := List.eq_of_mem_replicate hr
    subst e
    rw [List.eq_of_mem_replicate ht]; exact traceErr_blank
  · intro row hr t ht
    have e := List.eq_of_mem_replicate hr
    subst e
    exact List.eq_of_mem_replicate ht
theorem BlankOf_walk (own : Bool) (h : List Blk) (i : Nat) (r : Option (List Int)) (x : Int) (ng np nr nc : Nat) (hg : 0 < ng ∧ ng ≤ 6) (hp : 0 < np ∧ np ≤ 4) (hr : 0 < nr ∧ nr ≤ 3) (hc : 0 < nc ∧ nc ≤ 4) (hi : h[i]? = some (diceB r x)) :
    CallsA Tryz.prog 103 [.ptr ⟨i, 0⟩ 0, .int .i64 ng, .int .i64 np, .int .i64 nr, .int .i64 nc] h (BlankP own h i ng np nr nc) := by
  have hl : i < h.length := (List.getElem?_eq_some_iff.1 hi).1
  refine CallsA.of_wpe [] { shut := [39, 57], hand := [5, 9, 10, 11] } 56 mixed Tryz.func103 (by kernel_rfl) rfl (by kernel_rfl) fun j hB hA => ?_; simp only [junk_succ, junk_zero, List.cons_append, List.nil_append, List.length_cons, List.length_nil, Nat.reduceAdd]
  simp (implicitDefEqProofs := false) (dsimp := false) only [go_sem]
  refine Rolls.use (GlyphsOf_ok _ i r x ng hg.2 hg.1 (get_left hi)) ?_
  rintro _ r x ⟨gs, rfl, okg, hgl⟩
  rw [set_left hl]
  simp (implicitDefEqProofs := false) (dsimp := false) only [go_sem, glyphA, get_past0, set_past0, get_past, set_past]
  refine Rolls.use (From_ok _ i r x 1 np (by omega) (by omega) (by omega) (by omega) (get_ahead hl)) ?_
  rintro _ r x ⟨n, rfl, hn⟩
  rw [set_ahead hl]
  obtain ⟨n, rfl⟩ : ∃ k : Nat, n = k := ⟨n.toNat, by omega⟩
  simp (implicitDefEqProofs := false) (dsimp := false) only [go_sem]
  refine WPI.turn (Turns.nilCell (i := h.length + 1) (j := 1) (sz := 1) (by simp only; rw [get_past]; rfl) rfl) ?_
  refine WPI.turn (Turns.nilCell (i := h.length + 1) (j := 2) (sz := 1) (by simp only [List.append_assoc]; rw [set_past, List.append_assoc, get_past]; rfl) rfl) ?_
  simp only [set_past, List.append_assoc, List.set_cons_succ, List.set_cons_zero, List.cons_append, List.nil_append, List.length_append, List.length_set, List.length_cons, List.length_nil, Nat.zero_add, Nat.reduceAdd]
  refine WP.loopI (fun (y : List (List (List UInt8))) s => (y.length ≤ n ∧ ∀ p ∈ y, madePage gs p ∧ p.length ≤ nr ∧ (p.headD []).length ≤ nc) ∧ s.sl.length = 61 ∧ s.df = [] ∧ s.gh = {} ∧ (∃ r x, s.hp = h.set i (diceB r x) ++ [.cells 0 [.nilsl, .nilsl, .nilsl], .cells 0 [.psl (gs.flatMap cGlyph) gs.length, .sl ⟨h.length + 2, y.length⟩ 1 0 y.length, .sl ⟨h.length + 3, 0⟩ 1 0 0], .cells y.length (y.flatMap cPage), .cells 0 []]) ∧ evA s.sl (.tmp 0) = .ptr ⟨i, 0⟩ 0 ∧ evA s.sl (.tmp 3) = .int .i64 nr ∧ evA s.sl (.tmp 4) = .int .i64 nc ∧ evA s.sl (.tmp 10) = .ptr ⟨h.length, 0⟩ 0 ∧ evA s.sl (.tmp 11) = .ptr ⟨h.length + 1, 0⟩ 0 ∧ evA s.sl (.tmp 12) = .int .i64 ((n - y.length : Nat))) (fun (y : List (List (List UInt8))) => n - y.length) ([]) ?_ ?_
  · simp (implicitDefEqProofs := false) (dsimp := false) only [go_sem, Nat.zero_le]
    exact ⟨by simp, ⟨r, x, rfl⟩, rfl⟩
  · rintro ps ⟨sl, df, hp, gh⟩ ⟨ab, al, rfl, rfl, ah, a0, a3, a4, a10, a11, a12⟩
    simp only at ab al ah a0 a3 a4 a10 a11 a12
    obtain ⟨j, rfl⟩ := slots_lit al; clear al; simp only [junk_succ, junk_zero, evA_tmp, nth_16, nth_four, nth_one, nth_zero, Nat.zero_add, Nat.reduceAdd] at  a0 a3 a4 a10 a11 a12 ⊢
    refine wp_ok (so := { shut := [39, 57], hand := [5, 9, 10, 11] }) mixed _ (by kernel_rfl) ?_
    obtain ⟨r, x, rfl⟩ := ah
    by_cases hm : ps.length < n
    · have hs : (((n - ps.length : Nat) : Int) > 0) = True := eq_true (by omega)
      simp (implicitDefEqProofs := false) (dsimp := false) only [go_sem, a0, a3, a4, a10, a11, a12, hs, decide_true]
      obtain ⟨_, r1, x1, ⟨n1, rfl, hn1⟩, c1⟩ := From_det r x 1 nr (by omega) (by omega) (by omega) (by omega)
      obtain ⟨n1, rfl⟩ : ∃ k : Nat, n1 = k := ⟨n1.toNat, by omega⟩
      obtain ⟨_, r2, x2, ⟨m1, rfl, hm1⟩, c2⟩ := From_det r1 x1 1 nc (by omega) (by omega) (by omega) (by omega)
      obtain ⟨m1, rfl⟩ : ∃ k : Nat, m1 = k := ⟨m1.toNat, by omega⟩
      obtain ⟨_, r3, x3, ⟨pg, rfl, hpg⟩, c3⟩ := PageOf_det gs okg n1 m1 (by omega) (by omega) r2 x2
      refine WP.noisy (so := { shut := [39, 57], }) 13 [7, 10, 11] [0, 0, 0, 0, 0, 0, 0, 0, 0, 0, 0, 0, 3] [3, 3, 2, 2, 2, 0, 0, 0, 1, 1, 0, 0, 3] ((fun T => [h.set i (diceB r x) ++ T, h.set i (diceB r1 x1) ++ T, h.set i (diceB r2 x2) ++ T, h.set i (diceB r3 x3) ++ T]) _) rfl mixed (by kernel_rfl) (by kernel_rfl) (by decide) (by kernel_rfl) rfl ?_
      simp (implicitDefEqProofs := false) (dsimp := false) only [go_sem, get_past0, get_past]
      refine turn_use hl (fun h hi => c1 h i hi) ?_
      simp (implicitDefEqProofs := false) (dsimp := false) only [go_sem]
      refine turn_use hl (fun h hi => c2 h i hi) ?_
      simp (implicitDefEqProofs := false) (dsimp := false) only [go_sem]
      refine turn_use hl (fun h hi => c3 h i hi) ?_
      have hl1 : (ps.flatMap cPage).length = ps.length := cPage_len1 ps
      simp (implicitDefEqProofs := false) (dsimp := false) only [go_sem, get_past0, get_past, set_past0, set_past]
      have hw : IntKind.i64.wrap (((n - ps.length : Nat) : Int) - 1) = ((n - (ps ++ [pg]).length : Nat) : Int) := by rw [List.length_append, List.length_singleton, wrap64 (by omega) (by omega)]; omega
      refine ⟨below_strs pg _, ⟨hl1, by omega⟩, ps ++ [pg], ⟨⟨by simp; omega, ?_⟩, ⟨r3, x3, ?_⟩, hw⟩, by simp; omega⟩
      · intro p hp'
        rcases List.mem_append.1 hp' with hp' | hp'
        · exact ab.2 p hp'
        · rw [List.mem_singleton.1 hp']
          exact madePage.of hpg (by omega) (by omega) (by omega) (by omega) hr.2 hc.2
      · simp [cPage, sliceOf]
    · have hs : (((n - ps.length : Nat) : Int) > 0) = False := eq_false (by omega)
      obtain ⟨an, ap⟩ := ab
      have e : n = ps.length := by omega
      subst e
      simp (implicitDefEqProofs := false) (dsimp := false) only [go_sem, a0, a3, a4, a10, a11, a12, hs, decide_false]
      refine Rolls.use (From_ok _ i r x 1 nr (by omega) (by omega) (by omega) (by omega) (get_ahead hl)) ?_
      rintro _ r x ⟨n1, rfl, hn1⟩
      rw [set_ahead hl]
      obtain ⟨n1, rfl⟩ : ∃ k : Nat, n1 = k := ⟨n1.toNat, by omega⟩
      simp (implicitDefEqProofs := false) (dsimp := false) only [go_sem]
      refine Rolls.use (From_ok _ i r x 1 nc (by omega) (by omega) (by omega) (by omega) (get_ahead hl)) ?_
      rintro _ r x ⟨m1, rfl, hm1⟩
      rw [set_ahead hl]
      obtain ⟨m1, rfl⟩ : ∃ k : Nat, m1 = k := ⟨m1.toNat, by omega⟩
      simp (implicitDefEqProofs := false) (dsimp := false) only [go_sem]
      refine WP.loopI (fun (k : Nat) s => (k ≤ n1) ∧ s.sl.length = 61 ∧ s.df = [] ∧ s.gh = {} ∧ (∃ J, s.hp = h.set i (diceB r x) ++ .cells 0 [.nilsl, .nilsl, .nilsl] :: .cells 0 [.psl (gs.flatMap cGlyph) gs.length, .sl ⟨h.length + 2, ps.length⟩ 1 0 ps.length, .sl ⟨h.length + 3, k⟩ 1 0 k] :: .cells ps.length (ps.flatMap cPage) :: .cells k ((List.replicate k (blankRow m1)).flatMap cTraces) :: J) ∧ evA s.sl (.tmp 10) = .ptr ⟨h.length, 0⟩ 0 ∧ evA s.sl (.tmp 11) = .ptr ⟨h.length + 1, 0⟩ 0 ∧ evA s.sl (.tmp 13) = .int .i64 n1 ∧ evA s.sl (.tmp 14) = .int .i64 m1 ∧ evA s.sl (.tmp 15) = .int .i64 k) (fun (k : Nat) => n1 - k) (0) ?_ ?_
      · simp (implicitDefEqProofs := false) (dsimp := false) only [go_sem, Nat.zero_le]
        exact ⟨_, rfl, rfl⟩
      · rintro k ⟨sl, df, hp, gh⟩ ⟨bb, bl, rfl, rfl, bh, b10, b11, b13, b14, b15⟩
        simp only at bb bl bh b10 b11 b13 b14 b15
        obtain ⟨j, rfl⟩ := slots_lit bl; clear bl; simp only [junk_succ, junk_zero, evA_tmp, nth_16, nth_four, nth_one, nth_zero, Nat.zero_add, Nat.reduceAdd] at  b10 b11 b13 b14 b15 ⊢
        refine wp_ok (so := { shut := [39, 57], hand := [5, 9, 10, 11] }) mixed _ (by kernel_rfl) ?_
        obtain ⟨J, rfl⟩ := bh
        by_cases hk : k < n1
        · simp (implicitDefEqProofs := false) (dsimp := false) only [go_sem, b10, b11, b13, b14, b15, nat_lt hk, decide_true]
          refine WP.noisy (so := { shut := [39, 57], }) 5 [3] [0, 0, 0, 0, 1] [1, 1, 0, 0, 1] ((fun T => [h.set i (diceB r x) ++ T, h.set i (diceB r x) ++ (T ++ [.cells 0 ((blankRow m1).flatMap cTrace)])]) _) rfl mixed (by kernel_rfl) (by kernel_rfl) (by decide) (by kernel_rfl) rfl ?_
          simp (implicitDefEqProofs := false) (dsimp := false) only [go_sem, get_past0, get_past, set_past0, set_past]
          have hlk : ((List.replicate k (blankRow m1)).flatMap cTraces).length = k := by rw [cells_len1, List.length_replicate]
          refine ⟨⟨by omega, by omega⟩, blankRow_zero (by omega), by omega, ⟨hlk, by omega⟩, ?_⟩
          refine WPI.turn (Turns.seal_cell (i := h.length + 3) (g := k + 1) (j := k) (a := .sl ⟨h.length + (J.length + 1 + 1 + 1 + 1), 0⟩ 2 0 m1) (a' := sliceOf cTrace (blankRow m1)) (by simp only; rw [get_past]; rfl) (by rw [List.getElem?_append_right (by omega), hlk, Nat.sub_self]; rfl) (by simp only [sealV]; rw [get_past]; simp [sliceOf, blankRow_take, blankRow_len]) (by simp [nmOf])) ?_
          simp only [nmOf, set_past, List.set_cons_succ, List.set_cons_zero]
          rw [set_lastK hlk]
          refine wp_shut [] (so := { shut := [39, 57], }) mixed _ (by kernel_rfl) ?_
          simp (implicitDefEqProofs := false) (dsimp := false) only [go_sem]
          exact ⟨k + 1, ⟨by omega, ⟨_, rfl, ⟨rfl, replicate_cells _ _⟩, rfl⟩, wrap_succ (by omega)⟩, by omega⟩
        · have hs : ((k : Int) < (n1 : Int)) = False := eq_false (by omega)
          have e : k = n1 := by omega
          subst e
          have hlk : ((List.replicate k (blankRow m1)).flatMap cTraces).length = k := by rw [cells_len1, List.length_replicate]
          simp (implicitDefEqProofs := false) (dsimp := false) only [go_sem, b10, b11, b13, b14, b15, hs, decide_false]
          refine WPI.turn (Turns.seal_cell (i := h.length + 1) (g := 0) (j := 2) (a := .sl ⟨h.length + 3, k⟩ 1 0 k) (a' := sliceOf cTraces (List.replicate k (blankRow m1))) (by simp only; rw [get_past]; rfl) rfl (by simp only [sealV]; rw [get_past]; simp [sliceOf, List.take_of_length_le (Nat.le_of_eq hlk)]) (by simp [nmOf])) ?_
          simp only [nmOf, set_past, List.set_cons_succ, List.set_cons_zero]
          have hob : okBlank ⟨gs, ps, List.replicate k (blankRow m1)⟩ ng np nr nc := okBlank.of okg (by omega) (by omega) (by omega) hgl (by omega) (fun p hp => ap p hp) (by omega) (by omega) (by omega) (by omega)
          have hbl : ∀ n, belowL n (gs.flatMap cGlyph) = true ∧ belowL n (ps.flatMap cPage) = true ∧ belowL n ((List.replicate k (blankRow m1)).flatMap cTraces) = true := fun n => by
            have := belowL_mono (Nat.zero_le n) _ (slices_below ⟨gs, ps, List.replicate k (blankRow m1)⟩)
            simpa [belowL, sliceOf, below] using this
          cases own with
          | true =>
            refine wp_shut [] (so := { shut := [39, 57], }) mixed _ (by kernel_rfl) ?_
            simp (implicitDefEqProofs := false) (dsimp := false) only [go_sem, get_past0, get_past, set_past0, set_past]
            have tk : ∀ A B C K, List.take (h.length + 3) (h.set i (diceB r x) ++ A :: B :: C :: K) = h.set i (diceB r x) ++ [A, B, C] := fun A B C K => by
              rw [List.take_append, List.length_set, List.take_of_length_le (by simp), Nat.add_sub_cancel_left]; rfl
            refine ⟨_, h.length + 3, rfl, by omega, ?_, ?_, ⟨gs, ps, List.replicate k (blankRow m1)⟩, r, x, hob, ⟨_, _, rfl, tk _ _ _ _⟩⟩
            · simp only [below, belowL, hbl, Bool.and_true, Bool.true_and]; simp
            · rw [tk, List.all_append, all_set (allBelow_mono (by omega) hB) (diceB_below _ _ _)]
              simp [belowBlk, belowL, below, hbl]
          | false =>
            refine WPI.turn (Turns.seal_cell (i := h.length + 1) (g := 0) (j := 1) (a := .sl ⟨h.length + 2, ps.length⟩ 1 0 ps.length) (a' := sliceOf cPage ps) (by simp only; rw [get_past]; rfl) rfl (by simp only [sealV]; rw [get_past]; simp [sliceOf, List.take_of_length_le (Nat.le_of_eq (cPage_len1 ps))]) (by simp [nmOf])) ?_
            simp only [nmOf, set_past, List.set_cons_succ, List.set_cons_zero]
            refine wp_shut [] (so := { shut := [39, 57], }) mixed _ (by kernel_rfl) ?_
            simp (implicitDefEqProofs := false) (dsimp := false) only [go_sem, get_past0, get_past, set_past0, set_past]
            refine ⟨_, h.length, rfl, Nat.le_refl _, ?_, ?_, ⟨gs, ps, List.replicate k (blankRow m1)⟩, r, x, hob, rfl, ?_⟩
            · simp only [below, belowL, hbl, Bool.and_true]
            · rw [List.take_left' (by simp)]; exact all_set hB (diceB_below _ _ _)
            · rw [List.take_left' (by simp)]
end Go.Mac
namespace Go.Mac
open Go Go.Conc Go.Proofs
set_option maxRecDepth 4000
def layK (k : Nat) : Lay := layN ((k / 18 : Nat) : Int) (k % 18)
def laysTo (k : Nat) : List Lay := (List.range k).map layK
theorem laysTo_len (k : Nat) : (laysTo k).length = k := by simp [laysTo]
theorem laysTo_succ (k : Nat) : laysTo (k + 1) = laysTo k ++ [layK k] := by simp [laysTo, List.range_succ]
theorem laysTo_get {n k : Nat} (h : k < n) : (laysTo n)[k]'(by rw [laysTo_len]; exact h) = layK k := by simp [laysTo]
theorem layK_at {p t d e : Nat} (ht : t < 2) (hd : d < 3) (he : e < 3) : cLay (layK (18 * p + 9 * t + 3 * d + e)) = [.int .i64 p, .bool ((t : Int) == 1), .int .i64 ((d : Int) - 1), .int .i64 ((e : Int) - 1)] := by
  have e1 : (18 * p + 9 * t + 3 * d + e) / 18 = p := by omega
  have e2 : (18 * p + 9 * t + 3 * d + e) % 18 = 9 * t + 3 * d + e := by omega
  have e3 : (9 * t + 3 * d + e) % 9 / 3 = d := by omega
  have e4 : (9 * t + 3 * d + e) % 3 = e := by omega
  have e5 : decide (9 ≤ 9 * t + 3 * d + e) = ((t : Int) == 1) := by rw [Bool.eq_iff_iff]; simp; omega
  simp only [layK, layN, cLay, e1, e2, e3, e4, e5]
end Go.Mac
namespace Go.Mac
open Go Go.Conc Go.Proofs
set_option maxRecDepth 4000
def cellB (b : Board) (r c : Int) : Bool := decide (0 ≤ r) && decide (r < b.cells.length) && (decide (0 ≤ c) && decide (c < (b.cells.headD []).length))
def ShownR (b : Board) (l : Lay) (row col : Int) : Int × Int :=
  if boardErr b ≠ 0 then (0, boardErr b)
  else if layErr b l ≠ 0 then (0, layErr b l)
  else if cellB b row col = false then (0, 3)
  else (shownB (mapB b.glyphs) (b.pages.getD l.page.toNat []) l row col, 0)
theorem layErr_zero {b : Board} {l : Lay} (h : layErr b l = 0) : 0 ≤ l.page ∧ l.page < b.pages.length ∧ -1 ≤ l.down ∧ l.down ≤ 1 ∧ -1 ≤ l.right ∧ l.right ≤ 1 := by
  unfold layErr at h
  by_cases c1 : 0 ≤ l.page ∧ l.page < b.pages.length
  · rw [if_neg (by simpa using c1)] at h
    by_cases c2 : 1 < l.down ∨ l.down < -1 ∨ 1 < l.right ∨ l.right < -1
    · rw [if_pos c2] at h; cases h
    · omega
  · rw [if_pos c1] at h; cases h
theorem dice_new (r : Option (List Int)) {h : List Blk} (hb : h.all (belowBlk h.length) = true) : ∃ v n, AV.ptr ⟨h.length, 0⟩ 0 = v ∧ h.length ≤ n ∧ below n v = true ∧ ((h ++ [diceB r 1]).take n).all (belowBlk n) = true ∧ AEnd.ret v = AEnd.ret (.ptr ⟨h.length, 0⟩ 0) ∧ (h ++ [diceB r 1]).take n = h ++ [diceB r 1] := by
  refine ⟨_, h.length + 1, rfl, by omega, by simp [below], ?_, rfl, List.take_of_length_le (by simp)⟩
  rw [List.take_of_length_le (by simp), List.all_append, allBelow_mono (by omega) hb]
  simp [diceB_below]
theorem NewDice_ok (r : Option (List Int)) (h : List Blk) : CallsA Tryz.prog 12 [leftA r] h fun e h' => e = .ret (.ptr ⟨h.length, 0⟩ 0) ∧ h' = h ++ [diceB r 1] := by
  cases r with
  | none =>
    refine CallsA.of_wpe [] {} 5 mixed Tryz.func12 (by kernel_rfl) rfl (by kernel_rfl) fun j hB hA => ?_; simp only [junk_succ, junk_zero, List.cons_append, List.nil_append, List.length_cons, List.length_nil, Nat.reduceAdd]
    simp (implicitDefEqProofs := false) (dsimp := false) only [go_sem, leftA]
    exact dice_new none hB
  | some l =>
    refine CallsA.of_wpe [] {} 5 mixed Tryz.func12 (by kernel_rfl) rfl (by kernel_rfl) fun j hB hA => ?_; simp only [junk_succ, junk_zero, List.cons_append, List.nil_append, List.length_cons, List.length_nil, Nat.reduceAdd]
    simp (implicitDefEqProofs := false) (dsimp := false) only [go_sem, leftA, ints]
    exact dice_new (some l) hB
theorem Shown_ok (b : Board) (l : Lay) (row col : Int) (hd : isI64 l.down) (hr : isI64 l.right) : PureA Tryz.prog 28 [.agg (brdA b), .agg (cLay l), .int .i64 row, .int .i64 col] (pairA (ShownR b l row col)) := by
  refine PureA.of_wpp {} 31 mixed Tryz.func28 (by kernel_rfl) rfl (by kernel_rfl) (rfl) fun h j hB => ?_
  simp only [junk_succ, junk_zero, List.cons_append, List.nil_append, List.length_cons, List.length_nil, Nat.reduceAdd]
  simp (implicitDefEqProofs := false) (dsimp := false) only [go_sem, brdA, cLay]
  refine open_use (fun e0 => ?_) (fun e1 e2 x y z t f1 f2 f3 f4 => ?_)
  · simp (implicitDefEqProofs := false) (dsimp := false) only [go_sem, bdA]
    (first | refine CallsA.use (checkLay_ok b (mapB b.glyphs) l hd hr) ?_ | refine QuietCalls.use (checkLay_ok b (mapB b.glyphs) l hd hr) ?_)
    simp (implicitDefEqProofs := false) (dsimp := false) only [go_sem]
    refine ⟨fun c => ?_, fun c => ?_⟩
    · have c' : layErr b l ≠ 0 := by simpa using c
      rw [ShownR, if_neg (by simp [e0]), if_pos c']; rfl
    · have c0 : layErr b l = 0 := by simpa using c
      obtain ⟨p0, p1, q⟩ := layErr_zero c0
      have okb := okBoard.of e0
      (first | refine CallsA.use (hasCell_ok b (mapB b.glyphs) row col okb.cells.pos) ?_ | refine QuietCalls.use (hasCell_ok b (mapB b.glyphs) row col okb.cells.pos) ?_)
      simp (implicitDefEqProofs := false) (dsimp := false) only [go_sem]
      refine ⟨fun c1 => ?_, fun c1 => ?_⟩
      · have c2 : cellB b row col = false := by simpa only [cellB, Bool.not_eq_true'] using c1
        rw [ShownR, if_neg (by simp [e0]), if_neg (by simp [c0]), if_pos c2]; rfl
      · have c2 : cellB b row col = true := by simpa [cellB] using c1
        have c3 := c2
        simp only [cellB, Bool.and_eq_true, decide_eq_true_eq] at c3
        have g1 := okb.cells.most
        have g2 := okb.cells.wmost
        have hp : l.page.toNat < b.pages.length := by omega
        have hpg : b.pages.getD l.page.toNat [] = b.pages[l.page.toNat] := by simp [List.getD, hp]
        (first | refine CallsA.use (shown_ok b (mapB b.glyphs) l row col l.page.toNat (by omega) hp (okb.page _ (List.getElem_mem hp)) (by omega) (by omega) (by omega) (by omega)) ?_ | refine QuietCalls.use (shown_ok b (mapB b.glyphs) l row col l.page.toNat (by omega) hp (okb.page _ (List.getElem_mem hp)) (by omega) (by omega) (by omega) (by omega)) ?_)
        simp (implicitDefEqProofs := false) (dsimp := false) only [go_sem]
        rw [ShownR, if_neg (by simp [e0]), if_neg (by simp [c0]), if_neg (by simp [c2]), hpg]; rfl
  · simp only [leafA] at f1 f2 f3 f4
    simp (implicitDefEqProofs := false) (dsimp := false) only [go_sem, f1, f2, f3, f4, e2, eq_false e1]
    rw [ShownR, if_pos e1]; exact fun _ => rfl
end Go.Mac

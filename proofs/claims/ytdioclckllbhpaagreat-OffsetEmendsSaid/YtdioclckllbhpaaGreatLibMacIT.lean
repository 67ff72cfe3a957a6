/- A part of the logic and of the contracts of the functions that the statement reaches; the statement itself is proved in the last text. -/
import Derived.Attr
import Derived.Test.YtdioclckllbhpaaGreatLibMacRS

set_option linter.all false
set_option linter.unusedVariables false
set_option linter.unusedSimpArgs false
set_option linter.unnecessarySimpa false
namespace Go.Mac
open Go Go.Conc
section
variable {P : Program} {fk : FK} {Q : AExit → AS → Prop} {s : AS} {its : List Item}
theorem HR.allBelow {c : Cx} {w : World} {h : List Blk} (x : HR c w h) : h.all (belowBlk h.length) = true :=
  List.all_eq_true.2 fun b hb => by obtain ⟨i, hi⟩ := List.mem_iff_getElem?.1 hb; exact x.below hi
theorem WPI.of_below (h : s.hp.all (belowBlk s.hp.length) = true → belowL s.hp.length s.sl = true → WPI P fk its Q s) : WPI P fk its Q s :=
  fun main Stop b k cs base c w tmps ds h1 h2 h3 h4 => h h3.hp.allBelow (by rw [h3.hp.len]; exact VRL.below _ _ h3.sl) main Stop b k cs base c w tmps ds h1 h2 h3 h4
theorem YieldA.of_below {n : Nm} {args : List AV} {h : List Blk} {Post : AEnd → List Blk → Prop} (y : h.all (belowBlk h.length) = true → YieldA P n args h Post) : YieldA P n args h Post :=
  fun main Stop fr cs c w vargs l r h1 h2 h3 h4 h5 => y h2.allBelow main Stop fr cs c w vargs l r h1 h2 h3 h4 h5
theorem belowBlk_mono {n m : Nat} (hnm : n ≤ m) (b : Blk) (h : belowBlk n b = true) : belowBlk m b = true := by
  have key : ∀ l, belowL n l = true → belowL m l = true := fun l hl => by
    rw [belowL_all] at *
    exact List.all_eq_true.2 fun a ha => below_mono hnm a (List.all_eq_true.1 hl a ha)
  cases b <;> simp only [belowBlk, Bool.and_eq_true] at * <;> try trivial
  · exact key _ h
  · exact ⟨key _ h.1, key _ h.2⟩
  · exact key _ h
theorem allBelow_mono {n m : Nat} (hnm : n ≤ m) {l : List Blk} (h : l.all (belowBlk n) = true) : l.all (belowBlk m) = true :=
  List.all_eq_true.2 fun b hb => belowBlk_mono hnm b (List.all_eq_true.1 h b hb)
def IterA (P : Program) (g : FuncId) (cap : List AV) (xs : List (List AV)) : Prop :=
  ∀ (n : Nm) (L : Nat) (J : Nat → List Blk → Prop) (S : List Blk → Prop), n.gen = 0 →
    (∀ k h, J k h → h.length = L ∧ h.all (belowBlk L) = true ∧ n.id < L ∧ ∀ hk : k < xs.length, loopAr h n = some xs[k].length) →
    (∀ h, S h → h.length = L ∧ h.all (belowBlk L) = true) →
    (∀ k h own (hk : k < xs.length), J k h → YieldA P n xs[k] (h ++ own) fun e h' => ∃ b h1, e = .ret (.bool b) ∧ h' = h1 ++ own ∧ if b = true then J (k + 1) h1 else S h1) →
    ∀ h, J 0 h → CallsA P g (.yield n :: cap) h fun e h' => e = .ret (.tup []) ∧ (J xs.length h' ∨ S h')
def withB (h : List Blk) (f : List Blk → Prop) : Prop := f h
theorem withB_eq {h : List Blk} {f : List Blk → Prop} : withB h f = f h := rfl
@[congr] theorem withB_congr {h h' : List Blk} {f : List Blk → Prop} (e : h = h') : withB h f = withB h' f := by rw [e]
def busyK (b : Option Blk) (n : Nm) (hp : List Blk) (K : List Blk → Prop) : Prop :=
  match b with
  | some (.loop .ready p f sl ps a bd) => K (hp.set n.id (.loop .busy p f sl ps a bd))
  | _ => False
def asgK (P : Program) (so : Opt) (fk : FK) (n : Nm) (body : Code) (K : AExit → AS → Prop) : AExit → AS → Prop
  | .normal, s1 => s1.df = [] ∧ busyK (s1.hp[n.id]?) n s1.hp fun hp => wp P so fk body K ⟨s1.sl, s1.df, hp, s1.gh⟩
  | _, _ => False
def loopH (h : List Blk) (st : LoopState) (pend : Option Code) (fn : FuncId) (sl : List AV) (ps : Array Tmp) (a b : Code) (own : List Blk) : List Blk := h ++ .defd :: .loop st pend fn sl ps a b :: own
def roundP (C : List Blk → List Blk → Prop) (I : List Blk → Prop) (T : Code → List Blk → Prop) : AExit → AS → Prop
  | .normal, s => s.df = [] ∧ s.gh = {} ∧ ∃ h1, C s.hp h1 ∧ I h1
  | .exit id, s => s.df = [] ∧ s.gh = {} ∧ ∃ h1, C s.hp h1 ∧ T (.exit id) h1
  | .goto l, s => s.df = [] ∧ s.gh = {} ∧ ∃ h1, C s.hp h1 ∧ T (.goto l) h1
  | .ret, s => s.df = [] ∧ s.gh = {} ∧ ∃ h1, C s.hp h1 ∧ T .ret h1
  | .panic _, _ => False
theorem WP.rangeIter {f : Operand} {params : Array Tmp} {assign body : Code} {g : FuncId} {cap : List AV} {xs : List (List AV)} (so : Opt) (hm : P.follows .mixedOrders = true) (hda : drawsOk so assign = true) (hdb : drawsOk so body = true) (hrnd : fk.rnd = false) (hf : evA s.sl f = .fn (.func g) [] cap) (hc : callable P g) (hgt : s.gh.todo = []) (hfs : (P.funcs[fk.fn]?).isSome = true)
    (hit : IterA P g cap xs) (hx : ∀ x ∈ xs, x.length = params.size) (I : Nat → List Blk → Prop) (T : Code → List Blk → Prop)
    (hI : ∀ k h, s.hp.all (belowBlk s.hp.length) = true → I k h → h.length = s.hp.length ∧ h.all (belowBlk s.hp.length) = true) (hT : ∀ c h, s.hp.all (belowBlk s.hp.length) = true → T c h → h.length = s.hp.length ∧ h.all (belowBlk s.hp.length) = true)
    (h0 : I 0 s.hp)
    (hround : ∀ k h own (hk : k < xs.length), I k h → h.length = s.hp.length → wp P so ⟨fk.fn, true, h.length + (2 + own.length)⟩ assign
      (asgK P so ⟨fk.fn, true, h.length + (2 + own.length)⟩ ⟨s.hp.length + 1, 0⟩ body (roundP (fun hp h1 => ∃ extra, hp = loopH h1 .busy none fk.fn s.sl params assign body (own ++ extra)) (I (k + 1)) T))
      ⟨setParams s.sl params.toList xs[k], [], loopH h .ready none fk.fn s.sl params assign body own, {}⟩)
    (hend : ∀ h, I xs.length h → Q .normal { s with df := .mark ⟨s.hp.length, 0⟩ :: s.df, hp := h ++ [.defd, .dead] })
    (hstop : ∀ c h, T c h → jumpQ Q (some c) { s with df := .mark ⟨s.hp.length, 0⟩ :: s.df, hp := h ++ [.defd, .dead] }) : WP P fk (.rangeFunc f params assign body) Q s := by
  refine WPI.of_below fun hB hBs => ?_
  refine WP.rangeFunc hrnd hf hc hgt ?_
  have hslots : belowBlk (s.hp.length + 2) (.loop .ready none fk.fn s.sl params assign body) = true := by
    simp only [belowBlk]
    rw [belowL_all] at *
    exact List.all_eq_true.2 fun a ha => below_mono (by omega) a (List.all_eq_true.1 hBs a ha)
  have hall : ∀ {h : List Blk} {st : LoopState} {p : Option Code}, h.length = s.hp.length → h.all (belowBlk s.hp.length) = true → (loopH h st p fk.fn s.sl params assign body []).length = s.hp.length + 2 ∧ (loopH h st p fk.fn s.sl params assign body []).all (belowBlk (s.hp.length + 2)) = true := fun {h st p} e1 e2 => by
    refine ⟨by simp [loopH, e1], ?_⟩
    simp only [loopH, List.all_append, List.all_cons, List.all_nil, Bool.and_true, Bool.and_eq_true]
    exact ⟨allBelow_mono (by omega) e2, rfl, hslots⟩
  refine ((hit ⟨s.hp.length + 1, 0⟩ (s.hp.length + 2) (fun k hh => ∃ h, I k h ∧ hh = loopH h .ready none fk.fn s.sl params assign body []) (fun hh => ∃ c h, T c h ∧ hh = loopH h .done (some c) fk.fn s.sl params assign body []) rfl ?_ ?_ ?_ _ ⟨s.hp, h0, rfl⟩)).mono ?_
  · rintro k hh ⟨h, hi, rfl⟩
    obtain ⟨e1, e2⟩ := hI k h hB hi
    refine ⟨(hall e1 e2).1, (hall e1 e2).2, by simp, fun hk => ?_⟩
    simp only [loopAr, loopH, ← e1]
    rw [List.getElem?_append_right (by omega)]
    simp [hx _ (List.getElem_mem hk)]
  · rintro hh ⟨c, h, hi, rfl⟩
    obtain ⟨e1, e2⟩ := hT c h hB hi
    exact hall e1 e2
  · rintro k hh own hk ⟨h, hi, rfl⟩
    refine YieldA.of_below fun hBB => ?_
    obtain ⟨e1, e2⟩ := hI k h hB hi
    have eh : loopH h .ready none fk.fn s.sl params assign body [] ++ own = loopH h .ready none fk.fn s.sl params assign body own := by simp [loopH]
    rw [eh] at hBB ⊢
    have el : (loopH h .ready none fk.fn s.sl params assign body own).length = h.length + (2 + own.length) := by simp [loopH]; omega
    have hat : ∀ (h' : List Blk) (st : LoopState) (p : Option Code) (o : List Blk), h'.length = s.hp.length → (loopH h' st p fk.fn s.sl params assign body o)[s.hp.length + 1]? = some (.loop st p fk.fn s.sl params assign body) := fun h' st p o e => by
      simp only [loopH]
      rw [List.getElem?_append_right (by omega)]
      simp [e]
    have hset : ∀ (h' : List Blk) (st st' : LoopState) (p p' : Option Code) (o : List Blk), h'.length = s.hp.length → (loopH h' st p fk.fn s.sl params assign body o).set (s.hp.length + 1) (.loop st' p' fk.fn s.sl params assign body) = loopH h' st' p' fk.fn s.sl params assign body o := fun h' st st' p p' o e => by
      simp only [loopH]
      rw [List.set_append_right _ _ (by omega)]
      simp [e]
    refine YieldA.of_round hfs (hat h _ _ _ e1) rfl ?_
    rw [el]
    refine (wp_ok hm _ hda (hround k h own hk hi e1)).mono fun e s1 q => ?_
    cases e with
    | normal =>
      obtain ⟨g1, g2⟩ := q
      refine ⟨g1, ?_⟩
      unfold busyK at g2
      split at g2
      · rename_i p fn2 sl2 ps2 a2 b2 hb2
        refine ⟨p, fn2, sl2, ps2, a2, b2, hb2, ?_⟩
        refine (wp_ok hm _ hdb g2).mono fun e2 s2 q2 => ?_
        have fin : ∀ (jump : Option Code) (h1 extra : List Blk), s2.df = [] → s2.gh = {} → h1.length = s.hp.length → h1.all (belowBlk s.hp.length) = true → s2.hp = loopH h1 .busy none fk.fn s.sl params assign body (own ++ extra) →
            (match jump with | none => I (k + 1) h1 | some c => T c h1) →
            roundEnd ⟨s.hp.length + 1, 0⟩ (h.length + (2 + own.length)) (fun e h' => ∃ b h1, e = .ret (.bool b) ∧ h' = h1 ++ own ∧ if b = true then (∃ h, I (k + 1) h ∧ h1 = loopH h .ready none fk.fn s.sl params assign body []) else ∃ c h, T c h ∧ h1 = loopH h .done (some c) fk.fn s.sl params assign body []) jump s2 := by
          intro jump h1 extra d1 d2 d3 d4 d5 d6
          have htk : ∀ (st : LoopState) (p : Option Code), (loopH h1 st p fk.fn s.sl params assign body (own ++ extra)).take (h.length + (2 + own.length)) = loopH h1 st p fk.fn s.sl params assign body [] ++ own := fun st p => by
            have : loopH h1 st p fk.fn s.sl params assign body (own ++ extra) = (loopH h1 st p fk.fn s.sl params assign body [] ++ own) ++ extra := by simp [loopH]
            rw [this, List.take_left' (by simp [loopH]; omega)]
          refine ⟨d1, d2, by simp only; omega, .busy, none, fk.fn, s.sl, params, assign, body, by rw [d5]; exact hat h1 _ _ _ d3, ?_, ?_⟩
          · rw [d5, htk]
            simp only [List.all_append, Bool.and_eq_true]
            refine ⟨allBelow_mono (by omega) (hall (st := .busy) (p := none) d3 d4).2, ?_⟩
            rw [el] at hBB
            simp only [loopH, List.all_append, List.all_cons, Bool.and_eq_true] at hBB
            exact hBB.2.2.2
          · rw [d5, hset h1 _ _ _ _ _ d3, htk]
            refine ⟨jump.isNone, _, rfl, rfl, ?_⟩
            cases jump with
            | none => exact ⟨h1, d6, rfl⟩
            | some c => exact ⟨c, h1, d6, rfl⟩
        cases e2 with
        | normal =>
          obtain ⟨g3, g4, h1, ⟨extra, g5⟩, g6⟩ := q2
          obtain ⟨i1, i2⟩ := hI _ _ hB g6
          exact ⟨s2, .refl, fin none h1 extra g3 g4 i1 i2 g5 g6⟩
        | exit id =>
          obtain ⟨g3, g4, h1, ⟨extra, g5⟩, g6⟩ := q2
          obtain ⟨i1, i2⟩ := hT _ _ hB g6
          exact ⟨s2, .refl, fin (some (.exit id)) h1 extra g3 g4 i1 i2 g5 g6⟩
        | goto l =>
          obtain ⟨g3, g4, h1, ⟨extra, g5⟩, g6⟩ := q2
          obtain ⟨i1, i2⟩ := hT _ _ hB g6
          exact ⟨s2, .refl, fin (some (.goto l)) h1 extra g3 g4 i1 i2 g5 g6⟩
        | ret =>
          obtain ⟨g3, g4, h1, ⟨extra, g5⟩, g6⟩ := q2
          obtain ⟨i1, i2⟩ := hT _ _ hB g6
          exact ⟨s2, .refl, fin (some .ret) h1 extra g3 g4 i1 i2 g5 g6⟩
        | panic v => exact q2.elim
      · exact g2.elim
    | exit id => exact q.elim
    | goto l => exact q.elim
    | ret => exact q.elim
    | panic v => exact q.elim
  · rintro e h' ⟨rfl, q⟩
    have hat : ∀ (h' : List Blk) (st : LoopState) (p : Option Code) (o : List Blk), h'.length = s.hp.length → (loopH h' st p fk.fn s.sl params assign body o)[s.hp.length + 1]? = some (.loop st p fk.fn s.sl params assign body) := fun h' st p o e => by
      simp only [loopH]
      rw [List.getElem?_append_right (by omega)]
      simp [e]
    have hdead : ∀ (h' : List Blk) (st : LoopState) (p : Option Code), h'.length = s.hp.length → (loopH h' st p fk.fn s.sl params assign body []).set (s.hp.length + 1) .dead = h' ++ [.defd, .dead] := fun h' st p e => by
      simp only [loopH]
      rw [List.set_append_right _ _ (by omega)]
      simp [e]
    rcases q with ⟨h, hi, rfl⟩ | ⟨c, h, hi, rfl⟩
    · obtain ⟨e1, e2⟩ := hI _ _ hB hi
      refine ⟨.ready, none, fk.fn, s.sl, params, assign, body, hat h _ _ _ e1, by simp, ?_⟩
      rw [hdead h _ _ e1]
      exact hend h hi
    · obtain ⟨e1, e2⟩ := hT _ _ hB hi
      refine ⟨.done, some c, fk.fn, s.sl, params, assign, body, hat h _ _ _ e1, by simp, ?_⟩
      rw [hdead h _ _ e1]
      exact hstop c h hi
end
def marksAt (lo : Nat) (hp : List Blk) : Nat → List ADef → Prop
  | _, [] => True
  | hi, .mark n :: df => n.gen = 0 ∧ lo ≤ n.id ∧ n.id < hi ∧ hp[n.id]? = some .defd ∧ marksAt lo hp n.id df
  | _, .call .. :: _ => False
theorem marksAt_congr {lo : Nat} {hp hp' : List Blk} : ∀ {hi hi' : Nat} {df : List ADef}, hi ≤ hi' → (∀ i, lo ≤ i → i < hi → hp'[i]? = hp[i]?) → marksAt lo hp hi df → marksAt lo hp' hi' df
  | _, _, [], _, _, _ => trivial
  | _, _, .mark n :: df, hh, he, ⟨h1, h2, h3, h4, h5⟩ => ⟨h1, h2, by omega, by rw [he _ h2 h3]; exact h4, marksAt_congr (Nat.le_refl _) (fun i a b => he i a (by omega)) h5⟩
  | _, _, .call .. :: _, _, _, q => q.elim
theorem unmark_marks {lo : Nat} : ∀ {hi : Nat} {hp : List Blk} {df : List ADef}, marksAt lo hp hi df → ∃ h', unmark hp df = some h' ∧ h'.length = hp.length ∧ h'.take lo = hp.take lo
  | _, hp, [], _ => ⟨hp, rfl, rfl, rfl⟩
  | _, hp, .mark n :: df, ⟨h1, h2, h3, h4, h5⟩ => by
    obtain ⟨h', e1, e2, e3⟩ := unmark_marks (hp := hp.set n.id .dead) (marksAt_congr (Nat.le_refl _) (fun i _ b => by rw [List.getElem?_set_ne (by omega)]) h5)
    refine ⟨h', ?_, by rw [e2, List.length_set], ?_⟩
    · simp only [unmark, h4, h1, if_true]
      exact e1
    · rw [e3, List.take_set_of_le h2]
  | _, _, .call .. :: _, q => q.elim
theorem unmarkK_marks {lo hi : Nat} {hp : List Blk} {df : List ADef} {K : List Blk → Prop} (hm : marksAt lo hp hi df) (hk : ∀ h', h'.length = hp.length → h'.take lo = hp.take lo → K h') : unmarkK hp df K := by
  obtain ⟨h', e1, e2, e3⟩ := unmark_marks hm
  unfold unmarkK
  rw [e1]
  exact hk h' e2 e3
theorem marksAt_more {lo hi : Nat} {hp hp' : List Blk} {df : List ADef} {n : Nm} (hm : marksAt lo hp hi df) (hg : n.gen = 0) (hlo : lo ≤ n.id) (hn : hi ≤ n.id) (hd : hp'[n.id]? = some .defd) (he : ∀ i, lo ≤ i → i < hi → hp'[i]? = hp[i]?) {hi' : Nat} (hh : n.id < hi') : marksAt lo hp' hi' (.mark n :: df) :=
  ⟨hg, hlo, hh, hd, marksAt_congr hn he hm⟩
section
variable {P : Program} {so : Opt} {fk : FK} {n : Nm} {body : Code} {K : AExit → AS → Prop} {sl : List AV} {df : List ADef} {hp : List Blk} {gh : Gst} {C : List Blk → List Blk → Prop} {I : List Blk → Prop} {T : Code → List Blk → Prop}
@[congr] theorem busyK_congr {b b' : Option Blk} {K : List Blk → Prop} (e : b = b') : busyK b n hp K = busyK b' n hp K := by rw [e]
theorem busyK_loop {p : Option Code} {f : FuncId} {sl : List AV} {ps : Array Tmp} {a bd : Code} {K : List Blk → Prop} : busyK (some (.loop .ready p f sl ps a bd)) n hp K = withB (tag (hp.set n.id (.loop .busy p f sl ps a bd))) K := rfl
theorem asgK_normal : asgK P so fk n body K .normal ⟨sl, df, hp, gh⟩ = (df = [] ∧ busyK (tag (hp[n.id]?)) n hp fun hp => wp P so fk body K ⟨sl, df, hp, gh⟩) := rfl
theorem roundP_normal : roundP C I T .normal ⟨sl, df, hp, gh⟩ = (df = [] ∧ gh = {} ∧ ∃ h1, C hp h1 ∧ I h1) := rfl
theorem roundP_exit {id : Nat} : roundP C I T (.exit id) ⟨sl, df, hp, gh⟩ = (df = [] ∧ gh = {} ∧ ∃ h1, C hp h1 ∧ T (.exit id) h1) := rfl
theorem roundP_goto {l : Nat} : roundP C I T (.goto l) ⟨sl, df, hp, gh⟩ = (df = [] ∧ gh = {} ∧ ∃ h1, C hp h1 ∧ T (.goto l) h1) := rfl
theorem roundP_ret : roundP C I T .ret ⟨sl, df, hp, gh⟩ = (df = [] ∧ gh = {} ∧ ∃ h1, C hp h1 ∧ T .ret h1) := rfl
attribute [go_sem ↓] asgK_normal roundP_normal roundP_exit roundP_goto roundP_ret
attribute [go_sem] busyK_loop withB_eq loopH setParams
end
end Go.Mac

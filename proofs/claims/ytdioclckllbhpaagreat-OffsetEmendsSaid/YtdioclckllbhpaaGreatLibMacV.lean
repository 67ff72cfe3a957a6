/- A part of the logic and of the contracts of the functions that the statement reaches; the statement itself is proved in the last text. -/
import Derived.Test.YtdioclckllbhpaaGreatLibMacU

set_option linter.all false
set_option linter.unusedVariables false
set_option linter.unusedSimpArgs false
set_option linter.unnecessarySimpa false
namespace Go.Mac
open Go Go.Conc
theorem choose_run {P : Program} {q : Question} {N : Nat} (hN : 0 < N) (hf : q.forced = true → 0 < N) (hc : ∀ t, q.cut t < N) (w : World) : ∃ n d, n < N ∧ (choose q).run P w = .ok n (w.at d) := by
  by_cases h : q.forced = true
  · exact ⟨0, w.drawn, hN, by simp [choose, Sem.run, h, World.at]⟩
  · exact ⟨q.cut (w.tape w.drawn q), w.drawn + 1, hc _, by simp [choose, Sem.run, h, World.at]⟩
theorem choose_select {P : Program} {N : Nat} (hN : 0 < N) (w : World) : ∃ n d, n < N ∧ (choose (.select N)).run P w = .ok n (w.at d) :=
  choose_run hN (fun _ => hN) (fun t => by simp only [Question.cut]; exact Nat.mod_lt _ hN) w
theorem choose_extern {P : Program} {N : Nat} {s : String} (hN : 0 < N) (w : World) : ∃ n d, n < N ∧ (choose (.extern s N)).run P w = .ok n (w.at d) :=
  choose_run hN (fun _ => hN) (fun t => by simp only [Question.cut]; rw [if_neg (by omega)]; exact Nat.mod_lt _ hN) w
theorem run_bind' {P : Program} {α β : Type} {s : Sem α} {f : α → Sem β} {w w' : World} {a : α} (h : s.run P w = .ok a w') : (s >>= f).run P w = (f a).run P w' := by
  rw [Sem.run_bind, h]
  rfl
theorem pick_ok {P : Program} (L : List (Nat × CommCase × List Way)) (hne : L ≠ []) (hws : ∀ x ∈ L, x.2.2 ≠ []) (w : World) :
    ∃ k c way ws d, (k, c, ws) ∈ L ∧ way ∈ ws ∧ (do
      let a ← choose (.select L.length)
      let (k, c, ws) := L.getD a (0, default, [])
      let b ← choose (.extern "which waiting goroutine is the partner" ws.length)
      pure (k, c, ws.getD b .closed) : Sem (Nat × CommCase × Way)).run P w = .ok (k, c, way) (w.at d) := by
  obtain ⟨a, d, ha, hr⟩ := choose_select (P := P) (List.length_pos_iff.2 hne) w
  have hLa : L[a]? = some L[a] := by simp [ha]
  obtain ⟨b, d', hb, hr'⟩ := choose_extern (P := P) (s := "which waiting goroutine is the partner") (List.length_pos_iff.2 (hws _ (List.getElem_mem ha))) (w.at d)
  refine ⟨L[a].1, L[a].2.1, L[a].2.2[b], L[a].2.2, d', List.getElem_mem ha, List.getElem_mem hb, ?_⟩
  rw [run_bind' hr]
  have hg : L.getD a (0, default, []) = L[a] := by simp [List.getD, hLa]
  rw [hg]
  show ((choose (.extern "which waiting goroutine is the partner" L[a].2.2.length)) >>= fun b => (pure (L[a].1, L[a].2.1, L[a].2.2.getD b .closed) : Sem (Nat × CommCase × Way))).run P (w.at d) = _
  rw [run_bind' hr']
  have hg2 : L[a].2.2.getD b .closed = L[a].2.2[b] := by simp [List.getD, hb]
  rw [hg2]
  rfl
theorem sel_recv_any {P : Program} {gs : Array Goroutine} {w w1 : World} {sl : Option (Nat × Nat)} {i : Nat} {g g2 : Goroutine} {es : Array Event} {cases : Array CommCase} {shape : CommShape}
    (hi : gs[i]? = some g) (h : stepG P (i == 0) g w = .comm g2 cases true shape w1 es) (hopen : ∀ cc ∈ cases, ∃ r z, cc = rcase r z ∧ OpenChan w1 r)
    (hpart : ∀ r j k, (j, k) ∈ partners (gs.setIfInBounds i ph) r true → k = 0 ∧ j ≠ i ∧ ∃ gj vj zj, gs[j]? = some (parked gj #[scase r vj zj] .send))
    (hsome : ∃ cc ∈ cases, ways w1 (gs.setIfInBounds i ph) cc ≠ []) :
    ∃ (k r : Nat) (z : Value) (j : Nat) (gj : Goroutine) (vj zj : Value) (a d : Nat), cases[k]? = some (rcase r z) ∧ j ≠ i ∧ gs[j]? = some (parked gj #[scase r vj zj] .send) ∧ w1.heap[r]? = some (.chan 0 #[] false a a false) ∧
      runT P (crowd gs w sl) i = (.next (crowd ((gs.setIfInBounds j (gj.finishComm P #[scase r vj zj] .send 0 undef false)).setIfInBounds i (g2.finishComm P cases shape k vj true)) ((w1.at d).setChan r 0 #[] false (a + 1) (a + 1) false) sl),
        MemOp.ofEvents i g.frame.fn g.frame.place es ++ #[{ g := j, fn := gj.frame.fn, pos := gj.frame.place, act := .send r a }, { g := i, fn := g2.frame.fn, pos := g2.frame.place, act := .recv r a 0 },
          { g := j, fn := gj.frame.fn, pos := gj.frame.place, act := .sendDone r a }, { g := i, fn := g2.frame.fn, pos := g2.frame.place, act := .recvDone r a }]) := by
  have hill : cases.any (illMade w1) = false := any_ill fun cc hcc => by
    obtain ⟨r, z, rfl, a, ha⟩ := hopen cc hcc
    exact made_recv z ha
  generalize hL : ((cases.zipIdx.toList.map fun (c, k) => (k, c, ways w1 (gs.setIfInBounds i ph) c)).filter fun (_, _, ws) => !ws.isEmpty) = L
  have hmem : ∀ k c ws, (k, c, ws) ∈ L → cases[k]? = some c ∧ ws = ways w1 (gs.setIfInBounds i ph) c ∧ ws ≠ [] := by
    intro k c ws hm
    rw [← hL] at hm
    obtain ⟨hm, hne⟩ := List.mem_filter.1 hm
    simp only [List.mem_map, Prod.mk.injEq, Prod.exists] at hm
    obtain ⟨c', k', hm', rfl, rfl, rfl⟩ := hm
    have := Array.mem_zipIdx_iff_getElem?.1 (Array.mem_toList_iff.1 hm')
    exact ⟨by simpa using this, rfl, by simpa using hne⟩
  have hne : L ≠ [] := by
    obtain ⟨cc, hcc, hw⟩ := hsome
    obtain ⟨k, hk⟩ := Array.getElem?_of_mem hcc
    have : (k, cc, ways w1 (gs.setIfInBounds i ph) cc) ∈ L := by
      rw [← hL]
      refine List.mem_filter.2 ⟨List.mem_map.2 ⟨(cc, k), ?_, rfl⟩, by simpa using hw⟩
      exact Array.mem_toList_iff.2 (Array.mem_zipIdx_iff_getElem?.2 (by simpa using hk))
    intro e
    rw [e] at this
    cases this
  obtain ⟨k, c, way, ws, d, hk, hway, hrun⟩ := pick_ok (P := P) L hne (fun x hx => (hmem x.1 x.2.1 x.2.2 hx).2.2) w1
  obtain ⟨hck, hws, _⟩ := hmem k c ws hk
  obtain ⟨r, z, rfl, a, ha⟩ := hopen c (Array.mem_of_getElem? hck)
  have hway' : ∃ j hk', (j, hk') ∈ partners (gs.setIfInBounds i ph) r true ∧ way = .partner j hk' := by
    rw [hws] at hway
    simp only [ways, rcase, ha] at hway
    simp only [Array.size_empty, gt_iff_lt, Nat.lt_irrefl, if_false] at hway
    split at hway
    · simp at hway
    · rename_i ps _ _
      obtain ⟨⟨j, k'⟩, hm, rfl⟩ := List.mem_map.1 hway
      exact ⟨j, k', hm, rfl⟩
  obtain ⟨j, k', hp, rfl⟩ := hway'
  obtain ⟨rfl, hij, gj, vj, zj, hj⟩ := hpart r j k' hp
  refine ⟨k, r, z, j, gj, vj, zj, a, d, hck, hij, hj, ha, ?_⟩
  rw [runT_crowd_comm hi h]
  have hj' := stand_get (i := i) hij hj
  have hfp := finishPartner_at P (gs.setIfInBounds i ph) hj' (cs := #[scase r vj zj]) (sh := .send) rfl 0 undef
  have hgd : (gs.setIfInBounds i ph).getD j default = parked gj #[scase r vj zj] .send := by rw [Array.getD_eq_getD_getElem?, hj']; rfl
  have hov : offeredValue (gs.setIfInBounds i ph) j 0 = vj := by simp [offeredValue, hj', parked, scase]
  have hLe : L.isEmpty = false := by cases L with | nil => exact absurd rfl hne | cons _ _ => rfl
  unfold communicate
  simp only [hL, hLe, Bool.false_eq_true, if_false]
  rw [if_neg (by rw [Bool.not_eq_true]; exact hill)]
  have hrun' := hrun
  simp only [hrun', rcase]
  have hat : (w1.at d).heap[r]? = some (.chan 0 #[] false a a false) := ha
  simp only [hat, hov, hfp, hgd, set_stand2]
  simp [World.setChan, crowd, parked, scase, World.at]
  rfl
end Go.Mac

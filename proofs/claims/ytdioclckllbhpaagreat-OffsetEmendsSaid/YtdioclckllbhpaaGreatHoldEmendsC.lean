/- OffsetEmends returns true for every board, page and list of numbers, and leaves them as they were. No conditions. -/
import Derived.Test.YtdioclckllbhpaaGreatLibMacA
import Derived.Test.YtdioclckllbhpaaGreatLibMacB
import Derived.Test.YtdioclckllbhpaaGreatLibMacR
import Derived.Test.YtdioclckllbhpaaGreatLibMacU
import Derived.Test.YtdioclckllbhpaaGreatLibMacV
import Derived.Test.YtdioclckllbhpaaGreatLibMacC
import Derived.Test.YtdioclckllbhpaaGreatLibMacW
import Derived.Test.YtdioclckllbhpaaGreatLibMacX
import Derived.Test.YtdioclckllbhpaaGreatLibMacY
import Derived.Test.YtdioclckllbhpaaGreatLibMacD
import Derived.Test.YtdioclckllbhpaaGreatLibMacE
import Derived.Test.YtdioclckllbhpaaGreatLibMacF
import Derived.Test.YtdioclckllbhpaaGreatLibMacG
import Derived.Test.YtdioclckllbhpaaGreatLibMacH
import Derived.Test.YtdioclckllbhpaaGreatLibMacI
import Derived.Test.YtdioclckllbhpaaGreatLibMacJ
import Derived.Test.YtdioclckllbhpaaGreatLibMacK
import Derived.Test.YtdioclckllbhpaaGreatLibMacL
import Derived.Test.YtdioclckllbhpaaGreatLibMacZ
import Derived.Test.YtdioclckllbhpaaGreatLibMacLA
import Derived.Test.YtdioclckllbhpaaGreatLibMacM
import Derived.Test.YtdioclckllbhpaaGreatLibMacO
import Derived.Test.YtdioclckllbhpaaGreatLibMacOE
import Derived.Test.YtdioclckllbhpaaGreatLibMacN
import Derived.Test.YtdioclckllbhpaaGreatLibMacP
import Derived.Test.YtdioclckllbhpaaGreatLibMacQ
import Derived.Test.YtdioclckllbhpaaGreatLibMacNW
import Derived.Test.YtdioclckllbhpaaGreatLibMacS
import Derived.Test.YtdioclckllbhpaaGreatLibMacRF
import Derived.Test.YtdioclckllbhpaaGreatLibMacRG
import Derived.Test.YtdioclckllbhpaaGreatLibMacRH
import Derived.Test.YtdioclckllbhpaaGreatLibMacCH
import Derived.Test.YtdioclckllbhpaaGreatLibMacCI
import Derived.Test.YtdioclckllbhpaaGreatLibMacCJ
import Derived.Test.YtdioclckllbhpaaGreatLibMacRS
import Derived.Test.YtdioclckllbhpaaGreatLibMacIT
import Derived.Test.YtdioclckllbhpaaGreatLibMacT
import Derived.Test.YtdioclckllbhpaaGreatLibA
import Derived.Test.YtdioclckllbhpaaGreatLibMacRX
import Derived.Test.YtdioclckllbhpaaGreatLibB
import Derived.Test.YtdioclckllbhpaaGreatLibMacNZ
import Derived.Test.YtdioclckllbhpaaGreatLibC
import Derived.Test.YtdioclckllbhpaaGreatLibD
import Derived.Test.YtdioclckllbhpaaGreatLibE
import Derived.Test.YtdioclckllbhpaaGreatLibF
import Derived.Test.YtdioclckllbhpaaGreatLibZ
set_option linter.all false
set_option linter.unusedVariables false
set_option linter.unusedSimpArgs false
set_option linter.unnecessarySimpa false
namespace Go.Proofs.YtdioclckllbhpaaGreat
open Go.ChangeShapes Go.WideShapes Go.ChangeAt Go.RowKit Go.Conc Go.Mac
theorem emends_hin : Tryz.prog.inits.idxOf? 3 = none := by kernel_rfl
theorem emends_par : Tryz.f3.params.toList = [26, 3, 27] := by kernel_rfl
theorem emends_res : Tryz.f3.resultTypes.toList = [4] := by kernel_rfl
set_option maxRecDepth 100000 in
theorem emends_calls {H : Type} (enc : TypeId × Value → H) (W : World) (base : Nat) (vs : List Value) (ds : List (DataW H)) (ps : List MemPlace) (hval : ∀ (j : Nat) t v, [26, 3, 27][j]? = some t → vs[j]? = some v → Value.okWide Tryz.prog W .any base t v)
    (h : DataW.TrodAll enc Tryz.prog W 0 (fun _ => true) true [26, 3, 27] vs ds ps) : ∃ avs, VRL (Cx.start W) avs vs ∧ CallsA Tryz.prog 3 avs [.role true] fun e _ => e = .ret (.bool true) := by
  obtain ⟨v0, vs, d0, ds, p0, q, rfl, rfl, rfl, t0, h⟩ := trodAll_cons h
  obtain ⟨v1, vs, d1, ds, p1, q, rfl, rfl, rfl, t1, h⟩ := trodAll_cons h
  obtain ⟨v2, vs, d2, ds, p2, q, rfl, rfl, rfl, t2, h⟩ := trodAll_cons h
  obtain ⟨rfl, rfl, rfl⟩ := trodAll_nil h
  obtain ⟨_, uB, _⟩ := fs_board
  obtain ⟨a0, h0, q0⟩ := arg_struct uB reads_board (hval 0 _ v0 rfl rfl) t0
  obtain ⟨a1, h1, q1⟩ := arg_cell (F := fun n => .int .i64 n) int_cells (reads_int under3) (hval 1 _ v1 rfl rfl) t1
  obtain ⟨a2, h2, q2⟩ := arg_cell (F := fun l => leftA (some l)) ints_cells reads_ints (hval 2 _ v2 rfl rfl) t2
  exact ⟨[.agg (brdA a0), .int .i64 a1, leftA (some a2)], ⟨_, _, rfl, h0, _, _, rfl, h1, _, _, rfl, h2, rfl⟩,
    CallsA.mono (Emends_walk a0 a1 (some a2) [.role true] rfl) fun _ _ q => q.1⟩
set_option maxRecDepth 100000 in
theorem emends_lifted (os : Os) (started : os.Started) (H : Type) (enc : TypeId × Value → H) :
    ReturnsInLeavingWide {} Tryz.checked os 3 .any (Rows.offsetEmendsSpec.pre6 enc Tryz.prog Tryz.f3 Rows.offsetEmendsRow.domain false) (Rows.offsetEmendsSpec.post enc Tryz.prog Tryz.f3 false true false false) :=
  liftedN Tryz.func3 emends_par (by intro t ht; simp only [List.mem_cons, List.mem_nil_iff, or_false] at ht; rcases ht with rfl | rfl | rfl <;> exact ⟨by kernel_rfl, of_decide_eq_true (by kernel_rfl)⟩) emends_res emends_hin rfl
    (fun H ds hl => by match ds, hl with | [_, _, _], _ => rfl)
    (fun H enc W base vs ds ps => emends_calls enc W base vs ds ps) os started H enc
    (ChangeSpec.witness6 (enc := enc) (C := Tryz.checked) false ⟨#[], #[.agg #[.slice none 0 0, .slice none 0 0, .slice none 0 0], .int .i64 0, .slice none 0 0], []⟩ 8 (by kernel_rfl) (by kernel_rfl) (by kernel_rfl) (by kernel_rfl))
theorem emends_holds : Rows.OffsetEmendsSaid :=
  OpenClaim.holds_of_wide_leaving 3 Tryz.f3 rfl rfl rfl rfl rfl rfl rfl ⟨rfl, rfl, rfl, rfl, rfl⟩ rfl rfl rfl rfl rfl (by kernel_rfl) Tryz.func3 (by kernel_rfl)
    (of_decide_eq_true (by kernel_rfl)) (by unfold Func.isWrapper; first | (rw [if_pos (by decide +kernel)]; kernel_rfl) | (rw [if_neg (by decide +kernel)]; exact ⟨rfl, rfl⟩))
    (fun os started H enc _ => emends_lifted os started H enc)
#print axioms emends_holds
end Go.Proofs.YtdioclckllbhpaaGreat

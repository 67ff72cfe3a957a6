/- OffsetSure returns true for every list of numbers, and leaves it as it was. No conditions. -/
import Derived.Test.YtdioclckllbhpaaLib43
set_option linter.all false
set_option linter.unusedVariables false
set_option linter.unusedSimpArgs false
set_option linter.unnecessarySimpa false
namespace Go.Proofs.Ytdioclckllbhpaa
open Go.ChangeShapes Go.WideShapes Go.ChangeAt Go.RowKit Go.Conc Go.Mac
theorem sure_hin : Try.prog.inits.idxOf? 12 = none := by kernel_rfl
theorem sure_par : Try.f12.params.toList = [22] := by kernel_rfl
theorem sure_res : Try.f12.resultTypes.toList = [4] := by kernel_rfl
theorem sure_calls (r : Option (List Int)) : CallsA Try.prog 12 [leftA r] [.role true] fun e _ => e = .ret (.bool true) :=
  CallsA.mono (Sure_walk r [.role true] rfl) fun _ _ q => q.1
set_option maxRecDepth 100000 in
theorem sure_lifted (os : Os) (started : os.Started) (H : Type) (enc : TypeId × Value → H) :
    ReturnsInLeavingWide {} Try.checked os 12 .any (Rows.offsetSureSpec.pre6 enc Try.prog Try.f12 Rows.offsetSureRow.domain false) (Rows.offsetSureSpec.post enc Try.prog Try.f12 false true false false) :=
  lifted (rb := 0) Try.func12 sure_par sure_res sure_hin rfl (fun _ _ => rfl) sure_calls os started H enc
    (ChangeSpec.witness6 (enc := enc) (C := Try.checked) false ⟨#[], #[.slice none 0 0], []⟩ 8 (by kernel_rfl) (by kernel_rfl) (by kernel_rfl) (by kernel_rfl))
theorem sure_holds : Rows.OffsetSureSaid :=
  OpenClaim.holds_of_wide_leaving 12 Try.f12 rfl rfl rfl rfl rfl rfl rfl ⟨rfl, rfl, rfl, rfl, rfl⟩ rfl rfl rfl rfl rfl (by kernel_rfl) Try.func12 (by kernel_rfl)
    (of_decide_eq_true (by kernel_rfl)) (by unfold Func.isWrapper; first | (rw [if_pos (by decide +kernel)]; kernel_rfl) | (rw [if_neg (by decide +kernel)]; exact ⟨rfl, rfl⟩))
    (fun os started H enc _ => sure_lifted os started H enc)
#print axioms sure_holds
end Go.Proofs.Ytdioclckllbhpaa

/- OffsetEmended returns true for every list of numbers, and leaves it as it was. No conditions. -/
import Derived.Test.YtdioclckllbhpaaLibMacA
import Derived.Test.YtdioclckllbhpaaLibMacB
import Derived.Test.YtdioclckllbhpaaLibMacR
import Derived.Test.YtdioclckllbhpaaLibMacU
import Derived.Test.YtdioclckllbhpaaLibMacV
import Derived.Test.YtdioclckllbhpaaLibMacC
import Derived.Test.YtdioclckllbhpaaLibMacW
import Derived.Test.YtdioclckllbhpaaLibMacX
import Derived.Test.YtdioclckllbhpaaLibMacY
import Derived.Test.YtdioclckllbhpaaLibMacD
import Derived.Test.YtdioclckllbhpaaLibMacE
import Derived.Test.YtdioclckllbhpaaLibMacF
import Derived.Test.YtdioclckllbhpaaLibMacG
import Derived.Test.YtdioclckllbhpaaLibMacH
import Derived.Test.YtdioclckllbhpaaLibMacI
import Derived.Test.YtdioclckllbhpaaLibMacJ
import Derived.Test.YtdioclckllbhpaaLibMacK
import Derived.Test.YtdioclckllbhpaaLibMacL
import Derived.Test.YtdioclckllbhpaaLibMacZ
import Derived.Test.YtdioclckllbhpaaLibMacLA
import Derived.Test.YtdioclckllbhpaaLibMacM
import Derived.Test.YtdioclckllbhpaaLibMacO
import Derived.Test.YtdioclckllbhpaaLibMacOE
import Derived.Test.YtdioclckllbhpaaLibMacN
import Derived.Test.YtdioclckllbhpaaLibMacP
import Derived.Test.YtdioclckllbhpaaLibMacQ
import Derived.Test.YtdioclckllbhpaaLibMacNW
import Derived.Test.YtdioclckllbhpaaLibMacS
import Derived.Test.YtdioclckllbhpaaLibMacRF
import Derived.Test.YtdioclckllbhpaaLibMacRG
import Derived.Test.YtdioclckllbhpaaLibMacRH
import Derived.Test.YtdioclckllbhpaaLibMacCH
import Derived.Test.YtdioclckllbhpaaLibMacCI
import Derived.Test.YtdioclckllbhpaaLibMacCJ
import Derived.Test.YtdioclckllbhpaaLibMacRS
import Derived.Test.YtdioclckllbhpaaLibMacIT
import Derived.Test.YtdioclckllbhpaaLibMacT
import Derived.Test.YtdioclckllbhpaaLibA
import Derived.Test.YtdioclckllbhpaaLibMacRX
import Derived.Test.YtdioclckllbhpaaLibB
import Derived.Test.YtdioclckllbhpaaLibMacNZ
import Derived.Test.YtdioclckllbhpaaLibC
import Derived.Test.YtdioclckllbhpaaLibD
import Derived.Test.YtdioclckllbhpaaLibE
import Derived.Test.YtdioclckllbhpaaLibF
import Derived.Test.YtdioclckllbhpaaLibZ
set_option linter.all false
set_option linter.unusedVariables false
set_option linter.unusedSimpArgs false
set_option linter.unnecessarySimpa false
namespace Go.Proofs.Ytdioclckllbhpaa
open Go.ChangeShapes Go.WideShapes Go.ChangeAt Go.RowKit Go.Conc Go.Mac
theorem emend_hin : Try.prog.inits.idxOf? 4 = none := by kernel_rfl
theorem emend_par : Try.f4.params.toList = [22] := by kernel_rfl
theorem emend_res : Try.f4.resultTypes.toList = [4] := by kernel_rfl
theorem emend_calls (r : Option (List Int)) : CallsA Try.prog 4 [leftA r] [.role true] fun e _ => e = .ret (.bool true) :=
  CallsA.mono (Emend_walk r [.role true] rfl) fun _ _ q => q.1
set_option maxRecDepth 100000 in
theorem emend_lifted (os : Os) (started : os.Started) (H : Type) (enc : TypeId × Value → H) :
    ReturnsInLeavingWide {} Try.checked os 4 .any (Rows.offsetEmendedSpec.pre6 enc Try.prog Try.f4 Rows.offsetEmendedRow.domain false) (Rows.offsetEmendedSpec.post enc Try.prog Try.f4 false true false false) :=
  lifted (rb := 0) Try.func4 emend_par emend_res emend_hin rfl (fun _ _ => rfl) emend_calls os started H enc
    (ChangeSpec.witness6 (enc := enc) (C := Try.checked) false ⟨#[], #[.slice none 0 0], []⟩ 8 (by kernel_rfl) (by kernel_rfl) (by kernel_rfl) (by kernel_rfl))
theorem emend_holds : Rows.OffsetEmendedSaid :=
  OpenClaim.holds_of_wide_leaving 4 Try.f4 rfl rfl rfl rfl rfl rfl rfl ⟨rfl, rfl, rfl, rfl, rfl⟩ rfl rfl rfl rfl rfl (by kernel_rfl) Try.func4 (by kernel_rfl)
    (of_decide_eq_true (by kernel_rfl)) (by unfold Func.isWrapper; first | (rw [if_pos (by decide +kernel)]; kernel_rfl) | (rw [if_neg (by decide +kernel)]; exact ⟨rfl, rfl⟩))
    (fun os started H enc _ => emend_lifted os started H enc)
#print axioms emend_holds
end Go.Proofs.Ytdioclckllbhpaa

/- OffsetKnown returns true. No conditions. -/
import Derived.Test.YtdioclckllbhpaaLibMacA
import Derived.Test.YtdioclckllbhpaaLibMacB
import Derived.Test.YtdioclckllbhpaaLibMacR
import Derived.Test.YtdioclckllbhpaaLibMacU
import Derived.Test.YtdioclckllbhpaaLibMacV
import Derived.Test.YtdioclckllbhpaaLibMacC
import Derived.Test.YtdioclckllbhpaaLibMacW
import Derived.Test.YtdioclckllbhpaaLibMacX
import Derived.Test.YtdioclckllbhpaaLibMacY
import Derived.Test.YtdioclckllbhpaaLibMacD
import Derived.Test.YtdioclckllbhpaaLibMacE
import Derived.Test.YtdioclckllbhpaaLibMacF
import Derived.Test.YtdioclckllbhpaaLibMacG
import Derived.Test.YtdioclckllbhpaaLibMacH
import Derived.Test.YtdioclckllbhpaaLibMacI
import Derived.Test.YtdioclckllbhpaaLibMacJ
import Derived.Test.YtdioclckllbhpaaLibMacK
import Derived.Test.YtdioclckllbhpaaLibMacL
import Derived.Test.YtdioclckllbhpaaLibMacZ
import Derived.Test.YtdioclckllbhpaaLibMacLA
import Derived.Test.YtdioclckllbhpaaLibMacM
import Derived.Test.YtdioclckllbhpaaLibMacO
import Derived.Test.YtdioclckllbhpaaLibMacOE
import Derived.Test.YtdioclckllbhpaaLibMacN
import Derived.Test.YtdioclckllbhpaaLibMacP
import Derived.Test.YtdioclckllbhpaaLibMacQ
import Derived.Test.YtdioclckllbhpaaLibMacNW
import Derived.Test.YtdioclckllbhpaaLibMacS
import Derived.Test.YtdioclckllbhpaaLibMacRF
import Derived.Test.YtdioclckllbhpaaLibMacRG
import Derived.Test.YtdioclckllbhpaaLibMacRH
import Derived.Test.YtdioclckllbhpaaLibMacCH
import Derived.Test.YtdioclckllbhpaaLibMacCI
import Derived.Test.YtdioclckllbhpaaLibMacCJ
import Derived.Test.YtdioclckllbhpaaLibMacRS
import Derived.Test.YtdioclckllbhpaaLibMacIT
import Derived.Test.YtdioclckllbhpaaLibMacT
import Derived.Test.YtdioclckllbhpaaLibA
import Derived.Test.YtdioclckllbhpaaLibMacRX
import Derived.Test.YtdioclckllbhpaaLibB
import Derived.Test.YtdioclckllbhpaaLibMacNZ
import Derived.Test.YtdioclckllbhpaaLibC
import Derived.Test.YtdioclckllbhpaaLibD
import Derived.Test.YtdioclckllbhpaaLibE
import Derived.Test.YtdioclckllbhpaaLibF
import Derived.Test.YtdioclckllbhpaaLibZ
set_option linter.all false
set_option linter.unusedVariables false
set_option linter.unusedSimpArgs false
set_option linter.unnecessarySimpa false
namespace Go.Proofs.Ytdioclckllbhpaa
open Go.ChangeShapes Go.WideShapes Go.ChangeAt Go.RowKit Go.Conc Go.Mac
theorem known_hin : Try.prog.inits.idxOf? 15 = none := by kernel_rfl
theorem known_par : Try.f15.params.toList = [] := by kernel_rfl
theorem known_res : Try.f15.resultTypes.toList = [4] := by kernel_rfl
theorem known_calls : CallsA Try.prog 15 [] [.role true] fun e _ => e = .ret (.bool true) :=
  CallsA.mono (Known_walk [.role true] rfl) fun _ _ q => q.1
set_option maxRecDepth 100000 in
theorem known_lifted (os : Os) (started : os.Started) (H : Type) (enc : TypeId × Value → H) :
    ReturnsInLeavingWide {} Try.checked os 15 .any (Rows.offsetKnownSpec.pre6 enc Try.prog Try.f15 Rows.offsetKnownRow.domain false) (Rows.offsetKnownSpec.post enc Try.prog Try.f15 false true false false) :=
  lifted0 Try.func15 known_par known_res known_hin rfl (fun _ => rfl) known_calls os started H enc
    (ChangeSpec.witness6 (enc := enc) (C := Try.checked) false ⟨#[], #[], []⟩ 8 (by kernel_rfl) (by kernel_rfl) (by kernel_rfl) (by kernel_rfl))
theorem known_holds : Rows.OffsetKnownSaid :=
  OpenClaim.holds_of_wide_leaving 15 Try.f15 rfl rfl rfl rfl rfl rfl rfl ⟨rfl, rfl, rfl, rfl, rfl⟩ rfl rfl rfl rfl rfl (by kernel_rfl) Try.func15 (by kernel_rfl)
    (of_decide_eq_true (by kernel_rfl)) (by unfold Func.isWrapper; first | (rw [if_pos (by decide +kernel)]; kernel_rfl) | (rw [if_neg (by decide +kernel)]; exact ⟨rfl, rfl⟩))
    (fun os started H enc _ => known_lifted os started H enc)
#print axioms known_holds
end Go.Proofs.Ytdioclckllbhpaa

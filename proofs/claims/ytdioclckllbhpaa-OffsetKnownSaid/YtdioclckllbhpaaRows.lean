/-
  No cell of these rows narrows 'for every input' (looked for: loops, veiled, ifaces, maps, wideKeys, modest, calm, conditions, laid).
  DERIVED. THE GIVEN ROWS OF THIS SEAT. 13 by the template 'for every input the law returns true; each argument reads behind the call as it read before'; 0 by the template 'total and deterministic' (their statements: YtdioclckllbhpaaTotals.lean).
  GIVEN WITH THE SEED: the statements are not yours to turn. If you find one false, say at which input.
  Laid BY PROGRAM, IN A SANDBOX (cutbox-rows.mjs): the forced cells as the released guide's own fill.sh prints them over the translation 43d8afc7f3b7af24… (all of the seat's roots in one cut). By AI agents, Wed Nov 11 2026. No macro, syntax, notation, axiom, sorry.
-/
import Derived.Test.YtdioclckllbhpaaChecked
import GoSem.Claim
import GoSem.ClaimJoined
import GoSem.ClaimMapViews
import Derived.JoinedTies
import Derived.KernelRfl
namespace Go.Proofs.Ytdioclckllbhpaa
/- THE CELL 'sum', in the pinned program and in every row, IS THE sha256 OF THE DUMP (.gsa) THAT YtdioclckllbhpaaProg.lean LOADS. Nothing in Lean hashes anything: it is a label: what it is worth is what the hold of that sum in a sandbox is worth. -/
noncomputable def Try.pinned : Pinned := { name := "ytdioclckllbhpaa", sum := "43d8afc7f3b7af24b3056c6cbb9dab261c0e918a7a3b059452cd7c15b59be4d7", checked := Try.checked }
namespace Rows
def none {H : Type} : Left H := { results := [], args := [] }

/-- 'maculaturelaw06.OffsetMore': WHATEVER THE INPUT: true; the input reads as it did. -/
def offsetMoreSpec : ChangeSpec := { name := "offsetMore", fn := fun _ => fun
  | [d] => { results := [.lit (.bool true)], args := [d] }
  | _ => none }
def offsetMoreRow : OpenClaim := { program := "ytdioclckllbhpaa", sum := "43d8afc7f3b7af24b3056c6cbb9dab261c0e918a7a3b059452cd7c15b59be4d7", func := "maculature/maculaturelaw06.OffsetMore", spec := "offsetMore", unfollowed := true, recurses := true, plainKeys := false, leaving := true, apart := false }
def OffsetMoreSaid : Prop := offsetMoreRow.holds Try.pinned (OpenSpec.ofChange offsetMoreSpec)

/-- ITS FALSE NEIGHBOUR: 'it returns false'. Refute it at one input. -/
def offsetMoreWrong : ChangeSpec := { name := "offsetMore", fn := fun _ => fun
  | [d] => { results := [.lit (.bool false)], args := [d] }
  | _ => none }
def OffsetMoreWrongFalsely : Prop := offsetMoreRow.holds Try.pinned (OpenSpec.ofChange offsetMoreWrong)

/-- 'maculaturelaw06.OffsetEmended': WHATEVER THE INPUT: true; the input reads as it did. -/
def offsetEmendedSpec : ChangeSpec := { name := "offsetEmended", fn := fun _ => fun
  | [d] => { results := [.lit (.bool true)], args := [d] }
  | _ => none }
def offsetEmendedRow : OpenClaim := { program := "ytdioclckllbhpaa", sum := "43d8afc7f3b7af24b3056c6cbb9dab261c0e918a7a3b059452cd7c15b59be4d7", func := "maculature/maculaturelaw06.OffsetEmended", spec := "offsetEmended", unfollowed := true, recurses := true, plainKeys := false, leaving := true, apart := false }
def OffsetEmendedSaid : Prop := offsetEmendedRow.holds Try.pinned (OpenSpec.ofChange offsetEmendedSpec)

/-- ITS FALSE NEIGHBOUR: 'it returns false'. Refute it at one input. -/
def offsetEmendedWrong : ChangeSpec := { name := "offsetEmended", fn := fun _ => fun
  | [d] => { results := [.lit (.bool false)], args := [d] }
  | _ => none }
def OffsetEmendedWrongFalsely : Prop := offsetEmendedRow.holds Try.pinned (OpenSpec.ofChange offsetEmendedWrong)

/-- 'maculaturelaw06.OffsetTurned': WHATEVER THE INPUT: true; the input reads as it did. -/
def offsetTurnedSpec : ChangeSpec := { name := "offsetTurned", fn := fun _ => fun
  | [d] => { results := [.lit (.bool true)], args := [d] }
  | _ => none }
def offsetTurnedRow : OpenClaim := { program := "ytdioclckllbhpaa", sum := "43d8afc7f3b7af24b3056c6cbb9dab261c0e918a7a3b059452cd7c15b59be4d7", func := "maculature/maculaturelaw06.OffsetTurned", spec := "offsetTurned", unfollowed := true, recurses := true, plainKeys := false, leaving := true, apart := false }
def OffsetTurnedSaid : Prop := offsetTurnedRow.holds Try.pinned (OpenSpec.ofChange offsetTurnedSpec)

/-- ITS FALSE NEIGHBOUR: 'it returns false'. Refute it at one input. -/
def offsetTurnedWrong : ChangeSpec := { name := "offsetTurned", fn := fun _ => fun
  | [d] => { results := [.lit (.bool false)], args := [d] }
  | _ => none }
def OffsetTurnedWrongFalsely : Prop := offsetTurnedRow.holds Try.pinned (OpenSpec.ofChange offsetTurnedWrong)

/-- 'maculaturelaw06.OffsetTwo': WHATEVER THE INPUT: true; the input reads as it did. -/
def offsetTwoSpec : ChangeSpec := { name := "offsetTwo", fn := fun _ => fun
  | [d] => { results := [.lit (.bool true)], args := [d] }
  | _ => none }
def offsetTwoRow : OpenClaim := { program := "ytdioclckllbhpaa", sum := "43d8afc7f3b7af24b3056c6cbb9dab261c0e918a7a3b059452cd7c15b59be4d7", func := "maculature/maculaturelaw06.OffsetTwo", spec := "offsetTwo", unfollowed := true, recurses := true, plainKeys := false, leaving := true, apart := false }
def OffsetTwoSaid : Prop := offsetTwoRow.holds Try.pinned (OpenSpec.ofChange offsetTwoSpec)

/-- ITS FALSE NEIGHBOUR: 'it returns false'. Refute it at one input. -/
def offsetTwoWrong : ChangeSpec := { name := "offsetTwo", fn := fun _ => fun
  | [d] => { results := [.lit (.bool false)], args := [d] }
  | _ => none }
def OffsetTwoWrongFalsely : Prop := offsetTwoRow.holds Try.pinned (OpenSpec.ofChange offsetTwoWrong)

/-- 'maculaturelaw06.OffsetNext': WHATEVER THE INPUT: true; the input reads as it did. -/
def offsetNextSpec : ChangeSpec := { name := "offsetNext", fn := fun _ => fun
  | [d] => { results := [.lit (.bool true)], args := [d] }
  | _ => none }
def offsetNextRow : OpenClaim := { program := "ytdioclckllbhpaa", sum := "43d8afc7f3b7af24b3056c6cbb9dab261c0e918a7a3b059452cd7c15b59be4d7", func := "maculature/maculaturelaw06.OffsetNext", spec := "offsetNext", unfollowed := true, recurses := true, plainKeys := false, leaving := true, apart := false }
def OffsetNextSaid : Prop := offsetNextRow.holds Try.pinned (OpenSpec.ofChange offsetNextSpec)

/-- ITS FALSE NEIGHBOUR: 'it returns false'. Refute it at one input. -/
def offsetNextWrong : ChangeSpec := { name := "offsetNext", fn := fun _ => fun
  | [d] => { results := [.lit (.bool false)], args := [d] }
  | _ => none }
def OffsetNextWrongFalsely : Prop := offsetNextRow.holds Try.pinned (OpenSpec.ofChange offsetNextWrong)

/-- 'maculaturelaw06.OffsetAlike': WHATEVER THE INPUT: true; the input reads as it did. -/
def offsetAlikeSpec : ChangeSpec := { name := "offsetAlike", fn := fun _ => fun
  | [d] => { results := [.lit (.bool true)], args := [d] }
  | _ => none }
def offsetAlikeRow : OpenClaim := { program := "ytdioclckllbhpaa", sum := "43d8afc7f3b7af24b3056c6cbb9dab261c0e918a7a3b059452cd7c15b59be4d7", func := "maculature/maculaturelaw06.OffsetAlike", spec := "offsetAlike", unfollowed := true, recurses := true, plainKeys := false, leaving := true, apart := false }
def OffsetAlikeSaid : Prop := offsetAlikeRow.holds Try.pinned (OpenSpec.ofChange offsetAlikeSpec)

/-- ITS FALSE NEIGHBOUR: 'it returns false'. Refute it at one input. -/
def offsetAlikeWrong : ChangeSpec := { name := "offsetAlike", fn := fun _ => fun
  | [d] => { results := [.lit (.bool false)], args := [d] }
  | _ => none }
def OffsetAlikeWrongFalsely : Prop := offsetAlikeRow.holds Try.pinned (OpenSpec.ofChange offsetAlikeWrong)

/-- 'maculaturelaw06.OffsetShifted': WHATEVER THE INPUT: true; the input reads as it did. -/
def offsetShiftedSpec : ChangeSpec := { name := "offsetShifted", fn := fun _ => fun
  | [d] => { results := [.lit (.bool true)], args := [d] }
  | _ => none }
def offsetShiftedRow : OpenClaim := { program := "ytdioclckllbhpaa", sum := "43d8afc7f3b7af24b3056c6cbb9dab261c0e918a7a3b059452cd7c15b59be4d7", func := "maculature/maculaturelaw06.OffsetShifted", spec := "offsetShifted", unfollowed := true, recurses := true, plainKeys := false, leaving := true, apart := false }
def OffsetShiftedSaid : Prop := offsetShiftedRow.holds Try.pinned (OpenSpec.ofChange offsetShiftedSpec)

/-- ITS FALSE NEIGHBOUR: 'it returns false'. Refute it at one input. -/
def offsetShiftedWrong : ChangeSpec := { name := "offsetShifted", fn := fun _ => fun
  | [d] => { results := [.lit (.bool false)], args := [d] }
  | _ => none }
def OffsetShiftedWrongFalsely : Prop := offsetShiftedRow.holds Try.pinned (OpenSpec.ofChange offsetShiftedWrong)

/-- 'maculaturelaw06.OffsetNearest': WHATEVER THE INPUT: true; the input reads as it did. -/
def offsetNearestSpec : ChangeSpec := { name := "offsetNearest", fn := fun _ => fun
  | [d] => { results := [.lit (.bool true)], args := [d] }
  | _ => none }
def offsetNearestRow : OpenClaim := { program := "ytdioclckllbhpaa", sum := "43d8afc7f3b7af24b3056c6cbb9dab261c0e918a7a3b059452cd7c15b59be4d7", func := "maculature/maculaturelaw06.OffsetNearest", spec := "offsetNearest", unfollowed := true, recurses := true, plainKeys := false, leaving := true, apart := false }
def OffsetNearestSaid : Prop := offsetNearestRow.holds Try.pinned (OpenSpec.ofChange offsetNearestSpec)

/-- ITS FALSE NEIGHBOUR: 'it returns false'. Refute it at one input. -/
def offsetNearestWrong : ChangeSpec := { name := "offsetNearest", fn := fun _ => fun
  | [d] => { results := [.lit (.bool false)], args := [d] }
  | _ => none }
def OffsetNearestWrongFalsely : Prop := offsetNearestRow.holds Try.pinned (OpenSpec.ofChange offsetNearestWrong)

/-- 'maculaturelaw06.OffsetTrue': WHATEVER THE INPUT: true; the input reads as it did. -/
def offsetTrueSpec : ChangeSpec := { name := "offsetTrue", fn := fun _ => fun
  | [d] => { results := [.lit (.bool true)], args := [d] }
  | _ => none }
def offsetTrueRow : OpenClaim := { program := "ytdioclckllbhpaa", sum := "43d8afc7f3b7af24b3056c6cbb9dab261c0e918a7a3b059452cd7c15b59be4d7", func := "maculature/maculaturelaw06.OffsetTrue", spec := "offsetTrue", unfollowed := true, recurses := true, plainKeys := false, leaving := true, apart := false }
def OffsetTrueSaid : Prop := offsetTrueRow.holds Try.pinned (OpenSpec.ofChange offsetTrueSpec)

/-- ITS FALSE NEIGHBOUR: 'it returns false'. Refute it at one input. -/
def offsetTrueWrong : ChangeSpec := { name := "offsetTrue", fn := fun _ => fun
  | [d] => { results := [.lit (.bool false)], args := [d] }
  | _ => none }
def OffsetTrueWrongFalsely : Prop := offsetTrueRow.holds Try.pinned (OpenSpec.ofChange offsetTrueWrong)

/-- 'maculaturelaw06.OffsetSure': WHATEVER THE INPUT: true; the input reads as it did. -/
def offsetSureSpec : ChangeSpec := { name := "offsetSure", fn := fun _ => fun
  | [d] => { results := [.lit (.bool true)], args := [d] }
  | _ => none }
def offsetSureRow : OpenClaim := { program := "ytdioclckllbhpaa", sum := "43d8afc7f3b7af24b3056c6cbb9dab261c0e918a7a3b059452cd7c15b59be4d7", func := "maculature/maculaturelaw06.OffsetSure", spec := "offsetSure", unfollowed := true, recurses := true, plainKeys := false, leaving := true, apart := false }
def OffsetSureSaid : Prop := offsetSureRow.holds Try.pinned (OpenSpec.ofChange offsetSureSpec)

/-- ITS FALSE NEIGHBOUR: 'it returns false'. Refute it at one input. -/
def offsetSureWrong : ChangeSpec := { name := "offsetSure", fn := fun _ => fun
  | [d] => { results := [.lit (.bool false)], args := [d] }
  | _ => none }
def OffsetSureWrongFalsely : Prop := offsetSureRow.holds Try.pinned (OpenSpec.ofChange offsetSureWrong)

/-- 'maculaturelaw06.OffsetExplained': WHATEVER THE INPUT: true; the input reads as it did. -/
def offsetExplainedSpec : ChangeSpec := { name := "offsetExplained", fn := fun _ => fun
  | [d] => { results := [.lit (.bool true)], args := [d] }
  | _ => none }
def offsetExplainedRow : OpenClaim := { program := "ytdioclckllbhpaa", sum := "43d8afc7f3b7af24b3056c6cbb9dab261c0e918a7a3b059452cd7c15b59be4d7", func := "maculature/maculaturelaw06.OffsetExplained", spec := "offsetExplained", unfollowed := true, recurses := true, plainKeys := false, leaving := true, apart := false }
def OffsetExplainedSaid : Prop := offsetExplainedRow.holds Try.pinned (OpenSpec.ofChange offsetExplainedSpec)

/-- ITS FALSE NEIGHBOUR: 'it returns false'. Refute it at one input. -/
def offsetExplainedWrong : ChangeSpec := { name := "offsetExplained", fn := fun _ => fun
  | [d] => { results := [.lit (.bool false)], args := [d] }
  | _ => none }
def OffsetExplainedWrongFalsely : Prop := offsetExplainedRow.holds Try.pinned (OpenSpec.ofChange offsetExplainedWrong)

/-- 'maculaturelaw06.OffsetAll': WHATEVER THE INPUT: true; the input reads as it did. -/
def offsetAllSpec : ChangeSpec := { name := "offsetAll", fn := fun _ => fun
  | [d] => { results := [.lit (.bool true)], args := [d] }
  | _ => none }
def offsetAllRow : OpenClaim := { program := "ytdioclckllbhpaa", sum := "43d8afc7f3b7af24b3056c6cbb9dab261c0e918a7a3b059452cd7c15b59be4d7", func := "maculature/maculaturelaw06.OffsetAll", spec := "offsetAll", unfollowed := true, recurses := true, plainKeys := false, leaving := true, apart := false }
def OffsetAllSaid : Prop := offsetAllRow.holds Try.pinned (OpenSpec.ofChange offsetAllSpec)

/-- ITS FALSE NEIGHBOUR: 'it returns false'. Refute it at one input. -/
def offsetAllWrong : ChangeSpec := { name := "offsetAll", fn := fun _ => fun
  | [d] => { results := [.lit (.bool false)], args := [d] }
  | _ => none }
def OffsetAllWrongFalsely : Prop := offsetAllRow.holds Try.pinned (OpenSpec.ofChange offsetAllWrong)

/-- 'maculaturelaw06.OffsetKnown': WHATEVER THE INPUT: true; the input reads as it did. -/
def offsetKnownSpec : ChangeSpec := { name := "offsetKnown", fn := fun _ => fun
  | [] => { results := [.lit (.bool true)], args := [] }
  | _ => none }
def offsetKnownRow : OpenClaim := { program := "ytdioclckllbhpaa", sum := "43d8afc7f3b7af24b3056c6cbb9dab261c0e918a7a3b059452cd7c15b59be4d7", func := "maculature/maculaturelaw06.OffsetKnown", spec := "offsetKnown", unfollowed := true, recurses := true, plainKeys := false, leaving := true, apart := false }
def OffsetKnownSaid : Prop := offsetKnownRow.holds Try.pinned (OpenSpec.ofChange offsetKnownSpec)

/-- ITS FALSE NEIGHBOUR: 'it returns false'. Refute it at one input. -/
def offsetKnownWrong : ChangeSpec := { name := "offsetKnown", fn := fun _ => fun
  | [] => { results := [.lit (.bool false)], args := [] }
  | _ => none }
def OffsetKnownWrongFalsely : Prop := offsetKnownRow.holds Try.pinned (OpenSpec.ofChange offsetKnownWrong)

/- THE SECOND FORM. 'bulk': how many values and letters a reading holds, each counted each time it is reached (what is shared counts as often as it is met; a slice's spare places count too). A statement '..UptoSaid' is the law's where the arguments, and the package variables that the reading takes, are together of bulk at most 1048576: NARROWER than '..Said'. Prove '..Said' where nothing that the law and all that it calls make is longer than what came in: it says more and counts as full. Else prove '..UptoSaid'. A law counts once. -/
mutual
def uptoBulk {H : Type} : DataW H → Nat
  | .lit (.string bytes) => bytes.length + 1
  | .lit _ => 1
  | .nil => 1
  | .ptr d => uptoBulk d + 1
  | .slice elems spare => uptoBulkAll elems + uptoBulkAll spare + 1
  | .agg parts => uptoBulkAll parts + 1
  | .iface _ d => uptoBulk d + 1
  | .map entries => uptoBulkEntries entries + 1
  | .held _ => 1
def uptoBulkAll {H : Type} : List (DataW H) → Nat
  | [] => 0
  | d :: r => uptoBulk d + uptoBulkAll r
def uptoBulkEntries {H : Type} : List (Lit × DataW H) → Nat
  | [] => 0
  | x :: r => uptoBulkEntry x + uptoBulkEntries r
def uptoBulkEntry {H : Type} : Lit × DataW H → Nat
  | (.string bytes, d) => bytes.length + uptoBulk d + 1
  | (_, d) => uptoBulk d + 1
 end
def uptoSmall : (H : Type) → List (DataW H) → Bool := fun _ ds => decide (uptoBulkAll ds ≤ 1048576)
def OpenSpec.upto (s : _root_.Go.ChangeSpec) : _root_.Go.OpenSpec := { _root_.Go.OpenSpec.ofChange s with cond := some uptoSmall }

/-- 'maculaturelaw06.OffsetMore', WHERE WHAT IT READS IS OF BULK AT MOST 1048576: true; the input reads as it did. -/
def offsetMoreUptoRow : OpenClaim := { program := "ytdioclckllbhpaa", sum := "43d8afc7f3b7af24b3056c6cbb9dab261c0e918a7a3b059452cd7c15b59be4d7", func := "maculature/maculaturelaw06.OffsetMore", spec := "offsetMore", unfollowed := true, recurses := true, plainKeys := false, leaving := true, apart := false, narrowed := true }
def OffsetMoreUptoSaid : Prop := offsetMoreUptoRow.holds Try.pinned (OpenSpec.upto offsetMoreSpec)

/-- 'maculaturelaw06.OffsetEmended', WHERE WHAT IT READS IS OF BULK AT MOST 1048576: true; the input reads as it did. -/
def offsetEmendedUptoRow : OpenClaim := { program := "ytdioclckllbhpaa", sum := "43d8afc7f3b7af24b3056c6cbb9dab261c0e918a7a3b059452cd7c15b59be4d7", func := "maculature/maculaturelaw06.OffsetEmended", spec := "offsetEmended", unfollowed := true, recurses := true, plainKeys := false, leaving := true, apart := false, narrowed := true }
def OffsetEmendedUptoSaid : Prop := offsetEmendedUptoRow.holds Try.pinned (OpenSpec.upto offsetEmendedSpec)

/-- 'maculaturelaw06.OffsetTurned', WHERE WHAT IT READS IS OF BULK AT MOST 1048576: true; the input reads as it did. -/
def offsetTurnedUptoRow : OpenClaim := { program := "ytdioclckllbhpaa", sum := "43d8afc7f3b7af24b3056c6cbb9dab261c0e918a7a3b059452cd7c15b59be4d7", func := "maculature/maculaturelaw06.OffsetTurned", spec := "offsetTurned", unfollowed := true, recurses := true, plainKeys := false, leaving := true, apart := false, narrowed := true }
def OffsetTurnedUptoSaid : Prop := offsetTurnedUptoRow.holds Try.pinned (OpenSpec.upto offsetTurnedSpec)

/-- 'maculaturelaw06.OffsetTwo', WHERE WHAT IT READS IS OF BULK AT MOST 1048576: true; the input reads as it did. -/
def offsetTwoUptoRow : OpenClaim := { program := "ytdioclckllbhpaa", sum := "43d8afc7f3b7af24b3056c6cbb9dab261c0e918a7a3b059452cd7c15b59be4d7", func := "maculature/maculaturelaw06.OffsetTwo", spec := "offsetTwo", unfollowed := true, recurses := true, plainKeys := false, leaving := true, apart := false, narrowed := true }
def OffsetTwoUptoSaid : Prop := offsetTwoUptoRow.holds Try.pinned (OpenSpec.upto offsetTwoSpec)

/-- 'maculaturelaw06.OffsetNext', WHERE WHAT IT READS IS OF BULK AT MOST 1048576: true; the input reads as it did. -/
def offsetNextUptoRow : OpenClaim := { program := "ytdioclckllbhpaa", sum := "43d8afc7f3b7af24b3056c6cbb9dab261c0e918a7a3b059452cd7c15b59be4d7", func := "maculature/maculaturelaw06.OffsetNext", spec := "offsetNext", unfollowed := true, recurses := true, plainKeys := false, leaving := true, apart := false, narrowed := true }
def OffsetNextUptoSaid : Prop := offsetNextUptoRow.holds Try.pinned (OpenSpec.upto offsetNextSpec)

/-- 'maculaturelaw06.OffsetAlike', WHERE WHAT IT READS IS OF BULK AT MOST 1048576: true; the input reads as it did. -/
def offsetAlikeUptoRow : OpenClaim := { program := "ytdioclckllbhpaa", sum := "43d8afc7f3b7af24b3056c6cbb9dab261c0e918a7a3b059452cd7c15b59be4d7", func := "maculature/maculaturelaw06.OffsetAlike", spec := "offsetAlike", unfollowed := true, recurses := true, plainKeys := false, leaving := true, apart := false, narrowed := true }
def OffsetAlikeUptoSaid : Prop := offsetAlikeUptoRow.holds Try.pinned (OpenSpec.upto offsetAlikeSpec)

/-- 'maculaturelaw06.OffsetShifted', WHERE WHAT IT READS IS OF BULK AT MOST 1048576: true; the input reads as it did. -/
def offsetShiftedUptoRow : OpenClaim := { program := "ytdioclckllbhpaa", sum := "43d8afc7f3b7af24b3056c6cbb9dab261c0e918a7a3b059452cd7c15b59be4d7", func := "maculature/maculaturelaw06.OffsetShifted", spec := "offsetShifted", unfollowed := true, recurses := true, plainKeys := false, leaving := true, apart := false, narrowed := true }
def OffsetShiftedUptoSaid : Prop := offsetShiftedUptoRow.holds Try.pinned (OpenSpec.upto offsetShiftedSpec)

/-- 'maculaturelaw06.OffsetNearest', WHERE WHAT IT READS IS OF BULK AT MOST 1048576: true; the input reads as it did. -/
def offsetNearestUptoRow : OpenClaim := { program := "ytdioclckllbhpaa", sum := "43d8afc7f3b7af24b3056c6cbb9dab261c0e918a7a3b059452cd7c15b59be4d7", func := "maculature/maculaturelaw06.OffsetNearest", spec := "offsetNearest", unfollowed := true, recurses := true, plainKeys := false, leaving := true, apart := false, narrowed := true }
def OffsetNearestUptoSaid : Prop := offsetNearestUptoRow.holds Try.pinned (OpenSpec.upto offsetNearestSpec)

/-- 'maculaturelaw06.OffsetTrue', WHERE WHAT IT READS IS OF BULK AT MOST 1048576: true; the input reads as it did. -/
def offsetTrueUptoRow : OpenClaim := { program := "ytdioclckllbhpaa", sum := "43d8afc7f3b7af24b3056c6cbb9dab261c0e918a7a3b059452cd7c15b59be4d7", func := "maculature/maculaturelaw06.OffsetTrue", spec := "offsetTrue", unfollowed := true, recurses := true, plainKeys := false, leaving := true, apart := false, narrowed := true }
def OffsetTrueUptoSaid : Prop := offsetTrueUptoRow.holds Try.pinned (OpenSpec.upto offsetTrueSpec)

/-- 'maculaturelaw06.OffsetSure', WHERE WHAT IT READS IS OF BULK AT MOST 1048576: true; the input reads as it did. -/
def offsetSureUptoRow : OpenClaim := { program := "ytdioclckllbhpaa", sum := "43d8afc7f3b7af24b3056c6cbb9dab261c0e918a7a3b059452cd7c15b59be4d7", func := "maculature/maculaturelaw06.OffsetSure", spec := "offsetSure", unfollowed := true, recurses := true, plainKeys := false, leaving := true, apart := false, narrowed := true }
def OffsetSureUptoSaid : Prop := offsetSureUptoRow.holds Try.pinned (OpenSpec.upto offsetSureSpec)

/-- 'maculaturelaw06.OffsetExplained', WHERE WHAT IT READS IS OF BULK AT MOST 1048576: true; the input reads as it did. -/
def offsetExplainedUptoRow : OpenClaim := { program := "ytdioclckllbhpaa", sum := "43d8afc7f3b7af24b3056c6cbb9dab261c0e918a7a3b059452cd7c15b59be4d7", func := "maculature/maculaturelaw06.OffsetExplained", spec := "offsetExplained", unfollowed := true, recurses := true, plainKeys := false, leaving := true, apart := false, narrowed := true }
def OffsetExplainedUptoSaid : Prop := offsetExplainedUptoRow.holds Try.pinned (OpenSpec.upto offsetExplainedSpec)

/-- 'maculaturelaw06.OffsetAll', WHERE WHAT IT READS IS OF BULK AT MOST 1048576: true; the input reads as it did. -/
def offsetAllUptoRow : OpenClaim := { program := "ytdioclckllbhpaa", sum := "43d8afc7f3b7af24b3056c6cbb9dab261c0e918a7a3b059452cd7c15b59be4d7", func := "maculature/maculaturelaw06.OffsetAll", spec := "offsetAll", unfollowed := true, recurses := true, plainKeys := false, leaving := true, apart := false, narrowed := true }
def OffsetAllUptoSaid : Prop := offsetAllUptoRow.holds Try.pinned (OpenSpec.upto offsetAllSpec)

/-- 'maculaturelaw06.OffsetKnown', WHERE WHAT IT READS IS OF BULK AT MOST 1048576: true; the input reads as it did. -/
def offsetKnownUptoRow : OpenClaim := { program := "ytdioclckllbhpaa", sum := "43d8afc7f3b7af24b3056c6cbb9dab261c0e918a7a3b059452cd7c15b59be4d7", func := "maculature/maculaturelaw06.OffsetKnown", spec := "offsetKnown", unfollowed := true, recurses := true, plainKeys := false, leaving := true, apart := false, narrowed := true }
def OffsetKnownUptoSaid : Prop := offsetKnownUptoRow.holds Try.pinned (OpenSpec.upto offsetKnownSpec)

end Rows
end Go.Proofs.Ytdioclckllbhpaa

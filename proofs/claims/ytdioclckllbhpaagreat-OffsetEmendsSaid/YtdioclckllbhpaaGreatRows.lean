/-
  No cell of these rows narrows 'for every input' (looked for: loops, veiled, ifaces, maps, wideKeys, modest, calm, conditions, laid).
  DERIVED. THE GIVEN ROWS OF THIS SEAT. 7 by the template 'for every input the law returns true; each argument reads behind the call as it read before'; 0 by the template 'total and deterministic' (their statements: YtdioclckllbhpaaGreatTotals.lean).
  GIVEN WITH THE SEED: the statements are not yours to turn. If you find one false, say at which input.
  Laid BY PROGRAM, IN A SANDBOX (cutbox-rows.mjs): the forced cells as the released guide's own fill.sh prints them over the translation fbaf7dfebabc9ec1… (all of the seat's roots in one cut). By AI agents, Wed Nov 11 2026. No macro, syntax, notation, axiom, sorry.
-/
import Derived.Test.YtdioclckllbhpaaGreatChecked
import GoSem.Claim
import GoSem.ClaimJoined
import GoSem.ClaimMapViews
import Derived.JoinedTies
import Derived.KernelRfl
namespace Go.Proofs.YtdioclckllbhpaaGreat
/- THE CELL 'sum', in the pinned program and in every row, IS THE sha256 OF THE DUMP (.gsa) THAT YtdioclckllbhpaaGreatProg.lean LOADS. Nothing in Lean hashes anything: it is a label: what it is worth is what the hold of that sum in a sandbox is worth. -/
noncomputable def Tryz.pinned : Pinned := { name := "ytdioclckllbhpaagreat", sum := "fbaf7dfebabc9ec1e774e04d004ea82167a4bcfe37bcad9a3ee7205db62b1ffa", checked := Tryz.checked }
namespace Rows
def none {H : Type} : Left H := { results := [], args := [] }

/-- 'maculaturelaw06.OffsetEmends': WHATEVER THE INPUT: true; the input reads as it did. -/
def offsetEmendsSpec : ChangeSpec := { name := "offsetEmends", fn := fun _ => fun
  | [d1, d2, d3] => { results := [.lit (.bool true)], args := [d1, d2, d3] }
  | _ => none }
def offsetEmendsRow : OpenClaim := { program := "ytdioclckllbhpaagreat", sum := "fbaf7dfebabc9ec1e774e04d004ea82167a4bcfe37bcad9a3ee7205db62b1ffa", func := "maculature/maculaturelaw06.OffsetEmends", spec := "offsetEmends", unfollowed := true, recurses := true, plainKeys := false, leaving := true, apart := false }
def OffsetEmendsSaid : Prop := offsetEmendsRow.holds Tryz.pinned (OpenSpec.ofChange offsetEmendsSpec)

/-- ITS FALSE NEIGHBOUR: 'it returns false'. Refute it at one input. -/
def offsetEmendsWrong : ChangeSpec := { name := "offsetEmends", fn := fun _ => fun
  | [d1, d2, d3] => { results := [.lit (.bool false)], args := [d1, d2, d3] }
  | _ => none }
def OffsetEmendsWrongFalsely : Prop := offsetEmendsRow.holds Tryz.pinned (OpenSpec.ofChange offsetEmendsWrong)

/-- 'maculaturelaw06.OffsetAlikes': WHATEVER THE INPUT: true; the input reads as it did. -/
def offsetAlikesSpec : ChangeSpec := { name := "offsetAlikes", fn := fun _ => fun
  | [d1, d2] => { results := [.lit (.bool true)], args := [d1, d2] }
  | _ => none }
def offsetAlikesRow : OpenClaim := { program := "ytdioclckllbhpaagreat", sum := "fbaf7dfebabc9ec1e774e04d004ea82167a4bcfe37bcad9a3ee7205db62b1ffa", func := "maculature/maculaturelaw06.OffsetAlikes", spec := "offsetAlikes", unfollowed := true, recurses := true, plainKeys := false, leaving := true, apart := false }
def OffsetAlikesSaid : Prop := offsetAlikesRow.holds Tryz.pinned (OpenSpec.ofChange offsetAlikesSpec)

/-- ITS FALSE NEIGHBOUR: 'it returns false'. Refute it at one input. -/
def offsetAlikesWrong : ChangeSpec := { name := "offsetAlikes", fn := fun _ => fun
  | [d1, d2] => { results := [.lit (.bool false)], args := [d1, d2] }
  | _ => none }
def OffsetAlikesWrongFalsely : Prop := offsetAlikesRow.holds Tryz.pinned (OpenSpec.ofChange offsetAlikesWrong)

/-- 'maculaturelaw06.OffsetStrokes': WHATEVER THE INPUT: true; the input reads as it did. -/
def offsetStrokesSpec : ChangeSpec := { name := "offsetStrokes", fn := fun _ => fun
  | [d1, d2, d3, d4] => { results := [.lit (.bool true)], args := [d1, d2, d3, d4] }
  | _ => none }
def offsetStrokesRow : OpenClaim := { program := "ytdioclckllbhpaagreat", sum := "fbaf7dfebabc9ec1e774e04d004ea82167a4bcfe37bcad9a3ee7205db62b1ffa", func := "maculature/maculaturelaw06.OffsetStrokes", spec := "offsetStrokes", unfollowed := true, recurses := true, plainKeys := false, leaving := true, apart := false }
def OffsetStrokesSaid : Prop := offsetStrokesRow.holds Tryz.pinned (OpenSpec.ofChange offsetStrokesSpec)

/-- ITS FALSE NEIGHBOUR: 'it returns false'. Refute it at one input. -/
def offsetStrokesWrong : ChangeSpec := { name := "offsetStrokes", fn := fun _ => fun
  | [d1, d2, d3, d4] => { results := [.lit (.bool false)], args := [d1, d2, d3, d4] }
  | _ => none }
def OffsetStrokesWrongFalsely : Prop := offsetStrokesRow.holds Tryz.pinned (OpenSpec.ofChange offsetStrokesWrong)

/-- 'maculaturelaw06.OffsetShows': WHATEVER THE INPUT: true; the input reads as it did. -/
def offsetShowsSpec : ChangeSpec := { name := "offsetShows", fn := fun _ => fun
  | [d1, d2, d3, d4, d5, d6] => { results := [.lit (.bool true)], args := [d1, d2, d3, d4, d5, d6] }
  | _ => none }
def offsetShowsRow : OpenClaim := { program := "ytdioclckllbhpaagreat", sum := "fbaf7dfebabc9ec1e774e04d004ea82167a4bcfe37bcad9a3ee7205db62b1ffa", func := "maculature/maculaturelaw06.OffsetShows", spec := "offsetShows", unfollowed := true, recurses := true, plainKeys := false, leaving := true, apart := false }
def OffsetShowsSaid : Prop := offsetShowsRow.holds Tryz.pinned (OpenSpec.ofChange offsetShowsSpec)

/-- ITS FALSE NEIGHBOUR: 'it returns false'. Refute it at one input. -/
def offsetShowsWrong : ChangeSpec := { name := "offsetShows", fn := fun _ => fun
  | [d1, d2, d3, d4, d5, d6] => { results := [.lit (.bool false)], args := [d1, d2, d3, d4, d5, d6] }
  | _ => none }
def OffsetShowsWrongFalsely : Prop := offsetShowsRow.holds Tryz.pinned (OpenSpec.ofChange offsetShowsWrong)

/-- 'maculaturelaw06.OffsetMisfits': WHATEVER THE INPUT: true; the input reads as it did. -/
def offsetMisfitsSpec : ChangeSpec := { name := "offsetMisfits", fn := fun _ => fun
  | [d1, d2, d3] => { results := [.lit (.bool true)], args := [d1, d2, d3] }
  | _ => none }
def offsetMisfitsRow : OpenClaim := { program := "ytdioclckllbhpaagreat", sum := "fbaf7dfebabc9ec1e774e04d004ea82167a4bcfe37bcad9a3ee7205db62b1ffa", func := "maculature/maculaturelaw06.OffsetMisfits", spec := "offsetMisfits", unfollowed := true, recurses := true, plainKeys := false, leaving := true, apart := false }
def OffsetMisfitsSaid : Prop := offsetMisfitsRow.holds Tryz.pinned (OpenSpec.ofChange offsetMisfitsSpec)

/-- ITS FALSE NEIGHBOUR: 'it returns false'. Refute it at one input. -/
def offsetMisfitsWrong : ChangeSpec := { name := "offsetMisfits", fn := fun _ => fun
  | [d1, d2, d3] => { results := [.lit (.bool false)], args := [d1, d2, d3] }
  | _ => none }
def OffsetMisfitsWrongFalsely : Prop := offsetMisfitsRow.holds Tryz.pinned (OpenSpec.ofChange offsetMisfitsWrong)

/-- 'maculaturelaw06.OffsetDoubles': WHATEVER THE INPUT: true; the input reads as it did. -/
def offsetDoublesSpec : ChangeSpec := { name := "offsetDoubles", fn := fun _ => fun
  | [d1, d2, d3, d4] => { results := [.lit (.bool true)], args := [d1, d2, d3, d4] }
  | _ => none }
def offsetDoublesRow : OpenClaim := { program := "ytdioclckllbhpaagreat", sum := "fbaf7dfebabc9ec1e774e04d004ea82167a4bcfe37bcad9a3ee7205db62b1ffa", func := "maculature/maculaturelaw06.OffsetDoubles", spec := "offsetDoubles", unfollowed := true, recurses := true, plainKeys := false, leaving := true, apart := false }
def OffsetDoublesSaid : Prop := offsetDoublesRow.holds Tryz.pinned (OpenSpec.ofChange offsetDoublesSpec)

/-- ITS FALSE NEIGHBOUR: 'it returns false'. Refute it at one input. -/
def offsetDoublesWrong : ChangeSpec := { name := "offsetDoubles", fn := fun _ => fun
  | [d1, d2, d3, d4] => { results := [.lit (.bool false)], args := [d1, d2, d3, d4] }
  | _ => none }
def OffsetDoublesWrongFalsely : Prop := offsetDoublesRow.holds Tryz.pinned (OpenSpec.ofChange offsetDoublesWrong)

/-- 'maculaturelaw06.OffsetLays': WHATEVER THE INPUT: true; the input reads as it did. -/
def offsetLaysSpec : ChangeSpec := { name := "offsetLays", fn := fun _ => fun
  | [d1, d2, d3] => { results := [.lit (.bool true)], args := [d1, d2, d3] }
  | _ => none }
def offsetLaysRow : OpenClaim := { program := "ytdioclckllbhpaagreat", sum := "fbaf7dfebabc9ec1e774e04d004ea82167a4bcfe37bcad9a3ee7205db62b1ffa", func := "maculature/maculaturelaw06.OffsetLays", spec := "offsetLays", unfollowed := true, recurses := true, plainKeys := false, leaving := true, apart := false }
def OffsetLaysSaid : Prop := offsetLaysRow.holds Tryz.pinned (OpenSpec.ofChange offsetLaysSpec)

/-- ITS FALSE NEIGHBOUR: 'it returns false'. Refute it at one input. -/
def offsetLaysWrong : ChangeSpec := { name := "offsetLays", fn := fun _ => fun
  | [d1, d2, d3] => { results := [.lit (.bool false)], args := [d1, d2, d3] }
  | _ => none }
def OffsetLaysWrongFalsely : Prop := offsetLaysRow.holds Tryz.pinned (OpenSpec.ofChange offsetLaysWrong)

/- THE SECOND FORM. 'bulk': how many values and letters a reading holds, each counted each time it is reached (what is shared counts as often as it is met; a slice's spare places count too). A statement '..UptoSaid' is the law's where the arguments, and the package variables that the reading takes, are together of bulk at most 1048576: NARROWER than '..Said'. Prove '..Said' where nothing that the law and all that it calls make is longer than what came in: it says more and counts as full. Else prove '..UptoSaid'. A law counts once. -/
mutual
def uptoBulk {H : Type} : DataW H → Nat
  | .lit (.string bytes) => bytes.length + 1
  | .lit _ => 1
  | .nil => 1
  | .ptr d => uptoBulk d + 1
  | .slice elems spare => uptoBulkAll elems + uptoBulkAll spare + 1
  | .agg parts => uptoBulkAll parts + 1
  | .iface _ d => uptoBulk d + 1
  | .map entries => uptoBulkEntries entries + 1
  | .held _ => 1
def uptoBulkAll {H : Type} : List (DataW H) → Nat
  | [] => 0
  | d :: r => uptoBulk d + uptoBulkAll r
def uptoBulkEntries {H : Type} : List (Lit × DataW H) → Nat
  | [] => 0
  | x :: r => uptoBulkEntry x + uptoBulkEntries r
def uptoBulkEntry {H : Type} : Lit × DataW H → Nat
  | (.string bytes, d) => bytes.length + uptoBulk d + 1
  | (_, d) => uptoBulk d + 1
 end
def uptoSmall : (H : Type) → List (DataW H) → Bool := fun _ ds => decide (uptoBulkAll ds ≤ 1048576)
def OpenSpec.upto (s : _root_.Go.ChangeSpec) : _root_.Go.OpenSpec := { _root_.Go.OpenSpec.ofChange s with cond := some uptoSmall }

/-- 'maculaturelaw06.OffsetEmends', WHERE WHAT IT READS IS OF BULK AT MOST 1048576: true; the input reads as it did. -/
def offsetEmendsUptoRow : OpenClaim := { program := "ytdioclckllbhpaagreat", sum := "fbaf7dfebabc9ec1e774e04d004ea82167a4bcfe37bcad9a3ee7205db62b1ffa", func := "maculature/maculaturelaw06.OffsetEmends", spec := "offsetEmends", unfollowed := true, recurses := true, plainKeys := false, leaving := true, apart := false, narrowed := true }
def OffsetEmendsUptoSaid : Prop := offsetEmendsUptoRow.holds Tryz.pinned (OpenSpec.upto offsetEmendsSpec)

/-- 'maculaturelaw06.OffsetAlikes', WHERE WHAT IT READS IS OF BULK AT MOST 1048576: true; the input reads as it did. -/
def offsetAlikesUptoRow : OpenClaim := { program := "ytdioclckllbhpaagreat", sum := "fbaf7dfebabc9ec1e774e04d004ea82167a4bcfe37bcad9a3ee7205db62b1ffa", func := "maculature/maculaturelaw06.OffsetAlikes", spec := "offsetAlikes", unfollowed := true, recurses := true, plainKeys := false, leaving := true, apart := false, narrowed := true }
def OffsetAlikesUptoSaid : Prop := offsetAlikesUptoRow.holds Tryz.pinned (OpenSpec.upto offsetAlikesSpec)

/-- 'maculaturelaw06.OffsetStrokes', WHERE WHAT IT READS IS OF BULK AT MOST 1048576: true; the input reads as it did. -/
def offsetStrokesUptoRow : OpenClaim := { program := "ytdioclckllbhpaagreat", sum := "fbaf7dfebabc9ec1e774e04d004ea82167a4bcfe37bcad9a3ee7205db62b1ffa", func := "maculature/maculaturelaw06.OffsetStrokes", spec := "offsetStrokes", unfollowed := true, recurses := true, plainKeys := false, leaving := true, apart := false, narrowed := true }
def OffsetStrokesUptoSaid : Prop := offsetStrokesUptoRow.holds Tryz.pinned (OpenSpec.upto offsetStrokesSpec)

/-- 'maculaturelaw06.OffsetShows', WHERE WHAT IT READS IS OF BULK AT MOST 1048576: true; the input reads as it did. -/
def offsetShowsUptoRow : OpenClaim := { program := "ytdioclckllbhpaagreat", sum := "fbaf7dfebabc9ec1e774e04d004ea82167a4bcfe37bcad9a3ee7205db62b1ffa", func := "maculature/maculaturelaw06.OffsetShows", spec := "offsetShows", unfollowed := true, recurses := true, plainKeys := false, leaving := true, apart := false, narrowed := true }
def OffsetShowsUptoSaid : Prop := offsetShowsUptoRow.holds Tryz.pinned (OpenSpec.upto offsetShowsSpec)

/-- 'maculaturelaw06.OffsetMisfits', WHERE WHAT IT READS IS OF BULK AT MOST 1048576: true; the input reads as it did. -/
def offsetMisfitsUptoRow : OpenClaim := { program := "ytdioclckllbhpaagreat", sum := "fbaf7dfebabc9ec1e774e04d004ea82167a4bcfe37bcad9a3ee7205db62b1ffa", func := "maculature/maculaturelaw06.OffsetMisfits", spec := "offsetMisfits", unfollowed := true, recurses := true, plainKeys := false, leaving := true, apart := false, narrowed := true }
def OffsetMisfitsUptoSaid : Prop := offsetMisfitsUptoRow.holds Tryz.pinned (OpenSpec.upto offsetMisfitsSpec)

/-- 'maculaturelaw06.OffsetDoubles', WHERE WHAT IT READS IS OF BULK AT MOST 1048576: true; the input reads as it did. -/
def offsetDoublesUptoRow : OpenClaim := { program := "ytdioclckllbhpaagreat", sum := "fbaf7dfebabc9ec1e774e04d004ea82167a4bcfe37bcad9a3ee7205db62b1ffa", func := "maculature/maculaturelaw06.OffsetDoubles", spec := "offsetDoubles", unfollowed := true, recurses := true, plainKeys := false, leaving := true, apart := false, narrowed := true }
def OffsetDoublesUptoSaid : Prop := offsetDoublesUptoRow.holds Tryz.pinned (OpenSpec.upto offsetDoublesSpec)

/-- 'maculaturelaw06.OffsetLays', WHERE WHAT IT READS IS OF BULK AT MOST 1048576: true; the input reads as it did. -/
def offsetLaysUptoRow : OpenClaim := { program := "ytdioclckllbhpaagreat", sum := "fbaf7dfebabc9ec1e774e04d004ea82167a4bcfe37bcad9a3ee7205db62b1ffa", func := "maculature/maculaturelaw06.OffsetLays", spec := "offsetLays", unfollowed := true, recurses := true, plainKeys := false, leaving := true, apart := false, narrowed := true }
def OffsetLaysUptoSaid : Prop := offsetLaysUptoRow.holds Tryz.pinned (OpenSpec.upto offsetLaysSpec)

end Rows
end Go.Proofs.YtdioclckllbhpaaGreat

/-
  NARROWER THAN 'FOR EVERY INPUT', by the rows' own cells (each row's printed sentence says how): RevalNames: loops · RevalParts: loops · WeighLists: loops.
  DERIVED. THE GIVEN ROWS OF THIS SEAT. 12 by the template 'for every input the law returns true; each argument reads behind the call as it read before'; 0 by the template 'total and deterministic' (their statements: YtikcninaepoojaaTotals.lean).
  GIVEN WITH THE SEED: the statements are not yours to turn. If you find one false, say at which input.
  Laid BY PROGRAM, IN A SANDBOX (cutbox-rows.mjs): the forced cells as the released guide's own fill.sh prints them over the translation fd87a1ea7995d118… (all of the seat's roots in one cut). By AI agents, Wed Nov 11 2026. No macro, syntax, notation, axiom, sorry.
-/
import Derived.Test.YtikcninaepoojaaChecked
import GoSem.Claim
import GoSem.ClaimJoined
import GoSem.ClaimMapViews
import Derived.JoinedTies
import Derived.KernelRfl
namespace Go.Proofs.Ytikcninaepoojaa
/- THE CELL 'sum', in the pinned program and in every row, IS THE sha256 OF THE DUMP (.gsa) THAT YtikcninaepoojaaProg.lean LOADS. Nothing in Lean hashes anything: it is a label: what it is worth is what the hold of that sum in a sandbox is worth. -/
noncomputable def Try.pinned : Pinned := { name := "ytikcninaepoojaa", sum := "fd87a1ea7995d1185e3ba9dc038bbae5ca272af558fac74d3a54d762d2bf7484", checked := Try.checked }
namespace Rows
def none {H : Type} : Left H := { results := [], args := [] }

/-- 'tapestrierlaw14.RevalNames': WHATEVER THE INPUT: true; the input reads as it did. -/
def revalNamesSpec : ChangeSpec := { name := "revalNames", fn := fun _ => fun
  | [d1, d2] => { results := [.lit (.bool true)], args := [d1, d2] }
  | _ => none }
def revalNamesRow : OpenClaim := { program := "ytikcninaepoojaa", sum := "fd87a1ea7995d1185e3ba9dc038bbae5ca272af558fac74d3a54d762d2bf7484", func := "tapestrier/tapestrierlaw14.RevalNames", spec := "revalNames", recurses := true, loops := true, apart := false }
def RevalNamesSaid : Prop := revalNamesRow.holds Try.pinned (OpenSpec.ofChange revalNamesSpec)

/-- ITS FALSE NEIGHBOUR: 'it returns false'. Refute it at one input. -/
def revalNamesWrong : ChangeSpec := { name := "revalNames", fn := fun _ => fun
  | [d1, d2] => { results := [.lit (.bool false)], args := [d1, d2] }
  | _ => none }
def RevalNamesWrongFalsely : Prop := revalNamesRow.holds Try.pinned (OpenSpec.ofChange revalNamesWrong)

/-- 'tapestrierlaw14.RevalParts': WHATEVER THE INPUT: true; the input reads as it did. -/
def revalPartsSpec : ChangeSpec := { name := "revalParts", fn := fun _ => fun
  | [d1, d2] => { results := [.lit (.bool true)], args := [d1, d2] }
  | _ => none }
def revalPartsRow : OpenClaim := { program := "ytikcninaepoojaa", sum := "fd87a1ea7995d1185e3ba9dc038bbae5ca272af558fac74d3a54d762d2bf7484", func := "tapestrier/tapestrierlaw14.RevalParts", spec := "revalParts", unfollowed := true, recurses := true, loops := true, apart := false }
def RevalPartsSaid : Prop := revalPartsRow.holds Try.pinned (OpenSpec.ofChange revalPartsSpec)

/-- ITS FALSE NEIGHBOUR: 'it returns false'. Refute it at one input. -/
def revalPartsWrong : ChangeSpec := { name := "revalParts", fn := fun _ => fun
  | [d1, d2] => { results := [.lit (.bool false)], args := [d1, d2] }
  | _ => none }
def RevalPartsWrongFalsely : Prop := revalPartsRow.holds Try.pinned (OpenSpec.ofChange revalPartsWrong)

/-- 'tapestrierlaw24.FairRounds': WHATEVER THE INPUT: true; the input reads as it did. -/
def fairRoundsSpec : ChangeSpec := { name := "fairRounds", fn := fun _ => fun
  | [d1, d2, d3] => { results := [.lit (.bool true)], args := [d1, d2, d3] }
  | _ => none }
def fairRoundsRow : OpenClaim := { program := "ytikcninaepoojaa", sum := "fd87a1ea7995d1185e3ba9dc038bbae5ca272af558fac74d3a54d762d2bf7484", func := "tapestrier/tapestrierlaw24.FairRounds", spec := "fairRounds", unfollowed := true, recurses := true, apart := false }
def FairRoundsSaid : Prop := fairRoundsRow.holds Try.pinned (OpenSpec.ofChange fairRoundsSpec)

/-- ITS FALSE NEIGHBOUR: 'it returns false'. Refute it at one input. -/
def fairRoundsWrong : ChangeSpec := { name := "fairRounds", fn := fun _ => fun
  | [d1, d2, d3] => { results := [.lit (.bool false)], args := [d1, d2, d3] }
  | _ => none }
def FairRoundsWrongFalsely : Prop := fairRoundsRow.holds Try.pinned (OpenSpec.ofChange fairRoundsWrong)

/-- 'tapestrierlaw24.FairTurns': WHATEVER THE INPUT: true; the input reads as it did. -/
def fairTurnsSpec : ChangeSpec := { name := "fairTurns", fn := fun _ => fun
  | [d1, d2] => { results := [.lit (.bool true)], args := [d1, d2] }
  | _ => none }
def fairTurnsRow : OpenClaim := { program := "ytikcninaepoojaa", sum := "fd87a1ea7995d1185e3ba9dc038bbae5ca272af558fac74d3a54d762d2bf7484", func := "tapestrier/tapestrierlaw24.FairTurns", spec := "fairTurns", unfollowed := true, recurses := true, apart := false }
def FairTurnsSaid : Prop := fairTurnsRow.holds Try.pinned (OpenSpec.ofChange fairTurnsSpec)

/-- ITS FALSE NEIGHBOUR: 'it returns false'. Refute it at one input. -/
def fairTurnsWrong : ChangeSpec := { name := "fairTurns", fn := fun _ => fun
  | [d1, d2] => { results := [.lit (.bool false)], args := [d1, d2] }
  | _ => none }
def FairTurnsWrongFalsely : Prop := fairTurnsRow.holds Try.pinned (OpenSpec.ofChange fairTurnsWrong)

/-- 'tapestrierlaw11.WeighMany': WHATEVER THE INPUT: true; the input reads as it did. -/
def weighManySpec : ChangeSpec := { name := "weighMany", fn := fun _ => fun
  | [d1, d2, d3] => { results := [.lit (.bool true)], args := [d1, d2, d3] }
  | _ => none }
def weighManyRow : OpenClaim := { program := "ytikcninaepoojaa", sum := "fd87a1ea7995d1185e3ba9dc038bbae5ca272af558fac74d3a54d762d2bf7484", func := "tapestrier/tapestrierlaw11.WeighMany", spec := "weighMany", recurses := true, apart := false }
def WeighManySaid : Prop := weighManyRow.holds Try.pinned (OpenSpec.ofChange weighManySpec)

/-- ITS FALSE NEIGHBOUR: 'it returns false'. Refute it at one input. -/
def weighManyWrong : ChangeSpec := { name := "weighMany", fn := fun _ => fun
  | [d1, d2, d3] => { results := [.lit (.bool false)], args := [d1, d2, d3] }
  | _ => none }
def WeighManyWrongFalsely : Prop := weighManyRow.holds Try.pinned (OpenSpec.ofChange weighManyWrong)

/-- 'tapestrierlaw11.WeighKinds': WHATEVER THE INPUT: true; the input reads as it did. -/
def weighKindsSpec : ChangeSpec := { name := "weighKinds", fn := fun _ => fun
  | [d1, d2] => { results := [.lit (.bool true)], args := [d1, d2] }
  | _ => none }
def weighKindsRow : OpenClaim := { program := "ytikcninaepoojaa", sum := "fd87a1ea7995d1185e3ba9dc038bbae5ca272af558fac74d3a54d762d2bf7484", func := "tapestrier/tapestrierlaw11.WeighKinds", spec := "weighKinds", recurses := true, apart := false }
def WeighKindsSaid : Prop := weighKindsRow.holds Try.pinned (OpenSpec.ofChange weighKindsSpec)

/-- ITS FALSE NEIGHBOUR: 'it returns false'. Refute it at one input. -/
def weighKindsWrong : ChangeSpec := { name := "weighKinds", fn := fun _ => fun
  | [d1, d2] => { results := [.lit (.bool false)], args := [d1, d2] }
  | _ => none }
def WeighKindsWrongFalsely : Prop := weighKindsRow.holds Try.pinned (OpenSpec.ofChange weighKindsWrong)

/-- 'tapestrierlaw11.WeighLists': WHATEVER THE INPUT: true; the input reads as it did. -/
def weighListsSpec : ChangeSpec := { name := "weighLists", fn := fun _ => fun
  | [d1, d2, d3] => { results := [.lit (.bool true)], args := [d1, d2, d3] }
  | _ => none }
def weighListsRow : OpenClaim := { program := "ytikcninaepoojaa", sum := "fd87a1ea7995d1185e3ba9dc038bbae5ca272af558fac74d3a54d762d2bf7484", func := "tapestrier/tapestrierlaw11.WeighLists", spec := "weighLists", recurses := true, loops := true, apart := false }
def WeighListsSaid : Prop := weighListsRow.holds Try.pinned (OpenSpec.ofChange weighListsSpec)

/-- ITS FALSE NEIGHBOUR: 'it returns false'. Refute it at one input. -/
def weighListsWrong : ChangeSpec := { name := "weighLists", fn := fun _ => fun
  | [d1, d2, d3] => { results := [.lit (.bool false)], args := [d1, d2, d3] }
  | _ => none }
def WeighListsWrongFalsely : Prop := weighListsRow.holds Try.pinned (OpenSpec.ofChange weighListsWrong)

/-- 'tapestrierlaw16.ComputeOf': WHATEVER THE INPUT: true; the input reads as it did. -/
def computeOfSpec : ChangeSpec := { name := "computeOf", fn := fun _ => fun
  | [d1, d2, d3] => { results := [.lit (.bool true)], args := [d1, d2, d3] }
  | _ => none }
def computeOfRow : OpenClaim := { program := "ytikcninaepoojaa", sum := "fd87a1ea7995d1185e3ba9dc038bbae5ca272af558fac74d3a54d762d2bf7484", func := "tapestrier/tapestrierlaw16.ComputeOf", spec := "computeOf", apart := false }
def ComputeOfSaid : Prop := computeOfRow.holds Try.pinned (OpenSpec.ofChange computeOfSpec)

/-- ITS FALSE NEIGHBOUR: 'it returns false'. Refute it at one input. -/
def computeOfWrong : ChangeSpec := { name := "computeOf", fn := fun _ => fun
  | [d1, d2, d3] => { results := [.lit (.bool false)], args := [d1, d2, d3] }
  | _ => none }
def ComputeOfWrongFalsely : Prop := computeOfRow.holds Try.pinned (OpenSpec.ofChange computeOfWrong)

/-- 'tapestrierlaw16.ComputeNone': WHATEVER THE INPUT: true; the input reads as it did. -/
def computeNoneSpec : ChangeSpec := { name := "computeNone", fn := fun _ => fun
  | [d1, d2] => { results := [.lit (.bool true)], args := [d1, d2] }
  | _ => none }
def computeNoneRow : OpenClaim := { program := "ytikcninaepoojaa", sum := "fd87a1ea7995d1185e3ba9dc038bbae5ca272af558fac74d3a54d762d2bf7484", func := "tapestrier/tapestrierlaw16.ComputeNone", spec := "computeNone", apart := false }
def ComputeNoneSaid : Prop := computeNoneRow.holds Try.pinned (OpenSpec.ofChange computeNoneSpec)

/-- ITS FALSE NEIGHBOUR: 'it returns false'. Refute it at one input. -/
def computeNoneWrong : ChangeSpec := { name := "computeNone", fn := fun _ => fun
  | [d1, d2] => { results := [.lit (.bool false)], args := [d1, d2] }
  | _ => none }
def ComputeNoneWrongFalsely : Prop := computeNoneRow.holds Try.pinned (OpenSpec.ofChange computeNoneWrong)

/-- 'tapestrierlaw16.ComputeEms': WHATEVER THE INPUT: true; the input reads as it did. -/
def computeEmsSpec : ChangeSpec := { name := "computeEms", fn := fun _ => fun
  | [d1, d2, d3] => { results := [.lit (.bool true)], args := [d1, d2, d3] }
  | _ => none }
def computeEmsRow : OpenClaim := { program := "ytikcninaepoojaa", sum := "fd87a1ea7995d1185e3ba9dc038bbae5ca272af558fac74d3a54d762d2bf7484", func := "tapestrier/tapestrierlaw16.ComputeEms", spec := "computeEms", apart := false }
def ComputeEmsSaid : Prop := computeEmsRow.holds Try.pinned (OpenSpec.ofChange computeEmsSpec)

/-- ITS FALSE NEIGHBOUR: 'it returns false'. Refute it at one input. -/
def computeEmsWrong : ChangeSpec := { name := "computeEms", fn := fun _ => fun
  | [d1, d2, d3] => { results := [.lit (.bool false)], args := [d1, d2, d3] }
  | _ => none }
def ComputeEmsWrongFalsely : Prop := computeEmsRow.holds Try.pinned (OpenSpec.ofChange computeEmsWrong)

/-- 'tapestrierlaw16.ComputeApart': WHATEVER THE INPUT: true; the input reads as it did. -/
def computeApartSpec : ChangeSpec := { name := "computeApart", fn := fun _ => fun
  | [d1, d2, d3, d4] => { results := [.lit (.bool true)], args := [d1, d2, d3, d4] }
  | _ => none }
def computeApartRow : OpenClaim := { program := "ytikcninaepoojaa", sum := "fd87a1ea7995d1185e3ba9dc038bbae5ca272af558fac74d3a54d762d2bf7484", func := "tapestrier/tapestrierlaw16.ComputeApart", spec := "computeApart", apart := false }
def ComputeApartSaid : Prop := computeApartRow.holds Try.pinned (OpenSpec.ofChange computeApartSpec)

/-- ITS FALSE NEIGHBOUR: 'it returns false'. Refute it at one input. -/
def computeApartWrong : ChangeSpec := { name := "computeApart", fn := fun _ => fun
  | [d1, d2, d3, d4] => { results := [.lit (.bool false)], args := [d1, d2, d3, d4] }
  | _ => none }
def ComputeApartWrongFalsely : Prop := computeApartRow.holds Try.pinned (OpenSpec.ofChange computeApartWrong)

/-- 'tapestrierlaw16.ComputeKinds': WHATEVER THE INPUT: true; the input reads as it did. -/
def computeKindsSpec : ChangeSpec := { name := "computeKinds", fn := fun _ => fun
  | [d1, d2, d3] => { results := [.lit (.bool true)], args := [d1, d2, d3] }
  | _ => none }
def computeKindsRow : OpenClaim := { program := "ytikcninaepoojaa", sum := "fd87a1ea7995d1185e3ba9dc038bbae5ca272af558fac74d3a54d762d2bf7484", func := "tapestrier/tapestrierlaw16.ComputeKinds", spec := "computeKinds", apart := false }
def ComputeKindsSaid : Prop := computeKindsRow.holds Try.pinned (OpenSpec.ofChange computeKindsSpec)

/-- ITS FALSE NEIGHBOUR: 'it returns false'. Refute it at one input. -/
def computeKindsWrong : ChangeSpec := { name := "computeKinds", fn := fun _ => fun
  | [d1, d2, d3] => { results := [.lit (.bool false)], args := [d1, d2, d3] }
  | _ => none }
def ComputeKindsWrongFalsely : Prop := computeKindsRow.holds Try.pinned (OpenSpec.ofChange computeKindsWrong)

/- THE SECOND FORM. 'bulk': how many values and letters a reading holds, each counted each time it is reached (what is shared counts as often as it is met; a slice's spare places count too). A statement '..UptoSaid' is the law's where the arguments, and the package variables that the reading takes, are together of bulk at most 1048576: NARROWER than '..Said'. Prove '..Said' where nothing that the law and all that it calls make is longer than what came in: it says more and counts as full. Else prove '..UptoSaid'. A law counts once. -/
mutual
def uptoBulk {H : Type} : DataW H → Nat
  | .lit (.string bytes) => bytes.length + 1
  | .lit _ => 1
  | .nil => 1
  | .ptr d => uptoBulk d + 1
  | .slice elems spare => uptoBulkAll elems + uptoBulkAll spare + 1
  | .agg parts => uptoBulkAll parts + 1
  | .iface _ d => uptoBulk d + 1
  | .map entries => uptoBulkEntries entries + 1
  | .held _ => 1
def uptoBulkAll {H : Type} : List (DataW H) → Nat
  | [] => 0
  | d :: r => uptoBulk d + uptoBulkAll r
def uptoBulkEntries {H : Type} : List (Lit × DataW H) → Nat
  | [] => 0
  | x :: r => uptoBulkEntry x + uptoBulkEntries r
def uptoBulkEntry {H : Type} : Lit × DataW H → Nat
  | (.string bytes, d) => bytes.length + uptoBulk d + 1
  | (_, d) => uptoBulk d + 1
 end
def uptoSmall : (H : Type) → List (DataW H) → Bool := fun _ ds => decide (uptoBulkAll ds ≤ 1048576)
def OpenSpec.upto (s : _root_.Go.ChangeSpec) : _root_.Go.OpenSpec := { _root_.Go.OpenSpec.ofChange s with cond := some uptoSmall }

/-- 'tapestrierlaw14.RevalNames', WHERE WHAT IT READS IS OF BULK AT MOST 1048576: true; the input reads as it did. -/
def revalNamesUptoRow : OpenClaim := { program := "ytikcninaepoojaa", sum := "fd87a1ea7995d1185e3ba9dc038bbae5ca272af558fac74d3a54d762d2bf7484", func := "tapestrier/tapestrierlaw14.RevalNames", spec := "revalNames", recurses := true, loops := true, apart := false, narrowed := true }
def RevalNamesUptoSaid : Prop := revalNamesUptoRow.holds Try.pinned (OpenSpec.upto revalNamesSpec)

/-- 'tapestrierlaw14.RevalParts', WHERE WHAT IT READS IS OF BULK AT MOST 1048576: true; the input reads as it did. -/
def revalPartsUptoRow : OpenClaim := { program := "ytikcninaepoojaa", sum := "fd87a1ea7995d1185e3ba9dc038bbae5ca272af558fac74d3a54d762d2bf7484", func := "tapestrier/tapestrierlaw14.RevalParts", spec := "revalParts", unfollowed := true, recurses := true, loops := true, apart := false, narrowed := true }
def RevalPartsUptoSaid : Prop := revalPartsUptoRow.holds Try.pinned (OpenSpec.upto revalPartsSpec)

/-- 'tapestrierlaw24.FairRounds', WHERE WHAT IT READS IS OF BULK AT MOST 1048576: true; the input reads as it did. -/
def fairRoundsUptoRow : OpenClaim := { program := "ytikcninaepoojaa", sum := "fd87a1ea7995d1185e3ba9dc038bbae5ca272af558fac74d3a54d762d2bf7484", func := "tapestrier/tapestrierlaw24.FairRounds", spec := "fairRounds", unfollowed := true, recurses := true, apart := false, narrowed := true }
def FairRoundsUptoSaid : Prop := fairRoundsUptoRow.holds Try.pinned (OpenSpec.upto fairRoundsSpec)

/-- 'tapestrierlaw24.FairTurns', WHERE WHAT IT READS IS OF BULK AT MOST 1048576: true; the input reads as it did. -/
def fairTurnsUptoRow : OpenClaim := { program := "ytikcninaepoojaa", sum := "fd87a1ea7995d1185e3ba9dc038bbae5ca272af558fac74d3a54d762d2bf7484", func := "tapestrier/tapestrierlaw24.FairTurns", spec := "fairTurns", unfollowed := true, recurses := true, apart := false, narrowed := true }
def FairTurnsUptoSaid : Prop := fairTurnsUptoRow.holds Try.pinned (OpenSpec.upto fairTurnsSpec)

/-- 'tapestrierlaw11.WeighMany', WHERE WHAT IT READS IS OF BULK AT MOST 1048576: true; the input reads as it did. -/
def weighManyUptoRow : OpenClaim := { program := "ytikcninaepoojaa", sum := "fd87a1ea7995d1185e3ba9dc038bbae5ca272af558fac74d3a54d762d2bf7484", func := "tapestrier/tapestrierlaw11.WeighMany", spec := "weighMany", recurses := true, apart := false, narrowed := true }
def WeighManyUptoSaid : Prop := weighManyUptoRow.holds Try.pinned (OpenSpec.upto weighManySpec)

/-- 'tapestrierlaw11.WeighKinds', WHERE WHAT IT READS IS OF BULK AT MOST 1048576: true; the input reads as it did. -/
def weighKindsUptoRow : OpenClaim := { program := "ytikcninaepoojaa", sum := "fd87a1ea7995d1185e3ba9dc038bbae5ca272af558fac74d3a54d762d2bf7484", func := "tapestrier/tapestrierlaw11.WeighKinds", spec := "weighKinds", recurses := true, apart := false, narrowed := true }
def WeighKindsUptoSaid : Prop := weighKindsUptoRow.holds Try.pinned (OpenSpec.upto weighKindsSpec)

/-- 'tapestrierlaw11.WeighLists', WHERE WHAT IT READS IS OF BULK AT MOST 1048576: true; the input reads as it did. -/
def weighListsUptoRow : OpenClaim := { program := "ytikcninaepoojaa", sum := "fd87a1ea7995d1185e3ba9dc038bbae5ca272af558fac74d3a54d762d2bf7484", func := "tapestrier/tapestrierlaw11.WeighLists", spec := "weighLists", recurses := true, loops := true, apart := false, narrowed := true }
def WeighListsUptoSaid : Prop := weighListsUptoRow.holds Try.pinned (OpenSpec.upto weighListsSpec)

/-- 'tapestrierlaw16.ComputeOf', WHERE WHAT IT READS IS OF BULK AT MOST 1048576: true; the input reads as it did. -/
def computeOfUptoRow : OpenClaim := { program := "ytikcninaepoojaa", sum := "fd87a1ea7995d1185e3ba9dc038bbae5ca272af558fac74d3a54d762d2bf7484", func := "tapestrier/tapestrierlaw16.ComputeOf", spec := "computeOf", apart := false, narrowed := true }
def ComputeOfUptoSaid : Prop := computeOfUptoRow.holds Try.pinned (OpenSpec.upto computeOfSpec)

/-- 'tapestrierlaw16.ComputeNone', WHERE WHAT IT READS IS OF BULK AT MOST 1048576: true; the input reads as it did. -/
def computeNoneUptoRow : OpenClaim := { program := "ytikcninaepoojaa", sum := "fd87a1ea7995d1185e3ba9dc038bbae5ca272af558fac74d3a54d762d2bf7484", func := "tapestrier/tapestrierlaw16.ComputeNone", spec := "computeNone", apart := false, narrowed := true }
def ComputeNoneUptoSaid : Prop := computeNoneUptoRow.holds Try.pinned (OpenSpec.upto computeNoneSpec)

/-- 'tapestrierlaw16.ComputeEms', WHERE WHAT IT READS IS OF BULK AT MOST 1048576: true; the input reads as it did. -/
def computeEmsUptoRow : OpenClaim := { program := "ytikcninaepoojaa", sum := "fd87a1ea7995d1185e3ba9dc038bbae5ca272af558fac74d3a54d762d2bf7484", func := "tapestrier/tapestrierlaw16.ComputeEms", spec := "computeEms", apart := false, narrowed := true }
def ComputeEmsUptoSaid : Prop := computeEmsUptoRow.holds Try.pinned (OpenSpec.upto computeEmsSpec)

/-- 'tapestrierlaw16.ComputeApart', WHERE WHAT IT READS IS OF BULK AT MOST 1048576: true; the input reads as it did. -/
def computeApartUptoRow : OpenClaim := { program := "ytikcninaepoojaa", sum := "fd87a1ea7995d1185e3ba9dc038bbae5ca272af558fac74d3a54d762d2bf7484", func := "tapestrier/tapestrierlaw16.ComputeApart", spec := "computeApart", apart := false, narrowed := true }
def ComputeApartUptoSaid : Prop := computeApartUptoRow.holds Try.pinned (OpenSpec.upto computeApartSpec)

/-- 'tapestrierlaw16.ComputeKinds', WHERE WHAT IT READS IS OF BULK AT MOST 1048576: true; the input reads as it did. -/
def computeKindsUptoRow : OpenClaim := { program := "ytikcninaepoojaa", sum := "fd87a1ea7995d1185e3ba9dc038bbae5ca272af558fac74d3a54d762d2bf7484", func := "tapestrier/tapestrierlaw16.ComputeKinds", spec := "computeKinds", apart := false, narrowed := true }
def ComputeKindsUptoSaid : Prop := computeKindsUptoRow.holds Try.pinned (OpenSpec.upto computeKindsSpec)

end Rows
end Go.Proofs.Ytikcninaepoojaa

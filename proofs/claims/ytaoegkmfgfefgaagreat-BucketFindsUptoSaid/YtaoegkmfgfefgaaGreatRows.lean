/-
  NARROWER THAN 'FOR EVERY INPUT', by the rows' own cells (each row's printed sentence says how): BucketFinds: loops · RevalNeeds: loops · WeighSelectors: loops.
  DERIVED. THE GIVEN ROWS OF THIS SEAT. 3 by the template 'for every input the law returns true; each argument reads behind the call as it read before'; 0 by the template 'total and deterministic' (their statements: YtaoegkmfgfefgaaGreatTotals.lean).
  GIVEN WITH THE SEED: the statements are not yours to turn. If you find one false, say at which input.
  Laid BY PROGRAM, IN A SANDBOX (cutbox-rows.mjs): the forced cells as the released guide's own fill.sh prints them over the translation daf12bb21eed1fdf… (all of the seat's roots in one cut). By AI agents, Wed Nov 11 2026. No macro, syntax, notation, axiom, sorry.
-/
import Derived.Test.YtaoegkmfgfefgaaGreatChecked
import GoSem.Claim
import GoSem.ClaimJoined
import GoSem.ClaimMapViews
import Derived.JoinedTies
import Derived.KernelRfl
namespace Go.Proofs.YtaoegkmfgfefgaaGreat
/- THE CELL 'sum', in the pinned program and in every row, IS THE sha256 OF THE DUMP (.gsa) THAT YtaoegkmfgfefgaaGreatProg.lean LOADS. Nothing in Lean hashes anything: it is a label: what it is worth is what the hold of that sum in a sandbox is worth. -/
noncomputable def Tryz.pinned : Pinned := { name := "ytaoegkmfgfefgaagreat", sum := "daf12bb21eed1fdf4de54cc7ef8007c2a92cc69d3ff358f5af99ff959b329a37", checked := Tryz.checked }
namespace Rows
def none {H : Type} : Left H := { results := [], args := [] }

/-- 'tapestrierlaw12.BucketFinds': WHATEVER THE INPUT: true; the input reads as it did. -/
def bucketFindsSpec : ChangeSpec := { name := "bucketFinds", fn := fun _ => fun
  | [d1, d2] => { results := [.lit (.bool true)], args := [d1, d2] }
  | _ => none }
def bucketFindsRow : OpenClaim := { program := "ytaoegkmfgfefgaagreat", sum := "daf12bb21eed1fdf4de54cc7ef8007c2a92cc69d3ff358f5af99ff959b329a37", func := "tapestrier/tapestrierlaw12.BucketFinds", spec := "bucketFinds", recurses := true, loops := true, plainKeys := false, apart := false }
def BucketFindsSaid : Prop := bucketFindsRow.holds Tryz.pinned (OpenSpec.ofChange bucketFindsSpec)

/-- ITS FALSE NEIGHBOUR: 'it returns false'. Refute it at one input. -/
def bucketFindsWrong : ChangeSpec := { name := "bucketFinds", fn := fun _ => fun
  | [d1, d2] => { results := [.lit (.bool false)], args := [d1, d2] }
  | _ => none }
def BucketFindsWrongFalsely : Prop := bucketFindsRow.holds Tryz.pinned (OpenSpec.ofChange bucketFindsWrong)

/-- 'tapestrierlaw14.RevalNeeds': WHATEVER THE INPUT: true; the input reads as it did. -/
def revalNeedsSpec : ChangeSpec := { name := "revalNeeds", fn := fun _ => fun
  | [d1, d2] => { results := [.lit (.bool true)], args := [d1, d2] }
  | _ => none }
def revalNeedsRow : OpenClaim := { program := "ytaoegkmfgfefgaagreat", sum := "daf12bb21eed1fdf4de54cc7ef8007c2a92cc69d3ff358f5af99ff959b329a37", func := "tapestrier/tapestrierlaw14.RevalNeeds", spec := "revalNeeds", inPlace := ["internal/bytealg.IndexByteString", "internal/bytealg.IndexString"], unfollowed := true, recurses := true, named := ["internal/bytealg.MaxLen"], loops := true, plainKeys := false, apart := false }
def RevalNeedsSaid : Prop := revalNeedsRow.holds Tryz.pinned (OpenSpec.ofChange revalNeedsSpec)

/-- ITS FALSE NEIGHBOUR: 'it returns false'. Refute it at one input. -/
def revalNeedsWrong : ChangeSpec := { name := "revalNeeds", fn := fun _ => fun
  | [d1, d2] => { results := [.lit (.bool false)], args := [d1, d2] }
  | _ => none }
def RevalNeedsWrongFalsely : Prop := revalNeedsRow.holds Tryz.pinned (OpenSpec.ofChange revalNeedsWrong)

/-- 'tapestrierlaw11.WeighSelectors': WHATEVER THE INPUT: true; the input reads as it did. -/
def weighSelectorsSpec : ChangeSpec := { name := "weighSelectors", fn := fun _ => fun
  | [d1, d2] => { results := [.lit (.bool true)], args := [d1, d2] }
  | _ => none }
def weighSelectorsRow : OpenClaim := { program := "ytaoegkmfgfefgaagreat", sum := "daf12bb21eed1fdf4de54cc7ef8007c2a92cc69d3ff358f5af99ff959b329a37", func := "tapestrier/tapestrierlaw11.WeighSelectors", spec := "weighSelectors", inPlace := ["internal/bytealg.IndexByteString", "internal/bytealg.IndexString"], unfollowed := true, recurses := true, named := ["internal/bytealg.MaxLen"], loops := true, plainKeys := false, apart := false }
def WeighSelectorsSaid : Prop := weighSelectorsRow.holds Tryz.pinned (OpenSpec.ofChange weighSelectorsSpec)

/-- ITS FALSE NEIGHBOUR: 'it returns false'. Refute it at one input. -/
def weighSelectorsWrong : ChangeSpec := { name := "weighSelectors", fn := fun _ => fun
  | [d1, d2] => { results := [.lit (.bool false)], args := [d1, d2] }
  | _ => none }
def WeighSelectorsWrongFalsely : Prop := weighSelectorsRow.holds Tryz.pinned (OpenSpec.ofChange weighSelectorsWrong)

/- THE SECOND FORM. 'bulk': how many values and letters a reading holds, each counted each time it is reached (what is shared counts as often as it is met; a slice's spare places count too). A statement '..UptoSaid' is the law's where the arguments, and the package variables that the reading takes, are together of bulk at most 1048576: NARROWER than '..Said'. Prove '..Said' where nothing that the law and all that it calls make is longer than what came in: it says more and counts as full. Else prove '..UptoSaid'. A law counts once. -/
mutual
def uptoBulk {H : Type} : DataW H → Nat
  | .lit (.string bytes) => bytes.length + 1
  | .lit _ => 1
  | .nil => 1
  | .ptr d => uptoBulk d + 1
  | .slice elems spare => uptoBulkAll elems + uptoBulkAll spare + 1
  | .agg parts => uptoBulkAll parts + 1
  | .iface _ d => uptoBulk d + 1
  | .map entries => uptoBulkEntries entries + 1
  | .held _ => 1
def uptoBulkAll {H : Type} : List (DataW H) → Nat
  | [] => 0
  | d :: r => uptoBulk d + uptoBulkAll r
def uptoBulkEntries {H : Type} : List (Lit × DataW H) → Nat
  | [] => 0
  | x :: r => uptoBulkEntry x + uptoBulkEntries r
def uptoBulkEntry {H : Type} : Lit × DataW H → Nat
  | (.string bytes, d) => bytes.length + uptoBulk d + 1
  | (_, d) => uptoBulk d + 1
 end
def uptoSmall : (H : Type) → List (DataW H) → Bool := fun _ ds => decide (uptoBulkAll ds ≤ 1048576)
def OpenSpec.upto (s : _root_.Go.ChangeSpec) : _root_.Go.OpenSpec := { _root_.Go.OpenSpec.ofChange s with cond := some uptoSmall }

/-- 'tapestrierlaw12.BucketFinds', WHERE WHAT IT READS IS OF BULK AT MOST 1048576: true; the input reads as it did. -/
def bucketFindsUptoRow : OpenClaim := { program := "ytaoegkmfgfefgaagreat", sum := "daf12bb21eed1fdf4de54cc7ef8007c2a92cc69d3ff358f5af99ff959b329a37", func := "tapestrier/tapestrierlaw12.BucketFinds", spec := "bucketFinds", recurses := true, loops := true, plainKeys := false, apart := false, narrowed := true }
def BucketFindsUptoSaid : Prop := bucketFindsUptoRow.holds Tryz.pinned (OpenSpec.upto bucketFindsSpec)

/-- 'tapestrierlaw14.RevalNeeds', WHERE WHAT IT READS IS OF BULK AT MOST 1048576: true; the input reads as it did. -/
def revalNeedsUptoRow : OpenClaim := { program := "ytaoegkmfgfefgaagreat", sum := "daf12bb21eed1fdf4de54cc7ef8007c2a92cc69d3ff358f5af99ff959b329a37", func := "tapestrier/tapestrierlaw14.RevalNeeds", spec := "revalNeeds", inPlace := ["internal/bytealg.IndexByteString", "internal/bytealg.IndexString"], unfollowed := true, recurses := true, named := ["internal/bytealg.MaxLen"], loops := true, plainKeys := false, apart := false, narrowed := true }
def RevalNeedsUptoSaid : Prop := revalNeedsUptoRow.holds Tryz.pinned (OpenSpec.upto revalNeedsSpec)

/-- 'tapestrierlaw11.WeighSelectors', WHERE WHAT IT READS IS OF BULK AT MOST 1048576: true; the input reads as it did. -/
def weighSelectorsUptoRow : OpenClaim := { program := "ytaoegkmfgfefgaagreat", sum := "daf12bb21eed1fdf4de54cc7ef8007c2a92cc69d3ff358f5af99ff959b329a37", func := "tapestrier/tapestrierlaw11.WeighSelectors", spec := "weighSelectors", inPlace := ["internal/bytealg.IndexByteString", "internal/bytealg.IndexString"], unfollowed := true, recurses := true, named := ["internal/bytealg.MaxLen"], loops := true, plainKeys := false, apart := false, narrowed := true }
def WeighSelectorsUptoSaid : Prop := weighSelectorsUptoRow.holds Tryz.pinned (OpenSpec.upto weighSelectorsSpec)

end Rows
end Go.Proofs.YtaoegkmfgfefgaaGreat

/-
  NARROWER THAN 'FOR EVERY INPUT', by the rows' own cells (each row's printed sentence says how): RevalNames: loops · RevalParts: loops · BucketFor: loops · BucketParts: loops · BucketMore: loops · ShareMay: loops · ShareSame: loops · ShareEqual: loops · ShareLess: loops.
  DERIVED. THE GIVEN ROWS OF THIS SEAT. 9 by the template 'for every input the law returns true; each argument reads behind the call as it read before'; 0 by the template 'total and deterministic' (their statements: YtaoegkmfgfefgaaTotals.lean).
  GIVEN WITH THE SEED: the statements are not yours to turn. If you find one false, say at which input.
  Laid BY PROGRAM, IN A SANDBOX (cutbox-rows.mjs): the forced cells as the released guide's own fill.sh prints them over the translation c1b379aab7557a14… (all of the seat's roots in one cut). By AI agents, Wed Nov 11 2026. No macro, syntax, notation, axiom, sorry.
-/
import Derived.Test.YtaoegkmfgfefgaaChecked
import GoSem.Claim
import GoSem.ClaimJoined
import GoSem.ClaimMapViews
import Derived.JoinedTies
import Derived.KernelRfl
namespace Go.Proofs.Ytaoegkmfgfefgaa
/- THE CELL 'sum', in the pinned program and in every row, IS THE sha256 OF THE DUMP (.gsa) THAT YtaoegkmfgfefgaaProg.lean LOADS. Nothing in Lean hashes anything: it is a label: what it is worth is what the hold of that sum in a sandbox is worth. -/
noncomputable def Try.pinned : Pinned := { name := "ytaoegkmfgfefgaa", sum := "c1b379aab7557a147939abda35e2bc9effeee1f1681606a72c932a44f0c73b5b", checked := Try.checked }
namespace Rows
def none {H : Type} : Left H := { results := [], args := [] }

/-- 'tapestrierlaw14.RevalNames': WHATEVER THE INPUT: true; the input reads as it did. -/
def revalNamesSpec : ChangeSpec := { name := "revalNames", fn := fun _ => fun
  | [d1, d2] => { results := [.lit (.bool true)], args := [d1, d2] }
  | _ => none }
def revalNamesRow : OpenClaim := { program := "ytaoegkmfgfefgaa", sum := "c1b379aab7557a147939abda35e2bc9effeee1f1681606a72c932a44f0c73b5b", func := "tapestrier/tapestrierlaw14.RevalNames", spec := "revalNames", recurses := true, loops := true, plainKeys := false, apart := false }
def RevalNamesSaid : Prop := revalNamesRow.holds Try.pinned (OpenSpec.ofChange revalNamesSpec)

/-- ITS FALSE NEIGHBOUR: 'it returns false'. Refute it at one input. -/
def revalNamesWrong : ChangeSpec := { name := "revalNames", fn := fun _ => fun
  | [d1, d2] => { results := [.lit (.bool false)], args := [d1, d2] }
  | _ => none }
def RevalNamesWrongFalsely : Prop := revalNamesRow.holds Try.pinned (OpenSpec.ofChange revalNamesWrong)

/-- 'tapestrierlaw14.RevalParts': WHATEVER THE INPUT: true; the input reads as it did. -/
def revalPartsSpec : ChangeSpec := { name := "revalParts", fn := fun _ => fun
  | [d1, d2] => { results := [.lit (.bool true)], args := [d1, d2] }
  | _ => none }
def revalPartsRow : OpenClaim := { program := "ytaoegkmfgfefgaa", sum := "c1b379aab7557a147939abda35e2bc9effeee1f1681606a72c932a44f0c73b5b", func := "tapestrier/tapestrierlaw14.RevalParts", spec := "revalParts", unfollowed := true, recurses := true, loops := true, plainKeys := false, apart := false }
def RevalPartsSaid : Prop := revalPartsRow.holds Try.pinned (OpenSpec.ofChange revalPartsSpec)

/-- ITS FALSE NEIGHBOUR: 'it returns false'. Refute it at one input. -/
def revalPartsWrong : ChangeSpec := { name := "revalParts", fn := fun _ => fun
  | [d1, d2] => { results := [.lit (.bool false)], args := [d1, d2] }
  | _ => none }
def RevalPartsWrongFalsely : Prop := revalPartsRow.holds Try.pinned (OpenSpec.ofChange revalPartsWrong)

/-- 'tapestrierlaw12.BucketFor': WHATEVER THE INPUT: true; the input reads as it did. -/
def bucketForSpec : ChangeSpec := { name := "bucketFor", fn := fun _ => fun
  | [d1, d2] => { results := [.lit (.bool true)], args := [d1, d2] }
  | _ => none }
def bucketForRow : OpenClaim := { program := "ytaoegkmfgfefgaa", sum := "c1b379aab7557a147939abda35e2bc9effeee1f1681606a72c932a44f0c73b5b", func := "tapestrier/tapestrierlaw12.BucketFor", spec := "bucketFor", recurses := true, loops := true, plainKeys := false, apart := false }
def BucketForSaid : Prop := bucketForRow.holds Try.pinned (OpenSpec.ofChange bucketForSpec)

/-- ITS FALSE NEIGHBOUR: 'it returns false'. Refute it at one input. -/
def bucketForWrong : ChangeSpec := { name := "bucketFor", fn := fun _ => fun
  | [d1, d2] => { results := [.lit (.bool false)], args := [d1, d2] }
  | _ => none }
def BucketForWrongFalsely : Prop := bucketForRow.holds Try.pinned (OpenSpec.ofChange bucketForWrong)

/-- 'tapestrierlaw12.BucketParts': WHATEVER THE INPUT: true; the input reads as it did. -/
def bucketPartsSpec : ChangeSpec := { name := "bucketParts", fn := fun _ => fun
  | [d1, d2, d3] => { results := [.lit (.bool true)], args := [d1, d2, d3] }
  | _ => none }
def bucketPartsRow : OpenClaim := { program := "ytaoegkmfgfefgaa", sum := "c1b379aab7557a147939abda35e2bc9effeee1f1681606a72c932a44f0c73b5b", func := "tapestrier/tapestrierlaw12.BucketParts", spec := "bucketParts", recurses := true, loops := true, plainKeys := false, apart := false }
def BucketPartsSaid : Prop := bucketPartsRow.holds Try.pinned (OpenSpec.ofChange bucketPartsSpec)

/-- ITS FALSE NEIGHBOUR: 'it returns false'. Refute it at one input. -/
def bucketPartsWrong : ChangeSpec := { name := "bucketParts", fn := fun _ => fun
  | [d1, d2, d3] => { results := [.lit (.bool false)], args := [d1, d2, d3] }
  | _ => none }
def BucketPartsWrongFalsely : Prop := bucketPartsRow.holds Try.pinned (OpenSpec.ofChange bucketPartsWrong)

/-- 'tapestrierlaw12.BucketMore': WHATEVER THE INPUT: true; the input reads as it did. -/
def bucketMoreSpec : ChangeSpec := { name := "bucketMore", fn := fun _ => fun
  | [d1, d2, d3] => { results := [.lit (.bool true)], args := [d1, d2, d3] }
  | _ => none }
def bucketMoreRow : OpenClaim := { program := "ytaoegkmfgfefgaa", sum := "c1b379aab7557a147939abda35e2bc9effeee1f1681606a72c932a44f0c73b5b", func := "tapestrier/tapestrierlaw12.BucketMore", spec := "bucketMore", recurses := true, loops := true, plainKeys := false, apart := false }
def BucketMoreSaid : Prop := bucketMoreRow.holds Try.pinned (OpenSpec.ofChange bucketMoreSpec)

/-- ITS FALSE NEIGHBOUR: 'it returns false'. Refute it at one input. -/
def bucketMoreWrong : ChangeSpec := { name := "bucketMore", fn := fun _ => fun
  | [d1, d2, d3] => { results := [.lit (.bool false)], args := [d1, d2, d3] }
  | _ => none }
def BucketMoreWrongFalsely : Prop := bucketMoreRow.holds Try.pinned (OpenSpec.ofChange bucketMoreWrong)

/-- 'tapestrierlaw22.ShareMay': WHATEVER THE INPUT: true; the input reads as it did. -/
def shareMaySpec : ChangeSpec := { name := "shareMay", fn := fun _ => fun
  | [d1, d2] => { results := [.lit (.bool true)], args := [d1, d2] }
  | _ => none }
def shareMayRow : OpenClaim := { program := "ytaoegkmfgfefgaa", sum := "c1b379aab7557a147939abda35e2bc9effeee1f1681606a72c932a44f0c73b5b", func := "tapestrier/tapestrierlaw22.ShareMay", spec := "shareMay", inPlace := ["internal/bytealg.IndexByteString", "internal/bytealg.IndexString"], unfollowed := true, recurses := true, named := ["internal/bytealg.MaxLen"], loops := true, plainKeys := false, apart := false }
def ShareMaySaid : Prop := shareMayRow.holds Try.pinned (OpenSpec.ofChange shareMaySpec)

/-- ITS FALSE NEIGHBOUR: 'it returns false'. Refute it at one input. -/
def shareMayWrong : ChangeSpec := { name := "shareMay", fn := fun _ => fun
  | [d1, d2] => { results := [.lit (.bool false)], args := [d1, d2] }
  | _ => none }
def ShareMayWrongFalsely : Prop := shareMayRow.holds Try.pinned (OpenSpec.ofChange shareMayWrong)

/-- 'tapestrierlaw22.ShareSame': WHATEVER THE INPUT: true; the input reads as it did. -/
def shareSameSpec : ChangeSpec := { name := "shareSame", fn := fun _ => fun
  | [d1, d2] => { results := [.lit (.bool true)], args := [d1, d2] }
  | _ => none }
def shareSameRow : OpenClaim := { program := "ytaoegkmfgfefgaa", sum := "c1b379aab7557a147939abda35e2bc9effeee1f1681606a72c932a44f0c73b5b", func := "tapestrier/tapestrierlaw22.ShareSame", spec := "shareSame", inPlace := ["internal/bytealg.IndexByteString", "internal/bytealg.IndexString"], unfollowed := true, recurses := true, named := ["internal/bytealg.MaxLen"], loops := true, plainKeys := false, apart := false }
def ShareSameSaid : Prop := shareSameRow.holds Try.pinned (OpenSpec.ofChange shareSameSpec)

/-- ITS FALSE NEIGHBOUR: 'it returns false'. Refute it at one input. -/
def shareSameWrong : ChangeSpec := { name := "shareSame", fn := fun _ => fun
  | [d1, d2] => { results := [.lit (.bool false)], args := [d1, d2] }
  | _ => none }
def ShareSameWrongFalsely : Prop := shareSameRow.holds Try.pinned (OpenSpec.ofChange shareSameWrong)

/-- 'tapestrierlaw22.ShareEqual': WHATEVER THE INPUT: true; the input reads as it did. -/
def shareEqualSpec : ChangeSpec := { name := "shareEqual", fn := fun _ => fun
  | [d1, d2, d3] => { results := [.lit (.bool true)], args := [d1, d2, d3] }
  | _ => none }
def shareEqualRow : OpenClaim := { program := "ytaoegkmfgfefgaa", sum := "c1b379aab7557a147939abda35e2bc9effeee1f1681606a72c932a44f0c73b5b", func := "tapestrier/tapestrierlaw22.ShareEqual", spec := "shareEqual", inPlace := ["internal/bytealg.IndexByteString", "internal/bytealg.IndexString"], unfollowed := true, recurses := true, named := ["internal/bytealg.MaxLen"], loops := true, plainKeys := false, apart := false }
def ShareEqualSaid : Prop := shareEqualRow.holds Try.pinned (OpenSpec.ofChange shareEqualSpec)

/-- ITS FALSE NEIGHBOUR: 'it returns false'. Refute it at one input. -/
def shareEqualWrong : ChangeSpec := { name := "shareEqual", fn := fun _ => fun
  | [d1, d2, d3] => { results := [.lit (.bool false)], args := [d1, d2, d3] }
  | _ => none }
def ShareEqualWrongFalsely : Prop := shareEqualRow.holds Try.pinned (OpenSpec.ofChange shareEqualWrong)

/-- 'tapestrierlaw22.ShareLess': WHATEVER THE INPUT: true; the input reads as it did. -/
def shareLessSpec : ChangeSpec := { name := "shareLess", fn := fun _ => fun
  | [d1, d2, d3] => { results := [.lit (.bool true)], args := [d1, d2, d3] }
  | _ => none }
def shareLessRow : OpenClaim := { program := "ytaoegkmfgfefgaa", sum := "c1b379aab7557a147939abda35e2bc9effeee1f1681606a72c932a44f0c73b5b", func := "tapestrier/tapestrierlaw22.ShareLess", spec := "shareLess", inPlace := ["internal/bytealg.IndexByteString", "internal/bytealg.IndexString"], unfollowed := true, recurses := true, named := ["internal/bytealg.MaxLen"], loops := true, plainKeys := false, apart := false }
def ShareLessSaid : Prop := shareLessRow.holds Try.pinned (OpenSpec.ofChange shareLessSpec)

/-- ITS FALSE NEIGHBOUR: 'it returns false'. Refute it at one input. -/
def shareLessWrong : ChangeSpec := { name := "shareLess", fn := fun _ => fun
  | [d1, d2, d3] => { results := [.lit (.bool false)], args := [d1, d2, d3] }
  | _ => none }
def ShareLessWrongFalsely : Prop := shareLessRow.holds Try.pinned (OpenSpec.ofChange shareLessWrong)

/- THE SECOND FORM. 'bulk': how many values and letters a reading holds, each counted each time it is reached (what is shared counts as often as it is met; a slice's spare places count too). A statement '..UptoSaid' is the law's where the arguments, and the package variables that the reading takes, are together of bulk at most 1048576: NARROWER than '..Said'. Prove '..Said' where nothing that the law and all that it calls make is longer than what came in: it says more and counts as full. Else prove '..UptoSaid'. A law counts once. -/
mutual
def uptoBulk {H : Type} : DataW H → Nat
  | .lit (.string bytes) => bytes.length + 1
  | .lit _ => 1
  | .nil => 1
  | .ptr d => uptoBulk d + 1
  | .slice elems spare => uptoBulkAll elems + uptoBulkAll spare + 1
  | .agg parts => uptoBulkAll parts + 1
  | .iface _ d => uptoBulk d + 1
  | .map entries => uptoBulkEntries entries + 1
  | .held _ => 1
def uptoBulkAll {H : Type} : List (DataW H) → Nat
  | [] => 0
  | d :: r => uptoBulk d + uptoBulkAll r
def uptoBulkEntries {H : Type} : List (Lit × DataW H) → Nat
  | [] => 0
  | x :: r => uptoBulkEntry x + uptoBulkEntries r
def uptoBulkEntry {H : Type} : Lit × DataW H → Nat
  | (.string bytes, d) => bytes.length + uptoBulk d + 1
  | (_, d) => uptoBulk d + 1
 end
def uptoSmall : (H : Type) → List (DataW H) → Bool := fun _ ds => decide (uptoBulkAll ds ≤ 1048576)
def OpenSpec.upto (s : _root_.Go.ChangeSpec) : _root_.Go.OpenSpec := { _root_.Go.OpenSpec.ofChange s with cond := some uptoSmall }

/-- 'tapestrierlaw14.RevalNames', WHERE WHAT IT READS IS OF BULK AT MOST 1048576: true; the input reads as it did. -/
def revalNamesUptoRow : OpenClaim := { program := "ytaoegkmfgfefgaa", sum := "c1b379aab7557a147939abda35e2bc9effeee1f1681606a72c932a44f0c73b5b", func := "tapestrier/tapestrierlaw14.RevalNames", spec := "revalNames", recurses := true, loops := true, plainKeys := false, apart := false, narrowed := true }
def RevalNamesUptoSaid : Prop := revalNamesUptoRow.holds Try.pinned (OpenSpec.upto revalNamesSpec)

/-- 'tapestrierlaw14.RevalParts', WHERE WHAT IT READS IS OF BULK AT MOST 1048576: true; the input reads as it did. -/
def revalPartsUptoRow : OpenClaim := { program := "ytaoegkmfgfefgaa", sum := "c1b379aab7557a147939abda35e2bc9effeee1f1681606a72c932a44f0c73b5b", func := "tapestrier/tapestrierlaw14.RevalParts", spec := "revalParts", unfollowed := true, recurses := true, loops := true, plainKeys := false, apart := false, narrowed := true }
def RevalPartsUptoSaid : Prop := revalPartsUptoRow.holds Try.pinned (OpenSpec.upto revalPartsSpec)

/-- 'tapestrierlaw12.BucketFor', WHERE WHAT IT READS IS OF BULK AT MOST 1048576: true; the input reads as it did. -/
def bucketForUptoRow : OpenClaim := { program := "ytaoegkmfgfefgaa", sum := "c1b379aab7557a147939abda35e2bc9effeee1f1681606a72c932a44f0c73b5b", func := "tapestrier/tapestrierlaw12.BucketFor", spec := "bucketFor", recurses := true, loops := true, plainKeys := false, apart := false, narrowed := true }
def BucketForUptoSaid : Prop := bucketForUptoRow.holds Try.pinned (OpenSpec.upto bucketForSpec)

/-- 'tapestrierlaw12.BucketParts', WHERE WHAT IT READS IS OF BULK AT MOST 1048576: true; the input reads as it did. -/
def bucketPartsUptoRow : OpenClaim := { program := "ytaoegkmfgfefgaa", sum := "c1b379aab7557a147939abda35e2bc9effeee1f1681606a72c932a44f0c73b5b", func := "tapestrier/tapestrierlaw12.BucketParts", spec := "bucketParts", recurses := true, loops := true, plainKeys := false, apart := false, narrowed := true }
def BucketPartsUptoSaid : Prop := bucketPartsUptoRow.holds Try.pinned (OpenSpec.upto bucketPartsSpec)

/-- 'tapestrierlaw12.BucketMore', WHERE WHAT IT READS IS OF BULK AT MOST 1048576: true; the input reads as it did. -/
def bucketMoreUptoRow : OpenClaim := { program := "ytaoegkmfgfefgaa", sum := "c1b379aab7557a147939abda35e2bc9effeee1f1681606a72c932a44f0c73b5b", func := "tapestrier/tapestrierlaw12.BucketMore", spec := "bucketMore", recurses := true, loops := true, plainKeys := false, apart := false, narrowed := true }
def BucketMoreUptoSaid : Prop := bucketMoreUptoRow.holds Try.pinned (OpenSpec.upto bucketMoreSpec)

/-- 'tapestrierlaw22.ShareMay', WHERE WHAT IT READS IS OF BULK AT MOST 1048576: true; the input reads as it did. -/
def shareMayUptoRow : OpenClaim := { program := "ytaoegkmfgfefgaa", sum := "c1b379aab7557a147939abda35e2bc9effeee1f1681606a72c932a44f0c73b5b", func := "tapestrier/tapestrierlaw22.ShareMay", spec := "shareMay", inPlace := ["internal/bytealg.IndexByteString", "internal/bytealg.IndexString"], unfollowed := true, recurses := true, named := ["internal/bytealg.MaxLen"], loops := true, plainKeys := false, apart := false, narrowed := true }
def ShareMayUptoSaid : Prop := shareMayUptoRow.holds Try.pinned (OpenSpec.upto shareMaySpec)

/-- 'tapestrierlaw22.ShareSame', WHERE WHAT IT READS IS OF BULK AT MOST 1048576: true; the input reads as it did. -/
def shareSameUptoRow : OpenClaim := { program := "ytaoegkmfgfefgaa", sum := "c1b379aab7557a147939abda35e2bc9effeee1f1681606a72c932a44f0c73b5b", func := "tapestrier/tapestrierlaw22.ShareSame", spec := "shareSame", inPlace := ["internal/bytealg.IndexByteString", "internal/bytealg.IndexString"], unfollowed := true, recurses := true, named := ["internal/bytealg.MaxLen"], loops := true, plainKeys := false, apart := false, narrowed := true }
def ShareSameUptoSaid : Prop := shareSameUptoRow.holds Try.pinned (OpenSpec.upto shareSameSpec)

/-- 'tapestrierlaw22.ShareEqual', WHERE WHAT IT READS IS OF BULK AT MOST 1048576: true; the input reads as it did. -/
def shareEqualUptoRow : OpenClaim := { program := "ytaoegkmfgfefgaa", sum := "c1b379aab7557a147939abda35e2bc9effeee1f1681606a72c932a44f0c73b5b", func := "tapestrier/tapestrierlaw22.ShareEqual", spec := "shareEqual", inPlace := ["internal/bytealg.IndexByteString", "internal/bytealg.IndexString"], unfollowed := true, recurses := true, named := ["internal/bytealg.MaxLen"], loops := true, plainKeys := false, apart := false, narrowed := true }
def ShareEqualUptoSaid : Prop := shareEqualUptoRow.holds Try.pinned (OpenSpec.upto shareEqualSpec)

/-- 'tapestrierlaw22.ShareLess', WHERE WHAT IT READS IS OF BULK AT MOST 1048576: true; the input reads as it did. -/
def shareLessUptoRow : OpenClaim := { program := "ytaoegkmfgfefgaa", sum := "c1b379aab7557a147939abda35e2bc9effeee1f1681606a72c932a44f0c73b5b", func := "tapestrier/tapestrierlaw22.ShareLess", spec := "shareLess", inPlace := ["internal/bytealg.IndexByteString", "internal/bytealg.IndexString"], unfollowed := true, recurses := true, named := ["internal/bytealg.MaxLen"], loops := true, plainKeys := false, apart := false, narrowed := true }
def ShareLessUptoSaid : Prop := shareLessUptoRow.holds Try.pinned (OpenSpec.upto shareLessSpec)

end Rows
end Go.Proofs.Ytaoegkmfgfefgaa

/-
  NARROWER THAN 'FOR EVERY INPUT', by the rows' own cells (each row's printed sentence says how): MatchSelectors: loops · MatchCompounds: loops · MatchCombs: loops · MatchBoth: loops.
  DERIVED. THE GIVEN ROWS OF THIS SEAT. 10 by the template 'for every input the law returns true; each argument reads behind the call as it read before'; 0 by the template 'total and deterministic' (their statements: YthmaggcfghjmfaaTotals.lean).
  GIVEN WITH THE SEED: the statements are not yours to turn. If you find one false, say at which input.
  Laid BY PROGRAM, IN A SANDBOX (cutbox-rows.mjs): the forced cells as the released guide's own fill.sh prints them over the translation a8d70b401bb1535c… (all of the seat's roots in one cut). By AI agents, Wed Nov 11 2026. No macro, syntax, notation, axiom, sorry.
-/
import Derived.Test.YthmaggcfghjmfaaChecked
import GoSem.Claim
import GoSem.ClaimJoined
import GoSem.ClaimMapViews
import Derived.JoinedTies
import Derived.KernelRfl
namespace Go.Proofs.Ythmaggcfghjmfaa
/- THE CELL 'sum', in the pinned program and in every row, IS THE sha256 OF THE DUMP (.gsa) THAT YthmaggcfghjmfaaProg.lean LOADS. Nothing in Lean hashes anything: it is a label: what it is worth is what the hold of that sum in a sandbox is worth. -/
noncomputable def Try.pinned : Pinned := { name := "ythmaggcfghjmfaa", sum := "a8d70b401bb1535c556db3bb01fb4ad15abc7e5ded0802365ba70a768333807a", checked := Try.checked }
namespace Rows
def none {H : Type} : Left H := { results := [], args := [] }

/-- 'tapestrierlaw10.MatchSelectors': WHATEVER THE INPUT: true; the input reads as it did. -/
def matchSelectorsSpec : ChangeSpec := { name := "matchSelectors", fn := fun _ => fun
  | [d1, d2] => { results := [.lit (.bool true)], args := [d1, d2] }
  | _ => none }
def matchSelectorsRow : OpenClaim := { program := "ythmaggcfghjmfaa", sum := "a8d70b401bb1535c556db3bb01fb4ad15abc7e5ded0802365ba70a768333807a", func := "tapestrier/tapestrierlaw10.MatchSelectors", spec := "matchSelectors", inPlace := ["internal/bytealg.IndexByteString", "internal/bytealg.IndexString"], unfollowed := true, recurses := true, named := ["internal/bytealg.MaxLen"], loops := true, plainKeys := false, apart := false }
def MatchSelectorsSaid : Prop := matchSelectorsRow.holds Try.pinned (OpenSpec.ofChange matchSelectorsSpec)

/-- ITS FALSE NEIGHBOUR: 'it returns false'. Refute it at one input. -/
def matchSelectorsWrong : ChangeSpec := { name := "matchSelectors", fn := fun _ => fun
  | [d1, d2] => { results := [.lit (.bool false)], args := [d1, d2] }
  | _ => none }
def MatchSelectorsWrongFalsely : Prop := matchSelectorsRow.holds Try.pinned (OpenSpec.ofChange matchSelectorsWrong)

/-- 'tapestrierlaw10.MatchLoose': WHATEVER THE INPUT: true; the input reads as it did. -/
def matchLooseSpec : ChangeSpec := { name := "matchLoose", fn := fun _ => fun
  | [d1, d2] => { results := [.lit (.bool true)], args := [d1, d2] }
  | _ => none }
def matchLooseRow : OpenClaim := { program := "ythmaggcfghjmfaa", sum := "a8d70b401bb1535c556db3bb01fb4ad15abc7e5ded0802365ba70a768333807a", func := "tapestrier/tapestrierlaw10.MatchLoose", spec := "matchLoose", inPlace := ["internal/bytealg.IndexByteString", "internal/bytealg.IndexString"], unfollowed := true, recurses := true, named := ["internal/bytealg.MaxLen"], plainKeys := false, apart := false }
def MatchLooseSaid : Prop := matchLooseRow.holds Try.pinned (OpenSpec.ofChange matchLooseSpec)

/-- ITS FALSE NEIGHBOUR: 'it returns false'. Refute it at one input. -/
def matchLooseWrong : ChangeSpec := { name := "matchLoose", fn := fun _ => fun
  | [d1, d2] => { results := [.lit (.bool false)], args := [d1, d2] }
  | _ => none }
def MatchLooseWrongFalsely : Prop := matchLooseRow.holds Try.pinned (OpenSpec.ofChange matchLooseWrong)

/-- 'tapestrierlaw10.MatchDeep': WHATEVER THE INPUT: true; the input reads as it did. -/
def matchDeepSpec : ChangeSpec := { name := "matchDeep", fn := fun _ => fun
  | [d1, d2] => { results := [.lit (.bool true)], args := [d1, d2] }
  | _ => none }
def matchDeepRow : OpenClaim := { program := "ythmaggcfghjmfaa", sum := "a8d70b401bb1535c556db3bb01fb4ad15abc7e5ded0802365ba70a768333807a", func := "tapestrier/tapestrierlaw10.MatchDeep", spec := "matchDeep", inPlace := ["internal/bytealg.IndexByteString", "internal/bytealg.IndexString"], unfollowed := true, recurses := true, named := ["internal/bytealg.MaxLen"], plainKeys := false, apart := false }
def MatchDeepSaid : Prop := matchDeepRow.holds Try.pinned (OpenSpec.ofChange matchDeepSpec)

/-- ITS FALSE NEIGHBOUR: 'it returns false'. Refute it at one input. -/
def matchDeepWrong : ChangeSpec := { name := "matchDeep", fn := fun _ => fun
  | [d1, d2] => { results := [.lit (.bool false)], args := [d1, d2] }
  | _ => none }
def MatchDeepWrongFalsely : Prop := matchDeepRow.holds Try.pinned (OpenSpec.ofChange matchDeepWrong)

/-- 'tapestrierlaw10.MatchCompounds': WHATEVER THE INPUT: true; the input reads as it did. -/
def matchCompoundsSpec : ChangeSpec := { name := "matchCompounds", fn := fun _ => fun
  | [d1, d2] => { results := [.lit (.bool true)], args := [d1, d2] }
  | _ => none }
def matchCompoundsRow : OpenClaim := { program := "ythmaggcfghjmfaa", sum := "a8d70b401bb1535c556db3bb01fb4ad15abc7e5ded0802365ba70a768333807a", func := "tapestrier/tapestrierlaw10.MatchCompounds", spec := "matchCompounds", inPlace := ["internal/bytealg.IndexByteString", "internal/bytealg.IndexString"], unfollowed := true, recurses := true, named := ["internal/bytealg.MaxLen"], loops := true, plainKeys := false, apart := false }
def MatchCompoundsSaid : Prop := matchCompoundsRow.holds Try.pinned (OpenSpec.ofChange matchCompoundsSpec)

/-- ITS FALSE NEIGHBOUR: 'it returns false'. Refute it at one input. -/
def matchCompoundsWrong : ChangeSpec := { name := "matchCompounds", fn := fun _ => fun
  | [d1, d2] => { results := [.lit (.bool false)], args := [d1, d2] }
  | _ => none }
def MatchCompoundsWrongFalsely : Prop := matchCompoundsRow.holds Try.pinned (OpenSpec.ofChange matchCompoundsWrong)

/-- 'tapestrierlaw10.MatchCombs': WHATEVER THE INPUT: true; the input reads as it did. -/
def matchCombsSpec : ChangeSpec := { name := "matchCombs", fn := fun _ => fun
  | [d1, d2, d3, d4] => { results := [.lit (.bool true)], args := [d1, d2, d3, d4] }
  | _ => none }
def matchCombsRow : OpenClaim := { program := "ythmaggcfghjmfaa", sum := "a8d70b401bb1535c556db3bb01fb4ad15abc7e5ded0802365ba70a768333807a", func := "tapestrier/tapestrierlaw10.MatchCombs", spec := "matchCombs", inPlace := ["internal/bytealg.IndexByteString", "internal/bytealg.IndexString"], unfollowed := true, recurses := true, named := ["internal/bytealg.MaxLen"], loops := true, plainKeys := false, apart := false }
def MatchCombsSaid : Prop := matchCombsRow.holds Try.pinned (OpenSpec.ofChange matchCombsSpec)

/-- ITS FALSE NEIGHBOUR: 'it returns false'. Refute it at one input. -/
def matchCombsWrong : ChangeSpec := { name := "matchCombs", fn := fun _ => fun
  | [d1, d2, d3, d4] => { results := [.lit (.bool false)], args := [d1, d2, d3, d4] }
  | _ => none }
def MatchCombsWrongFalsely : Prop := matchCombsRow.holds Try.pinned (OpenSpec.ofChange matchCombsWrong)

/-- 'tapestrierlaw10.MatchNth': WHATEVER THE INPUT: true; the input reads as it did. -/
def matchNthSpec : ChangeSpec := { name := "matchNth", fn := fun _ => fun
  | [d1, d2, d3] => { results := [.lit (.bool true)], args := [d1, d2, d3] }
  | _ => none }
def matchNthRow : OpenClaim := { program := "ythmaggcfghjmfaa", sum := "a8d70b401bb1535c556db3bb01fb4ad15abc7e5ded0802365ba70a768333807a", func := "tapestrier/tapestrierlaw10.MatchNth", spec := "matchNth", inPlace := ["internal/bytealg.IndexByteString", "internal/bytealg.IndexString"], unfollowed := true, recurses := true, named := ["internal/bytealg.MaxLen"], plainKeys := false, apart := false }
def MatchNthSaid : Prop := matchNthRow.holds Try.pinned (OpenSpec.ofChange matchNthSpec)

/-- ITS FALSE NEIGHBOUR: 'it returns false'. Refute it at one input. -/
def matchNthWrong : ChangeSpec := { name := "matchNth", fn := fun _ => fun
  | [d1, d2, d3] => { results := [.lit (.bool false)], args := [d1, d2, d3] }
  | _ => none }
def MatchNthWrongFalsely : Prop := matchNthRow.holds Try.pinned (OpenSpec.ofChange matchNthWrong)

/-- 'tapestrierlaw10.MatchAttrs': WHATEVER THE INPUT: true; the input reads as it did. -/
def matchAttrsSpec : ChangeSpec := { name := "matchAttrs", fn := fun _ => fun
  | [d1, d2, d3] => { results := [.lit (.bool true)], args := [d1, d2, d3] }
  | _ => none }
def matchAttrsRow : OpenClaim := { program := "ythmaggcfghjmfaa", sum := "a8d70b401bb1535c556db3bb01fb4ad15abc7e5ded0802365ba70a768333807a", func := "tapestrier/tapestrierlaw10.MatchAttrs", spec := "matchAttrs", inPlace := ["internal/bytealg.IndexByteString", "internal/bytealg.IndexString"], unfollowed := true, recurses := true, named := ["internal/bytealg.MaxLen"], plainKeys := false, apart := false }
def MatchAttrsSaid : Prop := matchAttrsRow.holds Try.pinned (OpenSpec.ofChange matchAttrsSpec)

/-- ITS FALSE NEIGHBOUR: 'it returns false'. Refute it at one input. -/
def matchAttrsWrong : ChangeSpec := { name := "matchAttrs", fn := fun _ => fun
  | [d1, d2, d3] => { results := [.lit (.bool false)], args := [d1, d2, d3] }
  | _ => none }
def MatchAttrsWrongFalsely : Prop := matchAttrsRow.holds Try.pinned (OpenSpec.ofChange matchAttrsWrong)

/-- 'tapestrierlaw10.MatchPlaces': WHATEVER THE INPUT: true; the input reads as it did. -/
def matchPlacesSpec : ChangeSpec := { name := "matchPlaces", fn := fun _ => fun
  | [d] => { results := [.lit (.bool true)], args := [d] }
  | _ => none }
def matchPlacesRow : OpenClaim := { program := "ythmaggcfghjmfaa", sum := "a8d70b401bb1535c556db3bb01fb4ad15abc7e5ded0802365ba70a768333807a", func := "tapestrier/tapestrierlaw10.MatchPlaces", spec := "matchPlaces", inPlace := ["internal/bytealg.IndexByteString", "internal/bytealg.IndexString"], unfollowed := true, recurses := true, named := ["internal/bytealg.MaxLen"], plainKeys := false, apart := false }
def MatchPlacesSaid : Prop := matchPlacesRow.holds Try.pinned (OpenSpec.ofChange matchPlacesSpec)

/-- ITS FALSE NEIGHBOUR: 'it returns false'. Refute it at one input. -/
def matchPlacesWrong : ChangeSpec := { name := "matchPlaces", fn := fun _ => fun
  | [d] => { results := [.lit (.bool false)], args := [d] }
  | _ => none }
def MatchPlacesWrongFalsely : Prop := matchPlacesRow.holds Try.pinned (OpenSpec.ofChange matchPlacesWrong)

/-- 'tapestrierlaw10.MatchBoth': WHATEVER THE INPUT: true; the input reads as it did. -/
def matchBothSpec : ChangeSpec := { name := "matchBoth", fn := fun _ => fun
  | [d1, d2, d3] => { results := [.lit (.bool true)], args := [d1, d2, d3] }
  | _ => none }
def matchBothRow : OpenClaim := { program := "ythmaggcfghjmfaa", sum := "a8d70b401bb1535c556db3bb01fb4ad15abc7e5ded0802365ba70a768333807a", func := "tapestrier/tapestrierlaw10.MatchBoth", spec := "matchBoth", inPlace := ["internal/bytealg.IndexByteString", "internal/bytealg.IndexString"], unfollowed := true, recurses := true, named := ["internal/bytealg.MaxLen"], loops := true, plainKeys := false, apart := false }
def MatchBothSaid : Prop := matchBothRow.holds Try.pinned (OpenSpec.ofChange matchBothSpec)

/-- ITS FALSE NEIGHBOUR: 'it returns false'. Refute it at one input. -/
def matchBothWrong : ChangeSpec := { name := "matchBoth", fn := fun _ => fun
  | [d1, d2, d3] => { results := [.lit (.bool false)], args := [d1, d2, d3] }
  | _ => none }
def MatchBothWrongFalsely : Prop := matchBothRow.holds Try.pinned (OpenSpec.ofChange matchBothWrong)

/-- 'tapestrierlaw10.MatchAll': WHATEVER THE INPUT: true; the input reads as it did. -/
def matchAllSpec : ChangeSpec := { name := "matchAll", fn := fun _ => fun
  | [d1, d2] => { results := [.lit (.bool true)], args := [d1, d2] }
  | _ => none }
def matchAllRow : OpenClaim := { program := "ythmaggcfghjmfaa", sum := "a8d70b401bb1535c556db3bb01fb4ad15abc7e5ded0802365ba70a768333807a", func := "tapestrier/tapestrierlaw10.MatchAll", spec := "matchAll", inPlace := ["internal/bytealg.IndexByteString", "internal/bytealg.IndexString"], unfollowed := true, recurses := true, named := ["internal/bytealg.MaxLen"], plainKeys := false, apart := false }
def MatchAllSaid : Prop := matchAllRow.holds Try.pinned (OpenSpec.ofChange matchAllSpec)

/-- ITS FALSE NEIGHBOUR: 'it returns false'. Refute it at one input. -/
def matchAllWrong : ChangeSpec := { name := "matchAll", fn := fun _ => fun
  | [d1, d2] => { results := [.lit (.bool false)], args := [d1, d2] }
  | _ => none }
def MatchAllWrongFalsely : Prop := matchAllRow.holds Try.pinned (OpenSpec.ofChange matchAllWrong)

/- THE SECOND FORM. 'bulk': how many values and letters a reading holds, each counted each time it is reached (what is shared counts as often as it is met; a slice's spare places count too). A statement '..UptoSaid' is the law's where the arguments, and the package variables that the reading takes, are together of bulk at most 1048576: NARROWER than '..Said'. Prove '..Said' where nothing that the law and all that it calls make is longer than what came in: it says more and counts as full. Else prove '..UptoSaid'. A law counts once. -/
mutual
def uptoBulk {H : Type} : DataW H → Nat
  | .lit (.string bytes) => bytes.length + 1
  | .lit _ => 1
  | .nil => 1
  | .ptr d => uptoBulk d + 1
  | .slice elems spare => uptoBulkAll elems + uptoBulkAll spare + 1
  | .agg parts => uptoBulkAll parts + 1
  | .iface _ d => uptoBulk d + 1
  | .map entries => uptoBulkEntries entries + 1
  | .held _ => 1
def uptoBulkAll {H : Type} : List (DataW H) → Nat
  | [] => 0
  | d :: r => uptoBulk d + uptoBulkAll r
def uptoBulkEntries {H : Type} : List (Lit × DataW H) → Nat
  | [] => 0
  | x :: r => uptoBulkEntry x + uptoBulkEntries r
def uptoBulkEntry {H : Type} : Lit × DataW H → Nat
  | (.string bytes, d) => bytes.length + uptoBulk d + 1
  | (_, d) => uptoBulk d + 1
 end
def uptoSmall : (H : Type) → List (DataW H) → Bool := fun _ ds => decide (uptoBulkAll ds ≤ 1048576)
def OpenSpec.upto (s : _root_.Go.ChangeSpec) : _root_.Go.OpenSpec := { _root_.Go.OpenSpec.ofChange s with cond := some uptoSmall }

/-- 'tapestrierlaw10.MatchSelectors', WHERE WHAT IT READS IS OF BULK AT MOST 1048576: true; the input reads as it did. -/
def matchSelectorsUptoRow : OpenClaim := { program := "ythmaggcfghjmfaa", sum := "a8d70b401bb1535c556db3bb01fb4ad15abc7e5ded0802365ba70a768333807a", func := "tapestrier/tapestrierlaw10.MatchSelectors", spec := "matchSelectors", inPlace := ["internal/bytealg.IndexByteString", "internal/bytealg.IndexString"], unfollowed := true, recurses := true, named := ["internal/bytealg.MaxLen"], loops := true, plainKeys := false, apart := false, narrowed := true }
def MatchSelectorsUptoSaid : Prop := matchSelectorsUptoRow.holds Try.pinned (OpenSpec.upto matchSelectorsSpec)

/-- 'tapestrierlaw10.MatchLoose', WHERE WHAT IT READS IS OF BULK AT MOST 1048576: true; the input reads as it did. -/
def matchLooseUptoRow : OpenClaim := { program := "ythmaggcfghjmfaa", sum := "a8d70b401bb1535c556db3bb01fb4ad15abc7e5ded0802365ba70a768333807a", func := "tapestrier/tapestrierlaw10.MatchLoose", spec := "matchLoose", inPlace := ["internal/bytealg.IndexByteString", "internal/bytealg.IndexString"], unfollowed := true, recurses := true, named := ["internal/bytealg.MaxLen"], plainKeys := false, apart := false, narrowed := true }
def MatchLooseUptoSaid : Prop := matchLooseUptoRow.holds Try.pinned (OpenSpec.upto matchLooseSpec)

/-- 'tapestrierlaw10.MatchDeep', WHERE WHAT IT READS IS OF BULK AT MOST 1048576: true; the input reads as it did. -/
def matchDeepUptoRow : OpenClaim := { program := "ythmaggcfghjmfaa", sum := "a8d70b401bb1535c556db3bb01fb4ad15abc7e5ded0802365ba70a768333807a", func := "tapestrier/tapestrierlaw10.MatchDeep", spec := "matchDeep", inPlace := ["internal/bytealg.IndexByteString", "internal/bytealg.IndexString"], unfollowed := true, recurses := true, named := ["internal/bytealg.MaxLen"], plainKeys := false, apart := false, narrowed := true }
def MatchDeepUptoSaid : Prop := matchDeepUptoRow.holds Try.pinned (OpenSpec.upto matchDeepSpec)

/-- 'tapestrierlaw10.MatchCompounds', WHERE WHAT IT READS IS OF BULK AT MOST 1048576: true; the input reads as it did. -/
def matchCompoundsUptoRow : OpenClaim := { program := "ythmaggcfghjmfaa", sum := "a8d70b401bb1535c556db3bb01fb4ad15abc7e5ded0802365ba70a768333807a", func := "tapestrier/tapestrierlaw10.MatchCompounds", spec := "matchCompounds", inPlace := ["internal/bytealg.IndexByteString", "internal/bytealg.IndexString"], unfollowed := true, recurses := true, named := ["internal/bytealg.MaxLen"], loops := true, plainKeys := false, apart := false, narrowed := true }
def MatchCompoundsUptoSaid : Prop := matchCompoundsUptoRow.holds Try.pinned (OpenSpec.upto matchCompoundsSpec)

/-- 'tapestrierlaw10.MatchCombs', WHERE WHAT IT READS IS OF BULK AT MOST 1048576: true; the input reads as it did. -/
def matchCombsUptoRow : OpenClaim := { program := "ythmaggcfghjmfaa", sum := "a8d70b401bb1535c556db3bb01fb4ad15abc7e5ded0802365ba70a768333807a", func := "tapestrier/tapestrierlaw10.MatchCombs", spec := "matchCombs", inPlace := ["internal/bytealg.IndexByteString", "internal/bytealg.IndexString"], unfollowed := true, recurses := true, named := ["internal/bytealg.MaxLen"], loops := true, plainKeys := false, apart := false, narrowed := true }
def MatchCombsUptoSaid : Prop := matchCombsUptoRow.holds Try.pinned (OpenSpec.upto matchCombsSpec)

/-- 'tapestrierlaw10.MatchNth', WHERE WHAT IT READS IS OF BULK AT MOST 1048576: true; the input reads as it did. -/
def matchNthUptoRow : OpenClaim := { program := "ythmaggcfghjmfaa", sum := "a8d70b401bb1535c556db3bb01fb4ad15abc7e5ded0802365ba70a768333807a", func := "tapestrier/tapestrierlaw10.MatchNth", spec := "matchNth", inPlace := ["internal/bytealg.IndexByteString", "internal/bytealg.IndexString"], unfollowed := true, recurses := true, named := ["internal/bytealg.MaxLen"], plainKeys := false, apart := false, narrowed := true }
def MatchNthUptoSaid : Prop := matchNthUptoRow.holds Try.pinned (OpenSpec.upto matchNthSpec)

/-- 'tapestrierlaw10.MatchAttrs', WHERE WHAT IT READS IS OF BULK AT MOST 1048576: true; the input reads as it did. -/
def matchAttrsUptoRow : OpenClaim := { program := "ythmaggcfghjmfaa", sum := "a8d70b401bb1535c556db3bb01fb4ad15abc7e5ded0802365ba70a768333807a", func := "tapestrier/tapestrierlaw10.MatchAttrs", spec := "matchAttrs", inPlace := ["internal/bytealg.IndexByteString", "internal/bytealg.IndexString"], unfollowed := true, recurses := true, named := ["internal/bytealg.MaxLen"], plainKeys := false, apart := false, narrowed := true }
def MatchAttrsUptoSaid : Prop := matchAttrsUptoRow.holds Try.pinned (OpenSpec.upto matchAttrsSpec)

/-- 'tapestrierlaw10.MatchPlaces', WHERE WHAT IT READS IS OF BULK AT MOST 1048576: true; the input reads as it did. -/
def matchPlacesUptoRow : OpenClaim := { program := "ythmaggcfghjmfaa", sum := "a8d70b401bb1535c556db3bb01fb4ad15abc7e5ded0802365ba70a768333807a", func := "tapestrier/tapestrierlaw10.MatchPlaces", spec := "matchPlaces", inPlace := ["internal/bytealg.IndexByteString", "internal/bytealg.IndexString"], unfollowed := true, recurses := true, named := ["internal/bytealg.MaxLen"], plainKeys := false, apart := false, narrowed := true }
def MatchPlacesUptoSaid : Prop := matchPlacesUptoRow.holds Try.pinned (OpenSpec.upto matchPlacesSpec)

/-- 'tapestrierlaw10.MatchBoth', WHERE WHAT IT READS IS OF BULK AT MOST 1048576: true; the input reads as it did. -/
def matchBothUptoRow : OpenClaim := { program := "ythmaggcfghjmfaa", sum := "a8d70b401bb1535c556db3bb01fb4ad15abc7e5ded0802365ba70a768333807a", func := "tapestrier/tapestrierlaw10.MatchBoth", spec := "matchBoth", inPlace := ["internal/bytealg.IndexByteString", "internal/bytealg.IndexString"], unfollowed := true, recurses := true, named := ["internal/bytealg.MaxLen"], loops := true, plainKeys := false, apart := false, narrowed := true }
def MatchBothUptoSaid : Prop := matchBothUptoRow.holds Try.pinned (OpenSpec.upto matchBothSpec)

/-- 'tapestrierlaw10.MatchAll', WHERE WHAT IT READS IS OF BULK AT MOST 1048576: true; the input reads as it did. -/
def matchAllUptoRow : OpenClaim := { program := "ythmaggcfghjmfaa", sum := "a8d70b401bb1535c556db3bb01fb4ad15abc7e5ded0802365ba70a768333807a", func := "tapestrier/tapestrierlaw10.MatchAll", spec := "matchAll", inPlace := ["internal/bytealg.IndexByteString", "internal/bytealg.IndexString"], unfollowed := true, recurses := true, named := ["internal/bytealg.MaxLen"], plainKeys := false, apart := false, narrowed := true }
def MatchAllUptoSaid : Prop := matchAllUptoRow.holds Try.pinned (OpenSpec.upto matchAllSpec)

end Rows
end Go.Proofs.Ythmaggcfghjmfaa

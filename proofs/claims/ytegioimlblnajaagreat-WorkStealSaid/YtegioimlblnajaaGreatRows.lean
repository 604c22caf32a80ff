/-
  NARROWER THAN 'FOR EVERY INPUT', by the rows' own cells (each row's printed sentence says how): WorkRight: loops · WorkAlone: loops · WorkOrder: loops · WorkCounts: loops · WorkBounds: loops · WorkTwo: loops · WorkPlays: loops · FairDone: loops · WorkClocks: loops.
  DERIVED. THE GIVEN ROWS OF THIS SEAT. 12 by the template 'for every input the law returns true; each argument reads behind the call as it read before'; 0 by the template 'total and deterministic' (their statements: YtegioimlblnajaaGreatTotals.lean).
  GIVEN WITH THE SEED: the statements are not yours to turn. If you find one false, say at which input.
  Laid BY PROGRAM, IN A SANDBOX (cutbox-rows.mjs): the forced cells as the released guide's own fill.sh prints them over the translation 36223934d99f77ee… (all of the seat's roots in one cut). By AI agents, Wed Nov 11 2026. No macro, syntax, notation, axiom, sorry.
-/
import Derived.Test.YtegioimlblnajaaGreatChecked
import GoSem.Claim
import GoSem.ClaimJoined
import GoSem.ClaimMapViews
import Derived.JoinedTies
import Derived.KernelRfl
namespace Go.Proofs.YtegioimlblnajaaGreat
/- THE CELL 'sum', in the pinned program and in every row, IS THE sha256 OF THE DUMP (.gsa) THAT YtegioimlblnajaaGreatProg.lean LOADS. Nothing in Lean hashes anything: it is a label: what it is worth is what the hold of that sum in a sandbox is worth. -/
noncomputable def Tryz.pinned : Pinned := { name := "ytegioimlblnajaagreat", sum := "36223934d99f77eeb97c9c06b04fc0ab6c00d25cda5e3e81d518e24c6cab7d1b", checked := Tryz.checked }
namespace Rows
def none {H : Type} : Left H := { results := [], args := [] }

/-- 'tapestrierlaw23.WorkRight': WHATEVER THE INPUT: true; the input reads as it did. -/
def workRightSpec : ChangeSpec := { name := "workRight", fn := fun _ => fun
  | [d1, d2, d3, d4] => { results := [.lit (.bool true)], args := [d1, d2, d3, d4] }
  | _ => none }
def workRightRow : OpenClaim := { program := "ytegioimlblnajaagreat", sum := "36223934d99f77eeb97c9c06b04fc0ab6c00d25cda5e3e81d518e24c6cab7d1b", func := "tapestrier/tapestrierlaw23.WorkRight", spec := "workRight", inPlace := ["internal/bytealg.IndexByteString", "internal/bytealg.IndexString"], unfollowed := true, recurses := true, named := ["internal/bytealg.MaxLen"], loops := true, plainKeys := false, apart := false }
def WorkRightSaid : Prop := workRightRow.holds Tryz.pinned (OpenSpec.ofChange workRightSpec)

/-- ITS FALSE NEIGHBOUR: 'it returns false'. Refute it at one input. -/
def workRightWrong : ChangeSpec := { name := "workRight", fn := fun _ => fun
  | [d1, d2, d3, d4] => { results := [.lit (.bool false)], args := [d1, d2, d3, d4] }
  | _ => none }
def WorkRightWrongFalsely : Prop := workRightRow.holds Tryz.pinned (OpenSpec.ofChange workRightWrong)

/-- 'tapestrierlaw23.WorkAlone': WHATEVER THE INPUT: true; the input reads as it did. -/
def workAloneSpec : ChangeSpec := { name := "workAlone", fn := fun _ => fun
  | [d1, d2] => { results := [.lit (.bool true)], args := [d1, d2] }
  | _ => none }
def workAloneRow : OpenClaim := { program := "ytegioimlblnajaagreat", sum := "36223934d99f77eeb97c9c06b04fc0ab6c00d25cda5e3e81d518e24c6cab7d1b", func := "tapestrier/tapestrierlaw23.WorkAlone", spec := "workAlone", inPlace := ["internal/bytealg.IndexByteString", "internal/bytealg.IndexString"], unfollowed := true, recurses := true, named := ["internal/bytealg.MaxLen"], loops := true, plainKeys := false, apart := false }
def WorkAloneSaid : Prop := workAloneRow.holds Tryz.pinned (OpenSpec.ofChange workAloneSpec)

/-- ITS FALSE NEIGHBOUR: 'it returns false'. Refute it at one input. -/
def workAloneWrong : ChangeSpec := { name := "workAlone", fn := fun _ => fun
  | [d1, d2] => { results := [.lit (.bool false)], args := [d1, d2] }
  | _ => none }
def WorkAloneWrongFalsely : Prop := workAloneRow.holds Tryz.pinned (OpenSpec.ofChange workAloneWrong)

/-- 'tapestrierlaw23.WorkOrder': WHATEVER THE INPUT: true; the input reads as it did. -/
def workOrderSpec : ChangeSpec := { name := "workOrder", fn := fun _ => fun
  | [d1, d2, d3, d4] => { results := [.lit (.bool true)], args := [d1, d2, d3, d4] }
  | _ => none }
def workOrderRow : OpenClaim := { program := "ytegioimlblnajaagreat", sum := "36223934d99f77eeb97c9c06b04fc0ab6c00d25cda5e3e81d518e24c6cab7d1b", func := "tapestrier/tapestrierlaw23.WorkOrder", spec := "workOrder", inPlace := ["internal/bytealg.IndexByteString", "internal/bytealg.IndexString"], unfollowed := true, recurses := true, named := ["internal/bytealg.MaxLen"], loops := true, plainKeys := false, apart := false }
def WorkOrderSaid : Prop := workOrderRow.holds Tryz.pinned (OpenSpec.ofChange workOrderSpec)

/-- ITS FALSE NEIGHBOUR: 'it returns false'. Refute it at one input. -/
def workOrderWrong : ChangeSpec := { name := "workOrder", fn := fun _ => fun
  | [d1, d2, d3, d4] => { results := [.lit (.bool false)], args := [d1, d2, d3, d4] }
  | _ => none }
def WorkOrderWrongFalsely : Prop := workOrderRow.holds Tryz.pinned (OpenSpec.ofChange workOrderWrong)

/-- 'tapestrierlaw23.WorkCounts': WHATEVER THE INPUT: true; the input reads as it did. -/
def workCountsSpec : ChangeSpec := { name := "workCounts", fn := fun _ => fun
  | [d1, d2, d3, d4] => { results := [.lit (.bool true)], args := [d1, d2, d3, d4] }
  | _ => none }
def workCountsRow : OpenClaim := { program := "ytegioimlblnajaagreat", sum := "36223934d99f77eeb97c9c06b04fc0ab6c00d25cda5e3e81d518e24c6cab7d1b", func := "tapestrier/tapestrierlaw23.WorkCounts", spec := "workCounts", inPlace := ["internal/bytealg.IndexByteString", "internal/bytealg.IndexString"], unfollowed := true, recurses := true, named := ["internal/bytealg.MaxLen"], loops := true, plainKeys := false, apart := false }
def WorkCountsSaid : Prop := workCountsRow.holds Tryz.pinned (OpenSpec.ofChange workCountsSpec)

/-- ITS FALSE NEIGHBOUR: 'it returns false'. Refute it at one input. -/
def workCountsWrong : ChangeSpec := { name := "workCounts", fn := fun _ => fun
  | [d1, d2, d3, d4] => { results := [.lit (.bool false)], args := [d1, d2, d3, d4] }
  | _ => none }
def WorkCountsWrongFalsely : Prop := workCountsRow.holds Tryz.pinned (OpenSpec.ofChange workCountsWrong)

/-- 'tapestrierlaw23.WorkBounds': WHATEVER THE INPUT: true; the input reads as it did. -/
def workBoundsSpec : ChangeSpec := { name := "workBounds", fn := fun _ => fun
  | [d1, d2, d3, d4] => { results := [.lit (.bool true)], args := [d1, d2, d3, d4] }
  | _ => none }
def workBoundsRow : OpenClaim := { program := "ytegioimlblnajaagreat", sum := "36223934d99f77eeb97c9c06b04fc0ab6c00d25cda5e3e81d518e24c6cab7d1b", func := "tapestrier/tapestrierlaw23.WorkBounds", spec := "workBounds", inPlace := ["internal/bytealg.IndexByteString", "internal/bytealg.IndexString"], unfollowed := true, recurses := true, named := ["internal/bytealg.MaxLen"], loops := true, plainKeys := false, apart := false }
def WorkBoundsSaid : Prop := workBoundsRow.holds Tryz.pinned (OpenSpec.ofChange workBoundsSpec)

/-- ITS FALSE NEIGHBOUR: 'it returns false'. Refute it at one input. -/
def workBoundsWrong : ChangeSpec := { name := "workBounds", fn := fun _ => fun
  | [d1, d2, d3, d4] => { results := [.lit (.bool false)], args := [d1, d2, d3, d4] }
  | _ => none }
def WorkBoundsWrongFalsely : Prop := workBoundsRow.holds Tryz.pinned (OpenSpec.ofChange workBoundsWrong)

/-- 'tapestrierlaw23.WorkIdle': WHATEVER THE INPUT: true; the input reads as it did. -/
def workIdleSpec : ChangeSpec := { name := "workIdle", fn := fun _ => fun
  | [d1, d2, d3, d4, d5] => { results := [.lit (.bool true)], args := [d1, d2, d3, d4, d5] }
  | _ => none }
def workIdleRow : OpenClaim := { program := "ytegioimlblnajaagreat", sum := "36223934d99f77eeb97c9c06b04fc0ab6c00d25cda5e3e81d518e24c6cab7d1b", func := "tapestrier/tapestrierlaw23.WorkIdle", spec := "workIdle", inPlace := ["internal/bytealg.IndexByteString", "internal/bytealg.IndexString"], unfollowed := true, recurses := true, named := ["internal/bytealg.MaxLen"], plainKeys := false, apart := false }
def WorkIdleSaid : Prop := workIdleRow.holds Tryz.pinned (OpenSpec.ofChange workIdleSpec)

/-- ITS FALSE NEIGHBOUR: 'it returns false'. Refute it at one input. -/
def workIdleWrong : ChangeSpec := { name := "workIdle", fn := fun _ => fun
  | [d1, d2, d3, d4, d5] => { results := [.lit (.bool false)], args := [d1, d2, d3, d4, d5] }
  | _ => none }
def WorkIdleWrongFalsely : Prop := workIdleRow.holds Tryz.pinned (OpenSpec.ofChange workIdleWrong)

/-- 'tapestrierlaw23.WorkNone': WHATEVER THE INPUT: true; the input reads as it did. -/
def workNoneSpec : ChangeSpec := { name := "workNone", fn := fun _ => fun
  | [d1, d2, d3, d4] => { results := [.lit (.bool true)], args := [d1, d2, d3, d4] }
  | _ => none }
def workNoneRow : OpenClaim := { program := "ytegioimlblnajaagreat", sum := "36223934d99f77eeb97c9c06b04fc0ab6c00d25cda5e3e81d518e24c6cab7d1b", func := "tapestrier/tapestrierlaw23.WorkNone", spec := "workNone", inPlace := ["internal/bytealg.IndexByteString", "internal/bytealg.IndexString"], unfollowed := true, recurses := true, named := ["internal/bytealg.MaxLen"], plainKeys := false, apart := false }
def WorkNoneSaid : Prop := workNoneRow.holds Tryz.pinned (OpenSpec.ofChange workNoneSpec)

/-- ITS FALSE NEIGHBOUR: 'it returns false'. Refute it at one input. -/
def workNoneWrong : ChangeSpec := { name := "workNone", fn := fun _ => fun
  | [d1, d2, d3, d4] => { results := [.lit (.bool false)], args := [d1, d2, d3, d4] }
  | _ => none }
def WorkNoneWrongFalsely : Prop := workNoneRow.holds Tryz.pinned (OpenSpec.ofChange workNoneWrong)

/-- 'tapestrierlaw23.WorkSteal': WHATEVER THE INPUT: true; the input reads as it did. -/
def workStealSpec : ChangeSpec := { name := "workSteal", fn := fun _ => fun
  | [d1, d2, d3] => { results := [.lit (.bool true)], args := [d1, d2, d3] }
  | _ => none }
def workStealRow : OpenClaim := { program := "ytegioimlblnajaagreat", sum := "36223934d99f77eeb97c9c06b04fc0ab6c00d25cda5e3e81d518e24c6cab7d1b", func := "tapestrier/tapestrierlaw23.WorkSteal", spec := "workSteal", inPlace := ["internal/bytealg.IndexByteString", "internal/bytealg.IndexString"], unfollowed := true, recurses := true, named := ["internal/bytealg.MaxLen"], plainKeys := false, apart := false }
def WorkStealSaid : Prop := workStealRow.holds Tryz.pinned (OpenSpec.ofChange workStealSpec)

/-- ITS FALSE NEIGHBOUR: 'it returns false'. Refute it at one input. -/
def workStealWrong : ChangeSpec := { name := "workSteal", fn := fun _ => fun
  | [d1, d2, d3] => { results := [.lit (.bool false)], args := [d1, d2, d3] }
  | _ => none }
def WorkStealWrongFalsely : Prop := workStealRow.holds Tryz.pinned (OpenSpec.ofChange workStealWrong)

/-- 'tapestrierlaw23.WorkTwo': WHATEVER THE INPUT: true; the input reads as it did. -/
def workTwoSpec : ChangeSpec := { name := "workTwo", fn := fun _ => fun
  | [d1, d2, d3, d4, d5] => { results := [.lit (.bool true)], args := [d1, d2, d3, d4, d5] }
  | _ => none }
def workTwoRow : OpenClaim := { program := "ytegioimlblnajaagreat", sum := "36223934d99f77eeb97c9c06b04fc0ab6c00d25cda5e3e81d518e24c6cab7d1b", func := "tapestrier/tapestrierlaw23.WorkTwo", spec := "workTwo", inPlace := ["internal/bytealg.IndexByteString", "internal/bytealg.IndexString"], unfollowed := true, recurses := true, named := ["internal/bytealg.MaxLen"], loops := true, plainKeys := false, apart := false }
def WorkTwoSaid : Prop := workTwoRow.holds Tryz.pinned (OpenSpec.ofChange workTwoSpec)

/-- ITS FALSE NEIGHBOUR: 'it returns false'. Refute it at one input. -/
def workTwoWrong : ChangeSpec := { name := "workTwo", fn := fun _ => fun
  | [d1, d2, d3, d4, d5] => { results := [.lit (.bool false)], args := [d1, d2, d3, d4, d5] }
  | _ => none }
def WorkTwoWrongFalsely : Prop := workTwoRow.holds Tryz.pinned (OpenSpec.ofChange workTwoWrong)

/-- 'tapestrierlaw23.WorkPlays': WHATEVER THE INPUT: true; the input reads as it did. -/
def workPlaysSpec : ChangeSpec := { name := "workPlays", fn := fun _ => fun
  | [d1, d2, d3, d4] => { results := [.lit (.bool true)], args := [d1, d2, d3, d4] }
  | _ => none }
def workPlaysRow : OpenClaim := { program := "ytegioimlblnajaagreat", sum := "36223934d99f77eeb97c9c06b04fc0ab6c00d25cda5e3e81d518e24c6cab7d1b", func := "tapestrier/tapestrierlaw23.WorkPlays", spec := "workPlays", inPlace := ["internal/bytealg.IndexByteString", "internal/bytealg.IndexString"], unfollowed := true, recurses := true, named := ["internal/bytealg.MaxLen"], loops := true, plainKeys := false, apart := false }
def WorkPlaysSaid : Prop := workPlaysRow.holds Tryz.pinned (OpenSpec.ofChange workPlaysSpec)

/-- ITS FALSE NEIGHBOUR: 'it returns false'. Refute it at one input. -/
def workPlaysWrong : ChangeSpec := { name := "workPlays", fn := fun _ => fun
  | [d1, d2, d3, d4] => { results := [.lit (.bool false)], args := [d1, d2, d3, d4] }
  | _ => none }
def WorkPlaysWrongFalsely : Prop := workPlaysRow.holds Tryz.pinned (OpenSpec.ofChange workPlaysWrong)

/-- 'tapestrierlaw24.FairDone': WHATEVER THE INPUT: true; the input reads as it did. -/
def fairDoneSpec : ChangeSpec := { name := "fairDone", fn := fun _ => fun
  | [d1, d2, d3, d4, d5] => { results := [.lit (.bool true)], args := [d1, d2, d3, d4, d5] }
  | _ => none }
def fairDoneRow : OpenClaim := { program := "ytegioimlblnajaagreat", sum := "36223934d99f77eeb97c9c06b04fc0ab6c00d25cda5e3e81d518e24c6cab7d1b", func := "tapestrier/tapestrierlaw24.FairDone", spec := "fairDone", inPlace := ["internal/bytealg.IndexByteString", "internal/bytealg.IndexString"], unfollowed := true, recurses := true, named := ["internal/bytealg.MaxLen"], loops := true, plainKeys := false, apart := false }
def FairDoneSaid : Prop := fairDoneRow.holds Tryz.pinned (OpenSpec.ofChange fairDoneSpec)

/-- ITS FALSE NEIGHBOUR: 'it returns false'. Refute it at one input. -/
def fairDoneWrong : ChangeSpec := { name := "fairDone", fn := fun _ => fun
  | [d1, d2, d3, d4, d5] => { results := [.lit (.bool false)], args := [d1, d2, d3, d4, d5] }
  | _ => none }
def FairDoneWrongFalsely : Prop := fairDoneRow.holds Tryz.pinned (OpenSpec.ofChange fairDoneWrong)

/-- 'tapestrierlaw23.WorkClocks': WHATEVER THE INPUT: true; the input reads as it did. -/
def workClocksSpec : ChangeSpec := { name := "workClocks", fn := fun _ => fun
  | [d1, d2, d3, d4] => { results := [.lit (.bool true)], args := [d1, d2, d3, d4] }
  | _ => none }
def workClocksRow : OpenClaim := { program := "ytegioimlblnajaagreat", sum := "36223934d99f77eeb97c9c06b04fc0ab6c00d25cda5e3e81d518e24c6cab7d1b", func := "tapestrier/tapestrierlaw23.WorkClocks", spec := "workClocks", inPlace := ["internal/bytealg.IndexByteString", "internal/bytealg.IndexString"], unfollowed := true, recurses := true, named := ["internal/bytealg.MaxLen"], loops := true, plainKeys := false, apart := false }
def WorkClocksSaid : Prop := workClocksRow.holds Tryz.pinned (OpenSpec.ofChange workClocksSpec)

/-- ITS FALSE NEIGHBOUR: 'it returns false'. Refute it at one input. -/
def workClocksWrong : ChangeSpec := { name := "workClocks", fn := fun _ => fun
  | [d1, d2, d3, d4] => { results := [.lit (.bool false)], args := [d1, d2, d3, d4] }
  | _ => none }
def WorkClocksWrongFalsely : Prop := workClocksRow.holds Tryz.pinned (OpenSpec.ofChange workClocksWrong)

/- THE SECOND FORM. 'bulk': how many values and letters a reading holds, each counted each time it is reached (what is shared counts as often as it is met; a slice's spare places count too). A statement '..UptoSaid' is the law's where the arguments, and the package variables that the reading takes, are together of bulk at most 1048576: NARROWER than '..Said'. Prove '..Said' where nothing that the law and all that it calls make is longer than what came in: it says more and counts as full. Else prove '..UptoSaid'. A law counts once. -/
mutual
def uptoBulk {H : Type} : DataW H → Nat
  | .lit (.string bytes) => bytes.length + 1
  | .lit _ => 1
  | .nil => 1
  | .ptr d => uptoBulk d + 1
  | .slice elems spare => uptoBulkAll elems + uptoBulkAll spare + 1
  | .agg parts => uptoBulkAll parts + 1
  | .iface _ d => uptoBulk d + 1
  | .map entries => uptoBulkEntries entries + 1
  | .held _ => 1
def uptoBulkAll {H : Type} : List (DataW H) → Nat
  | [] => 0
  | d :: r => uptoBulk d + uptoBulkAll r
def uptoBulkEntries {H : Type} : List (Lit × DataW H) → Nat
  | [] => 0
  | x :: r => uptoBulkEntry x + uptoBulkEntries r
def uptoBulkEntry {H : Type} : Lit × DataW H → Nat
  | (.string bytes, d) => bytes.length + uptoBulk d + 1
  | (_, d) => uptoBulk d + 1
 end
def uptoSmall : (H : Type) → List (DataW H) → Bool := fun _ ds => decide (uptoBulkAll ds ≤ 1048576)
def OpenSpec.upto (s : _root_.Go.ChangeSpec) : _root_.Go.OpenSpec := { _root_.Go.OpenSpec.ofChange s with cond := some uptoSmall }

/-- 'tapestrierlaw23.WorkRight', WHERE WHAT IT READS IS OF BULK AT MOST 1048576: true; the input reads as it did. -/
def workRightUptoRow : OpenClaim := { program := "ytegioimlblnajaagreat", sum := "36223934d99f77eeb97c9c06b04fc0ab6c00d25cda5e3e81d518e24c6cab7d1b", func := "tapestrier/tapestrierlaw23.WorkRight", spec := "workRight", inPlace := ["internal/bytealg.IndexByteString", "internal/bytealg.IndexString"], unfollowed := true, recurses := true, named := ["internal/bytealg.MaxLen"], loops := true, plainKeys := false, apart := false, narrowed := true }
def WorkRightUptoSaid : Prop := workRightUptoRow.holds Tryz.pinned (OpenSpec.upto workRightSpec)

/-- 'tapestrierlaw23.WorkAlone', WHERE WHAT IT READS IS OF BULK AT MOST 1048576: true; the input reads as it did. -/
def workAloneUptoRow : OpenClaim := { program := "ytegioimlblnajaagreat", sum := "36223934d99f77eeb97c9c06b04fc0ab6c00d25cda5e3e81d518e24c6cab7d1b", func := "tapestrier/tapestrierlaw23.WorkAlone", spec := "workAlone", inPlace := ["internal/bytealg.IndexByteString", "internal/bytealg.IndexString"], unfollowed := true, recurses := true, named := ["internal/bytealg.MaxLen"], loops := true, plainKeys := false, apart := false, narrowed := true }
def WorkAloneUptoSaid : Prop := workAloneUptoRow.holds Tryz.pinned (OpenSpec.upto workAloneSpec)

/-- 'tapestrierlaw23.WorkOrder', WHERE WHAT IT READS IS OF BULK AT MOST 1048576: true; the input reads as it did. -/
def workOrderUptoRow : OpenClaim := { program := "ytegioimlblnajaagreat", sum := "36223934d99f77eeb97c9c06b04fc0ab6c00d25cda5e3e81d518e24c6cab7d1b", func := "tapestrier/tapestrierlaw23.WorkOrder", spec := "workOrder", inPlace := ["internal/bytealg.IndexByteString", "internal/bytealg.IndexString"], unfollowed := true, recurses := true, named := ["internal/bytealg.MaxLen"], loops := true, plainKeys := false, apart := false, narrowed := true }
def WorkOrderUptoSaid : Prop := workOrderUptoRow.holds Tryz.pinned (OpenSpec.upto workOrderSpec)

/-- 'tapestrierlaw23.WorkCounts', WHERE WHAT IT READS IS OF BULK AT MOST 1048576: true; the input reads as it did. -/
def workCountsUptoRow : OpenClaim := { program := "ytegioimlblnajaagreat", sum := "36223934d99f77eeb97c9c06b04fc0ab6c00d25cda5e3e81d518e24c6cab7d1b", func := "tapestrier/tapestrierlaw23.WorkCounts", spec := "workCounts", inPlace := ["internal/bytealg.IndexByteString", "internal/bytealg.IndexString"], unfollowed := true, recurses := true, named := ["internal/bytealg.MaxLen"], loops := true, plainKeys := false, apart := false, narrowed := true }
def WorkCountsUptoSaid : Prop := workCountsUptoRow.holds Tryz.pinned (OpenSpec.upto workCountsSpec)

/-- 'tapestrierlaw23.WorkBounds', WHERE WHAT IT READS IS OF BULK AT MOST 1048576: true; the input reads as it did. -/
def workBoundsUptoRow : OpenClaim := { program := "ytegioimlblnajaagreat", sum := "36223934d99f77eeb97c9c06b04fc0ab6c00d25cda5e3e81d518e24c6cab7d1b", func := "tapestrier/tapestrierlaw23.WorkBounds", spec := "workBounds", inPlace := ["internal/bytealg.IndexByteString", "internal/bytealg.IndexString"], unfollowed := true, recurses := true, named := ["internal/bytealg.MaxLen"], loops := true, plainKeys := false, apart := false, narrowed := true }
def WorkBoundsUptoSaid : Prop := workBoundsUptoRow.holds Tryz.pinned (OpenSpec.upto workBoundsSpec)

/-- 'tapestrierlaw23.WorkIdle', WHERE WHAT IT READS IS OF BULK AT MOST 1048576: true; the input reads as it did. -/
def workIdleUptoRow : OpenClaim := { program := "ytegioimlblnajaagreat", sum := "36223934d99f77eeb97c9c06b04fc0ab6c00d25cda5e3e81d518e24c6cab7d1b", func := "tapestrier/tapestrierlaw23.WorkIdle", spec := "workIdle", inPlace := ["internal/bytealg.IndexByteString", "internal/bytealg.IndexString"], unfollowed := true, recurses := true, named := ["internal/bytealg.MaxLen"], plainKeys := false, apart := false, narrowed := true }
def WorkIdleUptoSaid : Prop := workIdleUptoRow.holds Tryz.pinned (OpenSpec.upto workIdleSpec)

/-- 'tapestrierlaw23.WorkNone', WHERE WHAT IT READS IS OF BULK AT MOST 1048576: true; the input reads as it did. -/
def workNoneUptoRow : OpenClaim := { program := "ytegioimlblnajaagreat", sum := "36223934d99f77eeb97c9c06b04fc0ab6c00d25cda5e3e81d518e24c6cab7d1b", func := "tapestrier/tapestrierlaw23.WorkNone", spec := "workNone", inPlace := ["internal/bytealg.IndexByteString", "internal/bytealg.IndexString"], unfollowed := true, recurses := true, named := ["internal/bytealg.MaxLen"], plainKeys := false, apart := false, narrowed := true }
def WorkNoneUptoSaid : Prop := workNoneUptoRow.holds Tryz.pinned (OpenSpec.upto workNoneSpec)

/-- 'tapestrierlaw23.WorkSteal', WHERE WHAT IT READS IS OF BULK AT MOST 1048576: true; the input reads as it did. -/
def workStealUptoRow : OpenClaim := { program := "ytegioimlblnajaagreat", sum := "36223934d99f77eeb97c9c06b04fc0ab6c00d25cda5e3e81d518e24c6cab7d1b", func := "tapestrier/tapestrierlaw23.WorkSteal", spec := "workSteal", inPlace := ["internal/bytealg.IndexByteString", "internal/bytealg.IndexString"], unfollowed := true, recurses := true, named := ["internal/bytealg.MaxLen"], plainKeys := false, apart := false, narrowed := true }
def WorkStealUptoSaid : Prop := workStealUptoRow.holds Tryz.pinned (OpenSpec.upto workStealSpec)

/-- 'tapestrierlaw23.WorkTwo', WHERE WHAT IT READS IS OF BULK AT MOST 1048576: true; the input reads as it did. -/
def workTwoUptoRow : OpenClaim := { program := "ytegioimlblnajaagreat", sum := "36223934d99f77eeb97c9c06b04fc0ab6c00d25cda5e3e81d518e24c6cab7d1b", func := "tapestrier/tapestrierlaw23.WorkTwo", spec := "workTwo", inPlace := ["internal/bytealg.IndexByteString", "internal/bytealg.IndexString"], unfollowed := true, recurses := true, named := ["internal/bytealg.MaxLen"], loops := true, plainKeys := false, apart := false, narrowed := true }
def WorkTwoUptoSaid : Prop := workTwoUptoRow.holds Tryz.pinned (OpenSpec.upto workTwoSpec)

/-- 'tapestrierlaw23.WorkPlays', WHERE WHAT IT READS IS OF BULK AT MOST 1048576: true; the input reads as it did. -/
def workPlaysUptoRow : OpenClaim := { program := "ytegioimlblnajaagreat", sum := "36223934d99f77eeb97c9c06b04fc0ab6c00d25cda5e3e81d518e24c6cab7d1b", func := "tapestrier/tapestrierlaw23.WorkPlays", spec := "workPlays", inPlace := ["internal/bytealg.IndexByteString", "internal/bytealg.IndexString"], unfollowed := true, recurses := true, named := ["internal/bytealg.MaxLen"], loops := true, plainKeys := false, apart := false, narrowed := true }
def WorkPlaysUptoSaid : Prop := workPlaysUptoRow.holds Tryz.pinned (OpenSpec.upto workPlaysSpec)

/-- 'tapestrierlaw24.FairDone', WHERE WHAT IT READS IS OF BULK AT MOST 1048576: true; the input reads as it did. -/
def fairDoneUptoRow : OpenClaim := { program := "ytegioimlblnajaagreat", sum := "36223934d99f77eeb97c9c06b04fc0ab6c00d25cda5e3e81d518e24c6cab7d1b", func := "tapestrier/tapestrierlaw24.FairDone", spec := "fairDone", inPlace := ["internal/bytealg.IndexByteString", "internal/bytealg.IndexString"], unfollowed := true, recurses := true, named := ["internal/bytealg.MaxLen"], loops := true, plainKeys := false, apart := false, narrowed := true }
def FairDoneUptoSaid : Prop := fairDoneUptoRow.holds Tryz.pinned (OpenSpec.upto fairDoneSpec)

/-- 'tapestrierlaw23.WorkClocks', WHERE WHAT IT READS IS OF BULK AT MOST 1048576: true; the input reads as it did. -/
def workClocksUptoRow : OpenClaim := { program := "ytegioimlblnajaagreat", sum := "36223934d99f77eeb97c9c06b04fc0ab6c00d25cda5e3e81d518e24c6cab7d1b", func := "tapestrier/tapestrierlaw23.WorkClocks", spec := "workClocks", inPlace := ["internal/bytealg.IndexByteString", "internal/bytealg.IndexString"], unfollowed := true, recurses := true, named := ["internal/bytealg.MaxLen"], loops := true, plainKeys := false, apart := false, narrowed := true }
def WorkClocksUptoSaid : Prop := workClocksUptoRow.holds Tryz.pinned (OpenSpec.upto workClocksSpec)

end Rows
end Go.Proofs.YtegioimlblnajaaGreat

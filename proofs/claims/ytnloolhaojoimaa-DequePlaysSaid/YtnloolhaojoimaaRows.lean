/-
  No cell of these rows narrows 'for every input' (looked for: loops, veiled, ifaces, maps, wideKeys, modest, calm, conditions, laid).
  DERIVED. THE GIVEN ROWS OF THIS SEAT. 8 by the template 'for every input the law returns true; each argument reads behind the call as it read before'; 0 by the template 'total and deterministic' (their statements: YtnloolhaojoimaaTotals.lean).
  GIVEN WITH THE SEED: the statements are not yours to turn. If you find one false, say at which input.
  Laid BY PROGRAM, IN A SANDBOX (cutbox-rows.mjs): the forced cells as the released guide's own fill.sh prints them over the translation bd6b9d7c6383826c… (all of the seat's roots in one cut). By AI agents, Wed Nov 11 2026. No macro, syntax, notation, axiom, sorry.
-/
import Derived.Test.YtnloolhaojoimaaChecked
import GoSem.Claim
import GoSem.ClaimJoined
import GoSem.ClaimMapViews
import Derived.JoinedTies
import Derived.KernelRfl
namespace Go.Proofs.Ytnloolhaojoimaa
/- THE CELL 'sum', in the pinned program and in every row, IS THE sha256 OF THE DUMP (.gsa) THAT YtnloolhaojoimaaProg.lean LOADS. Nothing in Lean hashes anything: it is a label: what it is worth is what the hold of that sum in a sandbox is worth. -/
noncomputable def Try.pinned : Pinned := { name := "ytnloolhaojoimaa", sum := "bd6b9d7c6383826c2f088f5e547fc5531af61c420025e89cdc809007068d7bf3", checked := Try.checked }
namespace Rows
def none {H : Type} : Left H := { results := [], args := [] }

/-- 'tapestrierlaw20.DequeOnce': WHATEVER THE INPUT: true; the input reads as it did. -/
def dequeOnceSpec : ChangeSpec := { name := "dequeOnce", fn := fun _ => fun
  | [d1, d2, d3] => { results := [.lit (.bool true)], args := [d1, d2, d3] }
  | _ => none }
def dequeOnceRow : OpenClaim := { program := "ytnloolhaojoimaa", sum := "bd6b9d7c6383826c2f088f5e547fc5531af61c420025e89cdc809007068d7bf3", func := "tapestrier/tapestrierlaw20.DequeOnce", spec := "dequeOnce", unfollowed := true, recurses := true, apart := false }
def DequeOnceSaid : Prop := dequeOnceRow.holds Try.pinned (OpenSpec.ofChange dequeOnceSpec)

/-- ITS FALSE NEIGHBOUR: 'it returns false'. Refute it at one input. -/
def dequeOnceWrong : ChangeSpec := { name := "dequeOnce", fn := fun _ => fun
  | [d1, d2, d3] => { results := [.lit (.bool false)], args := [d1, d2, d3] }
  | _ => none }
def DequeOnceWrongFalsely : Prop := dequeOnceRow.holds Try.pinned (OpenSpec.ofChange dequeOnceWrong)

/-- 'tapestrierlaw20.DequeAlone': WHATEVER THE INPUT: true; the input reads as it did. -/
def dequeAloneSpec : ChangeSpec := { name := "dequeAlone", fn := fun _ => fun
  | [d1, d2] => { results := [.lit (.bool true)], args := [d1, d2] }
  | _ => none }
def dequeAloneRow : OpenClaim := { program := "ytnloolhaojoimaa", sum := "bd6b9d7c6383826c2f088f5e547fc5531af61c420025e89cdc809007068d7bf3", func := "tapestrier/tapestrierlaw20.DequeAlone", spec := "dequeAlone", unfollowed := true, recurses := true, apart := false }
def DequeAloneSaid : Prop := dequeAloneRow.holds Try.pinned (OpenSpec.ofChange dequeAloneSpec)

/-- ITS FALSE NEIGHBOUR: 'it returns false'. Refute it at one input. -/
def dequeAloneWrong : ChangeSpec := { name := "dequeAlone", fn := fun _ => fun
  | [d1, d2] => { results := [.lit (.bool false)], args := [d1, d2] }
  | _ => none }
def DequeAloneWrongFalsely : Prop := dequeAloneRow.holds Try.pinned (OpenSpec.ofChange dequeAloneWrong)

/-- 'tapestrierlaw20.DequeQueue': WHATEVER THE INPUT: true; the input reads as it did. -/
def dequeQueueSpec : ChangeSpec := { name := "dequeQueue", fn := fun _ => fun
  | [d1, d2, d3] => { results := [.lit (.bool true)], args := [d1, d2, d3] }
  | _ => none }
def dequeQueueRow : OpenClaim := { program := "ytnloolhaojoimaa", sum := "bd6b9d7c6383826c2f088f5e547fc5531af61c420025e89cdc809007068d7bf3", func := "tapestrier/tapestrierlaw20.DequeQueue", spec := "dequeQueue", unfollowed := true, recurses := true, apart := false }
def DequeQueueSaid : Prop := dequeQueueRow.holds Try.pinned (OpenSpec.ofChange dequeQueueSpec)

/-- ITS FALSE NEIGHBOUR: 'it returns false'. Refute it at one input. -/
def dequeQueueWrong : ChangeSpec := { name := "dequeQueue", fn := fun _ => fun
  | [d1, d2, d3] => { results := [.lit (.bool false)], args := [d1, d2, d3] }
  | _ => none }
def DequeQueueWrongFalsely : Prop := dequeQueueRow.holds Try.pinned (OpenSpec.ofChange dequeQueueWrong)

/-- 'tapestrierlaw20.DequeRace': WHATEVER THE INPUT: true; the input reads as it did. -/
def dequeRaceSpec : ChangeSpec := { name := "dequeRace", fn := fun _ => fun
  | [d1, d2] => { results := [.lit (.bool true)], args := [d1, d2] }
  | _ => none }
def dequeRaceRow : OpenClaim := { program := "ytnloolhaojoimaa", sum := "bd6b9d7c6383826c2f088f5e547fc5531af61c420025e89cdc809007068d7bf3", func := "tapestrier/tapestrierlaw20.DequeRace", spec := "dequeRace", unfollowed := true, recurses := true, apart := false }
def DequeRaceSaid : Prop := dequeRaceRow.holds Try.pinned (OpenSpec.ofChange dequeRaceSpec)

/-- ITS FALSE NEIGHBOUR: 'it returns false'. Refute it at one input. -/
def dequeRaceWrong : ChangeSpec := { name := "dequeRace", fn := fun _ => fun
  | [d1, d2] => { results := [.lit (.bool false)], args := [d1, d2] }
  | _ => none }
def DequeRaceWrongFalsely : Prop := dequeRaceRow.holds Try.pinned (OpenSpec.ofChange dequeRaceWrong)

/-- 'tapestrierlaw20.DequeNone': WHATEVER THE INPUT: true; the input reads as it did. -/
def dequeNoneSpec : ChangeSpec := { name := "dequeNone", fn := fun _ => fun
  | [d1, d2, d3] => { results := [.lit (.bool true)], args := [d1, d2, d3] }
  | _ => none }
def dequeNoneRow : OpenClaim := { program := "ytnloolhaojoimaa", sum := "bd6b9d7c6383826c2f088f5e547fc5531af61c420025e89cdc809007068d7bf3", func := "tapestrier/tapestrierlaw20.DequeNone", spec := "dequeNone", unfollowed := true, recurses := true, apart := false }
def DequeNoneSaid : Prop := dequeNoneRow.holds Try.pinned (OpenSpec.ofChange dequeNoneSpec)

/-- ITS FALSE NEIGHBOUR: 'it returns false'. Refute it at one input. -/
def dequeNoneWrong : ChangeSpec := { name := "dequeNone", fn := fun _ => fun
  | [d1, d2, d3] => { results := [.lit (.bool false)], args := [d1, d2, d3] }
  | _ => none }
def DequeNoneWrongFalsely : Prop := dequeNoneRow.holds Try.pinned (OpenSpec.ofChange dequeNoneWrong)

/-- 'tapestrierlaw20.DequeFull': WHATEVER THE INPUT: true; the input reads as it did. -/
def dequeFullSpec : ChangeSpec := { name := "dequeFull", fn := fun _ => fun
  | [d1, d2] => { results := [.lit (.bool true)], args := [d1, d2] }
  | _ => none }
def dequeFullRow : OpenClaim := { program := "ytnloolhaojoimaa", sum := "bd6b9d7c6383826c2f088f5e547fc5531af61c420025e89cdc809007068d7bf3", func := "tapestrier/tapestrierlaw20.DequeFull", spec := "dequeFull", unfollowed := true, recurses := true, apart := false }
def DequeFullSaid : Prop := dequeFullRow.holds Try.pinned (OpenSpec.ofChange dequeFullSpec)

/-- ITS FALSE NEIGHBOUR: 'it returns false'. Refute it at one input. -/
def dequeFullWrong : ChangeSpec := { name := "dequeFull", fn := fun _ => fun
  | [d1, d2] => { results := [.lit (.bool false)], args := [d1, d2] }
  | _ => none }
def DequeFullWrongFalsely : Prop := dequeFullRow.holds Try.pinned (OpenSpec.ofChange dequeFullWrong)

/-- 'tapestrierlaw20.DequeThieves': WHATEVER THE INPUT: true; the input reads as it did. -/
def dequeThievesSpec : ChangeSpec := { name := "dequeThieves", fn := fun _ => fun
  | [d1, d2, d3] => { results := [.lit (.bool true)], args := [d1, d2, d3] }
  | _ => none }
def dequeThievesRow : OpenClaim := { program := "ytnloolhaojoimaa", sum := "bd6b9d7c6383826c2f088f5e547fc5531af61c420025e89cdc809007068d7bf3", func := "tapestrier/tapestrierlaw20.DequeThieves", spec := "dequeThieves", unfollowed := true, recurses := true, apart := false }
def DequeThievesSaid : Prop := dequeThievesRow.holds Try.pinned (OpenSpec.ofChange dequeThievesSpec)

/-- ITS FALSE NEIGHBOUR: 'it returns false'. Refute it at one input. -/
def dequeThievesWrong : ChangeSpec := { name := "dequeThieves", fn := fun _ => fun
  | [d1, d2, d3] => { results := [.lit (.bool false)], args := [d1, d2, d3] }
  | _ => none }
def DequeThievesWrongFalsely : Prop := dequeThievesRow.holds Try.pinned (OpenSpec.ofChange dequeThievesWrong)

/-- 'tapestrierlaw20.DequePlays': WHATEVER THE INPUT: true; the input reads as it did. -/
def dequePlaysSpec : ChangeSpec := { name := "dequePlays", fn := fun _ => fun
  | [d1, d2] => { results := [.lit (.bool true)], args := [d1, d2] }
  | _ => none }
def dequePlaysRow : OpenClaim := { program := "ytnloolhaojoimaa", sum := "bd6b9d7c6383826c2f088f5e547fc5531af61c420025e89cdc809007068d7bf3", func := "tapestrier/tapestrierlaw20.DequePlays", spec := "dequePlays", unfollowed := true, recurses := true, apart := false }
def DequePlaysSaid : Prop := dequePlaysRow.holds Try.pinned (OpenSpec.ofChange dequePlaysSpec)

/-- ITS FALSE NEIGHBOUR: 'it returns false'. Refute it at one input. -/
def dequePlaysWrong : ChangeSpec := { name := "dequePlays", fn := fun _ => fun
  | [d1, d2] => { results := [.lit (.bool false)], args := [d1, d2] }
  | _ => none }
def DequePlaysWrongFalsely : Prop := dequePlaysRow.holds Try.pinned (OpenSpec.ofChange dequePlaysWrong)

/- THE SECOND FORM. 'bulk': how many values and letters a reading holds, each counted each time it is reached (what is shared counts as often as it is met; a slice's spare places count too). A statement '..UptoSaid' is the law's where the arguments, and the package variables that the reading takes, are together of bulk at most 1048576: NARROWER than '..Said'. Prove '..Said' where nothing that the law and all that it calls make is longer than what came in: it says more and counts as full. Else prove '..UptoSaid'. A law counts once. -/
mutual
def uptoBulk {H : Type} : DataW H → Nat
  | .lit (.string bytes) => bytes.length + 1
  | .lit _ => 1
  | .nil => 1
  | .ptr d => uptoBulk d + 1
  | .slice elems spare => uptoBulkAll elems + uptoBulkAll spare + 1
  | .agg parts => uptoBulkAll parts + 1
  | .iface _ d => uptoBulk d + 1
  | .map entries => uptoBulkEntries entries + 1
  | .held _ => 1
def uptoBulkAll {H : Type} : List (DataW H) → Nat
  | [] => 0
  | d :: r => uptoBulk d + uptoBulkAll r
def uptoBulkEntries {H : Type} : List (Lit × DataW H) → Nat
  | [] => 0
  | x :: r => uptoBulkEntry x + uptoBulkEntries r
def uptoBulkEntry {H : Type} : Lit × DataW H → Nat
  | (.string bytes, d) => bytes.length + uptoBulk d + 1
  | (_, d) => uptoBulk d + 1
 end
def uptoSmall : (H : Type) → List (DataW H) → Bool := fun _ ds => decide (uptoBulkAll ds ≤ 1048576)
def OpenSpec.upto (s : _root_.Go.ChangeSpec) : _root_.Go.OpenSpec := { _root_.Go.OpenSpec.ofChange s with cond := some uptoSmall }

/-- 'tapestrierlaw20.DequeOnce', WHERE WHAT IT READS IS OF BULK AT MOST 1048576: true; the input reads as it did. -/
def dequeOnceUptoRow : OpenClaim := { program := "ytnloolhaojoimaa", sum := "bd6b9d7c6383826c2f088f5e547fc5531af61c420025e89cdc809007068d7bf3", func := "tapestrier/tapestrierlaw20.DequeOnce", spec := "dequeOnce", unfollowed := true, recurses := true, apart := false, narrowed := true }
def DequeOnceUptoSaid : Prop := dequeOnceUptoRow.holds Try.pinned (OpenSpec.upto dequeOnceSpec)

/-- 'tapestrierlaw20.DequeAlone', WHERE WHAT IT READS IS OF BULK AT MOST 1048576: true; the input reads as it did. -/
def dequeAloneUptoRow : OpenClaim := { program := "ytnloolhaojoimaa", sum := "bd6b9d7c6383826c2f088f5e547fc5531af61c420025e89cdc809007068d7bf3", func := "tapestrier/tapestrierlaw20.DequeAlone", spec := "dequeAlone", unfollowed := true, recurses := true, apart := false, narrowed := true }
def DequeAloneUptoSaid : Prop := dequeAloneUptoRow.holds Try.pinned (OpenSpec.upto dequeAloneSpec)

/-- 'tapestrierlaw20.DequeQueue', WHERE WHAT IT READS IS OF BULK AT MOST 1048576: true; the input reads as it did. -/
def dequeQueueUptoRow : OpenClaim := { program := "ytnloolhaojoimaa", sum := "bd6b9d7c6383826c2f088f5e547fc5531af61c420025e89cdc809007068d7bf3", func := "tapestrier/tapestrierlaw20.DequeQueue", spec := "dequeQueue", unfollowed := true, recurses := true, apart := false, narrowed := true }
def DequeQueueUptoSaid : Prop := dequeQueueUptoRow.holds Try.pinned (OpenSpec.upto dequeQueueSpec)

/-- 'tapestrierlaw20.DequeRace', WHERE WHAT IT READS IS OF BULK AT MOST 1048576: true; the input reads as it did. -/
def dequeRaceUptoRow : OpenClaim := { program := "ytnloolhaojoimaa", sum := "bd6b9d7c6383826c2f088f5e547fc5531af61c420025e89cdc809007068d7bf3", func := "tapestrier/tapestrierlaw20.DequeRace", spec := "dequeRace", unfollowed := true, recurses := true, apart := false, narrowed := true }
def DequeRaceUptoSaid : Prop := dequeRaceUptoRow.holds Try.pinned (OpenSpec.upto dequeRaceSpec)

/-- 'tapestrierlaw20.DequeNone', WHERE WHAT IT READS IS OF BULK AT MOST 1048576: true; the input reads as it did. -/
def dequeNoneUptoRow : OpenClaim := { program := "ytnloolhaojoimaa", sum := "bd6b9d7c6383826c2f088f5e547fc5531af61c420025e89cdc809007068d7bf3", func := "tapestrier/tapestrierlaw20.DequeNone", spec := "dequeNone", unfollowed := true, recurses := true, apart := false, narrowed := true }
def DequeNoneUptoSaid : Prop := dequeNoneUptoRow.holds Try.pinned (OpenSpec.upto dequeNoneSpec)

/-- 'tapestrierlaw20.DequeFull', WHERE WHAT IT READS IS OF BULK AT MOST 1048576: true; the input reads as it did. -/
def dequeFullUptoRow : OpenClaim := { program := "ytnloolhaojoimaa", sum := "bd6b9d7c6383826c2f088f5e547fc5531af61c420025e89cdc809007068d7bf3", func := "tapestrier/tapestrierlaw20.DequeFull", spec := "dequeFull", unfollowed := true, recurses := true, apart := false, narrowed := true }
def DequeFullUptoSaid : Prop := dequeFullUptoRow.holds Try.pinned (OpenSpec.upto dequeFullSpec)

/-- 'tapestrierlaw20.DequeThieves', WHERE WHAT IT READS IS OF BULK AT MOST 1048576: true; the input reads as it did. -/
def dequeThievesUptoRow : OpenClaim := { program := "ytnloolhaojoimaa", sum := "bd6b9d7c6383826c2f088f5e547fc5531af61c420025e89cdc809007068d7bf3", func := "tapestrier/tapestrierlaw20.DequeThieves", spec := "dequeThieves", unfollowed := true, recurses := true, apart := false, narrowed := true }
def DequeThievesUptoSaid : Prop := dequeThievesUptoRow.holds Try.pinned (OpenSpec.upto dequeThievesSpec)

/-- 'tapestrierlaw20.DequePlays', WHERE WHAT IT READS IS OF BULK AT MOST 1048576: true; the input reads as it did. -/
def dequePlaysUptoRow : OpenClaim := { program := "ytnloolhaojoimaa", sum := "bd6b9d7c6383826c2f088f5e547fc5531af61c420025e89cdc809007068d7bf3", func := "tapestrier/tapestrierlaw20.DequePlays", spec := "dequePlays", unfollowed := true, recurses := true, apart := false, narrowed := true }
def DequePlaysUptoSaid : Prop := dequePlaysUptoRow.holds Try.pinned (OpenSpec.upto dequePlaysSpec)

end Rows
end Go.Proofs.Ytnloolhaojoimaa

/-
  NARROWER THAN 'FOR EVERY INPUT', by the rows' own cells (each row's printed sentence says how): CascadeWins: loops · CascadeMore: loops · CascadeLast: loops · CascadeOne: loops · CascadeFast: loops.
  DERIVED. THE GIVEN ROWS OF THIS SEAT. 6 by the template 'for every input the law returns true; each argument reads behind the call as it read before'; 0 by the template 'total and deterministic' (their statements: YthdcghnjndhecaaGreatTotals.lean).
  GIVEN WITH THE SEED: the statements are not yours to turn. If you find one false, say at which input.
  Laid BY PROGRAM, IN A SANDBOX (cutbox-rows.mjs): the forced cells as the released guide's own fill.sh prints them over the translation e1e2ea26553bfe8d… (all of the seat's roots in one cut). By AI agents, Wed Nov 11 2026. No macro, syntax, notation, axiom, sorry.
-/
import Derived.Test.YthdcghnjndhecaaGreatChecked
import GoSem.Claim
import GoSem.ClaimJoined
import GoSem.ClaimMapViews
import Derived.JoinedTies
import Derived.KernelRfl
namespace Go.Proofs.YthdcghnjndhecaaGreat
/- THE CELL 'sum', in the pinned program and in every row, IS THE sha256 OF THE DUMP (.gsa) THAT YthdcghnjndhecaaGreatProg.lean LOADS. Nothing in Lean hashes anything: it is a label: what it is worth is what the hold of that sum in a sandbox is worth. -/
noncomputable def Tryz.pinned : Pinned := { name := "ythdcghnjndhecaagreat", sum := "e1e2ea26553bfe8d197ac41b68df8fb0092b4a5d00aa25426d4eca26edf6c014", checked := Tryz.checked }
namespace Rows
def none {H : Type} : Left H := { results := [], args := [] }

/-- 'tapestrierlaw15.CascadeWins': WHATEVER THE INPUT: true; the input reads as it did. -/
def cascadeWinsSpec : ChangeSpec := { name := "cascadeWins", fn := fun _ => fun
  | [d1, d2] => { results := [.lit (.bool true)], args := [d1, d2] }
  | _ => none }
def cascadeWinsRow : OpenClaim := { program := "ythdcghnjndhecaagreat", sum := "e1e2ea26553bfe8d197ac41b68df8fb0092b4a5d00aa25426d4eca26edf6c014", func := "tapestrier/tapestrierlaw15.CascadeWins", spec := "cascadeWins", inPlace := ["internal/bytealg.IndexByteString", "internal/bytealg.IndexString"], unfollowed := true, recurses := true, named := ["internal/bytealg.MaxLen"], loops := true, plainKeys := false, apart := false }
def CascadeWinsSaid : Prop := cascadeWinsRow.holds Tryz.pinned (OpenSpec.ofChange cascadeWinsSpec)

/-- ITS FALSE NEIGHBOUR: 'it returns false'. Refute it at one input. -/
def cascadeWinsWrong : ChangeSpec := { name := "cascadeWins", fn := fun _ => fun
  | [d1, d2] => { results := [.lit (.bool false)], args := [d1, d2] }
  | _ => none }
def CascadeWinsWrongFalsely : Prop := cascadeWinsRow.holds Tryz.pinned (OpenSpec.ofChange cascadeWinsWrong)

/-- 'tapestrierlaw15.CascadeOrder': WHATEVER THE INPUT: true; the input reads as it did. -/
def cascadeOrderSpec : ChangeSpec := { name := "cascadeOrder", fn := fun _ => fun
  | [d1, d2, d3, d4] => { results := [.lit (.bool true)], args := [d1, d2, d3, d4] }
  | _ => none }
def cascadeOrderRow : OpenClaim := { program := "ythdcghnjndhecaagreat", sum := "e1e2ea26553bfe8d197ac41b68df8fb0092b4a5d00aa25426d4eca26edf6c014", func := "tapestrier/tapestrierlaw15.CascadeOrder", spec := "cascadeOrder", inPlace := ["internal/bytealg.IndexByteString", "internal/bytealg.IndexString"], unfollowed := true, recurses := true, named := ["internal/bytealg.MaxLen"], plainKeys := false, apart := false }
def CascadeOrderSaid : Prop := cascadeOrderRow.holds Tryz.pinned (OpenSpec.ofChange cascadeOrderSpec)

/-- ITS FALSE NEIGHBOUR: 'it returns false'. Refute it at one input. -/
def cascadeOrderWrong : ChangeSpec := { name := "cascadeOrder", fn := fun _ => fun
  | [d1, d2, d3, d4] => { results := [.lit (.bool false)], args := [d1, d2, d3, d4] }
  | _ => none }
def CascadeOrderWrongFalsely : Prop := cascadeOrderRow.holds Tryz.pinned (OpenSpec.ofChange cascadeOrderWrong)

/-- 'tapestrierlaw15.CascadeMore': WHATEVER THE INPUT: true; the input reads as it did. -/
def cascadeMoreSpec : ChangeSpec := { name := "cascadeMore", fn := fun _ => fun
  | [d1, d2, d3, d4] => { results := [.lit (.bool true)], args := [d1, d2, d3, d4] }
  | _ => none }
def cascadeMoreRow : OpenClaim := { program := "ythdcghnjndhecaagreat", sum := "e1e2ea26553bfe8d197ac41b68df8fb0092b4a5d00aa25426d4eca26edf6c014", func := "tapestrier/tapestrierlaw15.CascadeMore", spec := "cascadeMore", inPlace := ["internal/bytealg.IndexByteString", "internal/bytealg.IndexString"], unfollowed := true, recurses := true, named := ["internal/bytealg.MaxLen"], loops := true, plainKeys := false, apart := false }
def CascadeMoreSaid : Prop := cascadeMoreRow.holds Tryz.pinned (OpenSpec.ofChange cascadeMoreSpec)

/-- ITS FALSE NEIGHBOUR: 'it returns false'. Refute it at one input. -/
def cascadeMoreWrong : ChangeSpec := { name := "cascadeMore", fn := fun _ => fun
  | [d1, d2, d3, d4] => { results := [.lit (.bool false)], args := [d1, d2, d3, d4] }
  | _ => none }
def CascadeMoreWrongFalsely : Prop := cascadeMoreRow.holds Tryz.pinned (OpenSpec.ofChange cascadeMoreWrong)

/-- 'tapestrierlaw15.CascadeLast': WHATEVER THE INPUT: true; the input reads as it did. -/
def cascadeLastSpec : ChangeSpec := { name := "cascadeLast", fn := fun _ => fun
  | [d1, d2, d3] => { results := [.lit (.bool true)], args := [d1, d2, d3] }
  | _ => none }
def cascadeLastRow : OpenClaim := { program := "ythdcghnjndhecaagreat", sum := "e1e2ea26553bfe8d197ac41b68df8fb0092b4a5d00aa25426d4eca26edf6c014", func := "tapestrier/tapestrierlaw15.CascadeLast", spec := "cascadeLast", inPlace := ["internal/bytealg.IndexByteString", "internal/bytealg.IndexString"], unfollowed := true, recurses := true, named := ["internal/bytealg.MaxLen"], loops := true, plainKeys := false, apart := false }
def CascadeLastSaid : Prop := cascadeLastRow.holds Tryz.pinned (OpenSpec.ofChange cascadeLastSpec)

/-- ITS FALSE NEIGHBOUR: 'it returns false'. Refute it at one input. -/
def cascadeLastWrong : ChangeSpec := { name := "cascadeLast", fn := fun _ => fun
  | [d1, d2, d3] => { results := [.lit (.bool false)], args := [d1, d2, d3] }
  | _ => none }
def CascadeLastWrongFalsely : Prop := cascadeLastRow.holds Tryz.pinned (OpenSpec.ofChange cascadeLastWrong)

/-- 'tapestrierlaw15.CascadeOne': WHATEVER THE INPUT: true; the input reads as it did. -/
def cascadeOneSpec : ChangeSpec := { name := "cascadeOne", fn := fun _ => fun
  | [d1, d2] => { results := [.lit (.bool true)], args := [d1, d2] }
  | _ => none }
def cascadeOneRow : OpenClaim := { program := "ythdcghnjndhecaagreat", sum := "e1e2ea26553bfe8d197ac41b68df8fb0092b4a5d00aa25426d4eca26edf6c014", func := "tapestrier/tapestrierlaw15.CascadeOne", spec := "cascadeOne", inPlace := ["internal/bytealg.IndexByteString", "internal/bytealg.IndexString"], unfollowed := true, recurses := true, named := ["internal/bytealg.MaxLen"], loops := true, plainKeys := false, apart := false }
def CascadeOneSaid : Prop := cascadeOneRow.holds Tryz.pinned (OpenSpec.ofChange cascadeOneSpec)

/-- ITS FALSE NEIGHBOUR: 'it returns false'. Refute it at one input. -/
def cascadeOneWrong : ChangeSpec := { name := "cascadeOne", fn := fun _ => fun
  | [d1, d2] => { results := [.lit (.bool false)], args := [d1, d2] }
  | _ => none }
def CascadeOneWrongFalsely : Prop := cascadeOneRow.holds Tryz.pinned (OpenSpec.ofChange cascadeOneWrong)

/-- 'tapestrierlaw15.CascadeFast': WHATEVER THE INPUT: true; the input reads as it did. -/
def cascadeFastSpec : ChangeSpec := { name := "cascadeFast", fn := fun _ => fun
  | [d1, d2, d3] => { results := [.lit (.bool true)], args := [d1, d2, d3] }
  | _ => none }
def cascadeFastRow : OpenClaim := { program := "ythdcghnjndhecaagreat", sum := "e1e2ea26553bfe8d197ac41b68df8fb0092b4a5d00aa25426d4eca26edf6c014", func := "tapestrier/tapestrierlaw15.CascadeFast", spec := "cascadeFast", inPlace := ["internal/bytealg.IndexByteString", "internal/bytealg.IndexString"], unfollowed := true, recurses := true, named := ["internal/bytealg.MaxLen"], loops := true, plainKeys := false, apart := false }
def CascadeFastSaid : Prop := cascadeFastRow.holds Tryz.pinned (OpenSpec.ofChange cascadeFastSpec)

/-- ITS FALSE NEIGHBOUR: 'it returns false'. Refute it at one input. -/
def cascadeFastWrong : ChangeSpec := { name := "cascadeFast", fn := fun _ => fun
  | [d1, d2, d3] => { results := [.lit (.bool false)], args := [d1, d2, d3] }
  | _ => none }
def CascadeFastWrongFalsely : Prop := cascadeFastRow.holds Tryz.pinned (OpenSpec.ofChange cascadeFastWrong)

/- THE SECOND FORM. 'bulk': how many values and letters a reading holds, each counted each time it is reached (what is shared counts as often as it is met; a slice's spare places count too). A statement '..UptoSaid' is the law's where the arguments, and the package variables that the reading takes, are together of bulk at most 1048576: NARROWER than '..Said'. Prove '..Said' where nothing that the law and all that it calls make is longer than what came in: it says more and counts as full. Else prove '..UptoSaid'. A law counts once. -/
mutual
def uptoBulk {H : Type} : DataW H → Nat
  | .lit (.string bytes) => bytes.length + 1
  | .lit _ => 1
  | .nil => 1
  | .ptr d => uptoBulk d + 1
  | .slice elems spare => uptoBulkAll elems + uptoBulkAll spare + 1
  | .agg parts => uptoBulkAll parts + 1
  | .iface _ d => uptoBulk d + 1
  | .map entries => uptoBulkEntries entries + 1
  | .held _ => 1
def uptoBulkAll {H : Type} : List (DataW H) → Nat
  | [] => 0
  | d :: r => uptoBulk d + uptoBulkAll r
def uptoBulkEntries {H : Type} : List (Lit × DataW H) → Nat
  | [] => 0
  | x :: r => uptoBulkEntry x + uptoBulkEntries r
def uptoBulkEntry {H : Type} : Lit × DataW H → Nat
  | (.string bytes, d) => bytes.length + uptoBulk d + 1
  | (_, d) => uptoBulk d + 1
 end
def uptoSmall : (H : Type) → List (DataW H) → Bool := fun _ ds => decide (uptoBulkAll ds ≤ 1048576)
def OpenSpec.upto (s : _root_.Go.ChangeSpec) : _root_.Go.OpenSpec := { _root_.Go.OpenSpec.ofChange s with cond := some uptoSmall }

/-- 'tapestrierlaw15.CascadeWins', WHERE WHAT IT READS IS OF BULK AT MOST 1048576: true; the input reads as it did. -/
def cascadeWinsUptoRow : OpenClaim := { program := "ythdcghnjndhecaagreat", sum := "e1e2ea26553bfe8d197ac41b68df8fb0092b4a5d00aa25426d4eca26edf6c014", func := "tapestrier/tapestrierlaw15.CascadeWins", spec := "cascadeWins", inPlace := ["internal/bytealg.IndexByteString", "internal/bytealg.IndexString"], unfollowed := true, recurses := true, named := ["internal/bytealg.MaxLen"], loops := true, plainKeys := false, apart := false, narrowed := true }
def CascadeWinsUptoSaid : Prop := cascadeWinsUptoRow.holds Tryz.pinned (OpenSpec.upto cascadeWinsSpec)

/-- 'tapestrierlaw15.CascadeOrder', WHERE WHAT IT READS IS OF BULK AT MOST 1048576: true; the input reads as it did. -/
def cascadeOrderUptoRow : OpenClaim := { program := "ythdcghnjndhecaagreat", sum := "e1e2ea26553bfe8d197ac41b68df8fb0092b4a5d00aa25426d4eca26edf6c014", func := "tapestrier/tapestrierlaw15.CascadeOrder", spec := "cascadeOrder", inPlace := ["internal/bytealg.IndexByteString", "internal/bytealg.IndexString"], unfollowed := true, recurses := true, named := ["internal/bytealg.MaxLen"], plainKeys := false, apart := false, narrowed := true }
def CascadeOrderUptoSaid : Prop := cascadeOrderUptoRow.holds Tryz.pinned (OpenSpec.upto cascadeOrderSpec)

/-- 'tapestrierlaw15.CascadeMore', WHERE WHAT IT READS IS OF BULK AT MOST 1048576: true; the input reads as it did. -/
def cascadeMoreUptoRow : OpenClaim := { program := "ythdcghnjndhecaagreat", sum := "e1e2ea26553bfe8d197ac41b68df8fb0092b4a5d00aa25426d4eca26edf6c014", func := "tapestrier/tapestrierlaw15.CascadeMore", spec := "cascadeMore", inPlace := ["internal/bytealg.IndexByteString", "internal/bytealg.IndexString"], unfollowed := true, recurses := true, named := ["internal/bytealg.MaxLen"], loops := true, plainKeys := false, apart := false, narrowed := true }
def CascadeMoreUptoSaid : Prop := cascadeMoreUptoRow.holds Tryz.pinned (OpenSpec.upto cascadeMoreSpec)

/-- 'tapestrierlaw15.CascadeLast', WHERE WHAT IT READS IS OF BULK AT MOST 1048576: true; the input reads as it did. -/
def cascadeLastUptoRow : OpenClaim := { program := "ythdcghnjndhecaagreat", sum := "e1e2ea26553bfe8d197ac41b68df8fb0092b4a5d00aa25426d4eca26edf6c014", func := "tapestrier/tapestrierlaw15.CascadeLast", spec := "cascadeLast", inPlace := ["internal/bytealg.IndexByteString", "internal/bytealg.IndexString"], unfollowed := true, recurses := true, named := ["internal/bytealg.MaxLen"], loops := true, plainKeys := false, apart := false, narrowed := true }
def CascadeLastUptoSaid : Prop := cascadeLastUptoRow.holds Tryz.pinned (OpenSpec.upto cascadeLastSpec)

/-- 'tapestrierlaw15.CascadeOne', WHERE WHAT IT READS IS OF BULK AT MOST 1048576: true; the input reads as it did. -/
def cascadeOneUptoRow : OpenClaim := { program := "ythdcghnjndhecaagreat", sum := "e1e2ea26553bfe8d197ac41b68df8fb0092b4a5d00aa25426d4eca26edf6c014", func := "tapestrier/tapestrierlaw15.CascadeOne", spec := "cascadeOne", inPlace := ["internal/bytealg.IndexByteString", "internal/bytealg.IndexString"], unfollowed := true, recurses := true, named := ["internal/bytealg.MaxLen"], loops := true, plainKeys := false, apart := false, narrowed := true }
def CascadeOneUptoSaid : Prop := cascadeOneUptoRow.holds Tryz.pinned (OpenSpec.upto cascadeOneSpec)

/-- 'tapestrierlaw15.CascadeFast', WHERE WHAT IT READS IS OF BULK AT MOST 1048576: true; the input reads as it did. -/
def cascadeFastUptoRow : OpenClaim := { program := "ythdcghnjndhecaagreat", sum := "e1e2ea26553bfe8d197ac41b68df8fb0092b4a5d00aa25426d4eca26edf6c014", func := "tapestrier/tapestrierlaw15.CascadeFast", spec := "cascadeFast", inPlace := ["internal/bytealg.IndexByteString", "internal/bytealg.IndexString"], unfollowed := true, recurses := true, named := ["internal/bytealg.MaxLen"], loops := true, plainKeys := false, apart := false, narrowed := true }
def CascadeFastUptoSaid : Prop := cascadeFastUptoRow.holds Tryz.pinned (OpenSpec.upto cascadeFastSpec)

end Rows
end Go.Proofs.YthdcghnjndhecaaGreat

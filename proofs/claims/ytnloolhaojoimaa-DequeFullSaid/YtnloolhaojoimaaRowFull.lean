/- DequeFull, of what the call is handed. -/
import Derived.Test.YtnloolhaojoimaaFull
import Derived.Test.YtnloolhaojoimaaDecode
namespace Go.Proofs.Ytnloolhaojoimaa.Ev
open Go.RowKit
set_option linter.unusedVariables false
set_option maxRecDepth 100000
theorem DequeFull_walk {H : Type} {enc : TypeId × Value → H} (W : World) {v0 v1 : Value} {r : Reach} {b0 base : Nat} {spare : Nat → Bool} {held : Bool} {d0 d1 : DataW H} {p0 p1 : List MemPlace}
    (e0 : Value.okWide Try.prog W r b0 T_int v0) (h0 : DataW.Trod enc Try.prog W base spare held T_int v0 d0 p0)
    (e1 : Value.okWide Try.prog W r b0 T_int v1) (h1 : DataW.Trod enc Try.prog W base spare held T_int v1 d1 p1) :
    Calls Try.prog n_law20_DequeFull #[v0, v1] W fun e W' => e = .returned (.bool true) ∧ Below W.heap.size W W' := by
  have σ : Sig := ⟨fun _ => 0, fun _ => false, fun _ => ⟨#[]⟩⟩
  obtain ⟨x0, r0, s0⟩ := read_arg (P := Try.prog) (ti := tiT.get) (S := readD) (t := T_int) (σ := σ) tiT_ok readD_closed (inB_mem (by kernel_rfl)) e0 h0
  obtain ⟨x1, r1, s1⟩ := read_arg (P := Try.prog) (ti := tiT.get) (S := readD) (t := T_int) (σ := σ) tiT_ok readD_closed (inB_mem (by kernel_rfl)) e1 h1
  obtain ⟨n, rfl, _⟩ := v_int s0
  obtain ⟨m, rfl, _⟩ := v_int s1
  obtain ⟨Hf, hg⟩ := DequeFull_good (σ := σ) n m
  exact law_of_good (relL2 r0 r1) hg
end Go.Proofs.Ytnloolhaojoimaa.Ev

/- WeighLists, of what the call is handed. -/
import Derived.Test.YtikcninaepoojaaWLists
import Derived.Test.YtikcninaepoojaaDecode
namespace Go.Proofs.Ytikcninaepoojaa.Ev
open Go.RowKit
set_option linter.unusedVariables false
set_option maxRecDepth 100000

theorem WeighLists_walk {H : Type} {enc : TypeId × Value → H} (W : World) {v0 v1 v2 : Value} {r : Reach} {b0 base : Nat} {spare : Nat → Bool} {held : Bool} {d0 d1 d2 : DataW H} {p0 p1 p2 : List MemPlace}
    (e0 : Value.okWide Try.prog W r b0 T_api_Selector v0) (h0 : DataW.Trod enc Try.prog W base spare held T_api_Selector v0 d0 p0)
    (e1 : Value.okWide Try.prog W r b0 T_api_Selector v1) (h1 : DataW.Trod enc Try.prog W base spare held T_api_Selector v1 d1 p1)
    (e2 : Value.okWide Try.prog W r b0 T_bool v2) (h2 : DataW.Trod enc Try.prog W base spare held T_bool v2 d2 p2) :
    Calls Try.prog n_law11_WeighLists #[v0, v1, v2] W fun e W' => e = .returned (.bool true) ∧ Below W.heap.size W W' := by
  have σ : Sig := ⟨fun _ => 0, fun _ => false, fun _ => ⟨#[]⟩⟩
  obtain ⟨x0, r0, s0⟩ := read_arg (P := Try.prog) (ti := tiT.get) (S := readB) (t := T_api_Selector) (σ := σ) tiT_ok readB_closed (inB_mem (by kernel_rfl)) e0 h0
  obtain ⟨x1, r1, s1⟩ := read_arg (P := Try.prog) (ti := tiT.get) (S := readB) (t := T_api_Selector) (σ := σ) tiT_ok readB_closed (inB_mem (by kernel_rfl)) e1 h1
  obtain ⟨x2, r2, s2⟩ := read_arg (P := Try.prog) (ti := tiT.get) (S := readB) (t := T_bool) (σ := σ) tiT_ok readB_closed (inB_mem (by kernel_rfl)) e2 h2
  obtain ⟨a, rfl, ha⟩ := v_sel s0
  obtain ⟨b, rfl, hb⟩ := v_sel s1
  obtain ⟨is, rfl⟩ := v_bool s2
  obtain ⟨Hf, hg⟩ := WeighLists_good (σ := σ) a b is ha hb
  exact law_of_good (relL3 r0 r1 r2) hg
end Go.Proofs.Ytikcninaepoojaa.Ev

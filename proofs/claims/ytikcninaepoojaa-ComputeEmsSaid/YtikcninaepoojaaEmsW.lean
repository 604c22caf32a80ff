/- ComputeEms, of what the call is handed. -/
import Derived.Test.YtikcninaepoojaaEms
namespace Go.Proofs.Ytikcninaepoojaa.Ev
open Go.RowKit
set_option linter.unusedVariables false
set_option maxRecDepth 100000
section
variable {H : Type} {enc : TypeId × Value → H}
theorem closed3 : closedB tiT.get [3] = true := by kernel_rfl
theorem ti3_at : tiT.get 3 = some ti3 := by kernel_rfl

theorem ComputeEms_walk (W : World) {v0 v1 v2 : Value} {r : Reach} {b0 base : Nat} {spare : Nat → Bool} {held : Bool} {d0 d1 d2 : DataW H} {p0 p1 p2 : List MemPlace}
    (e0 : Value.okWide Try.prog W r b0 3 v0) (h0 : DataW.Trod enc Try.prog W base spare held 3 v0 d0 p0)
    (e1 : Value.okWide Try.prog W r b0 3 v1) (h1 : DataW.Trod enc Try.prog W base spare held 3 v1 d1 p1)
    (e2 : Value.okWide Try.prog W r b0 3 v2) (h2 : DataW.Trod enc Try.prog W base spare held 3 v2 d2 p2) :
    Calls Try.prog 12 #[v0, v1, v2] W fun e W' => e = .returned (.bool true) ∧ Below W.heap.size W W' := by
  have rd : ∀ {v : Value} {d : DataW H} {p : List MemPlace}, Value.okWide Try.prog W r b0 3 v → DataW.Trod enc Try.prog W base spare held 3 v d p → ∃ n : Int, v = .int .i64 n := by
    intro v d p e h
    obtain ⟨x, hr, hs⟩ := read_arg (P := Try.prog) (ti := tiT.get) (S := [3]) (t := 3) (σ := ⟨fun _ => 0, fun _ => false, fun _ => ⟨#[]⟩⟩) tiT_ok closed3 (List.mem_cons_self ..) e h
    obtain ⟨n, rfl, _⟩ := shV_int ti3_at rfl hs
    cases hr
    exact ⟨n, rfl⟩
  obtain ⟨a, rfl⟩ := rd e0 h0
  obtain ⟨b, rfl⟩ := rd e1 h1
  obtain ⟨c, rfl⟩ := rd e2 h2
  exact law_of_holds (ems ⟨fun i => if i = 0 then a else if i = 1 then b else c, fun _ => false, fun _ => ⟨#[]⟩⟩) (relL3 (.sy rfl) (.sy rfl) (.sy rfl))
end
end Go.Proofs.Ytikcninaepoojaa.Ev

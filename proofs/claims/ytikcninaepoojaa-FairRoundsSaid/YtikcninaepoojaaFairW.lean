/- FairRounds and FairTurns, of what the calls are handed. -/
import Derived.Test.YtikcninaepoojaaFair3
namespace Go.Proofs.Ytikcninaepoojaa.Ev
open Go.RowKit
set_option linter.unusedVariables false
set_option maxRecDepth 100000
def readP : List Nat := [T_int, T_sl_api_Pick, T_api_Pick]
theorem readP_closed : closedB tiT.get readP = true := by kernel_rfl
theorem v_picks {x : AV} (h : ShV tiT.get T_sl_api_Pick x) : ∃ l, x = picks l := by
  have h1 : Sh tiT.get [T_sl_api_Pick] [x] := v_one T_sl_api_Pick_is rfl h
  obtain ⟨rows, ys, e, hr, hm, hs⟩ := d_slice T_sl_api_Pick_is (sz_of T_api_Pick_is) h1
  obtain ⟨l, hl, _⟩ := rows_map (f := pk) (P := fun _ => True) fun row hrow => by
    have hrow := hr row hrow
    have h2 := d_struct T_api_Pick_is hrow
    obtain ⟨a, y1, e1, _, h3⟩ := d_int h2
    obtain ⟨b, y2, e2, _, h4⟩ := d_int h3
    rw [sh_nil h4] at e2
    rw [e2] at e1
    exact ⟨(a, b), e1, trivial⟩
  rw [sh_nil hs] at e
  rw [hl] at e
  exact ⟨l, by cases e; rfl⟩
theorem FairRounds_walk {H : Type} {enc : TypeId × Value → H} (W : World) {v0 v1 v2 : Value} {r : Reach} {b0 base : Nat} {spare : Nat → Bool} {held : Bool} {d0 d1 d2 : DataW H} {p0 p1 p2 : List MemPlace}
    (e0 : Value.okWide Try.prog W r b0 T_int v0) (h0 : DataW.Trod enc Try.prog W base spare held T_int v0 d0 p0)
    (e1 : Value.okWide Try.prog W r b0 T_sl_api_Pick v1) (h1 : DataW.Trod enc Try.prog W base spare held T_sl_api_Pick v1 d1 p1)
    (e2 : Value.okWide Try.prog W r b0 T_int v2) (h2 : DataW.Trod enc Try.prog W base spare held T_int v2 d2 p2) :
    Calls Try.prog n_law24_FairRounds #[v0, v1, v2] W fun e W' => e = .returned (.bool true) ∧ Below W.heap.size W W' := by
  have σ : Sig := ⟨fun _ => 0, fun _ => false, fun _ => ⟨#[]⟩⟩
  obtain ⟨x0, r0, s0⟩ := read_arg (P := Try.prog) (ti := tiT.get) (S := readP) (t := T_int) (σ := σ) tiT_ok readP_closed (inB_mem (by kernel_rfl)) e0 h0
  obtain ⟨x1, r1, s1⟩ := read_arg (P := Try.prog) (ti := tiT.get) (S := readP) (t := T_sl_api_Pick) (σ := σ) tiT_ok readP_closed (inB_mem (by kernel_rfl)) e1 h1
  obtain ⟨x2, r2, s2⟩ := read_arg (P := Try.prog) (ti := tiT.get) (S := readP) (t := T_int) (σ := σ) tiT_ok readP_closed (inB_mem (by kernel_rfl)) e2 h2
  obtain ⟨w, rfl, _⟩ := v_int s0
  obtain ⟨l, rfl⟩ := v_picks s1
  obtain ⟨n, rfl, _⟩ := v_int s2
  obtain ⟨Hf, hg⟩ := FairRounds_good (σ := σ) w l n
  exact law_of_good (relL3 r0 r1 r2) hg
theorem FairTurns_walk {H : Type} {enc : TypeId × Value → H} (W : World) {v0 v1 : Value} {r : Reach} {b0 base : Nat} {spare : Nat → Bool} {held : Bool} {d0 d1 : DataW H} {p0 p1 : List MemPlace}
    (e0 : Value.okWide Try.prog W r b0 T_int v0) (h0 : DataW.Trod enc Try.prog W base spare held T_int v0 d0 p0)
    (e1 : Value.okWide Try.prog W r b0 T_int v1) (h1 : DataW.Trod enc Try.prog W base spare held T_int v1 d1 p1) :
    Calls Try.prog n_law24_FairTurns #[v0, v1] W fun e W' => e = .returned (.bool true) ∧ Below W.heap.size W W' := by
  have σ : Sig := ⟨fun _ => 0, fun _ => false, fun _ => ⟨#[]⟩⟩
  obtain ⟨x0, r0, s0⟩ := read_arg (P := Try.prog) (ti := tiT.get) (S := readP) (t := T_int) (σ := σ) tiT_ok readP_closed (inB_mem (by kernel_rfl)) e0 h0
  obtain ⟨x1, r1, s1⟩ := read_arg (P := Try.prog) (ti := tiT.get) (S := readP) (t := T_int) (σ := σ) tiT_ok readP_closed (inB_mem (by kernel_rfl)) e1 h1
  obtain ⟨w, rfl, _⟩ := v_int s0
  obtain ⟨n, rfl, _⟩ := v_int s1
  obtain ⟨Hf, hg⟩ := FairTurns_good (σ := σ) w n
  exact law_of_good (relL2 r0 r1) hg
end Go.Proofs.Ytikcninaepoojaa.Ev

/- The two laws of chapter 16 about the style, of what the calls are handed. -/
import Derived.Test.YtikcninaepoojaaCompLaw
import Derived.Test.YtikcninaepoojaaDecode
namespace Go.Proofs.Ytikcninaepoojaa.Ev
open Go.RowKit
set_option linter.unusedVariables false
set_option linter.unusedSimpArgs false
set_option maxRecDepth 100000

theorem d_array {t e n sz : Nat} (hT : ∃ i, tiT.get t = some i ∧ i.d = .array n e ∧ i.size = sz) {ts : List Nat} {zs : List AV} (h : Sh tiT.get (t :: ts) zs) : Sh tiT.get (List.replicate n e ++ ts) zs := by
  obtain ⟨i, hi, hd, _⟩ := hT
  exact sh_array hi hd h
theorem v_arr {t e n sz : Nat} (hT : ∃ i, tiT.get t = some i ∧ i.d = .array n e ∧ i.size = sz) {x : AV} (h : ShV tiT.get t x) : ∃ ys, x = .agg ys ∧ Sh tiT.get (List.replicate n e) ys := by
  obtain ⟨i, hi, hd, hs⟩ := hT
  obtain ⟨ys, e, h'⟩ := shV_agg hi (by rw [hd]; rfl) h
  exact ⟨ys, e, by have := d_array ⟨i, hi, hd, hs⟩ h'; rwa [List.append_nil] at this⟩
theorem v_style {x : AV} (h : ShV tiT.get T_api_Style x) : ∃ f : Nat → Int, x = .agg (arr8 f) := by
  obtain ⟨ys, rfl, hs⟩ := v_arr T_api_Style_is h
  simp only [List.replicate] at hs
  obtain ⟨n0, y0, rfl, _, hs⟩ := d_int hs
  obtain ⟨n1, y1, rfl, _, hs⟩ := d_int hs
  obtain ⟨n2, y2, rfl, _, hs⟩ := d_int hs
  obtain ⟨n3, y3, rfl, _, hs⟩ := d_int hs
  obtain ⟨n4, y4, rfl, _, hs⟩ := d_int hs
  obtain ⟨n5, y5, rfl, _, hs⟩ := d_int hs
  obtain ⟨n6, y6, rfl, _, hs⟩ := d_int hs
  obtain ⟨n7, y7, rfl, _, hs⟩ := d_int hs
  rw [sh_nil hs]
  exact ⟨fun i => [n0, n1, n2, n3, n4, n5, n6, n7].getD i 0, rfl⟩
theorem d_value {ts : List Nat} {zs : List AV} (h : Sh tiT.get (T_api_Value :: ts) zs) : ∃ k n ys, zs = I k :: I n :: ys ∧ Sh tiT.get ts ys := by
  have h := d_struct T_api_Value_is h
  obtain ⟨k, y0, rfl, _, hs⟩ := d_int h
  obtain ⟨n, y1, rfl, _, hs⟩ := d_int hs
  exact ⟨k, n, y1, rfl, hs⟩
theorem v_written {x : AV} (h : ShV tiT.get T_arr_8_api_Value x) : ∃ k n : Nat → Int, x = .agg (warr k n) := by
  obtain ⟨ys, rfl, hs⟩ := v_arr T_arr_8_api_Value_is h
  have s0 := hs
  simp only [List.replicate] at s0
  obtain ⟨k0, n0, y0, rfl, s1⟩ := d_value s0
  obtain ⟨k1, n1, y1, rfl, s2⟩ := d_value s1
  obtain ⟨k2, n2, y2, rfl, s3⟩ := d_value s2
  obtain ⟨k3, n3, y3, rfl, s4⟩ := d_value s3
  obtain ⟨k4, n4, y4, rfl, s5⟩ := d_value s4
  obtain ⟨k5, n5, y5, rfl, s6⟩ := d_value s5
  obtain ⟨k6, n6, y6, rfl, s7⟩ := d_value s6
  obtain ⟨k7, n7, y7, rfl, s8⟩ := d_value s7
  rw [sh_nil s8]
  exact ⟨fun i => [k0, k1, k2, k3, k4, k5, k6, k7].getD i 0, fun i => [n0, n1, n2, n3, n4, n5, n6, n7].getD i 0, rfl⟩
def readC : List Nat := [T_int, T_bool, T_api_Style, T_api_Value, T_arr_8_api_Value]
theorem readC_closed : closedB tiT.get readC = true := by kernel_rfl

theorem ComputeOf_walk {H : Type} {enc : TypeId × Value → H} (W : World) {v0 v1 v2 : Value} {r : Reach} {b0 base : Nat} {spare : Nat → Bool} {held : Bool} {d0 d1 d2 : DataW H} {p0 p1 p2 : List MemPlace}
    (e0 : Value.okWide Try.prog W r b0 T_api_Style v0) (h0 : DataW.Trod enc Try.prog W base spare held T_api_Style v0 d0 p0)
    (e1 : Value.okWide Try.prog W r b0 T_bool v1) (h1 : DataW.Trod enc Try.prog W base spare held T_bool v1 d1 p1)
    (e2 : Value.okWide Try.prog W r b0 T_arr_8_api_Value v2) (h2 : DataW.Trod enc Try.prog W base spare held T_arr_8_api_Value v2 d2 p2) :
    Calls Try.prog n_law16_ComputeOf #[v0, v1, v2] W fun e W' => e = .returned (.bool true) ∧ Below W.heap.size W W' := by
  have σ : Sig := ⟨fun _ => 0, fun _ => false, fun _ => ⟨#[]⟩⟩
  obtain ⟨x0, r0, s0⟩ := read_arg (P := Try.prog) (ti := tiT.get) (S := readC) (t := T_api_Style) (σ := σ) tiT_ok readC_closed (inB_mem (by kernel_rfl)) e0 h0
  obtain ⟨x1, r1, s1⟩ := read_arg (P := Try.prog) (ti := tiT.get) (S := readC) (t := T_bool) (σ := σ) tiT_ok readC_closed (inB_mem (by kernel_rfl)) e1 h1
  obtain ⟨x2, r2, s2⟩ := read_arg (P := Try.prog) (ti := tiT.get) (S := readC) (t := T_arr_8_api_Value) (σ := σ) tiT_ok readC_closed (inB_mem (by kernel_rfl)) e2 h2
  obtain ⟨f, rfl⟩ := v_style s0
  obtain ⟨b, rfl⟩ := v_bool s1
  obtain ⟨k, n, rfl⟩ := v_written s2
  obtain ⟨Hf, hg⟩ := ComputeOf_good (σ := σ) f k n b
  exact law_of_good (relL3 r0 r1 r2) hg
theorem ComputeApart_walk {H : Type} {enc : TypeId × Value → H} (W : World) {v0 v1 v2 v3 : Value} {r : Reach} {b0 base : Nat} {spare : Nat → Bool} {held : Bool} {d0 d1 d2 d3 : DataW H} {p0 p1 p2 p3 : List MemPlace}
    (e0 : Value.okWide Try.prog W r b0 T_api_Style v0) (h0 : DataW.Trod enc Try.prog W base spare held T_api_Style v0 d0 p0)
    (e1 : Value.okWide Try.prog W r b0 T_arr_8_api_Value v1) (h1 : DataW.Trod enc Try.prog W base spare held T_arr_8_api_Value v1 d1 p1)
    (e2 : Value.okWide Try.prog W r b0 T_arr_8_api_Value v2) (h2 : DataW.Trod enc Try.prog W base spare held T_arr_8_api_Value v2 d2 p2)
    (e3 : Value.okWide Try.prog W r b0 T_int v3) (h3 : DataW.Trod enc Try.prog W base spare held T_int v3 d3 p3) :
    Calls Try.prog n_law16_ComputeApart #[v0, v1, v2, v3] W fun e W' => e = .returned (.bool true) ∧ Below W.heap.size W W' := by
  have σ : Sig := ⟨fun _ => 0, fun _ => false, fun _ => ⟨#[]⟩⟩
  obtain ⟨x0, r0, s0⟩ := read_arg (P := Try.prog) (ti := tiT.get) (S := readC) (t := T_api_Style) (σ := σ) tiT_ok readC_closed (inB_mem (by kernel_rfl)) e0 h0
  obtain ⟨x1, r1, s1⟩ := read_arg (P := Try.prog) (ti := tiT.get) (S := readC) (t := T_arr_8_api_Value) (σ := σ) tiT_ok readC_closed (inB_mem (by kernel_rfl)) e1 h1
  obtain ⟨x2, r2, s2⟩ := read_arg (P := Try.prog) (ti := tiT.get) (S := readC) (t := T_arr_8_api_Value) (σ := σ) tiT_ok readC_closed (inB_mem (by kernel_rfl)) e2 h2
  obtain ⟨x3, r3, s3⟩ := read_arg (P := Try.prog) (ti := tiT.get) (S := readC) (t := T_int) (σ := σ) tiT_ok readC_closed (inB_mem (by kernel_rfl)) e3 h3
  obtain ⟨f, rfl⟩ := v_style s0
  obtain ⟨k, n, rfl⟩ := v_written s1
  obtain ⟨k', n', rfl⟩ := v_written s2
  obtain ⟨p, rfl, _⟩ := v_int s3
  obtain ⟨Hf, hg⟩ := ComputeApart_good (σ := σ) f k n k' n' p
  exact law_of_good (relL4 r0 r1 r2 r3) hg
end Go.Proofs.Ytikcninaepoojaa.Ev

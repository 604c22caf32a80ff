/- What one thing of each kind weighs. -/
import Derived.Test.YtikcninaepoojaaSty
namespace Go.Proofs.Ytikcninaepoojaa.Ev
open Go.RowKit
set_option linter.unusedVariables false
set_option maxRecDepth 100000
set_option maxHeartbeats 4000000

theorem alive11 (σ : Sig) (H : Hp) : Good Try.prog σ 34 [] H (.lit (.bool true)) H :=
  good_of_isT (CX σ [] known_nil) mixed noOv_ok fnT_ok (L := 1000) (d := 60) rfl (by kernel_rfl) H

def ov11 (f : Nat) (xs : List AV) (H : Hp) : Option (AV × Hp) :=
  bif Nat.beq f 34 then (match xs with | [] => some (.lit (.bool true), H) | _ => none) else none
theorem ov11_ok {σ : Sig} : ∀ f xs H r H', ov11 f xs H = some (r, H') → Good Try.prog σ f xs H r H' := by
  intro f xs H r H' h
  unfold ov11 at h
  cases hb : Nat.beq f 34 with
  | false => rw [hb] at h; cases h
  | true =>
    rw [hb] at h
    have := Nat.eq_of_beq_eq_true hb
    subst this
    simp only [cond_true] at h
    split at h
    · cases h; exact alive11 σ H
    · cases h

theorem run11 (σ : Sig) (kn : List (BExp × Bool)) (hk : Known σ kn) {f : Nat} {xs : List AV} (h : resT kn (evF (CX σ kn hk) fnT.get ov11 1000 60 f xs Hp.empty) = true) : Holds Try.prog σ f xs :=
  holds_of (CX σ kn hk) mixed ov11_ok fnT_ok h

theorem wk0 (σ : Sig) : Holds Try.prog σ 8 [.lit (.int .i64 0), .ss 0] := run11 σ [] known_nil (by kernel_rfl)
theorem wk1 (σ : Sig) : Holds Try.prog σ 8 [.lit (.int .i64 1), .ss 0] := run11 σ [] known_nil (by kernel_rfl)
theorem wk2 (σ : Sig) : Holds Try.prog σ 8 [.lit (.int .i64 2), .ss 0] := run11 σ [] known_nil (by kernel_rfl)
theorem wk3 (σ : Sig) : Holds Try.prog σ 8 [.lit (.int .i64 3), .ss 0] := run11 σ [] known_nil (by kernel_rfl)
theorem wk4 (σ : Sig) : Holds Try.prog σ 8 [.lit (.int .i64 4), .ss 0] := run11 σ [] known_nil (by kernel_rfl)
theorem wk5 (σ : Sig) : Holds Try.prog σ 8 [.lit (.int .i64 5), .ss 0] := run11 σ [] known_nil (by kernel_rfl)
theorem wk6 (σ : Sig) : Holds Try.prog σ 8 [.lit (.int .i64 6), .ss 0] := run11 σ [] known_nil (by kernel_rfl)
theorem wk7 (σ : Sig) : Holds Try.prog σ 8 [.lit (.int .i64 7), .ss 0] := run11 σ [] known_nil (by kernel_rfl)
theorem wk8 (σ : Sig) : Holds Try.prog σ 8 [.lit (.int .i64 8), .ss 0] := run11 σ [] known_nil (by kernel_rfl)
theorem wkL (σ : Sig) (hk : Known σ [(.cmp .lss v0 (.num 0), true)]) : Holds Try.prog σ 8 [.sy .i64 v0, .ss 0] := run11 σ _ hk (by kernel_rfl)
theorem wkG (σ : Sig) (hk : Known σ [(.cmp .lss v0 (.num 0), false), (.cmp .lss v0 (.num 9), false)]) : Holds Try.prog σ 8 [.sy .i64 v0, .ss 0] := run11 σ _ hk (by kernel_rfl)

theorem ti9_at : tiT.get 9 = some ti9 := by kernel_rfl
theorem closed11 : closedB tiT.get [3, 9] = true := by kernel_rfl

theorem read_str {W : World} {H : Type} {enc : TypeId × Value → H} {base : Nat} {spare : Nat → Bool} {held : Bool} {v : Value} {r : Reach} {b0 : Nat} {d : DataW H} {p : List MemPlace}
    (e : Value.okWide Try.prog W r b0 9 v) (h : DataW.Trod enc Try.prog W base spare held 9 v d p) : ∃ s : ByteArray, v = .string s ∧ s.size ≤ maxLen := by
  obtain ⟨x, hr, hs⟩ := read_arg (P := Try.prog) (ti := tiT.get) (S := [3, 9]) (t := 9) (σ := zeroσ) tiT_ok closed11 (by simp) e h
  obtain ⟨n, rfl, hw⟩ := shV_str ti9_at rfl hs
  cases hr
  exact ⟨n, rfl, hw⟩

theorem WeighKinds_walk {H : Type} {enc : TypeId × Value → H} (W : World) {v0' v1 : Value} {r : Reach} {b0 base : Nat} {spare : Nat → Bool} {held : Bool} {d0 d1 : DataW H} {p0 p1 : List MemPlace}
    (e0 : Value.okWide Try.prog W r b0 3 v0') (h0 : DataW.Trod enc Try.prog W base spare held 3 v0' d0 p0)
    (e1 : Value.okWide Try.prog W r b0 9 v1) (h1 : DataW.Trod enc Try.prog W base spare held 9 v1 d1 p1) :
    Calls Try.prog 8 #[v0', v1] W fun e W' => e = .returned (.bool true) ∧ Below W.heap.size W W' := by
  obtain ⟨k, rfl⟩ := read_int e0 h0
  obtain ⟨s, rfl, _⟩ := read_str e1 h1
  let σ : Sig := ⟨fun _ => k, fun _ => false, fun _ => s⟩
  have ex : v0.eval σ = k := rfl
  have rs : Rel (rdE σ W) (.ss 0) (.string s) := .ss rfl
  by_cases hl : k < 0
  · exact law_of_holds (wkL σ (known_cons (by show decide (v0.eval σ < 0) = true; rw [ex]; simpa using hl) known_nil)) (relL2 (.sy ex) rs)
  by_cases hg : k < 9
  · have : k = 0 ∨ k = 1 ∨ k = 2 ∨ k = 3 ∨ k = 4 ∨ k = 5 ∨ k = 6 ∨ k = 7 ∨ k = 8 := by omega
    rcases this with rfl | rfl | rfl | rfl | rfl | rfl | rfl | rfl | rfl
    · exact law_of_holds (wk0 σ) (relL2 (.lit _) rs)
    · exact law_of_holds (wk1 σ) (relL2 (.lit _) rs)
    · exact law_of_holds (wk2 σ) (relL2 (.lit _) rs)
    · exact law_of_holds (wk3 σ) (relL2 (.lit _) rs)
    · exact law_of_holds (wk4 σ) (relL2 (.lit _) rs)
    · exact law_of_holds (wk5 σ) (relL2 (.lit _) rs)
    · exact law_of_holds (wk6 σ) (relL2 (.lit _) rs)
    · exact law_of_holds (wk7 σ) (relL2 (.lit _) rs)
    · exact law_of_holds (wk8 σ) (relL2 (.lit _) rs)
  · exact law_of_holds (wkG σ (known_cons (by show decide (v0.eval σ < 0) = false; rw [ex]; simpa using hl) (known_cons (by show decide (v0.eval σ < 9) = false; rw [ex]; simpa using hg) known_nil))) (relL2 (.sy ex) rs)
end Go.Proofs.Ytikcninaepoojaa.Ev

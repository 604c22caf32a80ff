/- MADE BY gen_dc.py: what each function has to come to, by its text. -/
import Derived.Test.YtikcninaepoojaaDc0
namespace Go.Proofs.Ytikcninaepoojaa.Ev
set_option maxRecDepth 100000
set_option maxHeartbeats 4000000
set_option linter.unusedVariables false
variable {σ : Sig}
noncomputable def fair_turns_1.code : Code := bodyOf Try.f65
noncomputable def fair_turns_1.L0 (σ : Sig) (K : AV → Hp → Prop) (y0 y1 y3 : AV) (H : Hp) : Prop := ∀ js : Nat → AV, LoopP (CX σ [] known_nil) (lB (bB (sR fair_turns_1.code))) [y0, y1, js 2, y3, js 4, js 5, js 6, js 7, js 8, js 9, js 10, js 11, js 12, js 13, js 14] H (fun e T1 H1 => (fnQ (CX σ [] known_nil).ti Try.f65.results.toList K) (unblock 0 e) T1 H1)
theorem fair_turns_1.L0_step {K : AV → Hp → Prop} {y0 y1 y3 : AV} {H : Hp} (h : bnd (ldA false 1 H y1) fun x1 => bnd (binR .rem y3 x1) fun x2 => bnd (ldA false 1 H y1) fun x3 => bnd (binR .quo y3 x3) fun x4 => bnd (bldR [.lit (.int .i64 0), .lit (.int .i64 0)] [(0, 1, x2), (1, 1, x4)]) fun l5 => callV Try.prog σ y0 [(.agg l5)] H fun x6 H7 => ifB x6 (bnd (binR .add y3 (.lit (.int .i64 1))) fun x8 => fair_turns_1.L0 σ K y0 y1 x8 H7) (K (.tup []) H7)) : fair_turns_1.L0 σ K y0 y1 y3 H :=
  fun js => LoopP.round (CX σ [] known_nil) mixed (g := 11) (Eq.mpr (by kernel_rfl) h)
theorem fair_turns_1.run {a0 a1 : AV} {H : Hp} {K : AV → Hp → Prop} (h : fair_turns_1.L0 σ K a0 a1 (.lit (.int .i64 0)) H) : ∃ r H1, Good Try.prog σ n_fair_turns_1 [a0, a1] H r H1 ∧ K r H1 :=
  good_of_wp (CX σ [] known_nil) mixed 11 (fn := Try.f65) (f := n_fair_turns_1) (c := fair_turns_1.code) (fnT_ok 65 _ (by kernel_rfl)).1 (by kernel_rfl) (fnT_ok 65 _ (by kernel_rfl)).2 (Eq.mpr (by kernel_rfl) h)
end Go.Proofs.Ytikcninaepoojaa.Ev

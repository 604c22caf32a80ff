/- A kind that a property has not is as if nothing were set: the call, with letters. Made by gen_kinds.py. -/
import Derived.Test.YtikcninaepoojaaSty
namespace Go.Proofs.Ytikcninaepoojaa.Ev
open Go.RowKit
set_option linter.unusedVariables false
set_option maxRecDepth 100000
set_option maxHeartbeats 4000000
def nE : IExp := .var 9
def kq (m : Int) : BExp := .cmp .eql kE (.num m)
def kv : AV := .agg [.sy .i64 kE, .sy .i64 nE]
theorem kd0_0 (σ : Sig) (hk : Known σ [(kq 6, true)]) : Holds Try.prog σ 14 [sty8, .lit (.int .i64 0), kv] := run16 σ _ hk (by kernel_rfl)
theorem kd0_1 (σ : Sig) (hk : Known σ [(kq 6, false), (kq 7, true)]) : Holds Try.prog σ 14 [sty8, .lit (.int .i64 0), kv] := run16 σ _ hk (by kernel_rfl)
theorem kd0_2 (σ : Sig) (hk : Known σ [(kq 6, false), (kq 7, false), (kq 8, true)]) : Holds Try.prog σ 14 [sty8, .lit (.int .i64 0), kv] := run16 σ _ hk (by kernel_rfl)
theorem kd0_z0 (σ : Sig) (hk : Known σ [(kq 6, false), (kq 7, false), (kq 8, false), (kq 0, true)]) : Holds Try.prog σ 14 [sty8, .lit (.int .i64 0), kv] := run16 σ _ hk (by kernel_rfl)
theorem kd0_z1 (σ : Sig) (hk : Known σ [(kq 6, false), (kq 7, false), (kq 8, false), (kq 0, false)]) : Holds Try.prog σ 14 [sty8, .lit (.int .i64 0), kv] := run16 σ _ hk (by kernel_rfl)
theorem kd0 (σ : Sig) : Holds Try.prog σ 14 [sty8, .lit (.int .i64 0), kv] := by
  cases h0 : (kq 6).eval σ with
  | true => exact kd0_0 σ (known_cons h0 known_nil)
  | false =>
  cases h1 : (kq 7).eval σ with
  | true => exact kd0_1 σ (known_cons h0 (known_cons h1 known_nil))
  | false =>
  cases h2 : (kq 8).eval σ with
  | true => exact kd0_2 σ (known_cons h0 (known_cons h1 (known_cons h2 known_nil)))
  | false =>
  cases h3 : (kq 0).eval σ with
  | true => exact kd0_z0 σ (known_cons h0 (known_cons h1 (known_cons h2 (known_cons h3 known_nil))))
  | false => exact kd0_z1 σ (known_cons h0 (known_cons h1 (known_cons h2 (known_cons h3 known_nil))))
theorem kd1_0 (σ : Sig) (hk : Known σ [(kq 2, true)]) : Holds Try.prog σ 14 [sty8, .lit (.int .i64 1), kv] := run16 σ _ hk (by kernel_rfl)
theorem kd1_1 (σ : Sig) (hk : Known σ [(kq 2, false), (kq 3, true)]) : Holds Try.prog σ 14 [sty8, .lit (.int .i64 1), kv] := run16 σ _ hk (by kernel_rfl)
theorem kd1_2 (σ : Sig) (hk : Known σ [(kq 2, false), (kq 3, false), (kq 4, true)]) : Holds Try.prog σ 14 [sty8, .lit (.int .i64 1), kv] := run16 σ _ hk (by kernel_rfl)
theorem kd1_3 (σ : Sig) (hk : Known σ [(kq 2, false), (kq 3, false), (kq 4, false), (kq 7, true)]) : Holds Try.prog σ 14 [sty8, .lit (.int .i64 1), kv] := run16 σ _ hk (by kernel_rfl)
theorem kd1_4 (σ : Sig) (hk : Known σ [(kq 2, false), (kq 3, false), (kq 4, false), (kq 7, false), (kq 8, true)]) : Holds Try.prog σ 14 [sty8, .lit (.int .i64 1), kv] := run16 σ _ hk (by kernel_rfl)
theorem kd1_z0 (σ : Sig) (hk : Known σ [(kq 2, false), (kq 3, false), (kq 4, false), (kq 7, false), (kq 8, false)]) : Holds Try.prog σ 14 [sty8, .lit (.int .i64 1), kv] := run16 σ _ hk (by kernel_rfl)
theorem kd1 (σ : Sig) : Holds Try.prog σ 14 [sty8, .lit (.int .i64 1), kv] := by
  cases h0 : (kq 2).eval σ with
  | true => exact kd1_0 σ (known_cons h0 known_nil)
  | false =>
  cases h1 : (kq 3).eval σ with
  | true => exact kd1_1 σ (known_cons h0 (known_cons h1 known_nil))
  | false =>
  cases h2 : (kq 4).eval σ with
  | true => exact kd1_2 σ (known_cons h0 (known_cons h1 (known_cons h2 known_nil)))
  | false =>
  cases h3 : (kq 7).eval σ with
  | true => exact kd1_3 σ (known_cons h0 (known_cons h1 (known_cons h2 (known_cons h3 known_nil))))
  | false =>
  cases h4 : (kq 8).eval σ with
  | true => exact kd1_4 σ (known_cons h0 (known_cons h1 (known_cons h2 (known_cons h3 (known_cons h4 known_nil)))))
  | false =>
  exact kd1_z0 σ (known_cons h0 (known_cons h1 (known_cons h2 (known_cons h3 (known_cons h4 known_nil)))))
theorem kd2_0 (σ : Sig) (hk : Known σ [(kq 1, true)]) : Holds Try.prog σ 14 [sty8, .lit (.int .i64 2), kv] := run16 σ _ hk (by kernel_rfl)
theorem kd2_1 (σ : Sig) (hk : Known σ [(kq 1, false), (kq 7, true)]) : Holds Try.prog σ 14 [sty8, .lit (.int .i64 2), kv] := run16 σ _ hk (by kernel_rfl)
theorem kd2_2 (σ : Sig) (hk : Known σ [(kq 1, false), (kq 7, false), (kq 8, true)]) : Holds Try.prog σ 14 [sty8, .lit (.int .i64 2), kv] := run16 σ _ hk (by kernel_rfl)
theorem kd2_z0 (σ : Sig) (hk : Known σ [(kq 1, false), (kq 7, false), (kq 8, false), (kq 0, true)]) : Holds Try.prog σ 14 [sty8, .lit (.int .i64 2), kv] := run16 σ _ hk (by kernel_rfl)
theorem kd2_z1 (σ : Sig) (hk : Known σ [(kq 1, false), (kq 7, false), (kq 8, false), (kq 0, false)]) : Holds Try.prog σ 14 [sty8, .lit (.int .i64 2), kv] := run16 σ _ hk (by kernel_rfl)
theorem kd2 (σ : Sig) : Holds Try.prog σ 14 [sty8, .lit (.int .i64 2), kv] := by
  cases h0 : (kq 1).eval σ with
  | true => exact kd2_0 σ (known_cons h0 known_nil)
  | false =>
  cases h1 : (kq 7).eval σ with
  | true => exact kd2_1 σ (known_cons h0 (known_cons h1 known_nil))
  | false =>
  cases h2 : (kq 8).eval σ with
  | true => exact kd2_2 σ (known_cons h0 (known_cons h1 (known_cons h2 known_nil)))
  | false =>
  cases h3 : (kq 0).eval σ with
  | true => exact kd2_z0 σ (known_cons h0 (known_cons h1 (known_cons h2 (known_cons h3 known_nil))))
  | false => exact kd2_z1 σ (known_cons h0 (known_cons h1 (known_cons h2 (known_cons h3 known_nil))))
theorem kd3_0 (σ : Sig) (hk : Known σ [(kq 1, true)]) : Holds Try.prog σ 14 [sty8, .lit (.int .i64 3), kv] := run16 σ _ hk (by kernel_rfl)
theorem kd3_1 (σ : Sig) (hk : Known σ [(kq 1, false), (kq 7, true)]) : Holds Try.prog σ 14 [sty8, .lit (.int .i64 3), kv] := run16 σ _ hk (by kernel_rfl)
theorem kd3_2 (σ : Sig) (hk : Known σ [(kq 1, false), (kq 7, false), (kq 8, true)]) : Holds Try.prog σ 14 [sty8, .lit (.int .i64 3), kv] := run16 σ _ hk (by kernel_rfl)
theorem kd3_z0 (σ : Sig) (hk : Known σ [(kq 1, false), (kq 7, false), (kq 8, false), (kq 0, true)]) : Holds Try.prog σ 14 [sty8, .lit (.int .i64 3), kv] := run16 σ _ hk (by kernel_rfl)
theorem kd3_z1 (σ : Sig) (hk : Known σ [(kq 1, false), (kq 7, false), (kq 8, false), (kq 0, false)]) : Holds Try.prog σ 14 [sty8, .lit (.int .i64 3), kv] := run16 σ _ hk (by kernel_rfl)
theorem kd3 (σ : Sig) : Holds Try.prog σ 14 [sty8, .lit (.int .i64 3), kv] := by
  cases h0 : (kq 1).eval σ with
  | true => exact kd3_0 σ (known_cons h0 known_nil)
  | false =>
  cases h1 : (kq 7).eval σ with
  | true => exact kd3_1 σ (known_cons h0 (known_cons h1 known_nil))
  | false =>
  cases h2 : (kq 8).eval σ with
  | true => exact kd3_2 σ (known_cons h0 (known_cons h1 (known_cons h2 known_nil)))
  | false =>
  cases h3 : (kq 0).eval σ with
  | true => exact kd3_z0 σ (known_cons h0 (known_cons h1 (known_cons h2 (known_cons h3 known_nil))))
  | false => exact kd3_z1 σ (known_cons h0 (known_cons h1 (known_cons h2 (known_cons h3 known_nil))))
theorem kd4_0 (σ : Sig) (hk : Known σ [(kq 1, true)]) : Holds Try.prog σ 14 [sty8, .lit (.int .i64 4), kv] := run16 σ _ hk (by kernel_rfl)
theorem kd4_1 (σ : Sig) (hk : Known σ [(kq 1, false), (kq 2, true)]) : Holds Try.prog σ 14 [sty8, .lit (.int .i64 4), kv] := run16 σ _ hk (by kernel_rfl)
theorem kd4_2 (σ : Sig) (hk : Known σ [(kq 1, false), (kq 2, false), (kq 3, true)]) : Holds Try.prog σ 14 [sty8, .lit (.int .i64 4), kv] := run16 σ _ hk (by kernel_rfl)
theorem kd4_3 (σ : Sig) (hk : Known σ [(kq 1, false), (kq 2, false), (kq 3, false), (kq 4, true)]) : Holds Try.prog σ 14 [sty8, .lit (.int .i64 4), kv] := run16 σ _ hk (by kernel_rfl)
theorem kd4_4 (σ : Sig) (hk : Known σ [(kq 1, false), (kq 2, false), (kq 3, false), (kq 4, false), (kq 7, true)]) : Holds Try.prog σ 14 [sty8, .lit (.int .i64 4), kv] := run16 σ _ hk (by kernel_rfl)
theorem kd4_5 (σ : Sig) (hk : Known σ [(kq 1, false), (kq 2, false), (kq 3, false), (kq 4, false), (kq 7, false), (kq 8, true)]) : Holds Try.prog σ 14 [sty8, .lit (.int .i64 4), kv] := run16 σ _ hk (by kernel_rfl)
theorem kd4_z0 (σ : Sig) (hk : Known σ [(kq 1, false), (kq 2, false), (kq 3, false), (kq 4, false), (kq 7, false), (kq 8, false)]) : Holds Try.prog σ 14 [sty8, .lit (.int .i64 4), kv] := run16 σ _ hk (by kernel_rfl)
theorem kd4 (σ : Sig) : Holds Try.prog σ 14 [sty8, .lit (.int .i64 4), kv] := by
  cases h0 : (kq 1).eval σ with
  | true => exact kd4_0 σ (known_cons h0 known_nil)
  | false =>
  cases h1 : (kq 2).eval σ with
  | true => exact kd4_1 σ (known_cons h0 (known_cons h1 known_nil))
  | false =>
  cases h2 : (kq 3).eval σ with
  | true => exact kd4_2 σ (known_cons h0 (known_cons h1 (known_cons h2 known_nil)))
  | false =>
  cases h3 : (kq 4).eval σ with
  | true => exact kd4_3 σ (known_cons h0 (known_cons h1 (known_cons h2 (known_cons h3 known_nil))))
  | false =>
  cases h4 : (kq 7).eval σ with
  | true => exact kd4_4 σ (known_cons h0 (known_cons h1 (known_cons h2 (known_cons h3 (known_cons h4 known_nil)))))
  | false =>
  cases h5 : (kq 8).eval σ with
  | true => exact kd4_5 σ (known_cons h0 (known_cons h1 (known_cons h2 (known_cons h3 (known_cons h4 (known_cons h5 known_nil))))))
  | false =>
  exact kd4_z0 σ (known_cons h0 (known_cons h1 (known_cons h2 (known_cons h3 (known_cons h4 (known_cons h5 known_nil))))))
theorem kd5_0 (σ : Sig) (hk : Known σ [(kq 2, true)]) : Holds Try.prog σ 14 [sty8, .lit (.int .i64 5), kv] := run16 σ _ hk (by kernel_rfl)
theorem kd5_1 (σ : Sig) (hk : Known σ [(kq 2, false), (kq 3, true)]) : Holds Try.prog σ 14 [sty8, .lit (.int .i64 5), kv] := run16 σ _ hk (by kernel_rfl)
theorem kd5_2 (σ : Sig) (hk : Known σ [(kq 2, false), (kq 3, false), (kq 4, true)]) : Holds Try.prog σ 14 [sty8, .lit (.int .i64 5), kv] := run16 σ _ hk (by kernel_rfl)
theorem kd5_3 (σ : Sig) (hk : Known σ [(kq 2, false), (kq 3, false), (kq 4, false), (kq 7, true)]) : Holds Try.prog σ 14 [sty8, .lit (.int .i64 5), kv] := run16 σ _ hk (by kernel_rfl)
theorem kd5_4 (σ : Sig) (hk : Known σ [(kq 2, false), (kq 3, false), (kq 4, false), (kq 7, false), (kq 8, true)]) : Holds Try.prog σ 14 [sty8, .lit (.int .i64 5), kv] := run16 σ _ hk (by kernel_rfl)
theorem kd5_z0 (σ : Sig) (hk : Known σ [(kq 2, false), (kq 3, false), (kq 4, false), (kq 7, false), (kq 8, false)]) : Holds Try.prog σ 14 [sty8, .lit (.int .i64 5), kv] := run16 σ _ hk (by kernel_rfl)
theorem kd5 (σ : Sig) : Holds Try.prog σ 14 [sty8, .lit (.int .i64 5), kv] := by
  cases h0 : (kq 2).eval σ with
  | true => exact kd5_0 σ (known_cons h0 known_nil)
  | false =>
  cases h1 : (kq 3).eval σ with
  | true => exact kd5_1 σ (known_cons h0 (known_cons h1 known_nil))
  | false =>
  cases h2 : (kq 4).eval σ with
  | true => exact kd5_2 σ (known_cons h0 (known_cons h1 (known_cons h2 known_nil)))
  | false =>
  cases h3 : (kq 7).eval σ with
  | true => exact kd5_3 σ (known_cons h0 (known_cons h1 (known_cons h2 (known_cons h3 known_nil))))
  | false =>
  cases h4 : (kq 8).eval σ with
  | true => exact kd5_4 σ (known_cons h0 (known_cons h1 (known_cons h2 (known_cons h3 (known_cons h4 known_nil)))))
  | false =>
  exact kd5_z0 σ (known_cons h0 (known_cons h1 (known_cons h2 (known_cons h3 (known_cons h4 known_nil)))))
theorem kd6_0 (σ : Sig) (hk : Known σ [(kq 5, true)]) : Holds Try.prog σ 14 [sty8, .lit (.int .i64 6), kv] := run16 σ _ hk (by kernel_rfl)
theorem kd6_1 (σ : Sig) (hk : Known σ [(kq 5, false), (kq 7, true)]) : Holds Try.prog σ 14 [sty8, .lit (.int .i64 6), kv] := run16 σ _ hk (by kernel_rfl)
theorem kd6_2 (σ : Sig) (hk : Known σ [(kq 5, false), (kq 7, false), (kq 8, true)]) : Holds Try.prog σ 14 [sty8, .lit (.int .i64 6), kv] := run16 σ _ hk (by kernel_rfl)
theorem kd6_z0 (σ : Sig) (hk : Known σ [(kq 5, false), (kq 7, false), (kq 8, false), (kq 0, true)]) : Holds Try.prog σ 14 [sty8, .lit (.int .i64 6), kv] := run16 σ _ hk (by kernel_rfl)
theorem kd6_z1 (σ : Sig) (hk : Known σ [(kq 5, false), (kq 7, false), (kq 8, false), (kq 0, false)]) : Holds Try.prog σ 14 [sty8, .lit (.int .i64 6), kv] := run16 σ _ hk (by kernel_rfl)
theorem kd6 (σ : Sig) : Holds Try.prog σ 14 [sty8, .lit (.int .i64 6), kv] := by
  cases h0 : (kq 5).eval σ with
  | true => exact kd6_0 σ (known_cons h0 known_nil)
  | false =>
  cases h1 : (kq 7).eval σ with
  | true => exact kd6_1 σ (known_cons h0 (known_cons h1 known_nil))
  | false =>
  cases h2 : (kq 8).eval σ with
  | true => exact kd6_2 σ (known_cons h0 (known_cons h1 (known_cons h2 known_nil)))
  | false =>
  cases h3 : (kq 0).eval σ with
  | true => exact kd6_z0 σ (known_cons h0 (known_cons h1 (known_cons h2 (known_cons h3 known_nil))))
  | false => exact kd6_z1 σ (known_cons h0 (known_cons h1 (known_cons h2 (known_cons h3 known_nil))))
theorem kd7_0 (σ : Sig) (hk : Known σ [(kq 1, true)]) : Holds Try.prog σ 14 [sty8, .lit (.int .i64 7), kv] := run16 σ _ hk (by kernel_rfl)
theorem kd7_1 (σ : Sig) (hk : Known σ [(kq 1, false), (kq 5, true)]) : Holds Try.prog σ 14 [sty8, .lit (.int .i64 7), kv] := run16 σ _ hk (by kernel_rfl)
theorem kd7_2 (σ : Sig) (hk : Known σ [(kq 1, false), (kq 5, false), (kq 7, true)]) : Holds Try.prog σ 14 [sty8, .lit (.int .i64 7), kv] := run16 σ _ hk (by kernel_rfl)
theorem kd7_3 (σ : Sig) (hk : Known σ [(kq 1, false), (kq 5, false), (kq 7, false), (kq 8, true)]) : Holds Try.prog σ 14 [sty8, .lit (.int .i64 7), kv] := run16 σ _ hk (by kernel_rfl)
theorem kd7_z0 (σ : Sig) (hk : Known σ [(kq 1, false), (kq 5, false), (kq 7, false), (kq 8, false), (kq 0, true)]) : Holds Try.prog σ 14 [sty8, .lit (.int .i64 7), kv] := run16 σ _ hk (by kernel_rfl)
theorem kd7_z1 (σ : Sig) (hk : Known σ [(kq 1, false), (kq 5, false), (kq 7, false), (kq 8, false), (kq 0, false)]) : Holds Try.prog σ 14 [sty8, .lit (.int .i64 7), kv] := run16 σ _ hk (by kernel_rfl)
theorem kd7 (σ : Sig) : Holds Try.prog σ 14 [sty8, .lit (.int .i64 7), kv] := by
  cases h0 : (kq 1).eval σ with
  | true => exact kd7_0 σ (known_cons h0 known_nil)
  | false =>
  cases h1 : (kq 5).eval σ with
  | true => exact kd7_1 σ (known_cons h0 (known_cons h1 known_nil))
  | false =>
  cases h2 : (kq 7).eval σ with
  | true => exact kd7_2 σ (known_cons h0 (known_cons h1 (known_cons h2 known_nil)))
  | false =>
  cases h3 : (kq 8).eval σ with
  | true => exact kd7_3 σ (known_cons h0 (known_cons h1 (known_cons h2 (known_cons h3 known_nil))))
  | false =>
  cases h4 : (kq 0).eval σ with
  | true => exact kd7_z0 σ (known_cons h0 (known_cons h1 (known_cons h2 (known_cons h3 (known_cons h4 known_nil)))))
  | false => exact kd7_z1 σ (known_cons h0 (known_cons h1 (known_cons h2 (known_cons h3 (known_cons h4 known_nil)))))
def pE : IExp := .var 10
theorem kdL (σ : Sig) (hk : Known σ [(.cmp .lss pE (.num 0), true)]) : Holds Try.prog σ 14 [sty8, .sy .i64 pE, kv] := run16 σ _ hk (by kernel_rfl)
theorem kdG (σ : Sig) (hk : Known σ [(.cmp .lss pE (.num 0), false), (.cmp .lss (.num 7) pE, true)]) : Holds Try.prog σ 14 [sty8, .sy .i64 pE, kv] := run16 σ _ hk (by kernel_rfl)
end Go.Proofs.Ytikcninaepoojaa.Ev

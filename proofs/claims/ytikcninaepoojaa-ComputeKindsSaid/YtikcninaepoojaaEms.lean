/- Ems and percentages: the call, with letters. -/
import Derived.Test.YtikcninaepoojaaCtx
import Derived.Test.YtikcninaepoojaaLaw
namespace Go.Proofs.Ytikcninaepoojaa.Ev
set_option linter.unusedVariables false
set_option maxRecDepth 100000
set_option maxHeartbeats 4000000

def capE (e : IExp) : IExp := .mn (.mx e (.num (-2147483647))) (.num 2147483647)
def timesE (a b : IExp) : IExp := capE (.bin .quo .i64 (.bin .mul .i64 (capE a) (capE b)) (.num 1000))

theorem ev_cap {σ : Sig} {e : IExp} (h0 : -2147483647 ≤ e.eval σ) (h1 : e.eval σ ≤ 2147483647) : (capE e).eval σ = e.eval σ := by
  have h : ¬ ((IExp.num (-2147483647)).eval σ > e.eval σ) := by
    show ¬ (-2147483647 > e.eval σ)
    omega
  have e1 : (IExp.mx e (.num (-2147483647))).eval σ = e.eval σ := if_neg h
  have h2 : ¬ ((IExp.num 2147483647).eval σ < (IExp.mx e (.num (-2147483647))).eval σ) := by
    rw [e1]
    show ¬ (2147483647 < e.eval σ)
    omega
  exact (if_neg h2).trans e1
theorem ev_mul {σ : Sig} {a b : IExp} (h0 : -9223372036854775808 ≤ a.eval σ * b.eval σ) (h1 : a.eval σ * b.eval σ ≤ 9223372036854775807) : (IExp.bin .mul .i64 a b).eval σ = a.eval σ * b.eval σ := wr_in h0 h1
theorem ev_quo {σ : Sig} {a : IExp} {n : Int} (h0 : -9223372036854775808 ≤ (a.eval σ).tdiv n) (h1 : (a.eval σ).tdiv n ≤ 9223372036854775807) : (IExp.bin .quo .i64 a (.num n)).eval σ = (a.eval σ).tdiv n := wr_in h0 h1
theorem ev_neg {σ : Sig} {a : IExp} (h0 : -9223372036854775808 ≤ 0 - a.eval σ) (h1 : 0 - a.eval σ ≤ 9223372036854775807) : (IExp.bin .sub .i64 (.num 0) a).eval σ = 0 - a.eval σ := wr_in h0 h1

theorem ev_times {σ : Sig} {a b : IExp} {x y p : Int} (ha : a.eval σ = x) (hb : b.eval σ = y) (hx0 : -2147483647 ≤ x) (hx1 : x ≤ 2147483647) (hy0 : -2147483647 ≤ y) (hy1 : y ≤ 2147483647) (hp : x * y = p) (h0 : -4000000000 ≤ p) (h1 : p ≤ 4000000000) :
    (timesE a b).eval σ = p.tdiv 1000 := by
  have e1 : (capE a).eval σ = x := by rw [ev_cap (by omega) (by omega), ha]
  have e2 : (capE b).eval σ = y := by rw [ev_cap (by omega) (by omega), hb]
  have e3 : (IExp.bin .mul .i64 (capE a) (capE b)).eval σ = p := by rw [ev_mul (by rw [e1, e2, hp]; omega) (by rw [e1, e2, hp]; omega), e1, e2, hp]
  have q : -4000001 ≤ p.tdiv 1000 ∧ p.tdiv 1000 ≤ 4000001 := by
    rcases Int.le_total 0 p with h | h
    · rw [Int.tdiv_eq_ediv_of_nonneg h]; omega
    · have : p.tdiv 1000 = -((-p).tdiv 1000) := by rw [Int.neg_tdiv]; omega
      rw [this, Int.tdiv_eq_ediv_of_nonneg (by omega : (0 : Int) ≤ -p)]; omega
  have e4 : (IExp.bin .quo .i64 (.bin .mul .i64 (capE a) (capE b)) (.num 1000)).eval σ = p.tdiv 1000 := by rw [ev_quo (by rw [e3]; omega) (by rw [e3]; omega), e3]
  unfold timesE
  rw [ev_cap (by rw [e4]; omega) (by rw [e4]; omega), e4]

/-! ### the guards of alive -/
def isT : Option (AV × Hp) → Bool
  | some (.lit (.bool b), _) => b
  | _ => false
theorem good_of_isT {P : Program} (C : Ctx P) (hm : P.follows .mixedOrders = true) {funs : Nat → Option Func} {ov : Nat → List AV → Hp → Option (AV × Hp)} (hov : ∀ f xs H r H', ov f xs H = some (r, H') → Good P C.σ f xs H r H')
    (hfuns : ∀ f fn, funs f = some fn → P.funcs[f]? = some fn ∧ (fn.name == "runtime.NumGoroutine") = false) {L d f : Nat} {xs : List AV} (hx : noIds xs = true) (h : isT (evF C funs ov L d f xs Hp.empty) = true) (H : Hp) : Good P C.σ f xs H (.lit (.bool true)) H := by
  cases he : evF C funs ov L d f xs Hp.empty with
  | none => rw [he] at h; cases h
  | some p =>
    obtain ⟨r, H'⟩ := p
    have hg := evF_ok C hm hov hfuns L d f xs Hp.empty r H' he
    rw [he] at h
    unfold isT at h
    split at h
    · rename_i e; cases e; subst h; exact hg.over hx rfl H
    · cases h

theorem alive16 (σ : Sig) (H : Hp) : Good Try.prog σ 38 [] H (.lit (.bool true)) H :=
  good_of_isT (CX σ [] known_nil) mixed noOv_ok fnT_ok (L := 1000) (d := 60) rfl (by kernel_rfl) H

def ov16 (f : Nat) (xs : List AV) (H : Hp) : Option (AV × Hp) :=
  bif Nat.beq f 38 then (match xs with | [] => some (.lit (.bool true), H) | _ => none) else none
theorem ov16_ok {σ : Sig} : ∀ f xs H r H', ov16 f xs H = some (r, H') → Good Try.prog σ f xs H r H' := by
  intro f xs H r H' h
  unfold ov16 at h
  cases hb : Nat.beq f 38 with
  | false => rw [hb] at h; cases h
  | true =>
    rw [hb] at h
    have := Nat.eq_of_beq_eq_true hb
    subst this
    simp only [cond_true] at h
    split at h
    · cases h; exact alive16 σ H
    · cases h

theorem run16 (σ : Sig) (kn : List (BExp × Bool)) (hk : Known σ kn) {f : Nat} {xs : List AV} (h : resT kn (evF (CX σ kn hk) fnT.get ov16 1000 60 f xs Hp.empty) = true) : Holds Try.prog σ f xs :=
  holds_of (CX σ kn hk) mixed ov16_ok fnT_ok h

/-! ### the roads -/
def v0 : IExp := .var 0
def v1 : IExp := .var 1
def v2 : IExp := .var 2
def emsX : List AV := [.sy .i64 v0, .sy .i64 v1, .sy .i64 v2]
def g0 : BExp := .cmp .lss v0 (.num 0)
def g1 : BExp := .cmp .lss (.num 100000) v0
def g2 : BExp := .cmp .lss v1 (.num 0)
def g3 : BExp := .cmp .lss (.num 4000) v1
def g4 : BExp := .cmp .lss v2 (.num 0)
def g5 : BExp := .cmp .lss (.num 4000) v2
def isE : IExp := .bin .quo .i64 (.bin .mul .i64 v0 v1) (.num 1000)
def wE : IExp := .bin .quo .i64 (.bin .mul .i64 isE v2) (.num 1000)
def sizeE : IExp := timesE v0 (capE v1)
def q0 : BExp := .cmp .eql sizeE isE
def q1 : BExp := .cmp .eql (timesE sizeE (capE v2)) wE
def q2 : BExp := .cmp .eql (timesE sizeE (capE (.bin .sub .i64 (.num 0) v2))) (.bin .sub .i64 (.num 0) wE)
def q3 : BExp := .cmp .eql (.bin .quo .i64 (timesE v0 v1) (.num 100)) (.bin .quo .i64 isE (.num 100))

theorem road0 (σ : Sig) (hk : Known σ [(g0, true)]) : Holds Try.prog σ 12 emsX := run16 σ _ hk (by kernel_rfl)
theorem road1 (σ : Sig) (hk : Known σ [(g0, false), (g1, true)]) : Holds Try.prog σ 12 emsX := run16 σ _ hk (by kernel_rfl)
theorem road2 (σ : Sig) (hk : Known σ [(g0, false), (g1, false), (g2, true)]) : Holds Try.prog σ 12 emsX := run16 σ _ hk (by kernel_rfl)
theorem road3 (σ : Sig) (hk : Known σ [(g0, false), (g1, false), (g2, false), (g3, true)]) : Holds Try.prog σ 12 emsX := run16 σ _ hk (by kernel_rfl)
theorem road4 (σ : Sig) (hk : Known σ [(g0, false), (g1, false), (g2, false), (g3, false), (g4, true)]) : Holds Try.prog σ 12 emsX := run16 σ _ hk (by kernel_rfl)
theorem road5 (σ : Sig) (hk : Known σ [(g0, false), (g1, false), (g2, false), (g3, false), (g4, false), (g5, true)]) : Holds Try.prog σ 12 emsX := run16 σ _ hk (by kernel_rfl)
theorem road6 (σ : Sig) (hk : Known σ [(g0, false), (g1, false), (g2, false), (g3, false), (g4, false), (g5, false), (q0, true), (q1, true), (q2, true), (q3, true)]) : Holds Try.prog σ 12 emsX := run16 σ _ hk (by kernel_rfl)

theorem ems (σ : Sig) : Holds Try.prog σ 12 emsX := by
  cases h0 : g0.eval σ with
  | true => exact road0 σ (known_cons h0 known_nil)
  | false =>
  cases h1 : g1.eval σ with
  | true => exact road1 σ (known_cons h0 (known_cons h1 known_nil))
  | false =>
  cases h2 : g2.eval σ with
  | true => exact road2 σ (known_cons h0 (known_cons h1 (known_cons h2 known_nil)))
  | false =>
  cases h3 : g3.eval σ with
  | true => exact road3 σ (known_cons h0 (known_cons h1 (known_cons h2 (known_cons h3 known_nil))))
  | false =>
  cases h4 : g4.eval σ with
  | true => exact road4 σ (known_cons h0 (known_cons h1 (known_cons h2 (known_cons h3 (known_cons h4 known_nil)))))
  | false =>
  cases h5 : g5.eval σ with
  | true => exact road5 σ (known_cons h0 (known_cons h1 (known_cons h2 (known_cons h3 (known_cons h4 (known_cons h5 known_nil))))))
  | false =>
  have a0 : ¬ σ.i 0 < 0 := of_decide_eq_false h0
  have a1 : ¬ 100000 < σ.i 0 := of_decide_eq_false h1
  have a2 : ¬ σ.i 1 < 0 := of_decide_eq_false h2
  have a3 : ¬ 4000 < σ.i 1 := of_decide_eq_false h3
  have a4 : ¬ σ.i 2 < 0 := of_decide_eq_false h4
  have a5 : ¬ 4000 < σ.i 2 := of_decide_eq_false h5
  have ex : v0.eval σ = σ.i 0 := rfl
  have ey : v1.eval σ = σ.i 1 := rfl
  have ez : v2.eval σ = σ.i 2 := rfl
  generalize σ.i 0 = x at *
  generalize σ.i 1 = y at *
  generalize σ.i 2 = z at *
  have p0 : 0 ≤ x * y := Int.mul_nonneg (by omega) (by omega)
  have p1 : x * y ≤ 100000 * 4000 := Int.mul_le_mul (by omega) (by omega) (by omega) (by omega)
  generalize hp : x * y = p at *
  have t1 : p.tdiv 1000 = p / 1000 := Int.tdiv_eq_ediv_of_nonneg p0
  have hq : ∃ q, q = p / 1000 := ⟨_, rfl⟩
  obtain ⟨q, hq⟩ := hq
  have r0 : 0 ≤ q * z := Int.mul_nonneg (by omega) (by omega)
  have r1 : q * z ≤ 400000 * 4000 := Int.mul_le_mul (by omega) (by omega) (by omega) (by omega)
  generalize hr : q * z = r at *
  have t2 : r.tdiv 1000 = r / 1000 := Int.tdiv_eq_ediv_of_nonneg r0
  have t3 : (-r).tdiv 1000 = -(r / 1000) := by rw [Int.neg_tdiv, t2]
  -- the sizes
  have c1 : (capE v1).eval σ = y := by rw [ev_cap (by omega) (by omega), ey]
  have c2 : (capE v2).eval σ = z := by rw [ev_cap (by omega) (by omega), ez]
  have n2 : (IExp.bin .sub .i64 (.num 0) v2).eval σ = -z := by rw [ev_neg (by omega) (by omega), ez]; omega
  have c3 : (capE (.bin .sub .i64 (.num 0) v2)).eval σ = -z := by rw [ev_cap (by omega) (by omega), n2]
  have s0 : sizeE.eval σ = q := by
    have := ev_times (σ := σ) (a := v0) (b := capE v1) ex c1 (by omega) (by omega) (by omega) (by omega) hp (by omega) (by omega)
    unfold sizeE
    rw [this, t1, hq]
  have m0 : (IExp.bin .mul .i64 v0 v1).eval σ = p := by rw [ev_mul (by rw [ex, ey, hp]; omega) (by rw [ex, ey, hp]; omega), ex, ey, hp]
  have i0 : isE.eval σ = q := by
    unfold isE
    rw [ev_quo (by rw [m0, t1]; omega) (by rw [m0, t1]; omega), m0, t1, hq]
  have m1 : (IExp.bin .mul .i64 isE v2).eval σ = r := by rw [ev_mul (by rw [i0, ez, hr]; omega) (by rw [i0, ez, hr]; omega), i0, ez, hr]
  have w0 : wE.eval σ = r / 1000 := by
    unfold wE
    rw [ev_quo (by rw [m1, t2]; omega) (by rw [m1, t2]; omega), m1, t2]
  have b0 : q0.eval σ = true := by
    show decide (_ = _) = true
    rw [s0, i0]; simp
  have b1 : q1.eval σ = true := by
    show decide (_ = _) = true
    rw [ev_times (σ := σ) (a := sizeE) (b := capE v2) s0 c2 (by omega) (by omega) (by omega) (by omega) hr (by omega) (by omega), t2, w0]; simp
  have b2 : q2.eval σ = true := by
    show decide (_ = _) = true
    rw [ev_times (σ := σ) (a := sizeE) (b := capE (.bin .sub .i64 (.num 0) v2)) (p := -r) s0 c3 (by omega) (by omega) (by omega) (by omega) (by rw [Int.mul_neg, hr]) (by omega) (by omega), t3,
      ev_neg (by rw [w0]; omega) (by rw [w0]; omega), w0]
    simp
  have b3 : q3.eval σ = true := by
    have e1 := ev_times (σ := σ) (a := v0) (b := v1) ex ey (by omega) (by omega) (by omega) (by omega) hp (by omega) (by omega)
    rw [t1, ← hq] at e1
    have t4 : q.tdiv 100 = q / 100 := Int.tdiv_eq_ediv_of_nonneg (by omega)
    show decide (_ = _) = true
    rw [ev_quo (by rw [e1, t4]; omega) (by rw [e1, t4]; omega), ev_quo (by rw [i0, t4]; omega) (by rw [i0, t4]; omega), e1, i0]
    simp
  exact road6 σ (known_cons h0 (known_cons h1 (known_cons h2 (known_cons h3 (known_cons h4 (known_cons h5 (known_cons b0 (known_cons b1 (known_cons b2 (known_cons b3 known_nil))))))))))
end Go.Proofs.Ytikcninaepoojaa.Ev

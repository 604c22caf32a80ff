/- Arguments, read as plain data. -/
import Derived.Test.YtnloolhaojoimaaDcNm
import Derived.Test.YtnloolhaojoimaaRd
import Derived.Test.YtnloolhaojoimaaSim
import Derived.Test.YtnloolhaojoimaaLaw
namespace Go.Proofs.Ytnloolhaojoimaa.Ev
open Go.RowKit
set_option linter.unusedVariables false
set_option linter.unusedSimpArgs false
set_option maxRecDepth 100000
theorem d_int {ts : List Nat} {zs : List AV} (h : Sh tiT.get (T_int :: ts) zs) : ∃ n ys, zs = I n :: ys ∧ (-9223372036854775808 ≤ n ∧ n ≤ 9223372036854775807) ∧ Sh tiT.get ts ys := by
  obtain ⟨i, hi, hd, _⟩ := T_int_is
  obtain ⟨n, ys, e, hw, hs⟩ := sh_int hi hd h
  refine ⟨n, ys, e, ?_, hs⟩
  simp [Lit.wf, IntKind.min, IntKind.max, IntKind.signed, IntKind.bits] at hw
  omega
theorem d_bool {ts : List Nat} {zs : List AV} (h : Sh tiT.get (T_bool :: ts) zs) : ∃ b ys, zs = Bo b :: ys ∧ Sh tiT.get ts ys := by
  obtain ⟨i, hi, hd, _⟩ := T_bool_is
  exact sh_bool hi hd h
theorem v_one {t sz : Nat} {d : TD} (hT : ∃ i, tiT.get t = some i ∧ i.d = d ∧ i.size = sz) (ha : d.agg = false) {x : AV} (h : ShV tiT.get t x) : Sh tiT.get [t] [x] := by
  obtain ⟨i, hi, hd, _⟩ := hT
  unfold ShV at h
  rw [hi] at h
  simp only [hd, ha] at h
  exact h
theorem v_int {x : AV} (h : ShV tiT.get T_int x) : ∃ n, x = I n ∧ (-9223372036854775808 ≤ n ∧ n ≤ 9223372036854775807) := by
  obtain ⟨n, ys, e, w, hn⟩ := d_int (v_one T_int_is rfl h)
  cases e
  exact ⟨n, rfl, w⟩
theorem v_slice {t e : Nat} (hT : ∃ i, tiT.get t = some i ∧ i.d = .slice e ∧ i.size = 1) (hE : ∃ i, tiT.get e = some i ∧ i.size = 1) {x : AV} (h : ShV tiT.get t x) : ∃ rows, x = .imm 1 rows ∧ ∀ row ∈ rows, Sh tiT.get [e] row := by
  have h1 := v_one hT rfl h
  obtain ⟨i, hi, hd, _⟩ := hT
  obtain ⟨j', hj', hs'⟩ := hE
  rcases sh_slice hi hd h1 with ⟨ys, _, _⟩ | ⟨j, rows, ys, hj, e, hr, hl, hm, hs⟩
  · cases h1 with
    | sl h' hd' he hc hl hm hs => rw [hi] at h'; cases h'; rw [hd] at hd'; cases hd'; rw [hj'] at he; cases he; exact ⟨_, by rw [hs'], hc⟩
    | _ => simp_all
  · rw [hj'] at hj
    cases hj
    rw [hs'] at e
    cases e
    exact ⟨rows, rfl, hr⟩
theorem rows_m {α : Type} {f : α → List AV} : ∀ {rows : List (List AV)}, (∀ row ∈ rows, ∃ x, row = f x) → ∃ l : List α, rows = l.map f
  | [], _ => ⟨[], rfl⟩
  | r :: rs, h => by
    obtain ⟨x, hx⟩ := h r (by simp)
    obtain ⟨l, hl⟩ := rows_m (rows := rs) fun row hr => h row (by simp [hr])
    exact ⟨x :: l, by rw [hx, hl]; rfl⟩
def bools (l : List Bool) : AV := .imm 1 (l.map fun b => [Bo b])
def ints (l : List Int) : AV := .imm 1 (l.map fun n => [I n])
theorem v_bools {x : AV} (h : ShV tiT.get T_sl_bool x) : ∃ l, x = bools l := by
  obtain ⟨rows, rfl, hr⟩ := v_slice T_sl_bool_is (by obtain ⟨i, a, _, b⟩ := T_bool_is; exact ⟨i, a, b⟩) h
  obtain ⟨l, rfl⟩ := rows_m (f := fun b => [Bo b]) fun row hrow => by
    obtain ⟨b, ys, e, hs⟩ := d_bool (hr row hrow)
    rw [sh_nil hs] at e
    exact ⟨b, e⟩
  exact ⟨l, rfl⟩
theorem v_ints {x : AV} (h : ShV tiT.get T_sl_int x) : ∃ l : List Int, x = ints l ∧ ∀ n ∈ l, -9223372036854775808 ≤ n ∧ n ≤ 9223372036854775807 := by
  obtain ⟨rows, rfl, hr⟩ := v_slice T_sl_int_is (by obtain ⟨i, a, _, b⟩ := T_int_is; exact ⟨i, a, b⟩) h
  have key : ∀ rows : List (List AV), (∀ row ∈ rows, Sh tiT.get [T_int] row) → ∃ l : List Int, rows = l.map (fun n => [I n]) ∧ ∀ n ∈ l, -9223372036854775808 ≤ n ∧ n ≤ 9223372036854775807 := by
    intro rows
    induction rows with
    | nil => intro _; exact ⟨[], rfl, fun n h => by cases h⟩
    | cons r rs ih =>
      intro h
      obtain ⟨n, ys, e, hw, hs⟩ := d_int (h r (by simp))
      rw [sh_nil hs] at e
      obtain ⟨l, e2, hl⟩ := ih fun row hr => h row (by simp [hr])
      refine ⟨n :: l, by rw [e, e2]; rfl, fun m hm => ?_⟩
      rcases List.mem_cons.1 hm with rfl | hm
      · exact hw
      · exact hl m hm
  obtain ⟨l, e, hl⟩ := key rows hr
  exact ⟨l, by rw [e]; rfl, hl⟩
def readD : List Nat := [T_int, T_bool, T_sl_bool, T_sl_int]
theorem readD_closed : closedB tiT.get readD = true := by kernel_rfl
end Go.Proofs.Ytnloolhaojoimaa.Ev

/- DequeNone. -/
import Derived.Test.YtnloolhaojoimaaLaws
import Derived.Test.YtnloolhaojoimaaAlive20
import Derived.Test.YtnloolhaojoimaaDecode
namespace Go.Proofs.Ytnloolhaojoimaa.Ev
open Go.RowKit
set_option linter.unusedVariables false
set_option linter.unusedSimpArgs false
set_option maxRecDepth 100000
variable {σ : Sig}
theorem num_sp {H : Hp} {x : AV} {K : AV → Hp → Prop} (h : K x H) : callK Try.prog σ n_law20_num [x] H K := law20_num.run h
def busyB (s : S) (w : Int) : Bool := decide (0 ≤ w) && (decide (w ≤ 64) && (s.op w.toNat).isSome)
def okN (w k : Int) : Bool := decide (0 ≤ w ∧ w ≤ 64 ∧ (stepsF w k).isSome = true)
section
attribute [local irreducible] law20_DequeNone.J0
theorem None_J0 {K : AV → Hp → Prop} (hK : ∀ H, K (Bo true) H) {who other e : Int} {ok : Bool} {d : Nat} {s : S} {H : Hp} (h : Dq H d s) (h1 : busyB s other = false) (h2 : busyB s who = ok) (he : e = if ok = true then 0 else 1) :
    law20_DequeNone.J0 σ K (I who) (Bo true) (.ptr d 0) (I e) (Bo ok) (I 1) (I other) H := by
  refine law20_DequeNone.J0_step (Step_no h h1 ?_)
  simp
  refine num_sp ?_
  subst he
  cases ok
  · simp
    refine num_sp ?_
    simp
    refine num_sp ?_
    simp
    refine Busy_sp h ?_
    unfold busyB at h2
    rw [h2]
    simp
    exact hK _
  · simp
    refine num_sp ?_
    simp
    refine Busy_sp h ?_
    unfold busyB at h2
    rw [h2]
    simp
    exact hK _
theorem DequeNone_good (w k x : Int) : ∃ Hf, Good Try.prog σ n_law20_DequeNone [I w, I k, I x] Hp.empty (Bo true) Hf := by
  refine ⟨Hp.empty, good_by (fun K hK => law20_DequeNone.run ?_) rfl rfl _⟩
  refine callK_of (alive20 _) ?_
  refine New_sp (by omega) (by omega) fun H h _ _ => ?_
  have fin : ∀ (H : Hp) (s : S) (e : Int) (ok : Bool), Dq H (Hp.empty.n + 1) s → (∀ other, other = (if w = 0 then 1 else 0) → busyB s other = false) → busyB s w = ok → e = (if ok = true then 0 else 1) → (w < 0 ∨ 64 < w ∨ (s.op w.toNat).isSome ∨ stepsF w k = none) → ok = okN w k →
      ∀ y, y = I e → bnd (binR .eql (I w) (I 0)) fun x7 => ifB x7 (bnd (binR .eql (I k) (I 1)) fun x8 => ifB x8 (callK Try.prog σ n_deque_Deque_Begin [.ptr (Hp.empty.n + 1) 0, I w, I k, I x] H fun x9 H10 => bnd (binR .eql (I w) (I 0)) fun x11 => ifB x11 (law20_DequeNone.J0 σ K (I w) (Bo true) (.ptr (Hp.empty.n + 1) 0) y (Bo true) x9 (I 1) H10) (law20_DequeNone.J0 σ K (I w) (Bo true) (.ptr (Hp.empty.n + 1) 0) y (Bo true) x9 (I 0) H10)) (bnd (binR .eql (I k) (I 2)) fun x12 => ifB x12 (callK Try.prog σ n_deque_Deque_Begin [.ptr (Hp.empty.n + 1) 0, I w, I k, I x] H fun x13 H14 => bnd (binR .eql (I w) (I 0)) fun x15 => ifB x15 (law20_DequeNone.J0 σ K (I w) (Bo true) (.ptr (Hp.empty.n + 1) 0) y (Bo true) x13 (I 1) H14) (law20_DequeNone.J0 σ K (I w) (Bo true) (.ptr (Hp.empty.n + 1) 0) y (Bo true) x13 (I 0) H14)) (bnd (binR .geq (I w) (I 1)) fun x16 => ifB x16 (bnd (binR .leq (I w) (I 64)) fun x17 => ifB x17 (bnd (binR .eql (I k) (I 3)) fun x18 => callK Try.prog σ n_deque_Deque_Begin [.ptr (Hp.empty.n + 1) 0, I w, I k, I x] H fun x19 H20 => bnd (binR .eql (I w) (I 0)) fun x21 => ifB x21 (law20_DequeNone.J0 σ K (I w) (Bo true) (.ptr (Hp.empty.n + 1) 0) y x18 x19 (I 1) H20) (law20_DequeNone.J0 σ K (I w) (Bo true) (.ptr (Hp.empty.n + 1) 0) y x18 x19 (I 0) H20)) (callK Try.prog σ n_deque_Deque_Begin [.ptr (Hp.empty.n + 1) 0, I w, I k, I x] H fun x22 H23 => bnd (binR .eql (I w) (I 0)) fun x24 => ifB x24 (law20_DequeNone.J0 σ K (I w) (Bo true) (.ptr (Hp.empty.n + 1) 0) y (Bo false) x22 (I 1) H23) (law20_DequeNone.J0 σ K (I w) (Bo true) (.ptr (Hp.empty.n + 1) 0) y (Bo false) x22 (I 0) H23))) (callK Try.prog σ n_deque_Deque_Begin [.ptr (Hp.empty.n + 1) 0, I w, I k, I x] H fun x25 H26 => bnd (binR .eql (I w) (I 0)) fun x27 => ifB x27 (law20_DequeNone.J0 σ K (I w) (Bo true) (.ptr (Hp.empty.n + 1) 0) y (Bo false) x25 (I 1) H26) (law20_DequeNone.J0 σ K (I w) (Bo true) (.ptr (Hp.empty.n + 1) 0) y (Bo false) x25 (I 0) H26))))) (bnd (binR .geq (I w) (I 1)) fun x28 => ifB x28 (bnd (binR .leq (I w) (I 64)) fun x29 => ifB x29 (bnd (binR .eql (I k) (I 3)) fun x30 => callK Try.prog σ n_deque_Deque_Begin [.ptr (Hp.empty.n + 1) 0, I w, I k, I x] H fun x31 H32 => bnd (binR .eql (I w) (I 0)) fun x33 => ifB x33 (law20_DequeNone.J0 σ K (I w) (Bo true) (.ptr (Hp.empty.n + 1) 0) y x30 x31 (I 1) H32) (law20_DequeNone.J0 σ K (I w) (Bo true) (.ptr (Hp.empty.n + 1) 0) y x30 x31 (I 0) H32)) (callK Try.prog σ n_deque_Deque_Begin [.ptr (Hp.empty.n + 1) 0, I w, I k, I x] H fun x34 H35 => bnd (binR .eql (I w) (I 0)) fun x36 => ifB x36 (law20_DequeNone.J0 σ K (I w) (Bo true) (.ptr (Hp.empty.n + 1) 0) y (Bo false) x34 (I 1) H35) (law20_DequeNone.J0 σ K (I w) (Bo true) (.ptr (Hp.empty.n + 1) 0) y (Bo false) x34 (I 0) H35))) (callK Try.prog σ n_deque_Deque_Begin [.ptr (Hp.empty.n + 1) 0, I w, I k, I x] H fun x37 H38 => bnd (binR .eql (I w) (I 0)) fun x39 => ifB x39 (law20_DequeNone.J0 σ K (I w) (Bo true) (.ptr (Hp.empty.n + 1) 0) y (Bo false) x37 (I 1) H38) (law20_DequeNone.J0 σ K (I w) (Bo true) (.ptr (Hp.empty.n + 1) 0) y (Bo false) x37 (I 0) H38))) := by
    intro H s e ok h ho hb he hno hok y hy
    subst hy
    have jj : ∀ ok', ok' = ok → callK Try.prog σ n_deque_Deque_Begin [.ptr (Hp.empty.n + 1) 0, I w, I k, I x] H fun x9 H10 => bnd (binR .eql (I w) (I 0)) fun x11 => ifB x11 (law20_DequeNone.J0 σ K (I w) (Bo true) (.ptr (Hp.empty.n + 1) 0) (I e) (Bo ok') x9 (I 1) H10) (law20_DequeNone.J0 σ K (I w) (Bo true) (.ptr (Hp.empty.n + 1) 0) (I e) (Bo ok') x9 (I 0) H10) := by
      intro ok' e2
      subst e2
      refine Begin_no h hno ?_
      by_cases w0 : w = 0
      · simp only [b_eql, bnd_some, ifB_lit, w0, decide_true, if_true]
        rw [w0] at hb ho
        exact None_J0 hK h (ho 1 (by simp)) hb he
      · simp only [b_eql, bnd_some, ifB_lit, w0, decide_false, if_false]
        exact None_J0 hK h (ho 0 (by simp [w0])) hb he
    unfold okN stepsF at hok
    by_cases w0 : w = 0
    · by_cases k1 : k = 1
      · simpa [w0, k1] using jj true (by rw [hok]; simp [w0, k1])
      · by_cases k2 : k = 2
        · simpa [w0, k1, k2] using jj true (by rw [hok]; simp [w0, k1, k2])
        · simpa [w0, k1, k2] using jj false (by rw [hok]; simp [w0, k1, k2])
    · by_cases w1 : 1 ≤ w
      · by_cases w2 : w ≤ 64
        · simpa [w0, w1, w2] using jj (decide (k = 3)) (by
            rw [hok]
            have a : 0 ≤ w := by omega
            have b : 0 < w := by omega
            by_cases k3 : k = 3 <;> simp [w0, w2, a, b, k3])
        · simpa [w0, w1, w2] using jj false (by rw [hok]; simp [w2])
      · have a : ¬ 0 ≤ w := by omega
        simpa [w0, w1] using jj false (by rw [hok]; simp [a])
  have b0 : ∀ v, busyB (s0 Hp.empty.n (Int.toNat 3)) v = false := by intro v; simp [busyB, s0]
  by_cases hin : 0 ≤ w ∧ w ≤ 64
  · cases hs : stepsF w k with
    | none =>
      refine Begin_no h (.inr (.inr (.inr hs))) ?_
      exact fin H _ 1 false h (fun o _ => b0 o) (b0 w) rfl (.inr (.inr (.inr hs))) (by simp [okN, hs]) _ rfl
    | some g =>
      obtain ⟨n, rfl⟩ : ∃ k : Nat, w = k := ⟨w.toNat, by omega⟩
      refine Begin_go h (w := n) (by omega) rfl hs fun H1 h1 _ _ => ?_
      refine fin H1 _ 0 true h1 ?_ ?_ rfl (.inr (.inr (.inl ?_))) (by simp [okN, hs, hin]) _ rfl
      · intro o ho
        by_cases n0 : (n : Int) = 0
        · rw [if_pos n0] at ho
          subst ho
          have : n = 0 := by omega
          subst this
          simp [busyB, put, upd, s0]
        · rw [if_neg n0] at ho
          subst ho
          have : (0 : Nat) ≠ n := by omega
          simp [busyB, put, upd, s0, this]
      · simp [busyB, put, hin]
      · simp [put]
  · refine Begin_no h (by omega) ?_
    exact fin H _ 1 false h (fun o _ => b0 o) (b0 w) rfl (by omega) (by
      by_cases a : 0 ≤ w
      · have : ¬ w ≤ 64 := fun e => hin ⟨a, e⟩
        simp [okN, this]
      · simp [okN, a]) _ rfl
end
theorem DequeNone_walk {H : Type} {enc : TypeId × Value → H} (W : World) {v0 v1 v2 : Value} {r : Reach} {b0 base : Nat} {spare : Nat → Bool} {held : Bool} {d0 d1 d2 : DataW H} {p0 p1 p2 : List MemPlace}
    (e0 : Value.okWide Try.prog W r b0 T_int v0) (h0 : DataW.Trod enc Try.prog W base spare held T_int v0 d0 p0)
    (e1 : Value.okWide Try.prog W r b0 T_int v1) (h1 : DataW.Trod enc Try.prog W base spare held T_int v1 d1 p1)
    (e2 : Value.okWide Try.prog W r b0 T_int v2) (h2 : DataW.Trod enc Try.prog W base spare held T_int v2 d2 p2) :
    Calls Try.prog n_law20_DequeNone #[v0, v1, v2] W fun e W' => e = .returned (.bool true) ∧ Below W.heap.size W W' := by
  have σ : Sig := ⟨fun _ => 0, fun _ => false, fun _ => ⟨#[]⟩⟩
  obtain ⟨x0, r0, s0⟩ := read_arg (P := Try.prog) (ti := tiT.get) (S := readD) (t := T_int) (σ := σ) tiT_ok readD_closed (inB_mem (by kernel_rfl)) e0 h0
  obtain ⟨x1, r1, s1⟩ := read_arg (P := Try.prog) (ti := tiT.get) (S := readD) (t := T_int) (σ := σ) tiT_ok readD_closed (inB_mem (by kernel_rfl)) e1 h1
  obtain ⟨x2, r2, s2⟩ := read_arg (P := Try.prog) (ti := tiT.get) (S := readD) (t := T_int) (σ := σ) tiT_ok readD_closed (inB_mem (by kernel_rfl)) e2 h2
  obtain ⟨n, rfl, _⟩ := v_int s0
  obtain ⟨m, rfl, _⟩ := v_int s1
  obtain ⟨l, rfl, _⟩ := v_int s2
  obtain ⟨Hf, hg⟩ := DequeNone_good (σ := σ) n m l
  exact law_of_good (relL3 r0 r1 r2) hg
end Go.Proofs.Ytnloolhaojoimaa.Ev

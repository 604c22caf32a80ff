/- DequeFull. -/
import Derived.Test.YtnloolhaojoimaaLaws
import Derived.Test.YtnloolhaojoimaaAlive20
namespace Go.Proofs.Ytnloolhaojoimaa.Ev
set_option linter.unusedVariables false
set_option linter.unusedSimpArgs false
variable {σ : Sig}
@[simp] theorem empty_n : Hp.empty.n = 0 := rfl
def seqI (a : Int) (n : Nat) : List Int := (List.range n).map fun (k : Nat) => a + (k : Int)
theorem seqI_succ (a : Int) (n : Nat) : seqI a (n + 1) = seqI a n ++ [a + n] := by simp [seqI, List.range_succ]
theorem seqI_cons (a : Int) (n : Nat) : seqI a (n + 1) = a :: seqI (a + 1) n := by
  unfold seqI
  rw [List.range_succ_eq_map]
  simp only [List.map_cons, List.map_map]
  congr 1
  · simp
  · apply List.map_congr_left
    intro k _
    simp
    omega
theorem wr_i {i : Nat} (h : i ≤ 1000000) : wr .i64 ((i : Int) + 1) = ((i + 1 : Nat) : Int) := by rw [wr64 (by omega) (by omega)]; rfl
theorem seqI_len (a : Int) (n : Nat) : (seqI a n).length = n := by simp [seqI]
section
attribute [local irreducible] law20_DequeFull.L0 law20_DequeFull.L1
theorem Full_L1 {n r d ip : Nat} {y7 : AV} {K : AV → Hp → Prop} (h1 : 1 ≤ n ∧ n ≤ 20) (hr : r ≤ 40) (hK : ∀ H, K (Bo true) H) : ∀ (m i : Nat) (H : Hp) (c : Int), r - i = m → i ≤ r → c ≤ 100 + i → QL H d ip n (seqI i n) c →
    law20_DequeFull.L1 σ K (I n) (I r) (.ptr d 0) y7 (I i) H := by
  intro m
  induction m with
  | zero =>
    intro i H c hm hi hc hq
    have e : i = r := by omega
    subst e
    refine law20_DequeFull.L1_step ?_
    simp
    exact hK _
  | succ m ih =>
    intro i H c hm hi hc hq
    refine law20_DequeFull.L1_step ?_
    have hlt : (i : Int) < r := by omega
    simp [hlt]
    refine hq.push_full (by omega) (seqI_len _ _) fun H1 q1 _ => ?_
    simp
    rw [b_rem _ _ _ (by omega)]
    have hmod : (i : Int).tmod 3 = ((i % 3 : Nat) : Int) := by rw [Int.tmod_eq_emod_of_nonneg (by omega)]; rfl
    simp
    rw [hmod, wr64 (by omega) (by omega)]
    have e1 : (1 : Int) + ((i % 3 : Nat) : Int) = ((1 + i % 3 : Nat) : Int) := by omega
    rw [e1]
    obtain ⟨n', rfl⟩ : ∃ k, n = k + 1 := ⟨n - 1, by omega⟩
    rw [seqI_cons] at q1
    refine QL.steal (w := 1 + i % 3) (by omega) q1 (by omega) (by omega) fun H2 q2 _ => ?_
    simp
    rw [wr64 (by omega) (by omega)]
    refine q2.push (by omega) (by omega) (by rw [seqI_len]; omega) fun H3 q3 _ => ?_
    simp
    refine q3.len (by omega) ?_
    simp [seqI_len]
    rw [wr_i (by omega)]
    refine ih (i + 1) H3 (c + 1) (by omega) (by omega) (by omega) ?_
    have e2 : (n' : Int) + 1 + i = i + 1 + n' := by omega
    rw [seqI_succ]
    simpa [e2] using q3
theorem Full_L0 {n r d ip : Nat} {K : AV → Hp → Prop} (h1 : 1 ≤ n ∧ n ≤ 20) (hr : r ≤ 40) (hK : ∀ H, K (Bo true) H) : ∀ (m i : Nat) (H : Hp) (y10 : AV), n - i = m → i ≤ n → QL H d ip n (seqI 0 i) i →
    law20_DequeFull.L0 σ K (I n) (I r) (.ptr d 0) (I i) y10 H := by
  intro m
  induction m with
  | zero =>
    intro i H y10 hm hi hq
    have e : i = n := by omega
    subst e
    refine law20_DequeFull.L0_step ?_
    simp
    exact Full_L1 h1 hr hK r 0 H _ (by omega) (by omega) (by omega) hq
  | succ m ih =>
    intro i H y10 hm hi hq
    refine law20_DequeFull.L0_step ?_
    have hlt : (i : Int) < n := by omega
    simp [hlt]
    refine hq.push (by omega) (by omega) (by rw [seqI_len]; omega) fun H1 q1 _ => ?_
    simp
    rw [wr_i (by omega)]
    refine ih (i + 1) H1 _ (by omega) (by omega) ?_
    rw [seqI_succ]
    simpa using q1
theorem DequeFull_good (n r : Int) : ∃ Hf, Good Try.prog σ n_law20_DequeFull [I n, I r] Hp.empty (Bo true) Hf := by
  refine ⟨Hp.empty, good_by (fun K hK => law20_DequeFull.run ?_) rfl rfl _⟩
  refine callK_of (alive20 _) ?_
  simp
  by_cases h1 : n < 1
  · simp [h1]; exact hK _
  by_cases h2 : 20 < n
  · simp [h1, h2]; exact hK _
  by_cases h3 : r < 0
  · simp [h1, h2, h3]; exact hK _
  by_cases h4 : 40 < r
  · simp [h1, h2, h3, h4]; exact hK _
  simp only [h1, h2, h3, h4, if_false]
  obtain ⟨a, rfl⟩ : ∃ k : Nat, n = k := ⟨n.toNat, by omega⟩
  obtain ⟨b, rfl⟩ : ∃ k : Nat, r = k := ⟨r.toNat, by omega⟩
  refine QL.new (by omega) (by omega) fun H hq _ => ?_
  simp only [Int.toNat_natCast] at hq
  exact Full_L0 ⟨by omega, by omega⟩ (by omega) hK a 0 H _ (by omega) (by omega) hq
end
end Go.Proofs.Ytnloolhaojoimaa.Ev

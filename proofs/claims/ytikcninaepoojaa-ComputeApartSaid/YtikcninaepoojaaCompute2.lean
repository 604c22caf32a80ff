/- The document's own answer for chapter 16, and the two laws. -/
import Derived.Test.YtikcninaepoojaaCompute
namespace Go.Proofs.Ytikcninaepoojaa.Ev
set_option linter.unusedVariables false
set_option linter.unusedSimpArgs false
variable {σ : Sig}
attribute [local irreducible] ref9_one.J0
@[simp] theorem empty_n : Hp.empty.n = 0 := rfl

theorem rcap_ok (n : Int) (H : Hp) : Good Try.prog σ n_ref1_Cap [I n] H (I (capI n)) H := by
  refine good_by (fun K hK => ref1_Cap.run ?_) rfl rfl H
  unfold capI at hK
  simp
  by_cases h : n < -2147483647
  · rw [if_pos h, if_neg (by omega)] at hK
    rw [if_neg (by omega)]
    intros
    first | exact hK _ | (split; exact hK _; omega)
  · rw [if_neg h] at hK
    split
    · rename_i h2; rw [if_pos h2] at hK; exact hK _
    · rename_i h2; rw [if_neg h2] at hK; exact hK _
theorem rtimes_ok (a b : Int) (H : Hp) : Good Try.prog σ n_ref1_Times [I a, I b] H (I (timesI a b)) H := by
  refine good_pure (ref1_Times.run (callK_of (rcap_ok a _) (callK_of (rcap_ok b _) ?_))) rfl rfl H
  have h1 := mul_le a b
  have h2 := tdiv_le h1 1000 (by omega)
  simp [b_quo]
  rw [wr64 (n := capI a * capI b) (by omega) (by omega), wr64 (by omega) (by omega)]
  exact callK_of (rcap_ok _ _) rfl
theorem rinit_ok (p : Int) (H : Hp) : Good Try.prog σ n_ref1_Initial [I p] H (I (initI p)) H := by
  refine good_by (fun K hK => ref1_Initial.run ?_) rfl rfl H
  unfold initI at hK
  simp
  split
  · rename_i h; rw [if_pos h] at hK; exact hK _
  rename_i h; rw [if_neg h] at hK
  split
  · rename_i h; rw [if_pos h] at hK; exact hK _
  rename_i h; rw [if_neg h] at hK
  split
  · rename_i h; rw [if_pos h] at hK; exact hK _
  rename_i h; rw [if_neg h] at hK
  split
  · rename_i h; rw [if_pos h] at hK; exact hK _
  rename_i h; rw [if_neg h] at hK
  split
  · rename_i h; rw [if_pos h] at hK; exact hK _
  rename_i h; rw [if_neg h] at hK
  exact hK _
theorem rinh_ok (p : Int) (H : Hp) : Good Try.prog σ n_ref1_Inherits [I p] H (Bo (inhI p)) H := by
  refine good_by (fun K hK => ref1_Inherits.run ?_) rfl rfl H
  have e : inhI p = (decide (0 ≤ p) && decide (p < 3)) := by
    unfold inhI
    congr 1
    by_cases h : p ≤ 2
    · have : p < 3 := by omega
      simp [h, this]
    · have : ¬ p < 3 := by omega
      simp [h, this]
  rw [e] at hK
  by_cases h : 0 ≤ p
  · simp [h] at hK ⊢; exact hK _
  · simp [h] at hK ⊢; exact hK _

@[simp] theorem a8_0 (f : Nat → Int) : ldL false 1 (arr8 f) = some (I (f 0)) := rfl
@[simp] theorem a8_1 (f : Nat → Int) : ldL false 1 (arr8 f).tail = some (I (f 1)) := rfl
@[simp] theorem a8_2 (f : Nat → Int) : ldL false 1 ((arr8 f).drop 2) = some (I (f 2)) := rfl
@[simp] theorem a8_3 (f : Nat → Int) : ldL false 1 ((arr8 f).drop 3) = some (I (f 3)) := rfl
@[simp] theorem a8_4 (f : Nat → Int) : ldL false 1 ((arr8 f).drop 4) = some (I (f 4)) := rfl
@[simp] theorem a8_5 (f : Nat → Int) : ldL false 1 ((arr8 f).drop 5) = some (I (f 5)) := rfl
@[simp] theorem a8_6 (f : Nat → Int) : ldL false 1 ((arr8 f).drop 6) = some (I (f 6)) := rfl
@[simp] theorem a8_7 (f : Nat → Int) : ldL false 1 ((arr8 f).drop 7) = some (I (f 7)) := rfl
theorem timesI_cap (a n : Int) : timesI a (capI n) = timesI a n := by unfold timesI; rw [capI_in (capI_le n)]
theorem one_ok0 (k n sz : Int) (ps : Nat → Int) (H : Hp) : Good Try.prog σ n_ref9_one [I 0, .agg [I k, I n], .agg (arr8 ps), I sz] H (I (roundI 0 k n (ps 0) (ps 1) sz)) H := by
  refine good_by (fun K hK => ref9_one.run_0 ?_) (by simp only [noIds, noId, arr8_noId, Bool.and_self]) rfl H
  have hc := capI_le n
  simp
  refine callK_of (rcap_ok n _) ?_
  simp [ixaArr, intA]
  have J : ∀ (H : Hp) (b : Bool), H.get 0 = some (.cells [I k, I n] true) → H.get 1 = some (.cells (arr8 ps) true) → k ≠ 7 → k ≠ 8 → b = decide (k = 6) → ref9_one.J0 σ K (I 0) (I sz) (.ptr 0 0) (.ptr 1 0) (I (capI n)) (Bo b) H := by
    intro H b g0 g1 k7 k8 hb
    subst hb
    refine ref9_one.J0_step_0 ?_
    simp [g0, g1, ixaArr, intA]
    by_cases h6 : k = 6
    · subst h6
      simp [roundI, ownI, sizeI, lenI, spaceI, kindsI, inhI, initI] at hK ⊢
      exact hK _
    have e : roundI 0 k n (ps 0) (ps 1) sz = ps 0 := by simp [roundI, ownI, sizeI, lenI, spaceI, kindsI, inhI, k7, k8, h6]
    rw [e] at hK
    simp [k7, k8, h6]
    refine callK_of (rinh_ok _ _) ?_
    simp [inhI, g1, ixaArr, intA]
    exact hK _
  by_cases k7 : k = 7
  · subst k7; simp [roundI] at hK ⊢; exact hK _
  by_cases k8 : k = 8
  · subst k8; simp [roundI] at hK ⊢; exact callK_of (rinit_ok _ _) (hK _)
  simp [k7, k8]
  have e0 : (((Hp.empty.new (Blk.cells [I k, I n] true)).new (Blk.cells (arr8 ps) true))).get 0 = some (.cells [I k, I n] true) := by simp
  have e1 : (((Hp.empty.new (Blk.cells [I k, I n] true)).new (Blk.cells (arr8 ps) true))).get 1 = some (.cells (arr8 ps) true) := by simp
  generalize ((Hp.empty.new (Blk.cells [I k, I n] true)).new (Blk.cells (arr8 ps) true)) = HH at e0 e1 ⊢
  split
  · rename_i h; exact J HH _ e0 e1 k7 k8 rfl
  · rename_i h; exact J HH false e0 e1 k7 k8 (by simp [h])
theorem one_ok1 (k n sz : Int) (ps : Nat → Int) (H : Hp) : Good Try.prog σ n_ref9_one [I 1, .agg [I k, I n], .agg (arr8 ps), I sz] H (I (roundI 1 k n (ps 1) (ps 1) sz)) H := by
  refine good_by (fun K hK => ref9_one.run_1 ?_) (by simp only [noIds, noId, arr8_noId, Bool.and_self]) rfl H
  have hc := capI_le n
  simp
  refine callK_of (rcap_ok n _) ?_
  simp [ixaArr, intA]
  have J : ∀ (H : Hp) (b : Bool), H.get 0 = some (.cells [I k, I n] true) → H.get 1 = some (.cells (arr8 ps) true) → k ≠ 7 → k ≠ 8 → b = false → ref9_one.J0 σ K (I 1) (I sz) (.ptr 0 0) (.ptr 1 0) (I (capI n)) (Bo b) H := by
    intro H b g0 g1 k7 k8 hb
    subst hb
    refine ref9_one.J0_step_1 ?_
    simp [g0, g1, ixaArr, intA]
    by_cases h3 : k = 3
    · subst h3
      simp [roundI, ownI, sizeI, lenI, spaceI, kindsI, inhI, initI] at hK ⊢
      exact callK_of (rtimes_ok _ _ _) (hK _)
    by_cases h4 : k = 4
    · subst h4
      simp [roundI, ownI, sizeI, lenI, spaceI, kindsI, inhI, initI] at hK ⊢
      refine callK_of (rtimes_ok _ _ _) ?_
      rw [timesI_cap]
      have h0 := capI_le ((capI (ps 1) * capI n).tdiv 1000)
      have h2 : -4611686018427387904 ≤ timesI (ps 1) n ∧ timesI (ps 1) n ≤ 4611686018427387904 := by
        unfold timesI
        omega
      have h3 := tdiv_le h2 100 (by omega)
      simp [b_quo]
      rw [wr64 (by omega) (by omega)]
      exact hK _
    by_cases h2 : k = 2
    · subst h2
      simp [roundI, ownI, sizeI, lenI, spaceI, kindsI, inhI, initI] at hK ⊢
      exact hK _
    have e : roundI 1 k n (ps 1) (ps 1) sz = ps 1 := by simp [roundI, ownI, sizeI, lenI, spaceI, kindsI, inhI, k7, k8, h3, h4, h2]
    rw [e] at hK
    simp [k7, k8, h3, h4, h2]
    refine callK_of (rinh_ok _ _) ?_
    simp [inhI, g1, ixaArr, intA]
    exact hK _
  by_cases k7 : k = 7
  · subst k7; simp [roundI] at hK ⊢; exact hK _
  by_cases k8 : k = 8
  · subst k8; simp [roundI] at hK ⊢; exact callK_of (rinit_ok _ _) (hK _)
  simp [k7, k8]
  have e0 : ((Hp.empty.new (Blk.cells [I k, I n] true)).new (Blk.cells (arr8 ps) true)).get 0 = some (.cells [I k, I n] true) := by simp
  have e1 : ((Hp.empty.new (Blk.cells [I k, I n] true)).new (Blk.cells (arr8 ps) true)).get 1 = some (.cells (arr8 ps) true) := by simp
  generalize ((Hp.empty.new (Blk.cells [I k, I n] true)).new (Blk.cells (arr8 ps) true)) = HH at e0 e1 ⊢
  exact J HH _ e0 e1 k7 k8 rfl
theorem one_ok2 (k n sz : Int) (ps : Nat → Int) (H : Hp) : Good Try.prog σ n_ref9_one [I 2, .agg [I k, I n], .agg (arr8 ps), I sz] H (I (roundI 2 k n (ps 2) (ps 1) sz)) H := by
  refine good_by (fun K hK => ref9_one.run_2 ?_) (by simp only [noIds, noId, arr8_noId, Bool.and_self]) rfl H
  have hc := capI_le n
  simp
  refine callK_of (rcap_ok n _) ?_
  simp [ixaArr, intA]
  have J : ∀ (H : Hp) (b : Bool), H.get 0 = some (.cells [I k, I n] true) → H.get 1 = some (.cells (arr8 ps) true) → k ≠ 7 → k ≠ 8 → b = decide (k = 1) → ref9_one.J0 σ K (I 2) (I sz) (.ptr 0 0) (.ptr 1 0) (I (capI n)) (Bo b) H := by
    intro H b g0 g1 k7 k8 hb
    subst hb
    refine ref9_one.J0_step_2 ?_
    simp [g0, g1, ixaArr, intA]
    by_cases h1 : k = 1
    · subst h1
      simp [roundI, ownI, sizeI, lenI, spaceI, kindsI, inhI, initI] at hK ⊢
      exact hK _
    have e : roundI 2 k n (ps 2) (ps 1) sz = ps 2 := by simp [roundI, ownI, sizeI, lenI, spaceI, kindsI, inhI, k7, k8, h1]
    rw [e] at hK
    simp [k7, k8, h1]
    refine callK_of (rinh_ok _ _) ?_
    simp [inhI, g1, ixaArr, intA]
    exact hK _
  by_cases k7 : k = 7
  · subst k7; simp [roundI] at hK ⊢; exact hK _
  by_cases k8 : k = 8
  · subst k8; simp [roundI] at hK ⊢; exact callK_of (rinit_ok _ _) (hK _)
  simp [k7, k8]
  have e0 : (((Hp.empty.new (Blk.cells [I k, I n] true)).new (Blk.cells (arr8 ps) true))).get 0 = some (.cells [I k, I n] true) := by simp
  have e1 : (((Hp.empty.new (Blk.cells [I k, I n] true)).new (Blk.cells (arr8 ps) true))).get 1 = some (.cells (arr8 ps) true) := by simp
  generalize ((Hp.empty.new (Blk.cells [I k, I n] true)).new (Blk.cells (arr8 ps) true)) = HH at e0 e1 ⊢
  split
  · rename_i h; exact J HH _ e0 e1 k7 k8 rfl
  · rename_i h; exact J HH false e0 e1 k7 k8 (by simp [h])
theorem one_ok3 (k n sz : Int) (ps : Nat → Int) (H : Hp) : Good Try.prog σ n_ref9_one [I 3, .agg [I k, I n], .agg (arr8 ps), I sz] H (I (roundI 3 k n (ps 3) (ps 1) sz)) H := by
  refine good_by (fun K hK => ref9_one.run_3 ?_) (by simp only [noIds, noId, arr8_noId, Bool.and_self]) rfl H
  have hc := capI_le n
  simp
  refine callK_of (rcap_ok n _) ?_
  simp [ixaArr, intA]
  have J : ∀ (H : Hp) (b : Bool), H.get 0 = some (.cells [I k, I n] true) → H.get 1 = some (.cells (arr8 ps) true) → k ≠ 7 → k ≠ 8 → b = decide (k = 1) → ref9_one.J0 σ K (I 3) (I sz) (.ptr 0 0) (.ptr 1 0) (I (capI n)) (Bo b) H := by
    intro H b g0 g1 k7 k8 hb
    subst hb
    refine ref9_one.J0_step_3 ?_
    simp [g0, g1, ixaArr, intA]
    by_cases h1 : k = 1
    · subst h1
      simp [roundI, ownI, sizeI, lenI, spaceI, kindsI, inhI, initI] at hK ⊢
      exact hK _
    have e : roundI 3 k n (ps 3) (ps 1) sz = initI 3 := by simp [roundI, ownI, sizeI, lenI, spaceI, kindsI, inhI, k7, k8, h1]
    rw [e] at hK
    simp [k7, k8, h1]
    refine callK_of (rinh_ok _ _) ?_
    simp [inhI, g1, ixaArr, intA]
    exact callK_of (rinit_ok _ _) (hK _)
  by_cases k7 : k = 7
  · subst k7; simp [roundI] at hK ⊢; exact hK _
  by_cases k8 : k = 8
  · subst k8; simp [roundI] at hK ⊢; exact callK_of (rinit_ok _ _) (hK _)
  simp [k7, k8]
  have e0 : (((Hp.empty.new (Blk.cells [I k, I n] true)).new (Blk.cells (arr8 ps) true))).get 0 = some (.cells [I k, I n] true) := by simp
  have e1 : (((Hp.empty.new (Blk.cells [I k, I n] true)).new (Blk.cells (arr8 ps) true))).get 1 = some (.cells (arr8 ps) true) := by simp
  generalize ((Hp.empty.new (Blk.cells [I k, I n] true)).new (Blk.cells (arr8 ps) true)) = HH at e0 e1 ⊢
  split
  · rename_i h; exact J HH _ e0 e1 k7 k8 rfl
  · rename_i h; exact J HH false e0 e1 k7 k8 (by simp [h])
theorem one_ok4 (k n sz : Int) (ps : Nat → Int) (H : Hp) : Good Try.prog σ n_ref9_one [I 4, .agg [I k, I n], .agg (arr8 ps), I sz] H (I (roundI 4 k n (ps 4) (ps 1) sz)) H := by
  refine good_by (fun K hK => ref9_one.run_4 ?_) (by simp only [noIds, noId, arr8_noId, Bool.and_self]) rfl H
  have hc := capI_le n
  simp
  refine callK_of (rcap_ok n _) ?_
  simp [ixaArr, intA]
  have J : ∀ (H : Hp) (b : Bool), H.get 0 = some (.cells [I k, I n] true) → H.get 1 = some (.cells (arr8 ps) true) → k ≠ 7 → k ≠ 8 → b = false → ref9_one.J0 σ K (I 4) (I sz) (.ptr 0 0) (.ptr 1 0) (I (capI n)) (Bo b) H := by
    intro H b g0 g1 k7 k8 hb
    subst hb
    refine ref9_one.J0_step_4 ?_
    simp [g0, g1, ixaArr, intA]
    by_cases h1 : k = 1
    · subst h1
      simp [roundI, ownI, sizeI, lenI, spaceI, kindsI, inhI, initI] at hK ⊢
      exact hK _
    by_cases h4 : k = 4
    · subst h4
      simp [roundI, ownI, sizeI, lenI, spaceI, kindsI, inhI, initI] at hK ⊢
      rw [wr64 (by omega) (by omega)]
      exact hK _
    by_cases h3 : k = 3
    · subst h3
      simp [roundI, ownI, sizeI, lenI, spaceI, kindsI, inhI, initI] at hK ⊢
      exact callK_of (rtimes_ok _ _ _) (hK _)
    by_cases h2 : k = 2
    · subst h2
      simp [roundI, ownI, sizeI, lenI, spaceI, kindsI, inhI, initI] at hK ⊢
      exact hK _
    have e : roundI 4 k n (ps 4) (ps 1) sz = initI 4 := by simp [roundI, ownI, sizeI, lenI, spaceI, kindsI, inhI, k7, k8, h1, h4, h3, h2]
    rw [e] at hK
    simp [k7, k8, h1, h4, h3, h2]
    refine callK_of (rinh_ok _ _) ?_
    simp [inhI, g1, ixaArr, intA]
    exact callK_of (rinit_ok _ _) (hK _)
  by_cases k7 : k = 7
  · subst k7; simp [roundI] at hK ⊢; exact hK _
  by_cases k8 : k = 8
  · subst k8; simp [roundI] at hK ⊢; exact callK_of (rinit_ok _ _) (hK _)
  simp [k7, k8]
  have e0 : ((Hp.empty.new (Blk.cells [I k, I n] true)).new (Blk.cells (arr8 ps) true)).get 0 = some (.cells [I k, I n] true) := by simp
  have e1 : ((Hp.empty.new (Blk.cells [I k, I n] true)).new (Blk.cells (arr8 ps) true)).get 1 = some (.cells (arr8 ps) true) := by simp
  generalize ((Hp.empty.new (Blk.cells [I k, I n] true)).new (Blk.cells (arr8 ps) true)) = HH at e0 e1 ⊢
  exact J HH _ e0 e1 k7 k8 rfl
theorem one_ok5 (k n sz : Int) (ps : Nat → Int) (H : Hp) : Good Try.prog σ n_ref9_one [I 5, .agg [I k, I n], .agg (arr8 ps), I sz] H (I (roundI 5 k n (ps 5) (ps 1) sz)) H := by
  refine good_by (fun K hK => ref9_one.run_5 ?_) (by simp only [noIds, noId, arr8_noId, Bool.and_self]) rfl H
  have hc := capI_le n
  simp
  refine callK_of (rcap_ok n _) ?_
  simp [ixaArr, intA]
  have J : ∀ (H : Hp) (b : Bool), H.get 0 = some (.cells [I k, I n] true) → H.get 1 = some (.cells (arr8 ps) true) → k ≠ 7 → k ≠ 8 → b = false → ref9_one.J0 σ K (I 5) (I sz) (.ptr 0 0) (.ptr 1 0) (I (capI n)) (Bo b) H := by
    intro H b g0 g1 k7 k8 hb
    subst hb
    refine ref9_one.J0_step_5 ?_
    simp [g0, g1, ixaArr, intA]
    by_cases h4 : k = 4
    · subst h4
      simp [roundI, ownI, sizeI, lenI, spaceI, kindsI, inhI, initI] at hK ⊢
      rw [wr64 (by omega) (by omega)]
      exact hK _
    by_cases h3 : k = 3
    · subst h3
      simp [roundI, ownI, sizeI, lenI, spaceI, kindsI, inhI, initI] at hK ⊢
      exact callK_of (rtimes_ok _ _ _) (hK _)
    by_cases h2 : k = 2
    · subst h2
      simp [roundI, ownI, sizeI, lenI, spaceI, kindsI, inhI, initI] at hK ⊢
      exact hK _
    have e : roundI 5 k n (ps 5) (ps 1) sz = initI 5 := by simp [roundI, ownI, sizeI, lenI, spaceI, kindsI, inhI, k7, k8, h4, h3, h2]
    rw [e] at hK
    simp [k7, k8, h4, h3, h2]
    refine callK_of (rinh_ok _ _) ?_
    simp [inhI, g1, ixaArr, intA]
    exact callK_of (rinit_ok _ _) (hK _)
  by_cases k7 : k = 7
  · subst k7; simp [roundI] at hK ⊢; exact hK _
  by_cases k8 : k = 8
  · subst k8; simp [roundI] at hK ⊢; exact callK_of (rinit_ok _ _) (hK _)
  simp [k7, k8]
  have e0 : ((Hp.empty.new (Blk.cells [I k, I n] true)).new (Blk.cells (arr8 ps) true)).get 0 = some (.cells [I k, I n] true) := by simp
  have e1 : ((Hp.empty.new (Blk.cells [I k, I n] true)).new (Blk.cells (arr8 ps) true)).get 1 = some (.cells (arr8 ps) true) := by simp
  generalize ((Hp.empty.new (Blk.cells [I k, I n] true)).new (Blk.cells (arr8 ps) true)) = HH at e0 e1 ⊢
  exact J HH _ e0 e1 k7 k8 rfl
theorem one_ok6 (k n sz : Int) (ps : Nat → Int) (H : Hp) : Good Try.prog σ n_ref9_one [I 6, .agg [I k, I n], .agg (arr8 ps), I sz] H (I (roundI 6 k n (ps 6) (ps 1) sz)) H := by
  refine good_by (fun K hK => ref9_one.run_6 ?_) (by simp only [noIds, noId, arr8_noId, Bool.and_self]) rfl H
  have hc := capI_le n
  simp
  refine callK_of (rcap_ok n _) ?_
  simp [ixaArr, intA]
  have J : ∀ (H : Hp) (b : Bool), H.get 0 = some (.cells [I k, I n] true) → H.get 1 = some (.cells (arr8 ps) true) → k ≠ 7 → k ≠ 8 → b = decide (k = 5) → ref9_one.J0 σ K (I 6) (I sz) (.ptr 0 0) (.ptr 1 0) (I (capI n)) (Bo b) H := by
    intro H b g0 g1 k7 k8 hb
    subst hb
    refine ref9_one.J0_step_6 ?_
    simp [g0, g1, ixaArr, intA]
    by_cases h5 : k = 5
    · subst h5
      simp [roundI, ownI, sizeI, lenI, spaceI, kindsI, inhI, initI] at hK ⊢
      exact hK _
    have e : roundI 6 k n (ps 6) (ps 1) sz = initI 6 := by simp [roundI, ownI, sizeI, lenI, spaceI, kindsI, inhI, k7, k8, h5]
    rw [e] at hK
    simp [k7, k8, h5]
    refine callK_of (rinh_ok _ _) ?_
    simp [inhI, g1, ixaArr, intA]
    exact callK_of (rinit_ok _ _) (hK _)
  by_cases k7 : k = 7
  · subst k7; simp [roundI] at hK ⊢; exact hK _
  by_cases k8 : k = 8
  · subst k8; simp [roundI] at hK ⊢; exact callK_of (rinit_ok _ _) (hK _)
  simp [k7, k8]
  have e0 : (((Hp.empty.new (Blk.cells [I k, I n] true)).new (Blk.cells (arr8 ps) true))).get 0 = some (.cells [I k, I n] true) := by simp
  have e1 : (((Hp.empty.new (Blk.cells [I k, I n] true)).new (Blk.cells (arr8 ps) true))).get 1 = some (.cells (arr8 ps) true) := by simp
  generalize ((Hp.empty.new (Blk.cells [I k, I n] true)).new (Blk.cells (arr8 ps) true)) = HH at e0 e1 ⊢
  split
  · rename_i h; exact J HH _ e0 e1 k7 k8 rfl
  · rename_i h; exact J HH false e0 e1 k7 k8 (by simp [h])
theorem one_ok7 (k n sz : Int) (ps : Nat → Int) (H : Hp) : Good Try.prog σ n_ref9_one [I 7, .agg [I k, I n], .agg (arr8 ps), I sz] H (I (roundI 7 k n (ps 7) (ps 1) sz)) H := by
  refine good_by (fun K hK => ref9_one.run_7 ?_) (by simp only [noIds, noId, arr8_noId, Bool.and_self]) rfl H
  have hc := capI_le n
  simp
  refine callK_of (rcap_ok n _) ?_
  simp [ixaArr, intA]
  have J : ∀ (H : Hp) (b : Bool), H.get 0 = some (.cells [I k, I n] true) → H.get 1 = some (.cells (arr8 ps) true) → k ≠ 7 → k ≠ 8 → b = decide (k = 5) → ref9_one.J0 σ K (I 7) (I sz) (.ptr 0 0) (.ptr 1 0) (I (capI n)) (Bo b) H := by
    intro H b g0 g1 k7 k8 hb
    subst hb
    refine ref9_one.J0_step_7 ?_
    simp [g0, g1, ixaArr, intA]
    by_cases h5 : k = 5
    · subst h5
      simp [roundI, ownI, sizeI, lenI, spaceI, kindsI, inhI, initI] at hK ⊢
      exact hK _
    by_cases h1 : k = 1
    · subst h1
      simp [roundI, ownI, sizeI, lenI, spaceI, kindsI, inhI, initI] at hK ⊢
      exact hK _
    have e : roundI 7 k n (ps 7) (ps 1) sz = initI 7 := by simp [roundI, ownI, sizeI, lenI, spaceI, kindsI, inhI, k7, k8, h5, h1]
    rw [e] at hK
    simp [k7, k8, h5, h1]
    refine callK_of (rinh_ok _ _) ?_
    simp [inhI, g1, ixaArr, intA]
    exact callK_of (rinit_ok _ _) (hK _)
  by_cases k7 : k = 7
  · subst k7; simp [roundI] at hK ⊢; exact hK _
  by_cases k8 : k = 8
  · subst k8; simp [roundI] at hK ⊢; exact callK_of (rinit_ok _ _) (hK _)
  simp [k7, k8]
  have e0 : ((Hp.empty.new (Blk.cells [I k, I n] true)).new (Blk.cells (arr8 ps) true)).get 0 = some (.cells [I k, I n] true) := by simp
  have e1 : ((Hp.empty.new (Blk.cells [I k, I n] true)).new (Blk.cells (arr8 ps) true)).get 1 = some (.cells (arr8 ps) true) := by simp
  generalize ((Hp.empty.new (Blk.cells [I k, I n] true)).new (Blk.cells (arr8 ps) true)) = HH at e0 e1 ⊢
  exact J HH _ e0 e1 k7 k8 rfl

end Go.Proofs.Ytikcninaepoojaa.Ev

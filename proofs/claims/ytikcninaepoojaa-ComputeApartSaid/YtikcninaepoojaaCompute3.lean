/- The computed style: the roots, the whole style, the document's own style. -/
import Derived.Test.YtikcninaepoojaaCompute2
namespace Go.Proofs.Ytikcninaepoojaa.Ev
set_option linter.unusedVariables false
set_option linter.unusedSimpArgs false
variable {σ : Sig}
def iniI (i : Nat) : Int := initI i
theorem warr_noId (k n : Nat → Int) : noIds (warr k n) = true := rfl
theorem warr_len (k n : Nat → Int) : (warr k n).length = 16 := rfl
theorem warr_ld {k n : Nat → Int} {i : Nat} (h : i < 8) : ldL true 2 ((warr k n).drop (i * 2)) = some (.agg [I (k i), I (n i)]) := by
  rcases lt8 h with rfl | rfl | rfl | rfl | rfl | rfl | rfl | rfl <;> rfl
theorem warr_set {k n : Nat → Int} {i : Nat} (h : i < 8) (a b : Int) : overlay (warr k n) (i * 2) [I a, I b] = warr (fun j => if j = i then a else k j) (fun j => if j = i then b else n j) := by
  rcases lt8 h with rfl | rfl | rfl | rfl | rfl | rfl | rfl | rfl <;> simp [warr, overlay]
theorem ix82 {k : Nat} (h : k < 8) (x : AV) : ixaArr 8 2 x (I k) = shiftA x (k * 2) := by
  unfold ixaArr
  have h1 : (0 : Int) ≤ k := by omega
  have h2 : (k : Int) < 8 := by omega
  simp [intA, h2]
theorem eq8 (f : Nat → Int) : eqAggR [.int .i64, .int .i64, .int .i64, .int .i64, .int .i64, .int .i64, .int .i64, .int .i64] .eql (.agg (arr8 f)) (.agg (arr8 f)) = some (Bo true) := by
  simp [eqAggR, isAggA, AV.cells, arr8, eqC, tfB]

section
attribute [local irreducible] compute_Root.L0
theorem Root_loop {K : AV → Hp → Prop} (hK : ∀ H, K (.agg (arr8 iniI)) H) : ∀ (m i : Nat) (H : Hp), 8 - i = m → i ≤ 8 → H.get 1 = some (.cells (arr8 fun j => if j < i then iniI j else 0) true) → (∃ cs, cs.length = 8 ∧ H.get 0 = some (.cells cs true)) → compute_Root.L0 σ K (.ptr 0 0) (.ptr 1 0) (I i) H := by
  intro m
  induction m with
  | zero =>
    intro i H hm hi hs hr
    have e : i = 8 := by omega
    subst e
    obtain ⟨cs, hcl, hr⟩ := hr
    refine compute_Root.L0_step ?_
    simp [hs, ldL_all, arr8_len, hr, hcl, arr8_one, overlay_all]
    have : (arr8 fun j => if j < 8 then iniI j else 0) = arr8 iniI := rfl
    rw [this]
    exact hK _
  | succ m ih =>
    intro i H hm hi hs hr
    have hi8 : i < 8 := by omega
    obtain ⟨cs, hcl, hr⟩ := hr
    have hlt : (i : Int) < 8 := by omega
    refine compute_Root.L0_step ?_
    simp [hlt]
    refine callK_of (init_ok _ _) ?_
    rw [ix8 hi8]
    have hl : i + 1 ≤ (arr8 fun j => if j < i then iniI j else 0).length := by rw [arr8_len]; omega
    simp [hs, hl, arr8_set hi8]
    rw [wr_k hi8]
    refine ih (i + 1) _ (by omega) (by omega) ?_ ⟨cs, hcl, by simp [hr]⟩
    simp
    congr 1
    funext j
    by_cases hj : j = i
    · subst hj; simp [iniI]
    · have : j < i + 1 ↔ j < i := by omega
      simp [hj, this]
theorem Root_ok (H : Hp) : Good Try.prog σ n_compute_Root [] H (.agg (arr8 iniI)) H := by
  refine good_by (fun K hK => compute_Root.run ?_) rfl rfl H
  simp
  have g0 : ((Hp.empty.new (Blk.cells [I 0, I 0, I 0, I 0, I 0, I 0, I 0, I 0] true)).new (Blk.cells [I 0, I 0, I 0, I 0, I 0, I 0, I 0, I 0] true)).get 0 = some (.cells [I 0, I 0, I 0, I 0, I 0, I 0, I 0, I 0] true) := by simp
  have g1 : ((Hp.empty.new (Blk.cells [I 0, I 0, I 0, I 0, I 0, I 0, I 0, I 0] true)).new (Blk.cells [I 0, I 0, I 0, I 0, I 0, I 0, I 0, I 0] true)).get 1 = some (.cells (arr8 fun j => if j < 0 then iniI j else 0) true) := by simp [arr8]
  exact Root_loop hK 8 0 _ rfl (by omega) g1 ⟨_, rfl, g0⟩
end

section
attribute [local irreducible] ref9_RootStyle.L0
theorem RootStyle_loop {K : AV → Hp → Prop} (hK : ∀ H, K (.agg (arr8 iniI)) H) : ∀ (m i : Nat) (H : Hp), 8 - i = m → i ≤ 8 → H.get 1 = some (.cells (arr8 fun j => if j < i then iniI j else 0) true) → (∃ cs, cs.length = 8 ∧ H.get 0 = some (.cells cs true)) → ref9_RootStyle.L0 σ K (.ptr 0 0) (.ptr 1 0) (I i) H := by
  intro m
  induction m with
  | zero =>
    intro i H hm hi hs hr
    have e : i = 8 := by omega
    subst e
    obtain ⟨cs, hcl, hr⟩ := hr
    refine ref9_RootStyle.L0_step ?_
    simp [hs, ldL_all, arr8_len, hr, hcl, arr8_one, overlay_all]
    have : (arr8 fun j => if j < 8 then iniI j else 0) = arr8 iniI := rfl
    rw [this]
    exact hK _
  | succ m ih =>
    intro i H hm hi hs hr
    have hi8 : i < 8 := by omega
    obtain ⟨cs, hcl, hr⟩ := hr
    have hlt : (i : Int) < 8 := by omega
    refine ref9_RootStyle.L0_step ?_
    simp [hlt]
    refine callK_of (rinit_ok _ _) ?_
    rw [ix8 hi8]
    have hl : i + 1 ≤ (arr8 fun j => if j < i then iniI j else 0).length := by rw [arr8_len]; omega
    simp [hs, hl, arr8_set hi8]
    rw [wr_k hi8]
    refine ih (i + 1) _ (by omega) (by omega) ?_ ⟨cs, hcl, by simp [hr]⟩
    simp
    congr 1
    funext j
    by_cases hj : j = i
    · subst hj; simp [iniI]
    · have : j < i + 1 ↔ j < i := by omega
      simp [hj, this]
theorem RootStyle_ok (H : Hp) : Good Try.prog σ n_ref9_RootStyle [] H (.agg (arr8 iniI)) H := by
  refine good_by (fun K hK => ref9_RootStyle.run ?_) rfl rfl H
  simp
  have g0 : ((Hp.empty.new (Blk.cells [I 0, I 0, I 0, I 0, I 0, I 0, I 0, I 0] true)).new (Blk.cells [I 0, I 0, I 0, I 0, I 0, I 0, I 0, I 0] true)).get 0 = some (.cells [I 0, I 0, I 0, I 0, I 0, I 0, I 0, I 0] true) := by simp
  have g1 : ((Hp.empty.new (Blk.cells [I 0, I 0, I 0, I 0, I 0, I 0, I 0, I 0] true)).new (Blk.cells [I 0, I 0, I 0, I 0, I 0, I 0, I 0, I 0] true)).get 1 = some (.cells (arr8 fun j => if j < 0 then iniI j else 0) true) := by simp [arr8]
  exact RootStyle_loop hK 8 0 _ rfl (by omega) g1 ⟨_, rfl, g0⟩
end

section
attribute [local irreducible] compute_Of.L1 compute_Of.J0
theorem Of_ok (ps k n : Nat → Int) (H : Hp) : Good Try.prog σ n_compute_Of [.ip (arr8 ps), .agg (warr k n)] H (.agg (arr8 (styI ps k n))) H := by
  refine good_by (fun K hK => compute_Of.run ?_) (by simp only [noIds, noId, arr8_noId, warr_noId, Bool.and_self]) rfl H
  simp
  refine compute_Of.J0_step ?_
  simp
  refine Of_loop ps k n hK 8 0 _ _ _ rfl (by omega) (.inl rfl) (by simp) ?_ ?_ ⟨[I 0, I 0, I 0, I 0, I 0, I 0, I 0, I 0], rfl, ?_⟩ (by omega) ?_
  · simp [arr8]
  · simp
  · simp
  · simp
theorem Of_nil (k n : Nat → Int) (H : Hp) : Good Try.prog σ n_compute_Of [.lit (.pointer none), .agg (warr k n)] H (.agg (arr8 (styI iniI k n))) H := by
  refine good_by (fun K hK => compute_Of.run ?_) (by simp only [noIds, noId, warr_noId, Bool.and_self]) rfl H
  simp
  refine callK_of (Root_ok _) ?_
  simp [arr8_len, arr8_one, overlay_all]
  refine compute_Of.J0_step ?_
  simp
  refine Of_loop iniI k n hK 8 0 _ _ _ rfl (by omega) (.inr ⟨2, rfl, ?_, ?_⟩) (by simp) ?_ ?_ ⟨[I 0, I 0, I 0, I 0, I 0, I 0, I 0, I 0], rfl, ?_⟩ (by omega) ?_
  · simp
  · simp; rfl
  · simp [arr8]
  · simp
  · simp
  · simp
end
theorem one_ok (i : Nat) (hi : i < 8) (k n sz : Int) (ps : Nat → Int) (H : Hp) : Good Try.prog σ n_ref9_one [I i, .agg [I k, I n], .agg (arr8 ps), I sz] H (I (roundI i k n (ps i) (ps 1) sz)) H := by
  rcases lt8 hi with rfl | rfl | rfl | rfl | rfl | rfl | rfl | rfl
  · exact one_ok0 k n sz ps H
  · exact one_ok1 k n sz ps H
  · exact one_ok2 k n sz ps H
  · exact one_ok3 k n sz ps H
  · exact one_ok4 k n sz ps H
  · exact one_ok5 k n sz ps H
  · exact one_ok6 k n sz ps H
  · exact one_ok7 k n sz ps H
section
attribute [local irreducible] ref9_Style.L1 ref9_Style.J0
theorem St_loop (ps k n : Nat → Int) {iw ir iu is : Nat} {K : AV → Hp → Prop} (hK : ∀ H, K (.agg (arr8 (styI ps k n))) H) : ∀ (m i : Nat) (H : Hp), 8 - i = m → i ≤ 8 → H.get iw = some (.cells (warr k n) true) → H.get iu = some (.cells (arr8 ps) true) →
    H.get is = some (.cells (arr8 fun j => if j < i then styI ps k n j else 0) true) → (∃ cs, cs.length = 8 ∧ H.get ir = some (.cells cs true)) → is ≠ iw → is ≠ iu → is ≠ ir →
    ref9_Style.L1 σ K (.ptr iw 0) (.ptr ir 0) (.ptr iu 0) (.ptr is 0) (I i) H := by
  intro m
  induction m with
  | zero =>
    intro i H hm hi hw hu hs hr d1 d2 d3
    have e : i = 8 := by omega
    subst e
    obtain ⟨cs, hcl, hr⟩ := hr
    refine ref9_Style.L1_step ?_
    simp [hs, ldL_all, arr8_len, hr, hcl, arr8_one, overlay_all]
    have : (arr8 fun j => if j < 8 then styI ps k n j else 0) = arr8 (styI ps k n) := rfl
    rw [this]
    exact hK _
  | succ m ih =>
    intro i H hm hi hw hu hs hr d1 d2 d3
    have hi8 : i < 8 := by omega
    obtain ⟨cs, hcl, hr⟩ := hr
    have hlt : (i : Int) < 8 := by omega
    refine ref9_Style.L1_step ?_
    have i1 : ixaArr 8 1 (.ptr is 0) (I 1) = some (.ptr is 1) := rfl
    simp [hlt, ix82 hi8, hw, warr_ld hi8, hu, i1, hs]
    refine callK_of (one_ok i hi8 _ _ _ _ _) ?_
    have es : roundI i (k i) (n i) (ps i) (ps 1) (if 1 < i then styI ps k n 1 else 0) = styI ps k n i := by
      unfold styI roundI
      rw [own_sz (p := (i : Int)) (sz' := szI ps k n) (fun h => by
        rw [if_pos (by omega)]
        unfold szI roundI
        rw [own_sz (p := ((1 : Nat) : Int)) (sz' := 0) (fun h => by omega)]
        rfl)]
    rw [es, ix8 hi8]
    have hl : i + 1 ≤ (arr8 fun j => if j < i then styI ps k n j else 0).length := by rw [arr8_len]; omega
    simp [hs, hl, arr8_set hi8]
    rw [wr_k hi8]
    refine ih (i + 1) _ (by omega) (by omega) (by simp [d1, Ne.symm d1, hw]) (by simp [d2, Ne.symm d2, hu]) ?_ ⟨cs, hcl, by simp [d3, Ne.symm d3, hr]⟩ d1 d2 d3
    simp
    congr 1
    funext j
    by_cases hj : j = i
    · subst hj; simp
    · have : j < i + 1 ↔ j < i := by omega
      simp [hj, this]
theorem St_ok (ps k n : Nat → Int) (H : Hp) : Good Try.prog σ n_ref9_Style [.ip (arr8 ps), .agg (warr k n)] H (.agg (arr8 (styI ps k n))) H := by
  refine good_by (fun K hK => ref9_Style.run ?_) (by simp only [noIds, noId, arr8_noId, warr_noId, Bool.and_self]) rfl H
  simp
  refine callK_of (RootStyle_ok _) ?_
  simp [arr8_len, arr8_one, overlay_all, ldL_all]
  refine ref9_Style.J0_step ?_
  simp
  refine St_loop ps k n hK 8 0 _ rfl (by omega) ?_ ?_ ?_ ⟨[I 0, I 0, I 0, I 0, I 0, I 0, I 0, I 0], rfl, ?_⟩ (by omega) (by omega) (by omega)
  · simp
  · simp; rfl
  · simp [arr8]
  · simp
theorem St_nil (k n : Nat → Int) (H : Hp) : Good Try.prog σ n_ref9_Style [.lit (.pointer none), .agg (warr k n)] H (.agg (arr8 (styI iniI k n))) H := by
  refine good_by (fun K hK => ref9_Style.run ?_) (by simp only [noIds, noId, warr_noId, Bool.and_self]) rfl H
  simp
  refine callK_of (RootStyle_ok _) ?_
  simp [arr8_len, arr8_one, overlay_all]
  refine ref9_Style.J0_step ?_
  simp
  refine St_loop iniI k n hK 8 0 _ rfl (by omega) ?_ ?_ ?_ ⟨[I 0, I 0, I 0, I 0, I 0, I 0, I 0, I 0], rfl, ?_⟩ (by omega) (by omega) (by omega)
  · simp
  · simp; rfl
  · simp [arr8]
  · simp
end
end Go.Proofs.Ytikcninaepoojaa.Ev

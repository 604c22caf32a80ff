/- The two laws of chapter 16 about the style. -/
import Derived.Test.YtikcninaepoojaaCompute3
import Derived.Test.YtikcninaepoojaaAlive16
namespace Go.Proofs.Ytikcninaepoojaa.Ev
set_option linter.unusedVariables false
set_option linter.unusedSimpArgs false
variable {σ : Sig}
theorem ov8 (f : Nat → Int) : overlay [I 0, I 0, I 0, I 0, I 0, I 0, I 0, I 0] 0 (arr8 f) = arr8 f := rfl
theorem ov16 (k n : Nat → Int) : overlay (List.replicate 16 (I 0)) 0 (warr k n) = warr k n := rfl
theorem ov16' (k n : Nat → Int) : overlay [I 0, I 0, I 0, I 0, I 0, I 0, I 0, I 0, I 0, I 0, I 0, I 0, I 0, I 0, I 0, I 0] 0 (warr k n) = warr k n := rfl
theorem warr_one (k n : Nat → Int) : (warr k n).all AV.one = true := rfl
theorem warr_all (k n : Nat → Int) : (∀ x, x ∈ warr k n → x.one = true) = True := eq_true fun x hx => List.all_eq_true.1 (warr_one k n) x hx
theorem fz8 {H : Hp} {id : Nat} {ps : Nat → Int} (h : H.get id = some (.cells (arr8 ps) true)) : Fz H (.ptr id 0) (.ip (arr8 ps)) :=
  .ptr (fun j => (arr8 ps).getD j .any) h (fun j z hz => by simp [hz]) (fun j z hz => by simp [hz]; exact .refl (noIds_get (arr8_noId ps) j z hz))
theorem Of_ptr (ps k n : Nat → Int) {H : Hp} {id : Nat} (h : H.get id = some (.cells (arr8 ps) true)) : Good Try.prog σ n_compute_Of [.ptr id 0, .agg (warr k n)] H (.agg (arr8 (styI ps k n))) H :=
  Good.frzA (Of_ok ps k n _) (.cons (fz8 h) (.cons (.refl (by simp only [noId, warr_noId])) .nil)) rfl
theorem St_ptr (ps k n : Nat → Int) {H : Hp} {id : Nat} (h : H.get id = some (.cells (arr8 ps) true)) : Good Try.prog σ n_ref9_Style [.ptr id 0, .agg (warr k n)] H (.agg (arr8 (styI ps k n))) H :=
  Good.frzA (St_ok ps k n _) (.cons (fz8 h) (.cons (.refl (by simp only [noId, warr_noId])) .nil)) rfl
section
attribute [local irreducible] law16_ComputeOf.J0
theorem CO_J0 {K : AV → Hp → Prop} (hK : ∀ H, K (Bo true) H) (ps ps' k n : Nat → Int) (y8 : AV)
    (hO : ∀ H : Hp, H.get 0 = some (.cells (arr8 ps) true) → Good Try.prog σ n_compute_Of [y8, .agg (warr k n)] H (.agg (arr8 (styI ps' k n))) H)
    (hS : ∀ H : Hp, H.get 0 = some (.cells (arr8 ps) true) → Good Try.prog σ n_ref9_Style [y8, .agg (warr k n)] H (.agg (arr8 (styI ps' k n))) H)
    (H : Hp) (h0 : H.get 0 = some (.cells (arr8 ps) true)) (h1 : H.get 1 = some (.cells (warr k n) true)) (hn : H.n = 2) : law16_ComputeOf.J0 σ K (.ptr 0 0) (.ptr 1 0) (Bo true) y8 H := by
  refine law16_ComputeOf.J0_step ?_
  simp [h0, h1, hn, arr8_len, arr8_one, ov8, ldL_all, warr_len]
  refine callK_of (hO _ ?_) ?_
  · simp [h0, hn]
  simp [hn, arr8_len, arr8_one, ov8, ldL_all, h1]
  refine callK_of (hS _ ?_) ?_
  · simp [h0, hn]
  simp [eq8, arr8_len, arr8_one, ov8]
  refine callK_of (Root_ok _) ?_
  simp
  refine callK_of (RootStyle_ok _) ?_
  simp [eq8, h0, hn, ldL_all, arr8_len, arr8_one, ov8]
  exact hK _
theorem ComputeOf_good (ps k n : Nat → Int) (root : Bool) : ∃ Hf, Good Try.prog σ n_law16_ComputeOf [.agg (arr8 ps), Bo root, .agg (warr k n)] Hp.empty (Bo true) Hf := by
  refine ⟨Hp.empty, good_by (fun K hK => law16_ComputeOf.run ?_) (by simp only [noIds, noId, arr8_noId, warr_noId, Bool.and_self]) rfl _⟩
  simp
  refine callK_of (alive16 _) ?_
  have e0 : ((Hp.empty.new (.cells (arr8 ps) true)).new (.cells (warr k n) true)).get 0 = some (.cells (arr8 ps) true) := by simp
  have e1 : ((Hp.empty.new (.cells (arr8 ps) true)).new (.cells (warr k n) true)).get 1 = some (.cells (warr k n) true) := by simp
  have e2 : ((Hp.empty.new (.cells (arr8 ps) true)).new (.cells (warr k n) true)).n = 2 := by simp
  generalize ((Hp.empty.new (.cells (arr8 ps) true)).new (.cells (warr k n) true)) = HH at e0 e1 e2 ⊢
  cases root
  · simp
    exact CO_J0 hK ps iniI k n _ (fun H _ => Of_nil k n H) (fun H _ => St_nil k n H) HH e0 e1 e2
  · simp
    exact CO_J0 hK ps ps k n _ (fun H h => Of_ptr ps k n h) (fun H h => St_ptr ps k n h) HH e0 e1 e2
end
theorem ComputeApart_good (ps k n k' n' : Nat → Int) (p : Int) : ∃ Hf, Good Try.prog σ n_law16_ComputeApart [.agg (arr8 ps), .agg (warr k n), .agg (warr k' n'), I p] Hp.empty (Bo true) Hf := by
  refine ⟨Hp.empty, good_by (fun K hK => law16_ComputeApart.run ?_) (by simp only [noIds, noId, arr8_noId, warr_noId, Bool.and_self]) rfl _⟩
  simp
  refine callK_of (alive16 _) ?_
  simp
  by_cases h0 : p < 0
  · simp [h0]; exact hK _
  by_cases h7 : 7 < p
  · simp [h0, h7]; exact hK _
  simp only [h0, h7, if_false]
  obtain ⟨i, rfl⟩ : ∃ i : Nat, p = i := ⟨p.toNat, by omega⟩
  have hi : i < 8 := by omega
  have i1 : ∀ x : AV, ixaArr 8 2 x (I 1) = shiftA x 2 := fun x => rfl
  have w1 : ∀ k n : Nat → Int, ldL true 2 ((warr k n).drop 2) = some (.agg [I (k 1), I (n 1)]) := fun k n => rfl
  have s1 : ∀ (k n : Nat → Int) (a b : Int), overlay (warr k n) 2 [I a, I b] = warr (fun j => if j = 1 then a else k j) (fun j => if j = 1 then b else n j) := fun k n a b => by simp [warr, overlay]
  have l2 : ∀ k n : Nat → Int, i * 2 + 2 ≤ (warr k n).length := fun k n => by rw [warr_len]; omega
  have l3 : ∀ k n : Nat → Int, 2 + 2 ≤ (warr k n).length := fun k n => by rw [warr_len]; omega
  have hi14 : i * 2 ≤ 14 := by omega
  simp [hi14, warr_len, ldL_all, warr_all, ov16, ov16', ix82 hi, warr_ld hi, warr_set hi, l2, l3, i1, w1, s1]
  generalize hk2 : (fun j => if j = 1 then k 1 else if j = i then k i else k' j) = k2
  generalize hn2 : (fun j => if j = 1 then n 1 else if j = i then n i else n' j) = n2
  generalize hk3 : (fun j => if j = i then k i else k' j) = k3
  generalize hn3 : (fun j => if j = i then n i else n' j) = n3
  refine callK_of (Of_ptr ps k n ?_) ?_
  · simp
  simp [arr8_len, arr8_one, ov8, ldL_all, warr_len]
  refine callK_of (Of_ptr ps k2 n2 ?_) ?_
  · simp
  have i1a : ∀ x : AV, ixaArr 8 1 x (I 1) = shiftA x 1 := fun x => rfl
  have a1 : ∀ f : Nat → Int, ldL false 1 (arr8 f).tail = some (I (f 1)) := fun f => rfl
  have kk : k2 1 = k 1 ∧ n2 1 = n 1 ∧ k2 i = k i ∧ n2 i = n i := by
    subst hk2 hn2
    refine ⟨by simp, by simp, ?_, ?_⟩
    · by_cases h : i = 1 <;> simp [h]
    · by_cases h : i = 1 <;> simp [h]
  have es : szI ps k2 n2 = szI ps k n := by unfold szI; rw [kk.1, kk.2.1]
  have e1 : styI ps k2 n2 1 = styI ps k n 1 := by unfold styI; rw [es, kk.1, kk.2.1]
  have ei : styI ps k2 n2 i = styI ps k n i := by unfold styI; rw [es, kk.2.2.1, kk.2.2.2]
  simp [arr8_len, arr8_one, ov8, ix8 hi, arr8_ld hi, i1a, a1, e1, ei]
  exact hK _
end Go.Proofs.Ytikcninaepoojaa.Ev

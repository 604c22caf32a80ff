/- Turns, bounds, and lists that are one. -/
import Derived.Test.YtikcninaepoojaaFair
namespace Go.Proofs.Ytikcninaepoojaa.Ev
set_option linter.unusedVariables false
set_option linter.unusedSimpArgs false
variable {σ : Sig}
def trn (w i : Nat) : Int × Int := (((i % w : Nat) : Int), ((i / w : Nat) : Int))
def turnL (w n : Nat) : List (Int × Int) := (List.range n).map (trn w)
theorem turnL_succ (w n : Nat) : turnL w (n + 1) = turnL w n ++ [trn w n] := by simp [turnL, List.range_succ]
@[simp] theorem turnL_len (w n : Nat) : (turnL w n).length = n := by simp [turnL]
theorem noIdss_pk : ∀ l : List (Int × Int), noIdss (l.map pk) = true
  | [] => rfl
  | b :: l => by simp [noIdss, noIds, noId, pk, noIdss_pk l]
theorem rem_nat (i w : Nat) : (i : Int).tmod w = ((i % w : Nat) : Int) := by rw [Int.tmod_eq_emod_of_nonneg (by omega)]; rfl
theorem quo_nat (i w : Nat) : (i : Int).tdiv w = ((i / w : Nat) : Int) := by rw [Int.tdiv_eq_ediv_of_nonneg (by omega)]; rfl
section
attribute [local irreducible] ref18_Turn.L1 ref18_Turn.J0 fair_Turn.J1 fair_turns_1.L0 ref18_SamePicks.L0 ref18_Bound.J0 ref18_Bound.J1
theorem RTurn_L1 {w n : Nat} (hw : 1 ≤ w) (hn : n ≤ 1000000) {K : AV → Hp → Prop} (hK : ∀ x H, Gs 2 H x ((turnL w n).map pk) → K x H) : ∀ (m i : Nat) (x : AV) (H : Hp), n - i = m → i ≤ n → Gs 2 H x ((turnL w i).map pk) → ref18_Turn.L1 σ K (I w) (I n) x (I i) H := by
  intro m
  induction m with
  | zero =>
    intro i x H hm hi hx
    have : i = n := by omega
    subst this
    refine ref18_Turn.L1_step ?_
    simp
    exact hK x H hx
  | succ m ih =>
    intro i x H hm hi hx
    have h1 : (i : Int) < n := by omega
    have hw0 : (w : Int) ≠ 0 := by omega
    refine ref18_Turn.L1_step ?_
    have q1 : i / w ≤ i := Nat.div_le_self i w
    have b1 : binR .quo (I i) (I w) = some (I ((i / w : Nat) : Int)) := by
      rw [b_quo _ _ _ hw0, quo_nat, wr_nat (by omega)]
    simp only [b_lss, h1, decide_true, bnd_some, ifB_lit, if_true, b_rem _ _ _ hw0, rem_nat, b1]
    have hb : bldR [I 0, I 0] [(0, 1, I ((i % w : Nat) : Int)), (1, 1, I ((i / w : Nat) : Int))] = some (pk (trn w i)) := rfl
    rw [hb, bnd_some]
    refine bnd_app1 hx rfl rfl rfl (by simp; omega) (by simp; omega) fun x' H' g f => ?_
    simp only [b_add, bnd_some]
    rw [wr_succ (by omega)]
    exact ih (i + 1) x' H' (by omega) (by omega) (by rw [turnL_succ, List.map_append]; exact g)
theorem RTurn_good (w : Nat) (n : Int) (hw : 1 ≤ w ∧ w ≤ 64) (hn : n ≤ 1000000) (H : Hp) : Good Try.prog σ n_ref18_Turn [I w, I n] H (picks (turnL w n.toNat)) H := by
  have key : ∃ r H1, Good Try.prog σ n_ref18_Turn [I w, I n] Hp.empty r H1 ∧ Gs 2 H1 r ((turnL w n.toNat).map pk) := by
    refine ref18_Turn.run ?_
    have h1 : ¬ (w : Int) < 1 := by omega
    have h2 : ¬ (64 : Int) < w := by omega
    have h3 : ¬ 1000000 < n := by omega
    simp [h1, h2, h3]
    refine ref18_Turn.J0_step ?_
    by_cases hn0 : n ≤ 0
    · have e : n.toNat = 0 := by omega
      rw [e]
      refine ref18_Turn.L1_step ?_
      have : ¬ 0 < n := by omega
      simp [this]
      exact .nil
    · obtain ⟨k, rfl⟩ : ∃ k : Nat, n = k := ⟨n.toNat, by omega⟩
      exact RTurn_L1 hw.1 (by omega) (fun x H h => h) _ 0 _ _ rfl (by omega) .nil
  obtain ⟨r, H1, hg, hgs⟩ := key
  exact hg.frzR (by simp [noIds, noId]) (hgs.fz (noIdss_pk _)) H
theorem RTurn_none (w n : Int) (hw : ¬ (1 ≤ w ∧ w ≤ 64)) (H : Hp) : Good Try.prog σ n_ref18_Turn [I w, I n] H (.lit (.slice none 0 0)) H := by
  refine good_by (fun K hK => ref18_Turn.run ?_) (by simp [noIds, noId]) rfl H
  by_cases h1 : w < 1
  · simp [h1]; exact hK _
  · have h2 : 64 < w := by omega
    simp [h1, h2]; exact hK _

/-- The rounds of turns: how many there are yet, what is there. -/
theorem turns_L0 {w n : Nat} (hw : 1 ≤ w) (hn : n ≤ 1000000) {js : Nat → AV} {K : AV → Hp → Prop}
    (hK : ∀ x H, Gs 2 H x ((turnL w n).map pk) → H.get 1 = some (.cells [x] true) → H.get 3 = some (.loop (fair_Turn.R0 js (.ptr 0 0) (.ptr 1 0)) .done (some (.exit 0))) → (∀ j, own x j → 4 ≤ j) → K (.tup []) H) :
    ∀ (m i : Nat) (x : AV) (H : Hp), n - i = m → i < n → Gs 2 H x ((turnL w i).map pk) → 4 ≤ H.n → (∀ j, own x j → 4 ≤ j) → H.get 0 = some (.cells [I n] true) → H.get 1 = some (.cells [x] true) → H.get 2 = some (.cells [I w] true) → H.get 3 = some (.loop (fair_Turn.R0 js (.ptr 0 0) (.ptr 1 0)) .ready none) →
      fair_turns_1.L0 σ K (.yl 3) (.ptr 2 0) (I i) H := by
  intro m
  induction m with
  | zero => intro i x H hm hi; omega
  | succ m ih =>
    intro i x H hm hi hx h4 hown g0 g1 g2 g3
    have hw0 : (w : Int) ≠ 0 := by omega
    have q1 : i / w ≤ i := Nat.div_le_self i w
    have b1 : binR .quo (I i) (I w) = some (I ((i / w : Nat) : Int)) := by
      rw [b_quo _ _ _ hw0, quo_nat, wr_nat (by omega)]
    refine fair_turns_1.L0_step ?_
    have hb : bldR [I 0, I 0] [(0, 1, I ((i % w : Nat) : Int)), (1, 1, I ((i / w : Nat) : Int))] = some (pk (trn w i)) := rfl
    simp only [ld_ptr, g2, ldO_cells, List.drop_zero, ldL_one, bnd_some, b_rem _ _ _ hw0, rem_nat, b1, hb]
    refine fair_Turn.R0_round g3 ?_
    have n0 : (0 : Nat) ≠ H.n := by omega
    have n1 : (1 : Nat) ≠ H.n := by omega
    have n2 : (2 : Nat) ≠ H.n := by omega
    have n3 : (3 : Nat) ≠ H.n := by omega
    have hst : stA 2 (H.new (.cells [I 0, I 0] true)) (.ptr H.n 0) (.agg (pk (trn w i))) = some ((H.new (.cells [I 0, I 0] true)).set H.n (some (.cells (pk (trn w i)) true))) := by
      simp [pk, overlay_all]
    simp only [allocK_eq, hst, bnd_some]
    obtain ⟨H3, hH3⟩ : ∃ H3, H3 = (H.new (.cells [I 0, I 0] true)).set H.n (some (.cells (pk (trn w i)) true)) := ⟨_, rfl⟩
    rw [← hH3]
    refine ⟨by rw [hH3]; simp [n3, g3], ?_⟩
    obtain ⟨H4, hH4⟩ : ∃ H4, H4 = H3.set 3 (some (.loop (fair_Turn.R0 js (.ptr 0 0) (.ptr 1 0)) .busy none)) := ⟨_, rfl⟩
    rw [← hH4]
    have k0 : H4.get 0 = some (.cells [I n] true) := by rw [hH4, hH3]; simp [n0, g0]
    have k1 : H4.get 1 = some (.cells [x] true) := by rw [hH4, hH3]; simp [n1, g1]
    have k2 : H4.get 2 = some (.cells [I w] true) := by rw [hH4, hH3]; simp [n2, g2]
    have k3 : H4.get 3 = some (.loop (fair_Turn.R0 js (.ptr 0 0) (.ptr 1 0)) .busy none) := by rw [hH4]; simp
    have kp : H4.get H.n = some (.cells (pk (trn w i)) true) := by rw [hH4, hH3]; simp [Ne.symm n3]
    have kn : H4.n = H.n + 1 := by rw [hH4, hH3]; simp
    have kx : Gs 2 H4 x ((turnL w i).map pk) := by
      refine hx.keep (fun j hj => ?_) (by omega)
      have := hown j hj
      have hj2 : j < H.n := hx.lt hj
      have a : j ≠ 3 := by omega
      have b : j ≠ H.n := by omega
      rw [hH4, hH3]; simp [a, b]
    have hl2 : ldL true 2 (pk (trn w i)) = some (.agg (pk (trn w i))) := rfl
    simp only [ld_ptr, k1, kp, ldO_cells, List.drop_zero, ldL_one, hl2, bnd_some]
    refine bnd_app1 kx rfl rfl rfl (by simp; omega) (by simp; omega) fun x' H' g f => ?_
    have o1 : ¬ own x 1 := fun h => by have := hown 1 h; omega
    have o0 : ¬ own x 0 := fun h => by have := hown 0 h; omega
    have o2 : ¬ own x 2 := fun h => by have := hown 2 h; omega
    have o3 : ¬ own x 3 := fun h => by have := hown 3 h; omega
    have f0 := f.same 0 (by omega) o0
    have f1 := f.same 1 (by omega) o1
    have f2 := f.same 2 (by omega) o2
    have f3 := f.same 3 (by omega) o3
    have fg := f.grow
    have gx : Gs 2 H' x' ((turnL w (i + 1)).map pk) := by rw [turnL_succ, List.map_append]; exact g
    have ox : ∀ j, own x' j → 4 ≤ j := fun j hj => by
      rcases f.mine j hj with h | h
      · exact hown j h
      · omega
    have hst1 : stA 1 H' (.ptr 1 0) x' = some (H'.set 1 (some (.cells [x'] true))) := by
      obtain ⟨c1, c2⟩ := gx.cells
      have h1 : Nat.beq x'.cells.length 1 = true := by rw [c1]; rfl
      rw [st_ptr 1 H' 1 0 x' (by rw [c1]; rfl) c2, f1, k1, c1]
      simp [gx.one]
    obtain ⟨H9, hH9⟩ : ∃ H9, H9 = H'.set 1 (some (.cells [x'] true)) := ⟨_, rfl⟩
    rw [hst1, ← hH9, bnd_some]
    have l0 : H9.get 0 = some (.cells [I n] true) := by rw [hH9]; simp [f0, k0]
    have l1 : H9.get 1 = some (.cells [x'] true) := by rw [hH9]; simp
    have l2 : H9.get 2 = some (.cells [I w] true) := by rw [hH9]; simp [f2, k2]
    have l3 : H9.get 3 = some (.loop (fair_Turn.R0 js (.ptr 0 0) (.ptr 1 0)) .busy none) := by rw [hH9]; simp [f3, k3]
    have lx : Gs 2 H9 x' ((turnL w (i + 1)).map pk) := gx.keep (fun j hj => by
      have := ox j hj
      have a : j ≠ 1 := by omega
      rw [hH9]; simp [a]) (by rw [hH9]; simp)
    have ln : 4 ≤ H9.n := by rw [hH9]; simp; omega
    have hlen : lenSl x' = some (I ((i + 1 : Nat) : Int)) := by have := lx.len; simpa using this
    simp only [ld_ptr, l0, l1, ldO_cells, List.drop_zero, ldL_one, bnd_some, hlen, b_eql, ifB_lit]
    have keepx : ∀ b : Option Blk, Gs 2 (H9.set 3 b) x' ((turnL w (i + 1)).map pk) := fun b => lx.keep (fun j hj => by
      have := ox j hj
      have a : j ≠ 3 := by omega
      simp [a]) (by simp)
    by_cases he : i + 1 = n
    · have he2 : ((i + 1 : Nat) : Int) = n := by rw [he]
      simp only [he2, decide_true, if_true, roundE_exit, l3, true_and, Bool.false_eq_true, if_false]
      rw [he] at keepx
      exact hK x' _ (keepx _) (by simp [l1]) (by simp) ox
    · have he2 : ¬ ((i + 1 : Nat) : Int) = n := by omega
      simp only [he2, decide_false, Bool.false_eq_true, if_false, roundE_normal, l3, true_and, if_true, b_add, bnd_some]
      rw [wr_succ (by omega)]
      exact ih (i + 1) x' _ (by omega) (by omega) (keepx _) (by simp; omega) ox (by simp [l0]) (by simp [l1]) (by simp [l2]) (by simp)
theorem Turn_good (w n : Nat) (hw : 1 ≤ w ∧ w ≤ 64) (hn : 1 ≤ n ∧ n ≤ 1000000) (H : Hp) : Good Try.prog σ n_fair_Turn [I w, I n] H (picks (turnL w n)) H := by
  have key : ∃ r H1, Good Try.prog σ n_fair_Turn [I w, I n] Hp.empty r H1 ∧ Gs 2 H1 r ((turnL w n).map pk) := by
    refine fair_Turn.run ?_
    have hmin : minA [I n, I 1000000] = some (I n) := by
      have : ¬ (1000000 : Int) < n := by omega
      (simp [minA, toI, minStep] <;> omega)
    have e1 : (1 : Int) ≤ w := by omega
    have e2 : (w : Int) ≤ 64 := by omega
    have e3 : ¬ (n : Int) < 1 := by omega
    rw [boxK_one rfl rfl]
    simp only [ld_ptr, hp_get_new, if_pos, ldO_cells, List.drop_zero, ldL_one, bnd_some, hmin, st_int, stO_cells]
    have hle : 0 + [I (n : Int)].length ≤ [I (n : Int)].length := by simp
    simp only [hle, List.all_cons, List.all_nil, one_int, Bool.and_self, and_self, if_true, bnd_some]
    refine fair_is_sp _ ?_
    simp only [e1, e2, decide_true, Bool.and_self, u_not, bnd_some, Bool.not_true, ifB_lit, Bool.false_eq_true, if_false, ld_ptr, hp_get_set, if_pos, ldO_cells, List.drop_zero, overlay_0, ldL_one, b_lss, e3, decide_false, allocK_eq]
    refine fair_turns.run ?_
    rw [boxK_one rfl rfl]
    intro js
    simp only [rangeK_fn]
    refine fair_turns_1.run ?_
    have n0 : Hp.empty.n = 0 := rfl
    simp only [hp_get_new, hp_get_set, Hp.n_new, Hp.n_set, n0]
    refine turns_L0 (w := w) (n := n) hw.1 hn.2 (js := js) (fun x H hx h1 h3 ho => ?_) _ 0 (.lit (.slice none 0 0)) _ rfl (by omega) .nil (by simp [n0]) (fun j hj => hj.elim) (by simp [n0]) (by simp [n0]) (by simp [n0]) (by simp [n0])
    simp only [h3, endK_exit, Nat.beq, exB_t]
    refine fair_Turn.J1_step ?_
    simp [h1]
    exact hx.keep (fun j hj => by have := ho j hj; have a : j ≠ 3 := (by omega); simp [a]) (by simp)
  obtain ⟨r, H1, hg, hgs⟩ := key
  exact hg.frzR (by simp [noIds, noId]) (hgs.fz (noIdss_pk _)) H
theorem Turn_none (w n : Int) (hw : ¬ (1 ≤ w ∧ w ≤ 64) ∨ n < 1) (H : Hp) : Good Try.prog σ n_fair_Turn [I w, I n] H (.lit (.slice none 0 0)) H := by
  refine good_by (fun K hK => fair_Turn.run ?_) (by simp [noIds, noId]) rfl H
  rw [boxK_one rfl rfl]
  obtain ⟨n', hn', hn1⟩ : ∃ n', minA [I n, I 1000000] = some (I n') ∧ (n < 1 → n' < 1) := by
    by_cases h : 1000000 < n
    · exact ⟨1000000, by (simp [minA, toI, minStep, h] <;> omega), by omega⟩
    · exact ⟨n, by (simp [minA, toI, minStep] <;> omega), id⟩
  simp only [ld_ptr, hp_get_new, if_pos, ldO_cells, List.drop_zero, ldL_one, bnd_some, hn', st_int, stO_cells]
  have hle : 0 + [I n'].length ≤ [I n].length := by simp
  simp only [hle, List.all_cons, List.all_nil, one_int, Bool.and_self, and_self, if_true, bnd_some]
  refine fair_is_sp _ ?_
  by_cases h : 1 ≤ w ∧ w ≤ 64
  · have h1 : n' < 1 := by rcases hw with hh | hh; exact absurd h hh; exact hn1 hh
    simp [h.1, h.2, h1]
    exact hK _
  · have : (decide (1 ≤ w) && decide (w ≤ 64)) = false := by simp; omega
    simp only [this, u_not, bnd_some, Bool.not_false, ifB_lit, if_true]
    exact hK _
def bound (n : Int) : Int := 96 * (if n < 0 then 0 else if 4096 < n then 4096 else n) + 24
theorem Bound_good (n : Int) (H : Hp) : Good Try.prog σ n_fair_Bound [I n] H (I (bound n)) H := by
  refine good_by (fun K hK => fair_Bound.run ?_) (by simp [noIds, noId]) rfl H
  unfold bound at hK
  by_cases h1 : n < 0
  · have e1 : maxA [I 0, I n] = some (I 0) := by (simp [maxA, toI, maxStep] <;> omega)
    have e2 : minA [I 0, I 4096] = some (I 0) := by simp [minA, toI, minStep]
    rw [if_pos h1] at hK
    simp [e1, e2]; exact hK _
  · rw [if_neg h1] at hK
    have e1 : maxA [I 0, I n] = some (I n) := by (simp [maxA, toI, maxStep] <;> omega)
    by_cases h2 : 4096 < n
    · have e2 : minA [I n, I 4096] = some (I 4096) := by (simp [minA, toI, minStep] <;> omega)
      rw [if_pos h2] at hK
      simp [e1, e2]; exact hK _
    · have e2 : minA [I n, I 4096] = some (I n) := by (simp [minA, toI, minStep] <;> omega)
      rw [if_neg h2] at hK
      simp only [e1, e2, bnd_some, b_mul, b_add]
      rw [wr64 (n := 96 * n) (by omega) (by omega), wr64 (n := 96 * n + 24) (by omega) (by omega)]
      exact hK _
theorem RBound_good (n : Int) (H : Hp) : Good Try.prog σ n_ref18_Bound [I n] H (I (bound n)) H := by
  refine good_by (fun K hK => ref18_Bound.run ?_) (by simp [noIds, noId]) rfl H
  unfold bound at hK
  have J : ∀ m : Int, 0 ≤ m → m ≤ 4096 → (∀ H, K (I (96 * m + 24)) H) → ref18_Bound.J1 σ K (I m) Hp.empty := fun m h0 h1 hk => by
    refine ref18_Bound.J1_step ?_
    simp only [b_mul, bnd_some, b_add]
    rw [wr64 (n := 96 * m) (by omega) (by omega), wr64 (n := 96 * m + 24) (by omega) (by omega)]
    exact hk _
  by_cases h1 : n < 0
  · rw [if_pos h1] at hK
    simp [h1]
    refine ref18_Bound.J0_step ?_
    simp
    exact J 0 (by omega) (by omega) hK
  · rw [if_neg h1] at hK
    simp [h1]
    refine ref18_Bound.J0_step ?_
    by_cases h2 : 4096 < n
    · rw [if_pos h2] at hK
      simp [h2]
      exact J 4096 (by omega) (by omega) hK
    · rw [if_neg h2] at hK
      simp [h2]
      exact J n (by omega) (by omega) hK
theorem Same_L0 {l : List (Int × Int)} (hl : l.length ≤ 1000000) {K : AV → Hp → Prop} (hK : ∀ H, K (Bo true) H) : ∀ (m i : Nat) (H : Hp), l.length - i = m → i ≤ l.length → ref18_SamePicks.L0 σ K (picks l) (picks l) (I i) H := by
  have hln : lenSl (picks l) = some (I l.length) := by simp [picks]
  intro m
  induction m with
  | zero =>
    intro i H hm hi
    have : i = l.length := by omega
    subst this
    refine ref18_SamePicks.L0_step ?_
    simp [hln]
    exact hK H
  | succ m ih =>
    intro i H hm hi
    have hlt : i < l.length := by omega
    have hlt' : (i : Int) < l.length := by omega
    obtain ⟨x, hx⟩ : ∃ x, l[i]? = some x := ⟨_, List.getElem?_eq_getElem hlt⟩
    refine ref18_SamePicks.L0_step ?_
    have hix : ixaSl 2 (picks l) (I i) = some (.ip (pk x)) := ix_map hx
    have hl2 : ldL true 2 (pk x) = some (.agg (pk x)) := rfl
    have he : eqAggR [.int .i64, .int .i64] .neq (.agg (pk x)) (.agg (pk x)) = some (Bo false) := by simp [eqAggR, isAggA, AV.cells, pk, eqC, tfB]
    simp only [hln, b_lss, hlt', decide_true, bnd_some, ifB_lit, if_true, hix, ld_ip, hl2, he, Bool.false_eq_true, if_false, b_add]
    rw [wr_succ (by omega)]
    exact ih (i + 1) H (by omega) (by omega)
theorem Same_good (l : List (Int × Int)) (hl : l.length ≤ 1000000) (H : Hp) : Good Try.prog σ n_ref18_SamePicks [picks l, picks l] H (Bo true) H := by
  refine good_by (fun K hK => ref18_SamePicks.run ?_) (by simp [noIds, noId, noIds_picks]) rfl H
  have hln : lenSl (picks l) = some (I l.length) := by simp [picks]
  simp [hln]
  exact Same_L0 hl hK _ 0 _ rfl (by omega)
theorem Same_nil (H : Hp) : Good Try.prog σ n_ref18_SamePicks [.lit (.slice none 0 0), .lit (.slice none 0 0)] H (Bo true) H := by
  refine good_by (fun K hK => ref18_SamePicks.run ?_) (by simp [noIds, noId]) rfl H
  simp
  refine ref18_SamePicks.L0_step ?_
  simp
  exact hK _
theorem Same_nil2 (H : Hp) : Good Try.prog σ n_ref18_SamePicks [.lit (.slice none 0 0), picks []] H (Bo true) H := by
  refine good_by (fun K hK => ref18_SamePicks.run ?_) (by simp [noIds, noId, noIds_picks]) rfl H
  simp [picks]
  refine ref18_SamePicks.L0_step ?_
  simp
  exact hK _
end
end Go.Proofs.Ytikcninaepoojaa.Ev

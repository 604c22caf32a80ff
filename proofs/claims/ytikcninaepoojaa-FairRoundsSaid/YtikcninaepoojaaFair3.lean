/- The laws of fair. -/
import Derived.Test.YtikcninaepoojaaFair2
import Derived.Test.YtikcninaepoojaaDecode
namespace Go.Proofs.Ytikcninaepoojaa.Ev
open Go.RowKit
set_option linter.unusedVariables false
set_option linter.unusedSimpArgs false
set_option maxRecDepth 100000
variable {σ : Sig}
theorem succ_mod (k w : Nat) (hw : 0 < w) : ((k + 1) % w = if k % w + 1 = w then 0 else k % w + 1) ∧ ((k + 1) / w = if k % w + 1 = w then k / w + 1 else k / w) := by
  have h := Nat.div_add_mod k w
  have hlt := Nat.mod_lt k hw
  split
  · rename_i e
    have e2 : k + 1 = w * (k / w + 1) := by rw [Nat.mul_add, Nat.mul_one]; omega
    rw [e2]
    exact ⟨Nat.mul_mod_right _ _, Nat.mul_div_cancel_left _ hw⟩
  · rename_i e
    have e2 : k + 1 = w * (k / w) + (k % w + 1) := by omega
    have l2 : k % w + 1 < w := by omega
    constructor
    · conv => lhs; rw [e2]
      rw [Nat.mul_add_mod, Nat.mod_eq_of_lt l2]
    · conv => lhs; rw [e2]
      rw [Nat.mul_add_div hw, Nat.div_eq_of_lt l2, Nat.add_zero]
/-- Who was seen behind k turns, from the a-th on (a: 0 or 1). -/
def seen (a r : Nat) : List Bool := (List.range 64).map fun j => decide (a ≤ j ∧ j < a + r)
theorem seen_0 (a : Nat) : seen a 0 = List.replicate 64 false := by
  apply List.ext_getElem
  · simp [seen]
  · intro i h1 h2
    simp only [seen, List.getElem_map, List.getElem_range, List.getElem_replicate, decide_eq_false_iff_not]
    omega
theorem seen_get {a r j : Nat} (h : j < 64) : (seen a r).getD j false = decide (a ≤ j ∧ j < a + r) := by
  simp [seen, List.getD_eq_getElem?_getD, h]
theorem seen_set (a r : Nat) : (seen a r).set (a + r) true = seen a (r + 1) := by
  apply List.ext_getElem
  · simp [seen]
  · intro i h1 h2
    rw [List.getElem_set]
    simp only [seen, List.getElem_map, List.getElem_range]
    split
    · exact (decide_eq_true (by omega)).symm
    · rename_i hne; exact decide_eq_decide.2 (by omega)
theorem rs1_turn {w a : Nat} (hw : 1 ≤ w ∧ w ≤ 64) (ha : a = 0 ∨ a = 1) (k : Nat) : rs1 w (seen a (k % w), ((k % w : Nat) : Int), ((k / w : Nat) : Int)) (trn w (a + k)).1 = (seen a ((k + 1) % w), (((k + 1) % w : Nat) : Int), (((k + 1) / w : Nat) : Int)) := by
  obtain ⟨m1, m2⟩ := succ_mod k w hw.1
  have hlt := Nat.mod_lt k hw.1
  have who : (a + k) % w = if a = 0 then k % w else if k % w + 1 = w then 0 else k % w + 1 := by
    rcases ha with rfl | rfl
    · simp
    · rw [Nat.add_comm, m1]; simp
  have hx : (trn w (a + k)).1 = (((a + k) % w : Nat) : Int) := rfl
  have hxl : (a + k) % w < w := Nat.mod_lt _ hw.1
  rw [hx]
  unfold rs1
  have hns : (seen a (k % w)).getD ((a + k) % w) false = false := by
    rw [seen_get (by omega), who]
    simp only [decide_eq_false_iff_not]
    rcases ha with rfl | rfl
    · simp
    · rw [if_neg (by omega : ¬ (1 : Nat) = 0)]
      split <;> omega
  have hno : ¬ ((((a + k) % w : Nat) : Int) < 0 ∨ (w : Int) ≤ (((a + k) % w : Nat) : Int) ∨ (seen a (k % w)).getD (((a + k) % w : Nat) : Int).toNat false = true) := by
    generalize (a + k) % w = y at hxl hns ⊢
    rw [Int.toNat_natCast, hns]
    intro h
    rcases h with h | h | h
    · omega
    · omega
    · cases h
  rw [if_neg hno]
  by_cases e : k % w + 1 = w
  · have e1 : ((k % w : Nat) : Int) + 1 = (w : Int) := by omega
    rw [if_pos e] at m1 m2
    rw [m1, m2, seen_0]
    simp only [e1, if_true]
    simp
  · have e1 : ¬ ((k % w : Nat) : Int) + 1 = (w : Int) := by omega
    rw [if_neg e] at m1 m2
    rw [m1, m2]
    simp only [e1, if_false, Int.toNat_natCast]
    have : (a + k) % w = a + k % w := by
      rw [who]
      rcases ha with rfl | rfl
      · simp
      · rw [if_neg (by simp), if_neg e, Nat.add_comm]
    rw [this, seen_set]
    simp
theorem rsL_turns {w a : Nat} (hw : 1 ≤ w ∧ w ≤ 64) (ha : a = 0 ∨ a = 1) (n : Nat) : rsL w (List.replicate 64 false, 0, 0) ((List.range n).map fun k => trn w (a + k)) = (seen a (n % w), ((n % w : Nat) : Int), ((n / w : Nat) : Int)) := by
  induction n with
  | zero => simp [rsL, seen_0]
  | succ n ih =>
    rw [List.range_succ, List.map_append]
    unfold rsL at ih ⊢
    rw [List.foldl_append, ih]
    exact rs1_turn hw ha n
theorem rounds_turns {w : Nat} (hw : 1 ≤ w ∧ w ≤ 64) (n : Nat) : rounds w (turnL w (w * n)) = n := by
  unfold rounds
  rw [if_pos (by omega)]
  have := rsL_turns hw (a := 0) (.inl rfl) (w * n)
  simp only [Nat.zero_add] at this
  unfold turnL
  rw [this]
  simp only
  rw [Nat.mul_div_cancel_left _ hw.1]
theorem turnL_tail (w n : Nat) : (turnL w (n + 1)).drop 1 = (List.range n).map fun k => trn w (1 + k) := by
  unfold turnL
  rw [List.range_succ_eq_map, List.map_cons, List.drop_one, List.tail_cons, List.map_map]
  apply List.map_congr_left
  intro k _
  simp [Function.comp_def, Nat.add_comm]
theorem rounds_tail {w : Nat} (hw : 1 ≤ w ∧ w ≤ 64) {n : Nat} (hn : 1 ≤ n) : rounds w ((turnL w (w * n)).drop 1) = n - 1 := by
  obtain ⟨m, hm⟩ : ∃ m, w * n = m + 1 := ⟨w * n - 1, by have := Nat.mul_le_mul hw.1 hn; omega⟩
  rw [hm, turnL_tail]
  unfold rounds
  rw [if_pos (by omega), rsL_turns hw (.inr rfl) m]
  simp only
  have : m / w = n - 1 := by
    have h1 : m = w * (n - 1) + (w - 1) := by
      have : w * n = w * (n - 1) + w := by
        obtain ⟨q, rfl⟩ : ∃ q, n = q + 1 := ⟨n - 1, by omega⟩
        simp [Nat.mul_add]
      omega
    rw [h1, Nat.mul_add_div hw.1, Nat.div_eq_of_lt (by omega), Nat.add_zero]
  rw [this]; omega

theorem alive24 (H : Hp) : Good Try.prog σ n_law24_alive [] H (Bo true) H := by
  refine good_by (fun K hK => law24_alive.run ?_) rfl rfl H
  simp only [bldR, bnd_some]
  have hb : ∃ q, bldSlR [.int .i64 0, .int .i64 0] 2 4 Hp.empty [(0, 2, .agg [I 0, I 0]), (2, 2, .agg [I 0, I 0]), (4, 2, .agg (overlay [I 0, I 0] 0 (AV.cells (I 1)))), (6, 2, .agg (overlay [I 0, I 0] 0 (AV.cells (I 1))))] = some q ∧ q = (.sl 0 0 2 4 (some 4), Hp.empty.new (.cells [I 0, I 0, I 0, I 0, I 1, I 0, I 1, I 0] true)) := ⟨_, rfl, rfl⟩
  obtain ⟨q, hq, rfl⟩ := hb
  have ho : bldR [I 0, I 0] [(0, 1, I 1)] = some (overlay [I 0, I 0] 0 (AV.cells (I 1))) := rfl
  simp only [bldR] at ho
  simp only [ho, bnd_some, hq]
  have hf : Fz (Hp.empty.new (.cells [I 0, I 0, I 0, I 0, I 1, I 0, I 1, I 0] true)) (.sl 0 0 2 4 (some 4)) (picks [(0, 0), (0, 0), (1, 0), (1, 0)]) :=
    .rows (cs := [I 0, I 0, I 0, I 0, I 1, I 0, I 1, I 0]) (ex := true) (rows := [[I 0, I 0], [I 0, I 0], [I 1, I 0], [I 1, I 0]]) (by simp [Hp.empty]) (by simp) (by simp) (by simp [noIdss, noIds, noId])
  refine callK_of ((Rounds_good 2 [(0, 0), (0, 0), (1, 0), (1, 0)] (by simp) _).frzA (.cons (.refl rfl) (.cons hf .nil)) rfl) ?_
  have hr : rounds 2 [(0, 0), (0, 0), (1, 0), (1, 0)] = 1 := by decide
  simp only [hr, b_eql, bnd_some, ifB_lit, decide_true, if_true]
  refine callK_of (Bound_good 1 _) ?_
  have hbd : bound 1 = 120 := by decide
  simp only [hbd, b_eql, bnd_some, ifB_lit, decide_true, if_true]
  refine callK_of (Turn_good 2 3 (by omega) (by omega) _) ?_
  have hln : lenSl (picks (turnL 2 3)) = some (I 3) := by simp [picks]
  simp only [hln, b_eql, bnd_some, decide_true]
  exact hK _

theorem FairRounds_good (w : Int) (l : List (Int × Int)) (n : Int) : ∃ Hf, Good Try.prog σ n_law24_FairRounds [I w, picks l, I n] Hp.empty (Bo true) Hf := by
  refine ⟨Hp.empty, good_by (fun K hK => law24_FairRounds.run (callK_of (alive24 _) ?_)) (by simp [noIds, noId, noIds_picks]) rfl _⟩
  have hln : lenSl (picks l) = some (I l.length) := by simp [picks]
  simp only [u_not, bnd_some, Bool.not_true, ifB_lit, Bool.false_eq_true, if_false, hln, b_gtr]
  by_cases h1 : (500 : Int) < l.length
  · simp only [h1, decide_true, if_true]; exact hK _
  simp only [h1, decide_false, Bool.false_eq_true, if_false]
  by_cases h2 : 500 < n
  · simp only [h2, decide_true, if_true]; exact hK _
  simp only [h2, decide_false, Bool.false_eq_true, if_false]
  refine callK_of (Rounds_good w l (by omega) _) (callK_of (RRounds_good w l (by omega) _) ?_)
  simp only [b_eql, bnd_some, decide_true, ifB_lit, if_true]
  refine callK_of (Bound_good n _) (callK_of (RBound_good n _) ?_)
  simp only [b_eql, bnd_some, decide_true, ifB_lit, if_true]
  by_cases h3 : 1 ≤ w ∧ w ≤ 64
  · obtain ⟨v, rfl⟩ : ∃ v : Nat, w = v := ⟨w.toNat, by omega⟩
    by_cases h4 : n < 1
    · refine callK_of (Turn_none v n (.inr h4) _) (callK_of (RTurn_good v n (by omega) (by omega) _) ?_)
      have : n.toNat = 0 := by omega
      rw [this]
      exact callK_of (Same_nil2 _) (hK _)
    · obtain ⟨m, rfl⟩ : ∃ m : Nat, n = m := ⟨n.toNat, by omega⟩
      refine callK_of (Turn_good v m (by omega) (by omega) _) (callK_of (RTurn_good v m (by omega) (by omega) _) ?_)
      rw [Int.toNat_natCast]
      exact callK_of (Same_good _ (by simp; omega) _) (hK _)
  · exact callK_of (Turn_none w n (.inl h3) _) (callK_of (RTurn_none w n h3 _) (callK_of (Same_nil _) (hK _)))
theorem sl_tail (l : List (Int × Int)) (h : 1 ≤ l.length) : slSl 2 (picks l) (some (I 1)) none none = some (picks (l.drop 1)) := by
  have h2 : (1 : Int) ≤ l.length := by omega
  have e : (List.take (l.length - 1) (List.drop 1 (l.map pk))) = (l.drop 1).map pk := by
    rw [List.take_of_length_le (by simp), List.map_drop]
  simp [slSl, intO, intA, slSl0, picks, boundsA, boundA, beqN, h2]
  first
    | exact e
    | (rw [← List.drop_one] ; simpa using e)
    | simpa using e
theorem FairTurns_good (w n : Int) : ∃ Hf, Good Try.prog σ n_law24_FairTurns [I w, I n] Hp.empty (Bo true) Hf := by
  refine ⟨Hp.empty, good_by (fun K hK => law24_FairTurns.run (callK_of (alive24 _) ?_)) (by simp [noIds, noId]) rfl _⟩
  simp only [u_not, bnd_some, Bool.not_true, ifB_lit, Bool.false_eq_true, if_false, b_lss, b_gtr]
  by_cases h1 : w < 1
  · simp only [h1, decide_true, if_true]; exact hK _
  simp only [h1, decide_false, Bool.false_eq_true, if_false]
  by_cases h2 : 64 < w
  · simp only [h2, decide_true, if_true]; exact hK _
  simp only [h2, decide_false, Bool.false_eq_true, if_false]
  by_cases h3 : n < 0
  · simp only [h3, decide_true, if_true]; exact hK _
  simp only [h3, decide_false, Bool.false_eq_true, if_false]
  by_cases h4 : 60 < n
  · simp only [h4, decide_true, if_true]; exact hK _
  simp only [h4, decide_false, Bool.false_eq_true, if_false]
  obtain ⟨v, rfl⟩ : ∃ v : Nat, w = v := ⟨w.toNat, by omega⟩
  obtain ⟨m, rfl⟩ : ∃ m : Nat, n = m := ⟨n.toNat, by omega⟩
  have hv : 1 ≤ v ∧ v ≤ 64 := by omega
  have hm : m ≤ 60 := by omega
  have hvm : v * m ≤ 64 * 60 := Nat.mul_le_mul hv.2 hm
  have e1 : wr .i64 ((v : Int) * (m : Int)) = ((v * m : Nat) : Int) := by rw [← Int.natCast_mul]; exact wr_nat (by omega)
  simp only [b_mul, bnd_some, e1]
  by_cases h0 : m = 0
  · subst h0
    simp only [Nat.mul_zero]
    refine callK_of (Turn_none v 0 (.inr (by omega)) _) ?_
    simp only [len_nil, bnd_some, b_eql]
    refine callK_of ((Rounds_good v [] (by simp) _).frzA (.cons (.refl rfl) (.cons .nil .nil)) rfl) ?_
    have hr : rounds v [] = 0 := by simp [rounds, rsL]
    simp only [hr]
    simp
    exact hK _
  · have hm1 : 1 ≤ m := by omega
    have hvm1 : 1 ≤ v * m := Nat.mul_le_mul hv.1 hm1
    refine callK_of (Turn_good v (v * m) hv (by omega) _) ?_
    have hln : lenSl (picks (turnL v (v * m))) = some (I ((v * m : Nat) : Int)) := by simp [picks]
    simp only [hln, bnd_some, b_eql, decide_true, ifB_lit, if_true]
    refine callK_of (Rounds_good v _ (by simp; omega) _) ?_
    rw [rounds_turns hv m]
    have m0 : ¬ (m : Int) = 0 := by omega
    simp only [b_eql, bnd_some, decide_true, ifB_lit, if_true, m0, decide_false, Bool.false_eq_true, if_false]
    rw [sl_tail _ (by simp; omega)]
    simp only [bnd_some]
    refine callK_of (Rounds_good v _ (by simp; omega) _) ?_
    rw [rounds_tail hv hm1]
    have le1 : (m : Int) - 1 ≤ m := by omega
    simp only [b_leq, bnd_some, le1, decide_true, ifB_lit, if_true]
    refine callK_of (Rounds_good v _ (by simp; omega) _) ?_
    rw [rounds_tail hv hm1]
    simp only [b_sub, bnd_some, b_geq]
    rw [wr64 (n := (m : Int) - 1) (by omega) (by omega)]
    simp
    exact hK _
end Go.Proofs.Ytikcninaepoojaa.Ev

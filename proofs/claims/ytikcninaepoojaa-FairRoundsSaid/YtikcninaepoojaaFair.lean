/- Rounds and turns. -/
import Derived.Test.YtikcninaepoojaaDc
import Derived.Test.YtikcninaepoojaaApp
namespace Go.Proofs.Ytikcninaepoojaa.Ev
set_option linter.unusedVariables false
set_option linter.unusedSimpArgs false
variable {σ : Sig}

/-- One pick: who was seen, how many of them, how many rounds. -/
def rs1 (w : Int) (s : List Bool × Int × Int) (x : Int) : List Bool × Int × Int :=
  if x < 0 ∨ w ≤ x ∨ s.1.getD x.toNat false = true then s
  else if s.2.1 + 1 = w then (List.replicate 64 false, 0, s.2.2 + 1) else (s.1.set x.toNat true, s.2.1 + 1, s.2.2)
def rsL (w : Int) (s : List Bool × Int × Int) (l : List (Int × Int)) : List Bool × Int × Int := l.foldl (fun s p => rs1 w s p.1) s
def rounds (w : Int) (l : List (Int × Int)) : Int := if 1 ≤ w ∧ w ≤ 64 then (rsL w (List.replicate 64 false, 0, 0) l).2.2 else 0
def pk (p : Int × Int) : List AV := [I p.1, I p.2]
def picks (l : List (Int × Int)) : AV := .imm 2 (l.map pk)
def RsOk (w : Int) (c : Int) (s : List Bool × Int × Int) : Prop := s.1.length = 64 ∧ 0 ≤ s.2.1 ∧ s.2.1 < w ∧ 0 ≤ s.2.2 ∧ s.2.2 ≤ c
theorem rs1_ok {w c : Int} {s : List Bool × Int × Int} (h : RsOk w c s) (hw : 1 ≤ w) (x : Int) : RsOk w (c + 1) (rs1 w s x) := by
  obtain ⟨h1, h2, h3, h4, h5⟩ := h
  unfold rs1
  split
  · exact ⟨h1, h2, h3, h4, by omega⟩
  · split
    · exact ⟨by simp, by simp, by simpa using by omega, by simp; omega, by simp; omega⟩
    · exact ⟨by simp [h1], by simp; omega, by simp; omega, h4, by simp; omega⟩
theorem rep_bo (n : Nat) : List.replicate n (Bo false) = (List.replicate n false).map Bo := by simp

section
attribute [local irreducible] fair_Rounds.L0 fair_Rounds.J1 ref18_Rounds.L0 ref18_Rounds.J1
theorem fair_is_sp (w : Int) {H : Hp} {K : AV → Hp → Prop} (hK : K (Bo (decide (1 ≤ w) && decide (w ≤ 64))) H) : callK Try.prog σ n_fair_is [I w] H K := by
  refine fair_is.run ?_
  by_cases h : 1 ≤ w
  · simp [h] at hK ⊢; exact hK
  · simp [h] at hK ⊢; exact hK
theorem Rounds_L0 {w : Int} (hw : 1 ≤ w ∧ w ≤ 64) {K : AV → Hp → Prop} {l : List (Int × Int)} (hl : l.length ≤ 1000000) (id : Nat) : ∀ (m k : Nat) (s : List Bool × Int × Int) (H : Hp), l.length - k = m → k ≤ l.length → RsOk w k s → id < H.n → H.get id = some (.cells (s.1.map Bo) true) → (∀ H, K (I (rsL w s (l.drop k)).2.2) H) →
    fair_Rounds.L0 σ K (I w) (.ptr id 0) (I s.2.1) (I s.2.2) (picks l) (I l.length) (I k) H := by
  intro m
  induction m with
  | zero =>
    intro k s H hm hk hs hid hg hK
    have : k = l.length := by omega
    subst this
    refine fair_Rounds.L0_step ?_
    simp
    simpa [rsL] using hK H
  | succ m ih =>
    intro k s H hm hk hs hid hg hK
    have hlt : k < l.length := by omega
    have hlt' : (k : Int) < l.length := by omega
    obtain ⟨x, hx⟩ : ∃ x, l[k]? = some x := ⟨_, List.getElem?_eq_getElem hlt⟩
    have hne : id ≠ H.n := Nat.ne_of_lt hid
    have J : ∀ (s' : List Bool × Int × Int) (H' : Hp), s' = rs1 w s x.1 → id < H'.n → H'.get id = some (.cells (s'.1.map Bo) true) → fair_Rounds.J1 σ K (I w) (.ptr id 0) (I s'.2.1) (I s'.2.2) (picks l) (I l.length) (I k) H' := by
      intro s' H' e h1 h2
      refine fair_Rounds.J1_step ?_
      simp only [b_add, bnd_some]
      rw [wr_succ (by omega)]
      refine ih (k + 1) s' H' (by omega) (by omega) (by rw [e]; exact rs1_ok hs hw.1 x.1) h1 h2 ?_
      rw [List.drop_eq_getElem_cons hlt] at hK
      rw [List.getElem?_eq_getElem hlt] at hx
      cases hx
      rw [e]
      exact hK
    refine fair_Rounds.L0_step ?_
    have hix : ixaSl 2 (picks l) (I k) = some (.ip (pk x)) := ix_map hx
    simp only [b_lss, bnd_some, hlt', decide_true, ifB_lit, if_true, hix, ld_ip]
    have hl2 : ldL true 2 (pk x) = some (.agg (pk x)) := rfl
    simp only [hl2, bnd_some, allocK_eq]
    have hst : stA 2 (H.new (.cells [I 0, I 0] true)) (.ptr H.n 0) (.agg (pk x)) = some ((H.new (.cells [I 0, I 0] true)).set H.n (some (.cells (pk x) true))) := by
      simp [pk, overlay_all]
    rw [hst]
    obtain ⟨H6, hH6⟩ : ∃ H6, H6 = (H.new (.cells [I 0, I 0] true)).set H.n (some (.cells (pk x) true)) := ⟨_, rfl⟩
    have g6 : H6.get id = some (.cells (s.1.map Bo) true) := by rw [hH6]; simp [hne, hg]
    have gp : H6.get H.n = some (.cells (pk x) true) := by rw [hH6]; simp
    have n6 : id < H6.n := by rw [hH6]; simp; omega
    rw [← hH6]
    have hld : ldO false 1 0 (some (.cells (pk x) true)) = some (I x.1) := rfl
    simp only [bnd_some, sh_ptr, ld_ptr, gp, Nat.zero_add, hld, b_lss, b_geq, ifB_lit]
    by_cases c1 : x.1 < 0
    · simp only [c1, decide_true, if_true]
      refine J s H6 ?_ n6 g6
      unfold rs1
      rw [if_pos (.inl c1)]
    · simp only [c1, decide_false, Bool.false_eq_true, if_false]
      by_cases c2 : w ≤ x.1
      · simp only [c2, decide_true, if_true]
        refine J s H6 ?_ n6 g6
        unfold rs1
        rw [if_pos (.inr (.inl c2))]
      · simp only [c2, decide_false, Bool.false_eq_true, if_false]
        obtain ⟨y, hy⟩ : ∃ y : Nat, x.1 = y := ⟨x.1.toNat, by omega⟩
        have hyl : y < s.1.length := by rw [hs.1]; omega
        have hy64 : y < 64 := by omega
        have hgd : s.1.getD y false = s.1[y] := by simp [hyl]
        simp only [hy, ixArrN hy64, sh_ptr, bnd_some, ld_ptr, g6, ldO_cells, Nat.mul_one, Nat.zero_add, ldL_map hyl, ifB_lit]
        cases c3 : s.1[y] with
        | true =>
          simp only [if_true]
          refine J s H6 ?_ n6 g6
          unfold rs1
          rw [if_pos (.inr (.inr (by rw [hy, Int.toNat_natCast, hgd]; exact c3)))]
        | false =>
          simp only [Bool.false_eq_true, if_false, st_bool, g6, stO_cells]
          have hle : y + [Bo true].length ≤ (s.1.map Bo).length := by simp; omega
          simp only [hle, List.all_cons, List.all_nil, one_bool, Bool.and_self, and_self, if_true, bnd_some]
          rw [ov_map true hyl]
          have e1 : wr .i64 (s.2.1 + 1) = s.2.1 + 1 := by obtain ⟨_, h2, h3, _⟩ := hs; exact wr64 (by omega) (by omega)
          simp only [b_add, bnd_some, e1, b_eql, ifB_lit]
          have hno : ¬ (x.1 < 0 ∨ w ≤ x.1 ∨ s.1.getD x.1.toNat false = true) := by
            rw [hy, Int.toNat_natCast, hgd, c3]; simp; omega
          by_cases c4 : s.2.1 + 1 = w
          · have e2 : wr .i64 (s.2.2 + 1) = s.2.2 + 1 := by obtain ⟨_, _, _, h4, h5⟩ := hs; exact wr64 (by omega) (by omega)
            simp only [c4, decide_true, if_true, bldR, bnd_some, st_agg, List.length_replicate, hp_get_set, if_pos, stO_cells, e2]
            have hov : overlay ((s.1.set y true).map Bo) 0 (List.replicate 64 (Bo false)) = (List.replicate 64 false).map Bo := by
              rw [overlay_all (by simp [hs.1]), rep_bo]
            have hall : (List.replicate 64 (Bo false)).all AV.one = true := by simp
            simp only [List.length_map, List.length_set, hs.1, hall, Nat.zero_add, Nat.le_refl, and_self, if_true, bnd_some, hov]
            refine J (List.replicate 64 false, 0, s.2.2 + 1) _ ?_ (by simpa using n6) (by simp)
            unfold rs1
            rw [if_neg hno, if_pos c4]
          · simp only [c4, decide_false, Bool.false_eq_true, if_false]
            refine J (s.1.set y true, s.2.1 + 1, s.2.2) _ ?_ (by simpa using n6) (by simp)
            unfold rs1
            rw [if_neg hno, if_neg c4, hy, Int.toNat_natCast]
theorem noIds_picks (l : List (Int × Int)) : noId (picks l) = true := by
  have : ∀ l : List (Int × Int), noIdss (l.map pk) = true := by
    intro l
    induction l with
    | nil => rfl
    | cons b l ih => simp [noIdss, noIds, noId, pk, ih]
  simp [noId, picks, this]
theorem Rounds_good (w : Int) (l : List (Int × Int)) (hl : l.length ≤ 1000000) (H : Hp) : Good Try.prog σ n_fair_Rounds [I w, picks l] H (I (rounds w l)) H := by
  refine good_by (fun K hK => fair_Rounds.run (fair_is_sp w ?_)) (by simp [noIds, noId, noIds_picks]) rfl H
  unfold rounds at hK
  by_cases h : 1 ≤ w ∧ w ≤ 64
  · rw [if_pos h] at hK
    simp only [h.1, h.2, decide_true, Bool.and_self, u_not, bnd_some, Bool.not_true, ifB_lit, Bool.false_eq_true, if_false, allocK_eq]
    have hln : lenSl (picks l) = some (I l.length) := by simp [picks]
    rw [hln, bnd_some]
    exact Rounds_L0 h hl _ _ 0 (List.replicate 64 false, 0, 0) _ rfl (by omega) ⟨by simp, by simp, by simp; omega, by simp, by simp⟩ (by simp) (by simp) (by simpa using hK)
  · rw [if_neg h] at hK
    have : (decide (1 ≤ w) && decide (w ≤ 64)) = false := by simp; omega
    rw [this]
    simp
    exact hK _
theorem RRounds_L0 {w : Int} (hw : 1 ≤ w ∧ w ≤ 64) {K : AV → Hp → Prop} {l : List (Int × Int)} (hl : l.length ≤ 1000000) (id : Nat) : ∀ (m k : Nat) (s : List Bool × Int × Int) (H : Hp), l.length - k = m → k ≤ l.length → RsOk w k s → id < H.n → H.get id = some (.cells (s.1.map Bo) true) → (∀ H, K (I (rsL w s (l.drop k)).2.2) H) →
    ref18_Rounds.L0 σ K (I w) (picks l) (.ptr id 0) (I (w - s.2.1)) (I s.2.2) (I k) H := by
  intro m
  induction m with
  | zero =>
    intro k s H hm hk hs hid hg hK
    have : k = l.length := by omega
    subst this
    refine ref18_Rounds.L0_step ?_
    have hln : lenSl (picks l) = some (I l.length) := by simp [picks]
    simp [hln]
    simpa [rsL] using hK H
  | succ m ih =>
    intro k s H hm hk hs hid hg hK
    have hlt : k < l.length := by omega
    have hlt' : (k : Int) < l.length := by omega
    obtain ⟨x, hx⟩ : ∃ x, l[k]? = some x := ⟨_, List.getElem?_eq_getElem hlt⟩
    have J : ∀ (s' : List Bool × Int × Int) (H' : Hp), s' = rs1 w s x.1 → id < H'.n → H'.get id = some (.cells (s'.1.map Bo) true) → ref18_Rounds.J1 σ K (I w) (picks l) (.ptr id 0) (I (w - s'.2.1)) (I s'.2.2) (I k) H' := by
      intro s' H' e h1 h2
      refine ref18_Rounds.J1_step ?_
      simp only [b_add, bnd_some]
      rw [wr_succ (by omega)]
      refine ih (k + 1) s' H' (by omega) (by omega) (by rw [e]; exact rs1_ok hs hw.1 x.1) h1 h2 ?_
      rw [List.drop_eq_getElem_cons hlt] at hK
      rw [List.getElem?_eq_getElem hlt] at hx
      cases hx
      rw [e]
      exact hK
    refine ref18_Rounds.L0_step ?_
    have hix : ixaSl 2 (picks l) (I k) = some (.ip (pk x)) := ix_map hx
    have hln : lenSl (picks l) = some (I l.length) := by simp [picks]
    have hld : ldL false 1 (pk x) = some (I x.1) := rfl
    simp only [hln, b_lss, bnd_some, hlt', decide_true, ifB_lit, if_true, hix, sh_ip, List.drop_zero, ld_ip, hld, b_geq]
    by_cases c1 : x.1 < 0
    · simp only [c1, decide_true, if_true]
      refine J s H ?_ hid hg
      unfold rs1
      rw [if_pos (.inl c1)]
    · simp only [c1, decide_false, Bool.false_eq_true, if_false]
      by_cases c2 : w ≤ x.1
      · simp only [c2, decide_true, if_true]
        refine J s H ?_ hid hg
        unfold rs1
        rw [if_pos (.inr (.inl c2))]
      · simp only [c2, decide_false, Bool.false_eq_true, if_false]
        obtain ⟨y, hy⟩ : ∃ y : Nat, x.1 = y := ⟨x.1.toNat, by omega⟩
        have hyl : y < s.1.length := by rw [hs.1]; omega
        have hy64 : y < 64 := by omega
        have hgd : s.1.getD y false = s.1[y] := by simp [hyl]
        simp only [hy, ixArrN hy64, sh_ptr, bnd_some, ld_ptr, hg, ldO_cells, Nat.mul_one, Nat.zero_add, ldL_map hyl, ifB_lit]
        cases c3 : s.1[y] with
        | true =>
          simp only [if_true]
          refine J s H ?_ hid hg
          unfold rs1
          rw [if_pos (.inr (.inr (by rw [hy, Int.toNat_natCast, hgd]; exact c3)))]
        | false =>
          simp only [Bool.false_eq_true, if_false, st_bool, hg, stO_cells]
          have hle : y + [Bo true].length ≤ (s.1.map Bo).length := by simp; omega
          simp only [hle, List.all_cons, List.all_nil, one_bool, Bool.and_self, and_self, if_true, bnd_some]
          rw [ov_map true hyl]
          have e1 : wr .i64 (w - s.2.1 - 1) = w - s.2.1 - 1 := by obtain ⟨_, h2, h3, _⟩ := hs; exact wr64 (by omega) (by omega)
          simp only [b_sub, bnd_some, e1, b_eql, ifB_lit]
          have hno : ¬ (x.1 < 0 ∨ w ≤ x.1 ∨ s.1.getD x.1.toNat false = true) := by
            rw [hy, Int.toNat_natCast, hgd, c3]; simp; omega
          by_cases c4 : s.2.1 + 1 = w
          · have e2 : wr .i64 (s.2.2 + 1) = s.2.2 + 1 := by obtain ⟨_, _, _, h4, h5⟩ := hs; exact wr64 (by omega) (by omega)
            have c5 : w - s.2.1 - 1 = 0 := by omega
            simp only [c5, decide_true, if_true, bldR, bnd_some, b_add, st_agg, List.length_replicate, hp_get_set, if_pos, stO_cells, e2]
            have hov : overlay ((s.1.set y true).map Bo) 0 (List.replicate 64 (Bo false)) = (List.replicate 64 false).map Bo := by
              rw [overlay_all (by simp [hs.1]), rep_bo]
            have hall : (List.replicate 64 (Bo false)).all AV.one = true := by simp
            simp only [List.length_map, List.length_set, hs.1, hall, Nat.zero_add, Nat.le_refl, and_self, if_true, bnd_some, hov]
            have := J (List.replicate 64 false, 0, s.2.2 + 1) ((H.set id (some (.cells ((s.1.set y true).map Bo) true))).set id (some (.cells ((List.replicate 64 false).map Bo) true))) (by unfold rs1; rw [if_neg hno, if_pos c4]) (by simpa using hid) (by simp)
            simpa using this
          · have c5 : ¬ w - s.2.1 - 1 = 0 := by omega
            simp only [c5, decide_false, Bool.false_eq_true, if_false]
            have := J (s.1.set y true, s.2.1 + 1, s.2.2) (H.set id (some (.cells ((s.1.set y true).map Bo) true))) (by unfold rs1; rw [if_neg hno, if_neg c4, hy, Int.toNat_natCast]) (by simpa using hid) (by simp)
            rw [show w - s.2.1 - 1 = w - (s.2.1 + 1) by omega]
            exact this
theorem RRounds_good (w : Int) (l : List (Int × Int)) (hl : l.length ≤ 1000000) (H : Hp) : Good Try.prog σ n_ref18_Rounds [I w, picks l] H (I (rounds w l)) H := by
  refine good_by (fun K hK => ref18_Rounds.run ?_) (by simp [noIds, noId, noIds_picks]) rfl H
  unfold rounds at hK
  by_cases h1 : w < 1
  · rw [if_neg (by omega)] at hK
    simp [h1]; exact hK _
  by_cases h2 : 64 < w
  · rw [if_neg (by omega)] at hK
    simp [h1, h2]; exact hK _
  have h : 1 ≤ w ∧ w ≤ 64 := by omega
  rw [if_pos h] at hK
  simp only [b_lss, b_gtr, bnd_some, h1, h2, decide_false, ifB_lit, Bool.false_eq_true, if_false, allocK_eq]
  have := RRounds_L0 (σ := σ) (K := K) h hl 0 _ 0 (List.replicate 64 false, 0, 0) (Hp.empty.new (.cells (List.replicate 64 (Bo false)) true)) rfl (by omega) ⟨by simp, by simp, by simp; omega, by simp, by simp⟩ (by simp) (by simp [Hp.empty]) (by simpa using hK)
  simp only [Int.sub_zero] at this
  exact this
end
end Go.Proofs.Ytikcninaepoojaa.Ev

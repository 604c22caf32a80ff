/- The walks, part 7: the evaluator, the functions, the laws. Conditions: none. -/
import Derived.Test.YthmaggcfghjmfaaZ6
import Derived.Test.YthmaggcfghjmfaaZ3
import Derived.Test.YthmaggcfghjmfaaZ4
import Derived.Shelf.LaysM
import Derived.Shelf.Strings.Search1
import Derived.Shelf.Strings.Search2
import Derived.Shelf.Strings.Search3
import Derived.Shelf.Strings.Shaped
import Derived.Test.YthmaggcfghjmfaaZ5
import Derived.Test.YthmaggcfghjmfaaZ1
/- ref9: attributes. -/
namespace Go.Proofs.Ythmaggcfghjmfaa.Ev
set_option linter.unusedVariables false
set_option linter.unusedSimpArgs false
variable {σ : Sig}

theorem words_mem : ∀ (n : Nat) (l : List UInt8), l.length ≤ n → (wordsB l).length ≤ l.length ∧ ∀ w ∈ wordsB l, w ≠ [] ∧ ∀ c ∈ w, wht c = false
  | 0, l, h => by
    have : l = [] := List.length_eq_zero_iff.1 (by omega)
    subst this
    rw [wordsB_nil]
    exact ⟨Nat.le_refl _, fun w hw => by cases hw⟩
  | n + 1, l, h => by
    by_cases hl : l = []
    · subst hl
      rw [wordsB_nil]
      exact ⟨Nat.le_refl _, fun w hw => by cases hw⟩
    · have hpos := List.length_pos_iff.2 hl
      rw [wordsB_eq hl]
      split
      · obtain ⟨h1, h2⟩ := words_mem n (l.drop 1) (by rw [List.length_drop]; omega)
        rw [List.length_drop] at h1
        exact ⟨by omega, h2⟩
      · rename_i hw
        obtain ⟨h1, h2⟩ := words_mem n (l.drop (wl l + 1)) (by rw [List.length_drop]; omega)
        rw [List.length_drop] at h1
        refine ⟨by rw [List.length_cons]; omega, fun w hm => ?_⟩
        rcases List.mem_cons.1 hm with rfl | hm
        · refine ⟨fun e => ?_, fun c hc => ?_⟩
          · have := congrArg List.length e
            rw [List.length_take, List.length_nil] at this
            have := wl_le l
            omega
          · obtain ⟨i, hi⟩ := List.getElem?_of_mem hc
            rw [List.getElem?_take] at hi
            split at hi
            · rename_i hlt
              obtain ⟨c', h3, h4⟩ := wl_lt hlt
              rw [h3] at hi
              cases hi
              exact h4
            · cases hi
        · exact h2 w hm
theorem words_one {w : List UInt8} (h0 : w ≠ []) (h : ∀ c ∈ w, wht c = false) : wordsB w = [w] := by
  have hpos := List.length_pos_iff.2 h0
  have hwl : wl w = w.length := wl_all (fun k hk => ⟨w[k], List.getElem?_eq_getElem hk, h _ (List.getElem_mem hk)⟩) fun c hc => by
    have := (List.getElem?_eq_some_iff.1 hc).1
    omega
  rw [wordsB_eq h0, hwl, if_neg (by omega), List.take_length, List.drop_eq_nil_of_le (by omega), wordsB_nil]
/-- What ref9 asks of a word. -/
theorem words_q (s t : ByteArray) : (match wordsB (tl t) with | [w] => decide (mk w = t) && hasB ((wordsB (tl s)).map mk) t | _ => false) = (!decide (t = emp) && wordB s t) := by
  have hin : hasB ((wordsB (tl s)).map mk) t = wordB s t := by
    unfold hasB wordB
    rw [Bool.eq_iff_iff, List.any_eq_true, decide_eq_true_eq]
    constructor
    · rintro ⟨x, hx, hd⟩
      obtain ⟨w, hw, rfl⟩ := List.mem_map.1 hx
      rw [decide_eq_true_eq] at hd
      rw [← hd, tl_mk]
      exact hw
    · exact fun h => ⟨t, List.mem_map.2 ⟨tl t, h, mk_tl t⟩, by simp⟩
  rw [hin]
  by_cases hw : tl t ∈ wordsB (tl s)
  · obtain ⟨h1, h2⟩ := (words_mem _ (tl s) (Nat.le_refl _)).2 _ hw
    rw [words_one h1 h2]
    have : t ≠ emp := fun e => h1 (by rw [e]; rfl)
    simp [mk_tl, this]
  · have : wordB s t = false := by unfold wordB; simpa using hw
    rw [this]
    split <;> simp
theorem strs_words (l : List (List UInt8)) : (.imm 1 (l.map encW) : AV) = strs (l.map mk) := by unfold strs; rw [List.map_map]; rfl
theorem rattr_L0 {n : Nd} (hl : n.attrs.length ≤ reachBytes) (ht : ∀ p ∈ n.attrs, p.2.data.size < 4294967281) {a : At} (ha : a.text.data.size < 4294967281) {K : AV → Hp → Prop} {b2 b3 : Nat} : ∀ (k m : Nat) (H : Hp), n.attrs.length - m = k → m ≤ n.attrs.length → H.get b2 = some (.cells (encNd n) true) → H.get b3 = some (.cells (encAt a) true) → (∀ H, K (Bo (attrB (n.attrs.drop m) a)) H) → ref9_attr.L0 σ K (.ptr b2 0) (.ptr b3 0) (I (m : Int)) H := by
  have hre := reach_eq
  intro k
  induction k with
  | zero =>
    intro m H hk hm h2 h3 hK
    have : m = n.attrs.length := by omega
    subst this
    have c2 : ldA false 1 H (.ptr b2 4) = some (.imm 2 (n.attrs.map encPr)) := by simp [h2, encNd]
    refine ref9_attr.L0_step ?_
    simp only [sh_ptr, Nat.zero_add, bnd_some, c2, len_imm, List.length_map, b_lss, Int.lt_irrefl, decide_false, ifB_lit, Bool.false_eq_true, if_false]
    simpa [attrB] using hK H
  | succ k ih =>
    intro m H hk hm h2 h3 hK
    have hlt : m < n.attrs.length := by omega
    obtain ⟨x, hx⟩ := get_lt hlt
    have hxl := ht x (List.mem_of_getElem? hx)
    rw [drop_get hx] at hK
    have h1 : (m : Int) < n.attrs.length := by omega
    have c2 : ldA false 1 H (.ptr b2 4) = some (.imm 2 (n.attrs.map encPr)) := by simp [h2, encNd]
    have d0 : ldA false 1 H (.ptr b3 0) = some (Sx a.name) := by simp [h3]
    have d1 : ldA false 1 H (.ptr b3 1) = some (I a.op) := by simp [h3]
    have d2 : ldA false 1 H (.ptr b3 2) = some (Sx a.text) := by simp [h3, encAt]
    have s0 : shiftA (.ip (encPr x)) 0 = some (.ip (encPr x)) := rfl
    have s1 : shiftA (.ip (encPr x)) 1 = some (.ip [Sx x.2]) := rfl
    have l0 : ldA false 1 H (.ip (encPr x)) = some (Sx x.1) := rfl
    have l1 : ldA false 1 H (.ip [Sx x.2]) = some (Sx x.2) := rfl
    refine ref9_attr.L0_step ?_
    simp only [sh_ptr, Nat.zero_add, bnd_some, c2, len_imm, List.length_map, b_lss, h1, decide_true, ifB_lit, if_true, ix_map hx, s0, s1, l0, l1, d0, d1, d2, b_sneq, b_eql, b_seql, decide_eq_true_eq]
    by_cases hn : x.1 = a.name
    · have hat : attrB (x :: n.attrs.drop (m + 1)) a = soB x.2 a := by simp [attrB, hn]
      rw [hat] at hK
      simp only [hn, decide_true, Bool.not_true, Bool.false_eq_true, if_false]
      unfold soB at hK
      split
      · rename_i h; simp only [h, if_true] at hK; exact hK _
      rename_i h0
      simp only [h0, if_false] at hK
      split
      · rename_i h; simp only [h, if_true] at hK; exact hK _
      rename_i h1
      simp only [h1, if_false] at hK
      split
      · rename_i h
        simp only [h, if_true] at hK
        rw [← words_q] at hK
        refine callK_of (rwords_ok a.text ha _) ?_
        rw [len_imm, bnd_some, b_eql, bnd_some, List.length_map]
        simp only [ifB_lit, decide_eq_true_eq]
        split
        · rename_i hl1
          obtain ⟨w, hw⟩ : ∃ w, wordsB (tl a.text) = [w] := List.length_eq_one_iff.1 (by omega)
          rw [hw] at hK
          have hix : ixaSl 1 (.imm 1 ((wordsB (tl a.text)).map encW)) (I 0) = some (.ip (encW w)) := by
            have : (wordsB (tl a.text))[(0 : Nat)]? = some w := by rw [hw]; rfl
            exact ix_map this
          have hlw : ldA false 1 H (.ip (encW w)) = some (Sx (mk w)) := rfl
          rw [hix, bnd_some, hlw, bnd_some, d2, bnd_some, b_seql, bnd_some]
          simp only [ifB_lit, decide_eq_true_eq]
          split
          · rename_i hq
            refine callK_of (rwords_ok x.2 hxl _) ⟨rfl, ?_⟩
            rw [d2, bnd_some, strs_words]
            have hlen := (words_mem _ (tl x.2) (Nat.le_refl _)).1
            rw [tl_len] at hlen
            refine callK_of (rhas_ok _ (by rw [List.length_map]; omega) _ _) ?_
            simpa [hq] using hK H
          · rename_i hq
            simpa [hq] using hK H
        · rename_i hl1
          have : ∀ b : List UInt8 → Bool, (match wordsB (tl a.text) with | [w] => b w | _ => false) = false := fun b => by
            split
            · rename_i w hw; rw [hw] at hl1; simp at hl1
            · rfl
          rw [this] at hK
          exact hK _
      rename_i h2'
      simp only [h2', if_false] at hK
      split
      · rename_i h
        simp only [h, if_true] at hK
        split
        · rename_i he
          simp [he] at hK
          exact hK _
        · rename_i he
          simp [he] at hK
          rw [b_sadd (by show a.text.data.size + 1 ≤ _; omega), bnd_some]
          refine callK_of (begins_ok _ _ _) ?_
          rw [tl_mk]
          exact hK _
      rename_i h3'
      simp only [h3', if_false] at hK
      split
      · rename_i h
        simp only [h, if_true] at hK
        by_cases he : a.text = emp
        · have he' : a.text = ⟨#[]⟩ := he
          simp [he'] at hK ⊢
          simpa [emp] using hK H
        · have he' : ¬ (a.text = ⟨#[]⟩) := he
          simp [he'] at hK ⊢
          refine callK_of (begins_ok _ _ _) ?_
          simpa [he] using hK H
      rename_i h4'
      simp only [h4', if_false] at hK
      split
      · rename_i h
        simp only [h, if_true] at hK
        by_cases he : a.text = emp
        · have he' : a.text = ⟨#[]⟩ := he
          simp [he'] at hK ⊢
          simpa [emp] using hK H
        · have he' : ¬ (a.text = ⟨#[]⟩) := he
          simp [he'] at hK ⊢
          refine callK_of (ends_ok _ _ (by omega) _) ?_
          simpa [he] using hK H
      rename_i h5'
      simp only [h5', if_false] at hK
      split
      · rename_i h
        simp only [h, if_true] at hK
        by_cases he : a.text = emp
        · have he' : a.text = ⟨#[]⟩ := he
          simp [he'] at hK ⊢
          simpa [emp] using hK H
        · have he' : ¬ (a.text = ⟨#[]⟩) := he
          simp [he'] at hK ⊢
          refine callK_of (in_ok _ _ hxl (by omega) (fun e => he (tl_inj e)) _) ?_
          simpa [he] using hK H
      · rename_i h
        simp only [h, if_false] at hK
        exact hK _
    · have hat : attrB (x :: n.attrs.drop (m + 1)) a = attrB (n.attrs.drop (m + 1)) a := by simp [attrB, hn]
      rw [hat] at hK
      simp only [hn, decide_false, Bool.not_false, if_true, b_add, bnd_some]
      rw [wr_succL hlt hl (by decide)]
      exact ih (m + 1) H (by omega) (by omega) h2 h3 hK
theorem rattr_ok (n : Nd) (hl : n.attrs.length ≤ reachBytes) (ht : ∀ p ∈ n.attrs, p.2.data.size < 4294967281) (a : At) (ha : a.text.data.size < 4294967281) (H : Hp) : Good Try.prog σ n_ref9_attr [.agg (encNd n), .agg (encAt a)] H (Bo (attrB n.attrs a)) H := by
  refine good_by (fun K hK => ref9_attr.run ?_) (by simp [noIds, noId, noId_At, noId_Nd]) rfl H
  simp only [boxK_agg]
  exact rattr_L0 hl ht ha _ 0 _ rfl (Nat.zero_le _) (by simp) (by simp) (by simpa using hK)
end Go.Proofs.Ythmaggcfghjmfaa.Ev

/- ref9: pseudo-classes. -/
namespace Go.Proofs.Ythmaggcfghjmfaa.Ev
set_option linter.unusedVariables false
set_option linter.unusedSimpArgs false
variable {σ : Sig}

theorem root_eq {L : List Nd} {d : List Nat} (hB : Built L L.length d) {e : Nat} (he : e < L.length) : decide ((e : Int) = 0) = decide (par L e < 0) := by
  by_cases h0 : e = 0
  · subst h0
    rw [(hB.root he).1]
    rfl
  · obtain ⟨p, x, h1, _⟩ := hB.step e (by omega) he
    rw [h1]
    have a1 : ¬ ((e : Int) = 0) := by omega
    have a2 : ¬ ((p : Int) < 0) := by omega
    simp only [a1, a2]
theorem empty_eq (L : List Nd) (e : Nat) : decide (((kids L L.length e).length : Int) = 0) = decide (childI L e 0 < 0) := by
  unfold childI
  cases kids L L.length e with
  | nil => rfl
  | cons x l =>
    have a1 : ¬ (((x :: l).length : Int) = 0) := by simp; omega
    have a2 : ¬ ((x : Int) < 0) := by omega
    simp only [a1, decide_false, List.getElem?_cons_zero, a2]
theorem rpseudo_ok {L : List Nd} {d : List Nat} (hB : Built L L.length d) (hN : L.length ≤ 4096) {e : Nat} (he : e < L.length) {q : Ps} (hq : i64 q.a ∧ i64 q.b) {dp : Nat} (hd : dp ≤ 100)
    (hA : (q.kind = 7 ∨ q.kind = 8) → ∀ H, Good Try.prog σ n_ref9_Tree_any [refT L d, I (e : Int), sls q.list, I ((dp + 1 : Nat) : Int)] H (Bo (AA L q.list e)) H) (H : Hp) :
    Good Try.prog σ n_ref9_Tree_pseudo [refT L d, I (e : Int), .agg (encPs q), I (dp : Int)] H (Bo (pseudoB (AA L) L e q)) H := by
  refine good_by (fun K hK => ref9_Tree_pseudo.run ?_) (by simp [noIds, noId, noId_refT, noId_Ps]) rfl H
  have hpl := place_bd L e
  obtain ⟨H1, hH1⟩ : ∃ H1, H1 = Hp.empty.new (.cells (encPs q) true) := ⟨_, rfl⟩
  have hg : H1.get Hp.empty.n = some (.cells (encPs q) true) := by rw [hH1]; simp
  simp only [boxK_agg]
  rw [← hH1]
  generalize Hp.empty.n = b at hg
  have d0 : ldA false 1 H1 (.ptr b 0) = some (I q.kind) := by simp [hg]
  have d1 : ldA false 1 H1 (.ptr b 1) = some (I q.a) := by simp [hg]
  have d2 : ldA false 1 H1 (.ptr b 2) = some (I q.b) := by simp [hg]
  have d3 : ldA false 1 H1 (.ptr b 3) = some (sls q.list) := by simp [hg]; rfl
  simp only [sh_ptr, Nat.zero_add, bnd_some, d0, d1, d2, b_eql, ifB_lit, decide_eq_true_eq]
  unfold pseudoB at hK
  split
  · rename_i h
    simp only [h, if_true] at hK
    rw [root_eq hB he]
    exact hK _
  rename_i h1
  simp only [h1, if_false] at hK
  split
  · rename_i h
    simp only [h, if_true] at hK
    refine callK_of (rPlace_ok L d hN he _) ?_
    rw [b_eql, bnd_some]
    exact hK _
  rename_i h2
  simp only [h2, if_false] at hK
  split
  · rename_i h
    simp only [h, if_true] at hK
    exact callK_of (rlast_ok L d hB hN he _) (hK _)
  rename_i h3
  simp only [h3, if_false] at hK
  split
  · rename_i h
    simp only [h, if_true] at hK
    refine callK_of (rPlace_ok L d hN he _) ?_
    simp only [b_eql, bnd_some, ifB_lit, decide_eq_true_eq]
    split
    · rename_i hp
      refine callK_of (rlast_ok L d hB hN he _) ?_
      simpa [hp] using hK H1
    · rename_i hp
      simpa [hp] using hK H1
  rename_i h4
  simp only [h4, if_false] at hK
  split
  · rename_i h
    simp only [h, if_true] at hK
    refine callK_of (rChildren_ok L d hB hN he _) ?_
    have : lenSl (ints (kids L L.length e)) = some (I ((kids L L.length e).length : Int)) := by unfold ints; simp
    rw [this, bnd_some, b_eql, bnd_some, empty_eq]
    exact hK _
  rename_i h5
  simp only [h5, if_false] at hK
  split
  · rename_i h
    simp only [h, if_true] at hK
    refine callK_of (rPlace_ok L d hN he _) ⟨rfl, ?_⟩
    rw [d1, bnd_some]
    refine ⟨rfl, ?_⟩
    rw [d2, bnd_some]
    exact callK_of (rnth_ok (by omega) hq.1 hq.2 _) (hK _)
  rename_i h6
  simp only [h6, if_false] at hK
  have J0 : ∀ c : Bool, (c = true ↔ (q.kind = 7 ∨ q.kind = 8)) → ref9_Tree_pseudo.J0 σ K (refT L d) (I (e : Int)) (I (dp : Int)) (.ptr b 0) (Bo c) H1 := by
    intro c hc
    refine ref9_Tree_pseudo.J0_step ?_
    simp only [ifB_lit]
    by_cases hk : q.kind = 7 ∨ q.kind = 8
    · rw [hc.2 hk]
      simp only [if_true, sh_ptr, Nat.zero_add, bnd_some, d3, b_add]
      rw [wr_succ (by omega)]
      refine callK_of (hA hk _) ?_
      simp only [d0, bnd_some, b_eql]
      by_cases h7 : q.kind = 7
      · have h8 : ¬ (q.kind = 8) := by omega
        simp only [h7, if_true] at hK
        have := hK H1
        simp only [h8, decide_false]
        cases hb : AA L q.list e <;> simpa [hb] using this
      · have h8 : q.kind = 8 := by omega
        simp only [h7, h8, if_false, if_true] at hK
        have := hK H1
        simp only [h8, decide_true]
        cases hb : AA L q.list e <;> simpa [hb] using this
    · have : c = false := by
        cases c with
        | false => rfl
        | true => exact absurd (hc.1 rfl) hk
      subst this
      have h7 : ¬ (q.kind = 7) := fun h => hk (.inl h)
      have h8 : ¬ (q.kind = 8) := fun h => hk (.inr h)
      simp only [h7, h8, if_false] at hK
      simpa using hK H1
  split
  · rename_i h
    exact J0 _ (by simp [h])
  · rename_i h
    exact J0 _ (by simp [h])
end Go.Proofs.Ythmaggcfghjmfaa.Ev

/- ref9: compounds. -/
namespace Go.Proofs.Ythmaggcfghjmfaa.Ev
set_option linter.unusedVariables false
set_option linter.unusedSimpArgs false
variable {σ : Sig}

section
variable {L : List Nd} {d : List Nat} {e : Nat} {c : Cp} {n : Nd} {dp : Nat} {b6 b9 : Nat} {K : AV → Hp → Prop}
theorem rc_L3 (hps : c.pseudos.length ≤ reachBytes) (hP : ∀ q ∈ c.pseudos, ∀ H, Good Try.prog σ n_ref9_Tree_pseudo [refT L d, I (e : Int), .agg (encPs q), I (dp : Int)] H (Bo (pseudoB (AA L) L e q)) H) {y10 y11 y12 : AV} : ∀ (k m : Nat) (H : Hp), c.pseudos.length - m = k → m ≤ c.pseudos.length → H.get b6 = some (.cells (encCp c) true) → (∀ H, K (Bo ((c.pseudos.drop m).all (pseudoB (AA L) L e))) H) →
    ref9_Tree_compound.L3 σ K (refT L d) (I (e : Int)) (I (dp : Int)) (.ptr b6 0) (.ptr b9 0) y10 y11 y12 (I (m : Int)) H := by
  intro k
  induction k with
  | zero =>
    intro m H hk hm h6 hK
    have : m = c.pseudos.length := by omega
    subst this
    have d4 : ldA false 1 H (.ptr b6 4) = some (.imm 4 (c.pseudos.map encPs)) := by simp [h6]
    refine ref9_Tree_compound.L3_step ?_
    simp only [sh_ptr, Nat.zero_add, bnd_some, d4, len_imm, List.length_map, b_lss, Int.lt_irrefl, decide_false, ifB_lit, Bool.false_eq_true, if_false]
    simpa using hK H
  | succ k ih =>
    intro m H hk hm h6 hK
    have hlt : m < c.pseudos.length := by omega
    obtain ⟨q, hq⟩ := get_lt hlt
    rw [drop_get hq, List.all_cons] at hK
    have hlt' : (m : Int) < c.pseudos.length := by omega
    have d4 : ldA false 1 H (.ptr b6 4) = some (.imm 4 (c.pseudos.map encPs)) := by simp [h6]
    refine ref9_Tree_compound.L3_step ?_
    simp only [sh_ptr, Nat.zero_add, bnd_some, d4, len_imm, List.length_map, b_lss, hlt', decide_true, ifB_lit, if_true, ix_map hq, ld_ip, ldL_ps]
    refine callK_of (hP q (List.mem_of_getElem? hq) _) ?_
    simp only [u_not, bnd_some, ifB_lit]
    cases hb : pseudoB (AA L) L e q with
    | false => rw [hb] at hK; simpa using hK H
    | true =>
      rw [hb] at hK
      simp only [Bool.not_true, Bool.false_eq_true, if_false, b_add, bnd_some]
      rw [wr_succL hlt hps (by decide)]
      exact ih (m + 1) H (by omega) (by omega) h6 (by simpa using hK)
theorem rc_L2 (has : c.attrs.length ≤ reachBytes) (hps : c.pseudos.length ≤ reachBytes) (hn : SmN n) (ha : ∀ a ∈ c.attrs, a.text.data.size < 4294967281) (hP : ∀ q ∈ c.pseudos, ∀ H, Good Try.prog σ n_ref9_Tree_pseudo [refT L d, I (e : Int), .agg (encPs q), I (dp : Int)] H (Bo (pseudoB (AA L) L e q)) H) {y10 y11 y14 : AV} : ∀ (k m : Nat) (H : Hp), c.attrs.length - m = k → m ≤ c.attrs.length → H.get b6 = some (.cells (encCp c) true) → H.get b9 = some (.cells (encNd n) true) → (∀ H, K (Bo ((c.attrs.drop m).all (attrB n.attrs) && c.pseudos.all (pseudoB (AA L) L e))) H) →
    ref9_Tree_compound.L2 σ K (refT L d) (I (e : Int)) (I (dp : Int)) (.ptr b6 0) (.ptr b9 0) y10 y11 (I (m : Int)) y14 H := by
  intro k
  induction k with
  | zero =>
    intro m H hk hm h6 h9 hK
    have : m = c.attrs.length := by omega
    subst this
    have d3 : ldA false 1 H (.ptr b6 3) = some (.imm 3 (c.attrs.map encAt)) := by simp [h6]
    refine ref9_Tree_compound.L2_step ?_
    simp only [sh_ptr, Nat.zero_add, bnd_some, d3, len_imm, List.length_map, b_lss, Int.lt_irrefl, decide_false, ifB_lit, Bool.false_eq_true, if_false]
    exact rc_L3 hps hP _ 0 H rfl (Nat.zero_le _) h6 (by simpa using hK)
  | succ k ih =>
    intro m H hk hm h6 h9 hK
    have hlt : m < c.attrs.length := by omega
    obtain ⟨a, hq⟩ := get_lt hlt
    rw [drop_get hq, List.all_cons] at hK
    have hlt' : (m : Int) < c.attrs.length := by omega
    have d3 : ldA false 1 H (.ptr b6 3) = some (.imm 3 (c.attrs.map encAt)) := by simp [h6]
    have d9 : ldA true 5 H (.ptr b9 0) = some (.agg (encNd n)) := by simp only [ld_ptr, h9, ldO_cells, List.drop_zero, ldL_nd]
    refine ref9_Tree_compound.L2_step ?_
    simp only [sh_ptr, Nat.zero_add, bnd_some, d3, d9, len_imm, List.length_map, b_lss, hlt', decide_true, ifB_lit, if_true, ix_map hq, ld_ip, ldL_at]
    refine callK_of (rattr_ok n hn.attrs hn.texts a (ha a (List.mem_of_getElem? hq)) _) ?_
    simp only [u_not, bnd_some, ifB_lit]
    cases hb : attrB n.attrs a with
    | false => rw [hb] at hK; simpa using hK H
    | true =>
      rw [hb] at hK
      simp only [Bool.not_true, Bool.false_eq_true, if_false, b_add, bnd_some]
      rw [wr_succL hlt has (by decide)]
      exact ih (m + 1) H (by omega) (by omega) h6 h9 (by simpa using hK)
structure RcOk (c : Cp) : Prop where
  ids : c.ids.length ≤ reachBytes
  classes : c.classes.length ≤ reachBytes
  attrs : c.attrs.length ≤ reachBytes
  ps : c.pseudos.length ≤ reachBytes
  texts : ∀ a ∈ c.attrs, a.text.data.size < 4294967281
theorem rc_L1 (hc : RcOk c) (hn : SmN n) (hP : ∀ q ∈ c.pseudos, ∀ H, Good Try.prog σ n_ref9_Tree_pseudo [refT L d, I (e : Int), .agg (encPs q), I (dp : Int)] H (Bo (pseudoB (AA L) L e q)) H) {y10 y12 y14 : AV} : ∀ (k m : Nat) (H : Hp), c.classes.length - m = k → m ≤ c.classes.length → H.get b6 = some (.cells (encCp c) true) → H.get b9 = some (.cells (encNd n) true) → (∀ H, K (Bo ((c.classes.drop m).all (hasB n.classes) && (c.attrs.all (attrB n.attrs) && c.pseudos.all (pseudoB (AA L) L e)))) H) →
    ref9_Tree_compound.L1 σ K (refT L d) (I (e : Int)) (I (dp : Int)) (.ptr b6 0) (.ptr b9 0) y10 (I (m : Int)) y12 y14 H := by
  intro k
  induction k with
  | zero =>
    intro m H hk hm h6 h9 hK
    have : m = c.classes.length := by omega
    subst this
    have d2 : ldA false 1 H (.ptr b6 2) = some (.imm 1 (c.classes.map fun s => [Sx s])) := by simp [h6, encCp_eq, strs]
    refine ref9_Tree_compound.L1_step ?_
    simp only [sh_ptr, Nat.zero_add, bnd_some, d2, len_imm, List.length_map, b_lss, Int.lt_irrefl, decide_false, ifB_lit, Bool.false_eq_true, if_false]
    exact rc_L2 hc.attrs hc.ps hn hc.texts hP _ 0 H rfl (Nat.zero_le _) h6 h9 (by simpa using hK)
  | succ k ih =>
    intro m H hk hm h6 h9 hK
    have hlt : m < c.classes.length := by omega
    obtain ⟨x, hq⟩ := get_lt hlt
    rw [drop_get hq, List.all_cons] at hK
    have hlt' : (m : Int) < c.classes.length := by omega
    have d2 : ldA false 1 H (.ptr b6 2) = some (.imm 1 (c.classes.map fun s => [Sx s])) := by simp [h6, encCp_eq, strs]
    have d9 : ldA false 1 H (.ptr b9 3) = some (strs n.classes) := by simp [h9, encNd]
    have lx : ldA false 1 H (.ip [Sx x]) = some (Sx x) := rfl
    have hix : ixaSl 1 (.imm 1 (c.classes.map fun s => [Sx s])) (I (m : Int)) = some (.ip [Sx x]) := ix_map hq
    refine ref9_Tree_compound.L1_step ?_
    simp only [sh_ptr, Nat.zero_add, bnd_some, d2, d9, len_imm, List.length_map, b_lss, hlt', decide_true, ifB_lit, if_true, hix, lx]
    refine callK_of (rhas_ok n.classes hn.classes x _) ?_
    simp only [u_not, bnd_some, ifB_lit]
    cases hb : hasB n.classes x with
    | false => rw [hb] at hK; simpa using hK H
    | true =>
      rw [hb] at hK
      simp only [Bool.not_true, Bool.false_eq_true, if_false, b_add, bnd_some]
      rw [wr_succL hlt hc.classes (by decide)]
      exact ih (m + 1) H (by omega) (by omega) h6 h9 (by simpa using hK)
theorem rc_L0 (hc : RcOk c) (hn : SmN n) (hP : ∀ q ∈ c.pseudos, ∀ H, Good Try.prog σ n_ref9_Tree_pseudo [refT L d, I (e : Int), .agg (encPs q), I (dp : Int)] H (Bo (pseudoB (AA L) L e q)) H) {y11 y12 y14 : AV} : ∀ (k m : Nat) (H : Hp), c.ids.length - m = k → m ≤ c.ids.length → H.get b6 = some (.cells (encCp c) true) → H.get b9 = some (.cells (encNd n) true) → (∀ H, K (Bo ((c.ids.drop m).all (idB n) && (c.classes.all (hasB n.classes) && (c.attrs.all (attrB n.attrs) && c.pseudos.all (pseudoB (AA L) L e))))) H) →
    ref9_Tree_compound.L0 σ K (refT L d) (I (e : Int)) (I (dp : Int)) (.ptr b6 0) (.ptr b9 0) (I (m : Int)) y11 y12 y14 H := by
  intro k
  induction k with
  | zero =>
    intro m H hk hm h6 h9 hK
    have : m = c.ids.length := by omega
    subst this
    have d2 : ldA false 1 H (.ptr b6 1) = some (.imm 1 (c.ids.map fun s => [Sx s])) := by simp [h6, encCp_eq, strs]
    refine ref9_Tree_compound.L0_step ?_
    simp only [sh_ptr, Nat.zero_add, bnd_some, d2, len_imm, List.length_map, b_lss, Int.lt_irrefl, decide_false, ifB_lit, Bool.false_eq_true, if_false]
    exact rc_L1 hc hn hP _ 0 H rfl (Nat.zero_le _) h6 h9 (by simpa using hK)
  | succ k ih =>
    intro m H hk hm h6 h9 hK
    have hlt : m < c.ids.length := by omega
    obtain ⟨x, hq⟩ := get_lt hlt
    rw [drop_get hq, List.all_cons] at hK
    have hlt' : (m : Int) < c.ids.length := by omega
    have d2 : ldA false 1 H (.ptr b6 1) = some (.imm 1 (c.ids.map fun s => [Sx s])) := by simp [h6, encCp_eq, strs]
    have d9 : ldA false 1 H (.ptr b9 2) = some (Sx n.id) := by simp [h9, encNd]
    have lx : ldA false 1 H (.ip [Sx x]) = some (Sx x) := rfl
    have hix : ixaSl 1 (.imm 1 (c.ids.map fun s => [Sx s])) (I (m : Int)) = some (.ip [Sx x]) := ix_map hq
    refine ref9_Tree_compound.L0_step ?_
    simp only [sh_ptr, Nat.zero_add, bnd_some, d2, d9, len_imm, List.length_map, b_lss, hlt', decide_true, ifB_lit, if_true, hix, lx, b_sneq, b_seql]
    by_cases h1 : x = n.id
    · by_cases h2 : n.id = emp
      · have h2' : n.id = ⟨#[]⟩ := h2
        have hid : idB n x = false := by unfold idB; rw [h1, h2]; simp
        rw [hid] at hK
        simp only [h1, h2', decide_true, Bool.not_true, Bool.false_eq_true, if_false, if_true]
        simpa using hK H
      · have h2' : ¬ (n.id = ⟨#[]⟩) := h2
        have hid : idB n x = true := by unfold idB; rw [h1]; simp [h2]
        rw [hid] at hK
        simp only [h1, h2', decide_true, decide_false, Bool.not_true, Bool.false_eq_true, if_false, b_add, bnd_some]
        rw [wr_succL hlt hc.ids (by decide)]
        exact ih (m + 1) H (by omega) (by omega) h6 h9 (by simpa using hK)
    · have hid : idB n x = false := by unfold idB; simp [h1]
      rw [hid] at hK
      simp only [h1, decide_false, Bool.not_false, if_true]
      simpa using hK H
end
end Go.Proofs.Ythmaggcfghjmfaa.Ev

/- ref9: compounds, chains, selectors. -/
namespace Go.Proofs.Ythmaggcfghjmfaa.Ev
set_option linter.unusedVariables false
set_option linter.unusedSimpArgs false
variable {σ : Sig}

section
attribute [local irreducible] ref9_Tree_compound.L0
theorem rcomp_ok {L : List Nd} {d : List Nat} (hB : Built L L.length d) (hN : L.length ≤ 4096) {e : Nat} (he : e < L.length) (hn : SmN (lowN (ndAt L e))) {c : Cp} (hc : RcOk c) (hq : ∀ q ∈ c.pseudos, i64 q.a ∧ i64 q.b) {dp : Nat} (hd : dp ≤ 100)
    (hA : ∀ q ∈ c.pseudos, (q.kind = 7 ∨ q.kind = 8) → ∀ H, Good Try.prog σ n_ref9_Tree_any [refT L d, I (e : Int), sls q.list, I ((dp + 1 : Nat) : Int)] H (Bo (AA L q.list e)) H) (H : Hp) :
    Good Try.prog σ n_ref9_Tree_compound [refT L d, I (e : Int), .agg (encCp c), I (dp : Int)] H (Bo (compB (AA L) L e c)) H := by
  refine good_by (fun K hK => ref9_Tree_compound.run ?_) (by simp [noIds, noId, noId_refT, noId_Cp]) rfl H
  have hP : ∀ q ∈ c.pseudos, ∀ H, Good Try.prog σ n_ref9_Tree_pseudo [refT L d, I (e : Int), .agg (encPs q), I (dp : Int)] H (Bo (pseudoB (AA L) L e q)) H := fun q h => rpseudo_ok hB hN he (hq q h) hd (hA q h)
  simp only [boxK_agg]
  refine callK_of (ris_t L d he _) ?_
  simp only [u_not, bnd_some, ifB_lit, Bool.not_true, Bool.false_eq_true, if_false, rnilp, rsh, rld, rix he, ld_ip, ldL_nd, allocK_eq, st_agg, len_encNd, if_true]
  rw [hp_get_new, if_pos rfl]
  simp only [stO_cells, len_encNd, one_Nd]
  rw [if_pos ⟨by decide, trivial⟩]
  rw [overlay_all (by rfl)]
  simp only [bnd_some]
  obtain ⟨H3, hH3⟩ : ∃ H3, H3 = ((Hp.empty.new (.cells (encCp c) true)).new (.cells [I 0, .lit (.string ⟨#[]⟩), .lit (.string ⟨#[]⟩), .lit (.slice none 0 0), .lit (.slice none 0 0)] true)).set (Hp.empty.new (.cells (encCp c) true)).n (some (.cells (encNd (lowN (ndAt L e))) true)) := ⟨_, rfl⟩
  have h6 : H3.get Hp.empty.n = some (.cells (encCp c) true) := by rw [hH3]; simp
  have h9 : H3.get (Hp.empty.new (.cells (encCp c) true)).n = some (.cells (encNd (lowN (ndAt L e))) true) := by rw [hH3]; simp
  rw [← hH3]
  generalize Hp.empty.n = b6 at h6
  generalize (Hp.empty.new (.cells (encCp c) true)).n = b9 at h9
  have d0 : ldA false 1 H3 (.ptr b6 0) = some (Sx c.tag) := by simp [h6]
  have d1 : ldA false 1 H3 (.ptr b9 1) = some (Sx (lowN (ndAt L e)).tag) := by simp [h9]
  simp only [sh_ptr, Nat.zero_add, bnd_some, d0, d1, b_sneq, ifB_lit]
  have hK' : ∀ H, K (Bo (tagB (lowN (ndAt L e)) c && (c.ids.all (idB (lowN (ndAt L e))) && (c.classes.all (hasB (lowN (ndAt L e)).classes) && (c.attrs.all (attrB (lowN (ndAt L e)).attrs) && c.pseudos.all (pseudoB (AA L) L e)))))) H := by
    intro H
    have := hK H
    unfold compB plainB at this
    simpa only [Bool.and_assoc] using this
  have go : tagB (lowN (ndAt L e)) c = true → ref9_Tree_compound.L0 σ K (refT L d) (I (e : Int)) (I (dp : Int)) (.ptr b6 0) (.ptr b9 0) (I 0) (.lit undef) (.lit undef) (.lit undef) H3 := by
    intro ht
    refine rc_L0 hc hn hP _ 0 H3 rfl (Nat.zero_le _) h6 h9 fun H => ?_
    have := hK' H
    rw [ht, Bool.true_and] at this
    exact this
  by_cases ht : c.tag = ⟨#[]⟩
  · simp only [ht, decide_true, Bool.not_true, Bool.false_eq_true, if_false]
    exact go (by unfold tagB emp; simp [ht])
  · by_cases ht2 : c.tag = (lowN (ndAt L e)).tag
    · simp only [ht, ht2, decide_true, decide_false, Bool.not_true, Bool.not_false, Bool.false_eq_true, if_true, if_false]
      have hne : ¬ ((lowN (ndAt L e)).tag = ⟨#[]⟩) := by rw [← ht2]; exact ht
      simp only [hne, decide_false, Bool.not_false, if_true]
      exact go (by unfold tagB; simp [ht2])
    · simp only [ht, ht2, decide_false, Bool.not_false, if_true]
      have := hK' H3
      have hb : tagB (lowN (ndAt L e)) c = false := by unfold tagB emp; simp [ht, ht2]
      rw [hb] at this
      simpa using this
end

/-- What is known of elements and numbers of parts. -/
structure Kn (L : List Nd) (s : Sl) (kb M : Nat) (H : Hp) : Prop where
  lt : kb < H.n
  get : ∃ ks, H.get kb = some (.cells ks true) ∧ ks.length = M ∧ ∀ e k, e < L.length → k < s.length → ∃ v : Int, ks[e * s.length + k]? = some (I v) ∧ (v = 0 ∨ (v = 1 ∧ frontB (AA L) L s k e = true) ∨ (v = 2 ∧ frontB (AA L) L s k e = false))
theorem Kn.keep {L : List Nd} {s : Sl} {kb M : Nat} {H H' : Hp} (h : Kn L s kb M H) (hn : H.n ≤ H'.n) (hg : H'.get kb = H.get kb) : Kn L s kb M H' := by
  obtain ⟨ks, h1, h2, h3⟩ := h.get
  exact ⟨Nat.lt_of_lt_of_le h.lt hn, ks, by rw [hg]; exact h1, h2, h3⟩
theorem Kn.new {L : List Nd} {s : Sl} {kb M : Nat} {H : Hp} (h : Kn L s kb M H) (b : Blk) : Kn L s kb M (H.new b) := by
  refine h.keep (by simp) ?_
  have : kb ≠ H.n := by have := h.lt; omega
  simp [this]
theorem idx_inj {n a b x y : Nat} (hx : x < n) (hy : y < n) (h : a * n + x = b * n + y) : a = b ∧ x = y := by
  have h1 : (a * n + x) / n = (b * n + y) / n := by rw [h]
  have hn : 0 < n := by omega
  rw [Nat.mul_comm a, Nat.mul_comm b, Nat.mul_add_div hn, Nat.mul_add_div hn, Nat.div_eq_of_lt hx, Nat.div_eq_of_lt hy] at h1
  simp only [Nat.add_zero] at h1
  subst h1
  exact ⟨rfl, by omega⟩
theorem ov_set : ∀ (cs : List AV) (i : Nat) (x : AV), i < cs.length → overlay cs i [x] = cs.set i x := by
  intro cs
  induction cs with
  | nil => intro i x hi; simp at hi
  | cons c r ih =>
    intro i x hi
    cases i with
    | zero => simp
    | succ i => rw [overlay_s, List.set_cons_succ, ih i x (by simpa using hi)]
theorem Kn.put {L : List Nd} {s : Sl} {kb M : Nat} {H : Hp} (h : Kn L s kb M H) {e k : Nat} (he : e < L.length) (hk : k < s.length) {v : Int} (hv : v = 0 ∨ (v = 1 ∧ frontB (AA L) L s k e = true) ∨ (v = 2 ∧ frontB (AA L) L s k e = false)) :
    ∃ H', stA 1 H (.ptr kb (e * s.length + k)) (I v) = some H' ∧ Kn L s kb M H' ∧ Kp kb H H' ∧ ldA false 1 H' (.ptr kb (e * s.length + k)) = some (I v) := by
  obtain ⟨ks, h1, h2, h3⟩ := h.get
  obtain ⟨v0, hv0, _⟩ := h3 e k he hk
  have hlt := (List.getElem?_eq_some_iff.1 hv0).1
  refine ⟨H.set kb (some (.cells (ks.set (e * s.length + k) (I v)) true)), ?_, ⟨by simpa using h.lt, _, by simp; rfl, by simpa using h2, fun e' k' he' hk' => ?_⟩, ⟨by simp, fun j hj hne => by simp [hne]⟩, ?_⟩
  · have hlt' : e * s.length + k + [I v].length ≤ ks.length := by simp; omega
    rw [st_int, h1]
    simp only [stO_cells]
    rw [if_pos ⟨hlt', rfl⟩, ov_set _ _ _ hlt]
  · by_cases hi : e * s.length + k = e' * s.length + k'
    · obtain ⟨rfl, rfl⟩ := idx_inj hk hk' hi
      exact ⟨v, by simp [hlt], hv⟩
    · obtain ⟨w, hw, hw'⟩ := h3 e' k' he' hk'
      exact ⟨w, by simp [List.getElem?_set, hi, hw], hw'⟩
  · simp only [ld_ptr, hp_get_set, if_true, ldO_cells]
    rw [List.drop_eq_getElem_cons (by simpa using hlt), ldL_one]
    simp
theorem Kn.put2 {L : List Nd} {s : Sl} {kb M : Nat} {H : Hp} (h : Kn L s kb M H) {e k : Nat} (he : e < L.length) (hk : k < s.length) {v w : Int} (hv : v = 0 ∨ (v = 1 ∧ frontB (AA L) L s k e = true) ∨ (v = 2 ∧ frontB (AA L) L s k e = false)) :
    ∃ H1 H', stA 1 H (.ptr kb (e * s.length + k)) (I w) = some H1 ∧ stA 1 H1 (.ptr kb (e * s.length + k)) (I v) = some H' ∧ Kn L s kb M H' ∧ Kp kb H H' ∧ ldA false 1 H' (.ptr kb (e * s.length + k)) = some (I v) := by
  obtain ⟨ks, h1, h2, h3⟩ := h.get
  obtain ⟨v0, hv0, _⟩ := h3 e k he hk
  have hlt := (List.getElem?_eq_some_iff.1 hv0).1
  refine ⟨H.set kb (some (.cells (ks.set (e * s.length + k) (I w)) true)), H.set kb (some (.cells (ks.set (e * s.length + k) (I w)) true)) |>.set kb (some (.cells ((ks.set (e * s.length + k) (I w)).set (e * s.length + k) (I v)) true)), ?_, ?_, ⟨by simpa using h.lt, _, by simp; rfl, by simpa using h2, fun e' k' he' hk' => ?_⟩, ⟨by simp, fun j hj hne => by simp [hne]⟩, ?_⟩
  · have hlt' : e * s.length + k + [I w].length ≤ ks.length := by simp; omega
    rw [st_int, h1]
    simp only [stO_cells]
    rw [if_pos ⟨hlt', rfl⟩, ov_set _ _ _ hlt]
  · have hlt' : e * s.length + k + [I v].length ≤ (ks.set (e * s.length + k) (I w)).length := by simp; omega
    rw [st_int]
    simp only [hp_get_set, if_true, stO_cells]
    rw [if_pos ⟨hlt', rfl⟩, ov_set _ _ _ (by simpa using hlt)]
  · by_cases hi : e * s.length + k = e' * s.length + k'
    · obtain ⟨rfl, rfl⟩ := idx_inj hk hk' hi
      exact ⟨v, by simp [hlt], hv⟩
    · obtain ⟨w, hw, hw'⟩ := h3 e' k' he' hk'
      exact ⟨w, by simp [List.getElem?_set, hi, hw], hw'⟩
  · simp only [ld_ptr, hp_get_set, if_true, ldO_cells]
    rw [List.drop_eq_getElem_cons (by simpa using hlt), ldL_one]
    simp
structure RSl (L : List Nd) (s : Sl) : Prop where
  len : s.length ≤ 50
  c : ∀ p ∈ s, RcOk p.c
  q : ∀ p ∈ s, ∀ q ∈ p.c.pseudos, i64 q.a ∧ i64 q.b

theorem rbefore_bd {L : List Nd} (e : Nat) : before L e = -1 ∨ ∃ p : Nat, before L e = p ∧ p < e := by
  unfold before lastI
  cases h : (sibs L e).getLast? with
  | none => exact .inl rfl
  | some j =>
    refine .inr ⟨j, rfl, ?_⟩
    have := List.mem_of_getLast? h
    unfold sibs at this
    simp only [List.mem_filter, List.mem_range] at this
    exact this.1
section
attribute [local irreducible] ref9_Tree_hangs.L0 ref9_Tree_hangs.L1 ref9_Tree_hangs.J2 ref9_Tree_front.J0
def FrOk (σ : Sig) (L : List Nd) (d : List Nat) (s : Sl) (dp kb M : Nat) (cap : Option Nat) (i : Nat) : Prop := ∀ (e : Nat) (H : Hp) (K : AV → Hp → Prop), e < L.length → Kn L s kb M H → (∀ H', Kn L s kb M H' → Kp kb H H' → K (Bo (frontB (AA L) L s i e)) H') →
  callK Try.prog σ n_ref9_Tree_front [refT L d, I (e : Int), .agg (encSl s), I ((i + 1 : Nat) : Int), I (dp : Int), .sl kb 0 1 M cap] H K
variable {L : List Nd} {d : List Nat} {s : Sl} {dp kb M : Nat} {cap : Option Nat}
/-- The walk up, and the walk back. -/
theorem hangs_L0 (hB : Built L L.length d) (hN : L.length ≤ 4096) {i b8 : Nat} (hi : i < 100) (ih : FrOk σ L d s dp kb M cap i) {K : AV → Hp → Prop} {y15 : AV} : ∀ (f : Nat) (x : Int) (H : Hp), (x = -1 ∨ ∃ p : Nat, x = p ∧ p < f ∧ p < L.length) → Kn L s kb M H → b8 < H.n → b8 ≠ kb → H.get b8 = some (.cells (encSl s) true) →
    (∀ H', Kn L s kb M H' → Kp kb H H' → K (Bo (decide (0 ≤ x) && (frontB (AA L) L s i x.toNat || aheadF (frontB (AA L) L s i) L 1 f x.toNat))) H') →
    ref9_Tree_hangs.L0 σ K (refT L d) (I ((i + 1 + 1 : Nat) : Int)) (I (dp : Int)) (.sl kb 0 1 M cap) (.ptr b8 0) (I x) y15 H := by
  intro f
  induction f with
  | zero =>
    intro x H hx hk h8 hne hg hK
    obtain rfl : x = -1 := by rcases hx with h | ⟨p, _, h, _⟩ <;> omega
    refine ref9_Tree_hangs.L0_step ?_
    simp only [b_geq, bnd_some, ifB_lit, show ¬ ((0 : Int) ≤ -1) from by decide, decide_false, Bool.false_eq_true, if_false]
    exact ref9_Tree_hangs.J2_step (by simpa using hK H hk (Kp.refl _ _))
  | succ f ihf =>
    intro x H hx hk h8 hne hg hK
    refine ref9_Tree_hangs.L0_step ?_
    rcases hx with rfl | ⟨p, rfl, hpf, hpL⟩
    · simp only [b_geq, bnd_some, ifB_lit, show ¬ ((0 : Int) ≤ -1) from by decide, decide_false, Bool.false_eq_true, if_false]
      exact ref9_Tree_hangs.J2_step (by simpa using hK H hk (Kp.refl _ _))
    have hl : ldA true 1 H (.ptr b8 0) = some (.agg (encSl s)) := by simp [hg]
    have hsub : wr .i64 (((i + 1 + 1 : Nat) : Int) - 1) = ((i + 1 : Nat) : Int) := by rw [wr64 (by omega) (by omega)]; omega
    simp only [b_geq, bnd_some, ifB_lit, Int.natCast_nonneg, decide_true, if_true, hl, b_sub, hsub]
    refine ih p H _ hpL hk fun H1 hk1 hp1 => ?_
    simp only [ifB_lit]
    simp only [Int.natCast_nonneg, decide_true, Bool.true_and, Int.toNat_natCast] at hK
    cases hb : frontB (AA L) L s i p with
    | true =>
      simp only [if_true]
      have := hK H1 hk1 hp1
      rw [hb] at this
      simpa using this
    | false =>
      simp only [Bool.false_eq_true, if_false]
      refine callK_of (rParent_ok L d hpL _) ?_
      have hpb := par_bd hB hpL
      refine ihf (par L p) H1 ?_ hk1 (Nat.lt_of_lt_of_le h8 hp1.up) hne (by rw [hp1.get _ h8 hne]; exact hg) fun H2 hk2 hp2 => ?_
      · rcases hpb with h | ⟨q, h, hq⟩
        · exact .inl h
        · exact .inr ⟨q, h, by omega, by omega⟩
      have := hK H2 hk2 (hp1.trans hp2)
      rw [hb] at this
      have e1 : aheadF (frontB (AA L) L s i) L 1 (f + 1) p = (decide (0 ≤ par L p) && (frontB (AA L) L s i (par L p).toNat || aheadF (frontB (AA L) L s i) L 1 f (par L p).toNat)) := by
        rw [aheadF]
        have : standI L p 1 = par L p := by unfold standI; simp
        rw [this]
        have : farB 1 = true := rfl
        rw [this, Bool.true_and]
      rw [← e1]
      simpa using this
theorem hangs_L1 (hB : Built L L.length d) (hN : L.length ≤ 4096) {i b8 : Nat} (hi : i < 100) (ih : FrOk σ L d s dp kb M cap i) {K : AV → Hp → Prop} {y13 : AV} : ∀ (f : Nat) (x : Int) (H : Hp), (x = -1 ∨ ∃ p : Nat, x = p ∧ p < f ∧ p < L.length) → Kn L s kb M H → b8 < H.n → b8 ≠ kb → H.get b8 = some (.cells (encSl s) true) →
    (∀ H', Kn L s kb M H' → Kp kb H H' → K (Bo (decide (0 ≤ x) && (frontB (AA L) L s i x.toNat || aheadF (frontB (AA L) L s i) L 4 f x.toNat))) H') →
    ref9_Tree_hangs.L1 σ K (refT L d) (I ((i + 1 + 1 : Nat) : Int)) (I (dp : Int)) (.sl kb 0 1 M cap) (.ptr b8 0) y13 (I x) H := by
  intro f
  induction f with
  | zero =>
    intro x H hx hk h8 hne hg hK
    obtain rfl : x = -1 := by rcases hx with h | ⟨p, _, h, _⟩ <;> omega
    refine ref9_Tree_hangs.L1_step ?_
    simp only [b_geq, bnd_some, ifB_lit, show ¬ ((0 : Int) ≤ -1) from by decide, decide_false, Bool.false_eq_true, if_false]
    exact ref9_Tree_hangs.J2_step (by simpa using hK H hk (Kp.refl _ _))
  | succ f ihf =>
    intro x H hx hk h8 hne hg hK
    refine ref9_Tree_hangs.L1_step ?_
    rcases hx with rfl | ⟨p, rfl, hpf, hpL⟩
    · simp only [b_geq, bnd_some, ifB_lit, show ¬ ((0 : Int) ≤ -1) from by decide, decide_false, Bool.false_eq_true, if_false]
      exact ref9_Tree_hangs.J2_step (by simpa using hK H hk (Kp.refl _ _))
    have hl : ldA true 1 H (.ptr b8 0) = some (.agg (encSl s)) := by simp [hg]
    have hsub : wr .i64 (((i + 1 + 1 : Nat) : Int) - 1) = ((i + 1 : Nat) : Int) := by rw [wr64 (by omega) (by omega)]; omega
    simp only [b_geq, bnd_some, ifB_lit, Int.natCast_nonneg, decide_true, if_true, hl, b_sub, hsub]
    refine ih p H _ hpL hk fun H1 hk1 hp1 => ?_
    simp only [ifB_lit]
    simp only [Int.natCast_nonneg, decide_true, Bool.true_and, Int.toNat_natCast] at hK
    cases hb : frontB (AA L) L s i p with
    | true =>
      simp only [if_true]
      have := hK H1 hk1 hp1
      rw [hb] at this
      simpa using this
    | false =>
      simp only [Bool.false_eq_true, if_false]
      refine callK_of (rBefore_ok L d hN hpL _) ?_
      have hpb := rbefore_bd (L := L) p
      refine ihf (before L p) H1 ?_ hk1 (Nat.lt_of_lt_of_le h8 hp1.up) hne (by rw [hp1.get _ h8 hne]; exact hg) fun H2 hk2 hp2 => ?_
      · rcases hpb with h | ⟨q, h, hq⟩
        · exact .inl h
        · exact .inr ⟨q, h, by omega, by omega⟩
      have := hK H2 hk2 (hp1.trans hp2)
      rw [hb] at this
      have e1 : aheadF (frontB (AA L) L s i) L 4 (f + 1) p = (decide (0 ≤ before L p) && (frontB (AA L) L s i (before L p).toNat || aheadF (frontB (AA L) L s i) L 4 f (before L p).toNat)) := by
        rw [aheadF]
        have : standI L p 4 = before L p := by unfold standI; simp
        rw [this]
        have : farB 4 = true := rfl
        rw [this, Bool.true_and]
      rw [← e1]
      simpa using this
theorem hangs_sp (hB : Built L L.length d) (hN : L.length ≤ 4096) {i : Nat} (hi : i < 100) (ih : FrOk σ L d s dp kb M cap i) {p : Pt} (hp : s[i + 1]? = some p) {e : Nat} (he : e < L.length) {H : Hp} (hk : Kn L s kb M H) {K : AV → Hp → Prop}
    (hK : ∀ H', Kn L s kb M H' → Kp kb H H' → K (Bo (aheadF (frontB (AA L) L s i) L p.comb (e + 1) e)) H') :
    callK Try.prog σ n_ref9_Tree_hangs [refT L d, I (e : Int), .agg (encSl s), I ((i + 1 + 1 : Nat) : Int), I (dp : Int), .sl kb 0 1 M cap] H K := by
  refine ref9_Tree_hangs.run ?_
  simp only [boxK_agg]
  have hk2 := hk.new (.cells (encSl s) true)
  have hkp := Kp.new kb H (.cells (encSl s) true)
  obtain ⟨H2, hH2⟩ : ∃ H2, H2 = H.new (.cells (encSl s) true) := ⟨_, rfl⟩
  have h8 : H2.get H.n = some (.cells (encSl s) true) := by rw [hH2]; simp
  have hb8 : H.n < H2.n := by rw [hH2]; simp
  have hne : H.n ≠ kb := by have := hk.lt; omega
  rw [← hH2] at hk2 hkp ⊢
  clear hH2
  generalize H.n = b8 at h8 hb8 hne ⊢
  have hsub : wr .i64 (((i + 1 + 1 : Nat) : Int) - 1) = ((i + 1 : Nat) : Int) := by rw [wr64 (by omega) (by omega)]; omega
  have hl0 : ldA false 1 H2 (.ptr b8 0) = some (.imm 6 (s.map encPt)) := by simp [h8, encSl]
  have hl : ldA true 1 H2 (.ptr b8 0) = some (.agg (encSl s)) := by simp [h8]
  have hix : ixaSl 6 (.imm 6 (s.map encPt)) (I ((i + 1 : Nat) : Int)) = some (.ip (encPt p)) := ix_map hp
  simp only [sh_ptr, Nat.zero_add, bnd_some, hl0, b_sub, hsub, hix, sh_ip, List.drop_zero, ld_ip, f_encPt0, b_eql, ifB_lit, decide_eq_true_eq]
  have K2 : ∀ H', Kn L s kb M H' → Kp kb H2 H' → K (Bo (aheadF (frontB (AA L) L s i) L p.comb (e + 1) e)) H' := fun H' a b => hK H' a (hkp.trans b)
  rw [aheadF] at K2
  split
  · rename_i hc
    refine callK_of (rParent_ok L d he _) ?_
    have hpb := par_bd hB he
    refine hangs_L0 hB hN hi ih e (par L e) H2 ?_ hk2 hb8 hne h8 fun H3 a b => ?_
    · rcases hpb with h | ⟨q, h, hq⟩
      · exact .inl h
      · exact .inr ⟨q, h, by omega, by omega⟩
    have := K2 H3 a b
    rw [hc] at this
    have e1 : standI L e 1 = par L e := by unfold standI; simp
    have e2 : farB 1 = true := rfl
    rw [e1, e2, Bool.true_and] at this
    exact this
  rename_i hc1
  split
  · rename_i hc
    refine callK_of (rParent_ok L d he _) ?_
    have hpb := par_bd hB he
    have e1 : standI L e 2 = par L e := by unfold standI; simp
    have e2 : farB 2 = false := rfl
    rw [hc, e1, e2, Bool.false_and, Bool.or_false] at K2
    simp only [b_geq, bnd_some, ifB_lit, decide_eq_true_eq]
    rcases hpb with h | ⟨q, h, hq⟩
    · rw [h] at K2 ⊢
      simp only [show ¬ ((0 : Int) ≤ -1) from by decide, if_false]
      simpa using K2 H2 hk2 (Kp.refl _ _)
    · rw [h] at K2
      simp only [h, Int.natCast_nonneg, if_true]
      refine callK_of (rParent_ok L d he _) ?_
      rw [kp_ptr]
      refine ⟨rfl, ?_⟩
      simp only [hl, bnd_some]
      rw [h]
      refine ih q H2 _ (by omega) hk2 fun H3 a b => ?_
      simpa using K2 H3 a b
  rename_i hc2
  split
  · rename_i hc
    refine callK_of (rBefore_ok L d hN he _) ?_
    have hpb := rbefore_bd (L := L) e
    have e1 : standI L e 3 = before L e := by unfold standI; simp
    have e2 : farB 3 = false := rfl
    rw [hc, e1, e2, Bool.false_and, Bool.or_false] at K2
    simp only [b_geq, bnd_some, ifB_lit, decide_eq_true_eq]
    rcases hpb with h | ⟨q, h, hq⟩
    · rw [h] at K2 ⊢
      simp only [show ¬ ((0 : Int) ≤ -1) from by decide, if_false]
      simpa using K2 H2 hk2 (Kp.refl _ _)
    · rw [h] at K2
      simp only [h, Int.natCast_nonneg, if_true]
      refine callK_of (rBefore_ok L d hN he _) ?_
      rw [kp_ptr]
      refine ⟨rfl, ?_⟩
      simp only [hl, bnd_some]
      rw [h]
      refine ih q H2 _ (by omega) hk2 fun H3 a b => ?_
      simpa using K2 H3 a b
  rename_i hc3
  split
  · rename_i hc
    refine callK_of (rBefore_ok L d hN he _) ?_
    have hpb := rbefore_bd (L := L) e
    refine hangs_L1 hB hN hi ih e (before L e) H2 ?_ hk2 hb8 hne h8 fun H3 a b => ?_
    · rcases hpb with h | ⟨q, h, hq⟩
      · exact .inl h
      · exact .inr ⟨q, h, by omega, by omega⟩
    have := K2 H3 a b
    rw [hc] at this
    have e1 : standI L e 4 = before L e := by unfold standI; simp
    have e2 : farB 4 = true := rfl
    rw [e1, e2, Bool.true_and] at this
    exact this
  rename_i hc4
  refine ref9_Tree_hangs.J2_step ?_
  have e1 : standI L e p.comb = -1 := by unfold standI; rw [if_neg (by omega), if_neg (by omega)]
  rw [e1] at K2
  simpa using K2 H2 hk2 (Kp.refl _ _)
/-- What is asked of lists in a compound's pseudo-classes. -/
def AnyR (σ : Sig) (L : List Nd) (d : List Nat) (s : Sl) (dp : Nat) : Prop := ∀ p ∈ s, ∀ q ∈ p.c.pseudos, (q.kind = 7 ∨ q.kind = 8) → ∀ (e : Nat) (H : Hp), e < L.length → Good Try.prog σ n_ref9_Tree_any [refT L d, I (e : Int), sls q.list, I ((dp + 1 : Nat) : Int)] H (Bo (AA L q.list e)) H
theorem fr_step (hB : Built L L.length d) (hN : L.length ≤ 4096) (hsm : ∀ e, e < L.length → SmN (lowN (ndAt L e))) (hs : RSl L s) (hd : dp ≤ 100) (hM : M = L.length * s.length) (hA : AnyR σ L d s dp) {i : Nat} (hi : i < s.length)
    (ih : ∀ j, i = j + 1 → FrOk σ L d s dp kb M cap j) : FrOk σ L d s dp kb M cap i := by
  intro e H K he hk hK
  refine ref9_Tree_front.run ?_
  simp only [boxK_agg]
  have hk2 := hk.new (.cells (encSl s) true)
  have hkp := Kp.new kb H (.cells (encSl s) true)
  obtain ⟨H2, hH2⟩ : ∃ H2, H2 = H.new (.cells (encSl s) true) := ⟨_, rfl⟩
  have h8 : H2.get H.n = some (.cells (encSl s) true) := by rw [hH2]; simp
  have hb8 : H.n < H2.n := by rw [hH2]; simp
  have hne : H.n ≠ kb := by have := hk.lt; omega
  rw [← hH2] at hk2 hkp ⊢
  clear hH2
  generalize H.n = b8 at h8 hb8 hne ⊢
  have hl50 := hs.len
  have hmul : e * s.length ≤ 4096 * 50 := Nat.mul_le_mul (by omega) hl50
  have e1 : wr .i64 ((e : Int) * (s.length : Int)) = ((e * s.length : Nat) : Int) := by
    have : (e : Int) * (s.length : Int) = ((e * s.length : Nat) : Int) := by simp
    rw [this, wr64 (by omega) (by omega)]
  have e2 : wr .i64 (((e * s.length : Nat) : Int) + ((i + 1 : Nat) : Int)) = ((e * s.length + i + 1 : Nat) : Int) := by rw [wr64 (by omega) (by omega)]; omega
  have e3 : wr .i64 (((e * s.length + i + 1 : Nat) : Int) - 1) = ((e * s.length + i : Nat) : Int) := by rw [wr64 (by omega) (by omega)]; omega
  have e4 : wr .i64 (((i + 1 : Nat) : Int) - 1) = (i : Int) := by rw [wr64 (by omega) (by omega)]; omega
  have hlt : e * s.length + i < M := by
    rw [hM]
    have h1 : (e + 1) * s.length ≤ L.length * s.length := Nat.mul_le_mul_right _ he
    rw [Nat.succ_mul] at h1
    omega
  have hl0 : ldA false 1 H2 (.ptr b8 0) = some (.imm 6 (s.map encPt)) := by simp [h8, encSl]
  have hl : ldA true 1 H2 (.ptr b8 0) = some (.agg (encSl s)) := by simp [h8]
  have hix : ixaSl 1 (.sl kb 0 1 M cap) (I ((e * s.length + i : Nat) : Int)) = some (.ptr kb (e * s.length + i)) := by
    have a1 : ((e * s.length + i : Nat) : Int) < (M : Int) := by omega
    have a2 : (0 : Int) ≤ ((e * s.length + i : Nat) : Int) := by omega
    simp only [ixaSl, intA, a1, a2, decide_true, Bool.and_self, cond_true, Int.toNat_natCast, Nat.zero_add, Nat.mul_one]
  obtain ⟨p, hp⟩ := get_lt hi
  have hixp : ixaSl 6 (.imm 6 (s.map encPt)) (I (i : Int)) = some (.ip (encPt p)) := ix_map hp
  obtain ⟨ks, g1, g2, g3⟩ := hk2.get
  obtain ⟨v, hv, hv'⟩ := g3 e i he hi
  have hld : ldA false 1 H2 (.ptr kb (e * s.length + i)) = some (I v) := by
    rw [ld_ptr, g1, ldO_cells, drop_get hv, ldL_one]
  simp only [sh_ptr, Nat.zero_add, bnd_some, hl0, len_imm, List.length_map, b_mul, b_add, b_sub, e1, e2, e3, e4, hix, hld, b_eql, ifB_lit, decide_eq_true_eq]
  have K2 : ∀ H', Kn L s kb M H' → Kp kb H2 H' → K (Bo (frontB (AA L) L s i e)) H' := fun H' a b => hK H' a (hkp.trans b)
  have fin : ∀ (H3 : Hp) (w : Int), Kn L s kb M H3 → Kp kb H2 H3 → ldA false 1 H3 (.ptr kb (e * s.length + i)) = some (I w) → decide (w = 1) = frontB (AA L) L s i e →
      ref9_Tree_front.J0 σ K (.sl kb 0 1 M cap) (I ((e * s.length + i : Nat) : Int)) H3 := by
    intro H3 w a b c hw
    refine ref9_Tree_front.J0_step ?_
    simp only [hix, bnd_some, c, b_eql]
    rw [hw]
    exact K2 H3 a b
  have put2 : ∀ (H3 : Hp) (w : Int) (A : Hp → Prop), Kn L s kb M H3 → Kp kb H2 H3 → (w = 0 ∨ (w = 1 ∧ frontB (AA L) L s i e = true) ∨ (w = 2 ∧ frontB (AA L) L s i e = false)) →
      (∀ H4, Kn L s kb M H4 → Kp kb H2 H4 → ldA false 1 H4 (.ptr kb (e * s.length + i)) = some (I w) → A H4) → bnd (stA 1 H3 (.ptr kb (e * s.length + i)) (I w)) A := by
    intro H3 w A a b hw hA
    obtain ⟨H4, q1, q2, q3, q4⟩ := a.put he hi hw
    rw [q1, bnd_some]
    exact hA H4 q2 (b.trans q3) q4
  by_cases hv0 : v = 0
  · simp only [hv0, if_true]
    have hld5 : ldA true 5 H2 (.ip ((encPt p).drop 1)) = some (.agg (encCp p.c)) := by rw [encPt_eq]; simp
    simp only [hixp, bnd_some, sh_ip, hld5]
    have hpm := List.mem_of_getElem? hp
    refine callK_of (rcomp_ok hB hN he (hsm e he) (hs.c p hpm) (hs.q p hpm) hd (fun q hq hkd H => hA p hpm q hq hkd e H he) _) ?_
    simp only [ifB_lit]
    cases hcB : compB (AA L) L e p.c with
    | false =>
      have hf : frontB (AA L) L s i e = false := by
        cases i with
        | zero => simp only [frontB, hp]; exact hcB
        | succ i => simp only [frontB, hp, hcB, Bool.false_and]
      simp only [Bool.false_eq_true, if_false]
      refine put2 H2 2 _ hk2 (Kp.refl _ _) (.inr (.inr ⟨rfl, hf⟩)) fun H4 a b c => ?_
      exact fin H4 2 a b c (by rw [hf]; rfl)
    | true =>
      simp only [if_true]
      cases i with
      | zero =>
        have hf : frontB (AA L) L s 0 e = true := by simp only [frontB, hp]; exact hcB
        have : ((0 + 1 : Nat) : Int) = 1 := rfl
        simp only [this, if_true]
        have bad : ∀ (H3 : Hp) (w : Int) (A : Hp → Prop), Kn L s kb M H3 → Kp kb H2 H3 → (∀ H5 H6, stA 1 H3 (.ptr kb (e * s.length + 0)) (I 2) = some H5 → stA 1 H5 (.ptr kb (e * s.length + 0)) (I 1) = some H6 → Kn L s kb M H6 → Kp kb H2 H6 → ldA false 1 H6 (.ptr kb (e * s.length + 0)) = some (I 1) → A H6) →
            bnd (stA 1 H3 (.ptr kb (e * s.length + 0)) (I 2)) fun H5 => bnd (stA 1 H5 (.ptr kb (e * s.length + 0)) (I 1)) A := by
          intro H3 w A a b h
          obtain ⟨H5, H6, q1, q2, q3, q4, q5⟩ := a.put2 he hi (v := 1) (w := 2) (.inr (.inl ⟨rfl, hf⟩))
          rw [q1, bnd_some, q2, bnd_some]
          exact h H5 H6 q1 q2 q3 (b.trans q4) q5
        refine bad H2 1 _ hk2 (Kp.refl _ _) fun H5 H6 _ _ a b c => ?_
        exact fin H6 1 a b c (by rw [hf]; rfl)
      | succ i =>
        have hne1 : ¬ (((i + 1 + 1 : Nat) : Int) = 1) := by omega
        simp only [hne1, if_false, hl, bnd_some]
        refine hangs_sp hB hN (by omega) (ih i rfl) hp he hk2 fun H3 hk3 hp3 => ?_
        have hfr : frontB (AA L) L s (i + 1) e = aheadF (frontB (AA L) L s i) L p.comb (e + 1) e := by simp only [frontB, hp, hcB, Bool.true_and]
        rw [← hfr]
        simp only [ifB_lit]
        cases hf : frontB (AA L) L s (i + 1) e with
        | true =>
          obtain ⟨H5, H6, q1, q2, q3, q4, q5⟩ := hk3.put2 he hi (v := 1) (w := 2) (.inr (.inl ⟨rfl, hf⟩))
          rw [q1, bnd_some]
          simp only [if_true]
          rw [q2, bnd_some]
          exact fin H6 1 q3 (hp3.trans q4) q5 (by rw [hf]; rfl)
        | false =>
          refine put2 H3 2 _ hk3 hp3 (.inr (.inr ⟨rfl, hf⟩)) fun H4 a b c => ?_
          simp only [Bool.false_eq_true, if_false]
          exact fin H4 2 a b c (by rw [hf]; rfl)
  · simp only [hv0, if_false]
    refine fin H2 v hk2 (Kp.refl _ _) hld ?_
    rcases hv' with h | ⟨h, hf⟩ | ⟨h, hf⟩
    · exact absurd h hv0
    · rw [h, hf]; rfl
    · rw [h, hf]; rfl
theorem fr_ok (hB : Built L L.length d) (hN : L.length ≤ 4096) (hsm : ∀ e, e < L.length → SmN (lowN (ndAt L e))) (hs : RSl L s) (hd : dp ≤ 100) (hM : M = L.length * s.length) (hA : AnyR σ L d s dp) : ∀ (i : Nat), i < s.length → FrOk σ L d s dp kb M cap i := by
  intro i
  induction i with
  | zero => exact fun hi => fr_step hB hN hsm hs hd hM hA hi (fun j h => absurd h (by omega))
  | succ i ih =>
    intro hi
    refine fr_step hB hN hsm hs hd hM hA hi fun j h => ?_
    have : j = i := by omega
    subst this
    exact ih (by omega)
end
end Go.Proofs.Ythmaggcfghjmfaa.Ev

/- ref9: Selector, Compound, Any. -/
namespace Go.Proofs.Ythmaggcfghjmfaa.Ev
set_option linter.unusedVariables false
set_option linter.unusedSimpArgs false
variable {σ : Sig} {L : List Nd} {d : List Nat}

/-- What is asked of selectors where ref9 is asked. -/
def RsOk : Nat → List Sl → Prop
  | 0, _ => False
  | f + 1, l => l.length ≤ reachBytes ∧ ∀ s ∈ l, s.length ≤ 50 ∧ ∀ p ∈ s, RcOk p.c ∧ ∀ q ∈ p.c.pseudos, (i64 q.a ∧ i64 q.b) ∧ ((q.kind = 7 ∨ q.kind = 8) → RsOk f q.list)
def frB (L : List Nd) (s : Sl) (e : Nat) : Bool := !decide (s.length = 0) && frontB (AA L) L s (s.length - 1) e
theorem rsel_ok (hB : Built L L.length d) (hN : L.length ≤ 4096) (hsm : ∀ e, e < L.length → SmN (lowN (ndAt L e))) {s : Sl} (hs : RSl L s) {dp : Nat} (hd : dp ≤ 100) (hA : AnyR σ L d s dp) {e : Int} (H : Hp) :
    Good Try.prog σ n_ref9_Tree_selector [refT L d, I e, .agg (encSl s), I (dp : Int)] H (Bo (decide (0 ≤ e) && decide (e < L.length) && frB L s e.toNat)) H := by
  refine good_by (fun K hK => ref9_Tree_selector.run ?_) (by simp [noIds, noId, noId_refT, noId_Sl]) rfl H
  simp only [boxK_agg]
  refine callK_of (ris_ok L d e _) ?_
  simp only [u_not, bnd_some, ifB_lit]
  cases hin : (decide (0 ≤ e) && decide (e < L.length)) with
  | false => rw [hin] at hK; simpa using hK _
  | true =>
  rw [hin] at hK
  simp only [Bool.true_and] at hK
  simp only [Bool.and_eq_true, decide_eq_true_eq] at hin
  obtain ⟨en, rfl⟩ : ∃ en : Nat, e = (en : Int) := ⟨e.toNat, by omega⟩
  have he : en < L.length := by omega
  rw [Int.toNat_natCast] at hK
  obtain ⟨H2, hH2⟩ : ∃ H2, H2 = Hp.empty.new (.cells (encSl s) true) := ⟨_, rfl⟩
  have h1 : H2.get Hp.empty.n = some (.cells (encSl s) true) := by rw [hH2]; simp
  have hlt : Hp.empty.n < H2.n := by rw [hH2]; simp
  rw [← hH2]
  generalize Hp.empty.n = b1 at h1 hlt ⊢
  have hl0 : ldA false 1 H2 (.ptr b1 0) = some (.imm 6 (s.map encPt)) := by simp [h1, encSl]
  simp only [Bool.not_true, Bool.false_eq_true, if_false, sh_ptr, Nat.zero_add, bnd_some, hl0, len_imm, List.length_map, b_eql, ifB_lit, decide_eq_true_eq]
  split
  · rename_i h0
    have h0' : s.length = 0 := by omega
    have : frB L s en = false := by unfold frB; simp [h0']
    rw [this] at hK
    exact hK _
  rename_i h0
  have h0' : ¬ s.length = 0 := by omega
  have hl50 := hs.len
  have hmul : L.length * s.length ≤ 4096 * 50 := Nat.mul_le_mul hN hl50
  have e1 : wr .i64 ((L.length : Int) * (s.length : Int)) = ((L.length * s.length : Nat) : Int) := by
    have : (L.length : Int) * (s.length : Int) = ((L.length * s.length : Nat) : Int) := by simp
    rw [this, wr64 (by omega) (by omega)]
  obtain ⟨M, hM⟩ : ∃ M, M = L.length * s.length := ⟨_, rfl⟩
  rw [← hM] at e1 hmul
  have e3 : mkSlR [.int .i64 0] 1 8 H2 (I (M : Int)) (I (M : Int)) = some (.sl H2.n 0 1 M (some M), H2.new (.cells (zrow [.int .i64 0] (M * 1)) true)) := by
    have a : (0 : Int) ≤ M := by omega
    have b : M ≤ 9223372036854775807 := by omega
    have c : 8 * M ≤ 281474976710656 := by omega
    simp [mkSlR, intA, a, bleN, b, c]
  simp only [rnilp, rsh, rld, rlen, bnd_some, b_mul, e1, e3]
  have g1 : ldA true 1 (H2.new (.cells (zrow [.int .i64 0] (M * 1)) true)) (.ptr b1 0) = some (.agg (encSl s)) := by
    have : b1 ≠ H2.n := by omega
    simp [this, h1]
  have g0 : ldA false 1 (H2.new (.cells (zrow [.int .i64 0] (M * 1)) true)) (.ptr b1 0) = some (.imm 6 (s.map encPt)) := by
    have : b1 ≠ H2.n := by omega
    simp [this, h1, encSl]
  simp only [g1, g0, bnd_some, len_imm, List.length_map]
  have hkn : Kn L s H2.n M (H2.new (.cells (zrow [.int .i64 0] (M * 1)) true)) := by
    refine ⟨by simp, _, by simp; rfl, by simp [zrow], fun e k he hk => ⟨0, ?_, .inl rfl⟩⟩
    have h2 : (e + 1) * s.length ≤ L.length * s.length := Nat.mul_le_mul_right _ he
    rw [Nat.succ_mul] at h2
    have h3 : e * s.length + k < M := by omega
    unfold zrow
    rw [List.getElem?_map, List.getElem?_range (by omega)]
    simp [Nat.mod_one]
  have hn1 : (s.length : Int) = ((s.length - 1 + 1 : Nat) : Int) := by omega
  rw [hn1]
  refine fr_ok hB hN hsm hs hd hM hA (s.length - 1) (by omega) en _ _ he hkn fun H4 _ _ => ?_
  have : frB L s en = frontB (AA L) L s (s.length - 1) en := by unfold frB; simp [h0']
  rw [← this]
  exact hK _
section
attribute [local irreducible] ref9_Tree_any.L0
theorem rany_ok (hB : Built L L.length d) (hN : L.length ≤ 4096) (hsm : ∀ e, e < L.length → SmN (lowN (ndAt L e))) : ∀ (f : Nat) (l : List Sl) (dp : Nat), f ≤ 12 → RsOk f l → Nest f l → dp + f ≤ 100 →
    (∀ s ∈ l, RSl L s ∧ AnyR σ L d s dp) ∧ ∀ (e : Nat) (H : Hp), e < L.length → Good Try.prog σ n_ref9_Tree_any [refT L d, I (e : Int), sls l, I (dp : Int)] H (Bo (AA L l e)) H := by
  intro f
  induction f with
  | zero => intro l dp _ h; exact h.elim
  | succ f ih =>
    intro l dp hf hl hn hd
    have hb : ∀ s ∈ l, RSl L s ∧ AnyR σ L d s dp := by
      intro s hs
      have h1 := hl.2 s hs
      refine ⟨⟨h1.1, fun p hp => (h1.2 p hp).1, fun p hp q hq => ((h1.2 p hp).2 q hq).1⟩, fun p hp q hq hk e H he => ?_⟩
      exact (ih q.list (dp + 1) (by omega) (((h1.2 p hp).2 q hq).2 hk) (hn s hs p hp q hq) (by omega)).2 e H he
    refine ⟨hb, fun e H he => ?_⟩
    refine good_by (fun K hK => ref9_Tree_any.run ?_) (by simp [noIds, noId, noId_refT, noId_sls]) rfl H
    rw [← AA_eq hn hf] at hK
    have L0 : ∀ (k m : Nat) (H : Hp), l.length - m = k → m ≤ l.length → (∀ H, K (Bo ((l.drop m).any fun s => frB L s e)) H) → ref9_Tree_any.L0 σ K (refT L d) (I (e : Int)) (sls l) (I (dp : Int)) (I (m : Int)) H := by
      intro k
      induction k with
      | zero =>
        intro m H hk hm hK
        have : m = l.length := by omega
        subst this
        refine ref9_Tree_any.L0_step ?_
        simp
        simpa using hK H
      | succ k ihk =>
        intro m H hk hm hK
        have hlt : m < l.length := by omega
        obtain ⟨s, hs⟩ := get_lt hlt
        rw [drop_get hs, List.any_cons] at hK
        have hlt' : (m : Int) < l.length := by omega
        have hix : ixaSl 1 (sls l) (I (m : Int)) = some (.ip (encSl s)) := ix_map hs
        refine ref9_Tree_any.L0_step ?_
        simp only [len_sls, bnd_some, b_lss, hlt', decide_true, ifB_lit, if_true, hix, ld_ip, ldL_sl]
        have h1 := hb s (List.mem_of_getElem? hs)
        refine callK_of (rsel_ok hB hN hsm h1.1 (by omega) h1.2 _) ?_
        have i1 : (0 : Int) ≤ (e : Int) := by omega
        have i2 : (e : Int) < (L.length : Int) := by omega
        simp only [i1, i2, decide_true, Bool.and_self, Bool.true_and, Int.toNat_natCast]
        cases hb : frB L s e with
        | true => rw [hb] at hK; simpa using hK H
        | false =>
          rw [hb] at hK
          simp only [ifB_lit, Bool.false_eq_true, if_false, b_add, bnd_some]
          rw [wr_succL hlt hl.1 (by decide)]
          exact ihk (m + 1) H (by omega) (by omega) (by simpa using hK)
    exact L0 _ 0 _ rfl (Nat.zero_le _) hK
end
end Go.Proofs.Ythmaggcfghjmfaa.Ev

/- Freezing, reckoned: by a skeleton of how great the things are that slices hold. -/
namespace Go.Proofs.Ythmaggcfghjmfaa.Ev
set_option linter.unusedVariables false
set_option linter.unusedSimpArgs false

inductive Sk where
  | same
  | sl (sz : Nat) (row : List Sk)
  | agg (row : List Sk)

def frzRows (sz : Nat) (g : List AV → Option (List AV)) : Nat → List AV → Option (List (List AV))
  | 0, _ => some []
  | n + 1, l => match g (l.take sz) with
    | some r => match frzRows sz g n (l.drop sz) with
      | some rs => some (r :: rs)
      | none => none
    | none => none
mutual
def frzS (H : Hp) : Sk → AV → Option AV
  | .same, x => bif noId x then some x else none
  | .sl sz row, x => match x with
    | .lit (.slice none 0 0) => some (.imm sz [])
    | .emp => some (.imm sz [])
    | .se _ _ _ => some (.imm sz [])
    | .imm s rows => bif noId (.imm s rows) then some (.imm s rows) else none
    | .sl id off s len _ => bif Nat.beq s sz then match H.get id with
        | some (.cells cs _) => match frzRows sz (fun l => frzR H row l) len (cs.drop off) with
          | some rows => bif Nat.beq row.length sz then some (.imm sz rows) else none
          | none => none
        | _ => none
      else none
    | _ => none
  | .agg row, x => match x with
    | .agg xs => match frzR H row xs with
      | some ys => some (.agg ys)
      | none => none
    | _ => none
def frzR (H : Hp) : List Sk → List AV → Option (List AV)
  | [], xs => match xs with
    | [] => some []
    | _ => none
  | k :: ks, xs => match xs with
    | x :: xs => match frzS H k x with
      | some y => match frzR H ks xs with
        | some ys => some (y :: ys)
        | none => none
      | none => none
    | [] => none
end
theorem frzRows_ok {sz : Nat} {g : List AV → Option (List AV)} {H : Hp} (hg : ∀ l r, g l = some r → FzL H l r) : ∀ (n : Nat) (l : List AV) (rows : List (List AV)), frzRows sz g n l = some rows → rows.length = n ∧ ∀ (i : Nat) (row : List AV), rows[i]? = some row → FzL H ((l.drop (i * sz)).take sz) row
  | 0, l, rows, h => by
    simp only [frzRows, Option.some.injEq] at h
    subst h
    exact ⟨rfl, fun i row h => by simp at h⟩
  | n + 1, l, rows, h => by
    simp only [frzRows] at h
    split at h
    case h_2 => cases h
    rename_i r hr
    split at h
    case h_2 => cases h
    rename_i rs hrs
    simp only [Option.some.injEq] at h
    subst h
    obtain ⟨h1, h2⟩ := frzRows_ok hg n _ _ hrs
    refine ⟨by simp [h1], fun i row hi => ?_⟩
    cases i with
    | zero =>
      simp at hi
      subst hi
      simpa using hg _ _ hr
    | succ i =>
      simp at hi
      have := h2 i row hi
      rw [List.drop_drop] at this
      rw [Nat.succ_mul, Nat.add_comm]
      exact this
theorem FzL.len {H : Hp} {xs ys : List AV} (h : FzL H xs ys) : xs.length = ys.length := h.get.1
mutual
theorem frzS_ok {H : Hp} : ∀ (k : Sk) (x y : AV), frzS H k x = some y → Fz H x y
  | .same, x, y, h => by
    simp only [frzS] at h
    cases hn : noId x with
    | false => rw [hn] at h; cases h
    | true => rw [hn] at h; cases h; exact .refl hn
  | .sl sz row, x, y, h => by
    simp only [frzS] at h
    split at h
    · cases h; exact .nil
    · cases h; exact .emp
    · cases h; exact .se
    · rename_i s rows
      cases hn : noId (.imm s rows) with
      | false => rw [hn] at h; cases h
      | true => rw [hn] at h; cases h; exact .refl hn
    · rename_i id off s len cap
      cases hs : Nat.beq s sz with
      | false => rw [hs] at h; cases h
      | true =>
        rw [hs] at h
        have := Nat.eq_of_beq_eq_true hs
        subst this
        simp only [cond_true] at h
        split at h
        case h_2 => cases h
        rename_i cs ex hg
        split at h
        case h_2 => cases h
        rename_i rows hr
        cases hl : Nat.beq row.length s with
        | false => rw [hl] at h; cases h
        | true =>
          rw [hl] at h
          cases h
          have hlen := Nat.eq_of_beq_eq_true hl
          obtain ⟨h1, h2⟩ := frzRows_ok (fun l r hh => frzR_ok row l r hh) _ _ _ hr
          have hrow : ∀ (i : Nat) (r : List AV), rows[i]? = some r → r.length = s := by
            intro i r hi
            obtain ⟨_, hh⟩ := frzRows_ok (g := fun l => frzR H row l) (fun l r hh => frzR_ok row l r hh) _ _ _ hr
            exact frzRows_len (fun l r hh => by rw [← hlen]; exact frzR_len row l r hh) _ _ _ hr i r hi
          refine .sl (fun i j => cs.getD (off + (i * s + j)) .any) hg h1 hrow (fun i r j y hi hy => ?_) (fun i r j y hi hy => ?_)
          · obtain ⟨x, hx, _⟩ := (h2 i r hi).get.2 j y hy
            have hj : j < s := by rw [← hrow i r hi]; exact (List.getElem?_eq_some_iff.1 hy).1
            rw [List.getElem?_take, if_pos hj, List.getElem?_drop, List.getElem?_drop] at hx
            simp [hx]
          · obtain ⟨x, hx, hf⟩ := (h2 i r hi).get.2 j y hy
            have hj : j < s := by rw [← hrow i r hi]; exact (List.getElem?_eq_some_iff.1 hy).1
            rw [List.getElem?_take, if_pos hj, List.getElem?_drop, List.getElem?_drop] at hx
            simp [hx]
            exact hf
    · cases h
  | .agg row, x, y, h => by
    simp only [frzS] at h
    split at h
    case h_2 => cases h
    split at h
    case h_2 => cases h
    rename_i hr
    cases h
    exact Fz.aggL (frzR_ok row _ _ hr)
theorem frzR_ok {H : Hp} : ∀ (ks : List Sk) (xs ys : List AV), frzR H ks xs = some ys → FzL H xs ys
  | [], xs, ys, h => by
    simp only [frzR] at h
    split at h
    · cases h; exact .nil
    · cases h
  | k :: ks, xs, ys, h => by
    simp only [frzR] at h
    split at h
    case h_2 => cases h
    rename_i x xs
    split at h
    case h_2 => cases h
    rename_i y hy
    split at h
    case h_2 => cases h
    rename_i zs hz
    cases h
    exact .cons (frzS_ok k x y hy) (frzR_ok ks xs zs hz)
theorem frzR_len {H : Hp} : ∀ (ks : List Sk) (xs ys : List AV), frzR H ks xs = some ys → ys.length = ks.length
  | [], xs, ys, h => by
    simp only [frzR] at h
    split at h
    · cases h; rfl
    · cases h
  | k :: ks, xs, ys, h => by
    simp only [frzR] at h
    split at h
    case h_2 => cases h
    split at h
    case h_2 => cases h
    split at h
    case h_2 => cases h
    rename_i zs hz
    cases h
    simp [frzR_len ks _ _ hz]
theorem frzRows_len {sz : Nat} {g : List AV → Option (List AV)} (hg : ∀ l r, g l = some r → r.length = sz) : ∀ (n : Nat) (l : List AV) (rows : List (List AV)), frzRows sz g n l = some rows → ∀ (i : Nat) (r : List AV), rows[i]? = some r → r.length = sz
  | 0, l, rows, h, i, r, hi => by
    simp only [frzRows, Option.some.injEq] at h
    subst h
    simp at hi
  | n + 1, l, rows, h, i, r, hi => by
    simp only [frzRows] at h
    split at h
    case h_2 => cases h
    rename_i r0 hr0
    split at h
    case h_2 => cases h
    rename_i rs hrs
    cases h
    cases i with
    | zero => simp at hi; subst hi; exact hg _ _ hr0
    | succ i => exact frzRows_len hg n _ _ hrs i r (by simpa using hi)
end
/-! ### of package api's types -/
def skStrs : Sk := .sl 1 [.same]
def skAts : Sk := .sl 3 [.same, .same, .same]
def skPrs : Sk := .sl 2 [.same, .same]
def skNd : List Sk := [.same, .same, .same, skStrs, skPrs]
def skNds : Sk := .sl 5 skNd
def skCp (pss : Sk) : List Sk := [.same, skStrs, skStrs, skAts, pss]
def skPss : Nat → Sk
  | 0 => .same
  | n + 1 => .sl 4 [.same, .same, .same, .sl 1 [.sl 6 (.same :: skCp (skPss n))]]
def skC (n : Nat) : Sk := .agg (skCp (skPss n))
def skPts (n : Nat) : Sk := .sl 6 (.same :: skCp (skPss n))
def skS (n : Nat) : Sk := .agg [skPts n]
def skSls (n : Nat) : Sk := .sl 1 [skPts n]
end Go.Proofs.Ythmaggcfghjmfaa.Ev
namespace Go.Proofs.Ythmaggcfghjmfaa.Ev
theorem Good.conv {P : Program} {σ : Sig} {f : Nat} {xs ys : List AV} {r : AV} {H H2 H3 : Hp} (k : Wk σ ys H xs H2) (h : Good P σ f xs H2 r H3) : Good P σ f ys H r H3 := by
  refine ⟨h.1, fun B w0 E w vs hσ hst hxs => ?_⟩
  obtain ⟨E2, h1, h2, h3⟩ := k hσ hst hxs
  refine (h.2 B w0 E2 w vs hσ h2 h3).mono fun e w' hh => ?_
  obtain ⟨E', v, rfl, hext, st2, hrel⟩ := hh
  exact ⟨E', v, rfl, h1.trans hext, st2, hrel⟩
/-- No blocks. -/
def Hp.bare (n : Nat) : Hp := ⟨n, .leaf⟩
@[simp] theorem Hp.bare_n (n : Nat) : (Hp.bare n).n = n := rfl
@[simp] theorem Hp.bare_get (n j : Nat) : (Hp.bare n).get j = none := by simp [Hp.bare, Hp.get, Tr.get]
theorem FzL.t {H : Hp} {xs ys : List AV} (h : FzL H xs ys) : FzT H xs ys := by
  induction h with
  | nil => exact .nil
  | cons h hs ih => exact .fz h ih
/-- What is handed is never written again, and no block is needed any more. -/
theorem Good.drop {P : Program} {σ : Sig} {f : Nat} {xs ys : List AV} {r : AV} {H : Hp} (h : ∀ H, Good P σ f xs H r H) (hx : FzL H ys xs) : Good P σ f ys H r (Hp.bare H.n) :=
  Good.conv (Wk.frz (H2 := Hp.bare H.n) (Hd := H) rfl rfl (fun id k hk => ⟨hk, by simp⟩) (fun id k2 hk => by simp at hk) hx.t) (h _)
theorem bnd_of {α : Type} {o : Option α} {x : α} {K : α → Prop} (h : o = some x) (k : K x) : bnd o K := by rw [h]; exact k
end Go.Proofs.Ythmaggcfghjmfaa.Ev

/- strings.Contains, by the kit's contract; its table is printed by gen_hasc.py. -/
namespace Go.Proofs.Ythmaggcfghjmfaa.Ev
open Go.Shelf Go.Proofs
def laysM144_ren : Ren :=
{
  f := fun x =>
    match x with
    | 144 => 124
    | 143 => 128
    | 219 => 131
    | 217 => 132
    | 225 => 133
    | 224 => 134
    | 267 => 135
    | 266 => 136
    | 314 => 137
    | n => n,
  t := fun x =>
    match x with
    | 9 => 9
    | 4 => 4
    | 3 => 3
    | 5 => 5
    | 46 => 142
    | 146 => 163
    | 51 => 162
    | n => n,
  g := fun x =>
    match x with
    | 1 => 0
    | n => n }
theorem laysM144 : LaysM.n144 Try.prog laysM144_ren :=
{ mixed := by kernel_rfl, f143 := Eq.trans Try.func128 (congrArg some (Eq.refl (Body.n143 laysM144_ren))),
  f144 := Eq.trans Try.func124 (congrArg some (Eq.refl (Body.n144 laysM144_ren))),
  f217 := Eq.trans Try.func132 (congrArg some (Eq.refl (Body.n217 laysM144_ren))),
  f219 := Eq.trans Try.func131 (congrArg some (Eq.refl (Body.n219 laysM144_ren))),
  f224 := Eq.trans Try.func134 (congrArg some (Eq.refl (Body.n224 laysM144_ren))),
  f225 := Eq.trans Try.func133 (congrArg some (Eq.refl (Body.n225 laysM144_ren))),
  f266 := Eq.trans Try.func136 (congrArg some (Eq.refl (Body.n266 laysM144_ren))),
  f267 := Eq.trans Try.func135 (congrArg some (Eq.refl (Body.n267 laysM144_ren))),
  f314 := Eq.trans Try.func137 (congrArg some (Eq.refl (Body.n314 laysM144_ren))), t3 := Try.underlying3,
  a3 := Try.isAgg3, z3 := Try.sizeOf3, v3 := Try.zeroValue3, t4 := Try.underlying4, a4 := Try.isAgg4, z4 := Try.sizeOf4,
  v4 := Try.zeroValue4, t5 := Try.underlying5, a5 := Try.isAgg5, z5 := Try.sizeOf5, v5 := Try.zeroValue5,
  t9 := Try.underlying9, a9 := Try.isAgg9, z9 := Try.sizeOf9, v9 := Try.zeroValue9, t46 := Try.underlying142,
  a46 := Try.isAgg142, z46 := Try.sizeOf142, v46 := Try.zeroValue142, t51 := Try.underlying162, a51 := Try.isAgg162,
  z51 := Try.sizeOf162, v51 := Try.zeroValue162, t146 := Try.underlying163, a146 := Try.isAgg163, z146 := Try.sizeOf163,
  v146 := Try.zeroValue163, g1 := by kernel_rfl,
  i3 := by kernel_rfl, i4 := by kernel_rfl,
  i5 := by kernel_rfl,
  i9 := by kernel_rfl,
  i46 := by kernel_rfl,
  i51 := by kernel_rfl,
  i146 := by kernel_rfl,
  m1 := by kernel_rfl,
  s1_3 := fun w h => Go.Proofs.cell_of_shapedOpen_int h (zero := #[Go.Value.int Go.IntKind.i64 0]) (t := 3) (of_decide_eq_true (by kernel_rfl)) (by kernel_rfl) rfl (by kernel_rfl) (by kernel_rfl) Try.underlying3 }
/-- Where internal/bytealg.MaxLen stands. -/
def gMax : Nat := laysM144_ren.g 1
theorem hasC {σ : Sig} (hg : σ.g = some gMax) : HasC σ := by
  intro s t H hs
  refine ⟨⟨_, Try.func124, by kernel_rfl, by kernel_rfl⟩, fun B w0 E w vs hσ hst hx => ?_⟩
  obtain ⟨_, m, hm⟩ := hst.glNow gMax (by rw [hσ]; exact hg)
  have hl := hx.len
  obtain ⟨v0, v1, rfl⟩ : ∃ v0 v1, vs = #[v0, v1] := by
    obtain ⟨l⟩ := vs
    match l, hl with
    | [a, b], _ => exact ⟨a, b, rfl⟩
  have r0 := hx.at_ 0 _ v0 rfl (by simp)
  have r1 := hx.at_ 1 _ v1 rfl (by simp)
  cases r0
  cases r1
  refine (Any.strings_Contains (ρ := laysM144_ren) { laysM144 with } s t m w hs hm).mono fun e w' he => ?_
  obtain ⟨rfl, rfl⟩ := he
  exact ⟨E, _, rfl, .refl E, hst, .lit _⟩
theorem gMax_ok (W : World) (h : W.ShapedOpen Try.prog) {σ : Sig} (hg : σ.g = some gMax) : ∀ g, σ.g = some g → ∃ m : Int, W.cell? ⟨g, 0, none⟩ = some (.int .i64 m) := by
  intro g hg'
  rw [hg] at hg'
  cases hg'
  exact laysM144.s1_3 W h
end Go.Proofs.Ythmaggcfghjmfaa.Ev

/- alive of law10. -/
namespace Go.Proofs.Ythmaggcfghjmfaa.Ev
set_option linter.unusedVariables false
set_option linter.unusedSimpArgs false
set_option maxRecDepth 100000
variable {σ : Sig}

def alL : List Nd := [⟨-1, emp, emp, [], []⟩, ⟨0, emp, emp, [], []⟩, ⟨0, emp, emp, [], []⟩, ⟨0, emp, emp, [], []⟩]
def alS : Sl := [⟨0, .mk emp [] [] [] [.mk 6 2 1 []]⟩]
theorem alB : Built alL alL.length [0, 1, 1, 1] := by
  have h1 : Built alL 1 [0] := Built.first (by decide) rfl
  have h2 : Built alL 2 [0, 1] := h1.next (p := 0) (x := 0) (by decide) (by decide) rfl (by decide) rfl (by decide)
  have h3 : Built alL 3 [0, 1, 1] := h2.next (p := 0) (x := 0) (by decide) (by decide) rfl (by decide) rfl (by decide)
  exact h3.next (p := 0) (x := 0) (by decide) (by decide) rfl (by decide) rfl (by decide)
theorem lowB_emp : lowB emp = emp := by first | rfl | kernel_rfl
theorem alW : ∀ n ∈ alL, NdWf n := by
  intro n hn
  simp only [alL, List.mem_cons, List.not_mem_nil, or_false] at hn
  rcases hn with rfl | rfl | rfl | rfl <;> exact ⟨by unfold i64; decide, by decide, by decide, by decide, by intro p hp; cases hp⟩
theorem alSm : ∀ e, e < alL.length → SmN (lowN (ndAt alL e)) := by
  intro e he
  have : e = 0 ∨ e = 1 ∨ e = 2 ∨ e = 3 := by simp [alL] at he; omega
  rcases this with rfl | rfl | rfl | rfl <;> exact ⟨by decide, by decide, by intro p hp; cases hp⟩
theorem alM (hC : HasC σ) : McT σ alL [0, 1, 1, 1] := ⟨hC, alB, by decide, alSm⟩
theorem alSO : SelOk 2 [alS] := by
  refine ⟨⟨by decide, fun s hs => ?_⟩, ⟨by decide, fun s hs => ?_⟩, fun s hs p hp q hq => ?_, by decide, by decide⟩
  · rw [List.mem_singleton.1 hs]
    refine ⟨by decide, fun p hp => ?_⟩
    rw [List.mem_singleton.1 hp, Pt.wf_iff]
    refine ⟨by unfold i64; decide, by decide, ⟨by decide, fun s h => by cases h⟩, ⟨by decide, fun s h => by cases h⟩, by decide, (fun s h => by cases h), by decide, fun q hq => ?_⟩
    rw [List.mem_singleton.1 hq, Ps.wf_iff]
    exact ⟨by unfold i64; decide, by unfold i64; decide, by unfold i64; decide, by decide, fun s h => by cases h⟩
  · rw [List.mem_singleton.1 hs]
    refine ⟨by decide, fun p hp => ?_⟩
    rw [List.mem_singleton.1 hp]
    refine ⟨⟨by decide, by decide, by decide, (fun s h => by cases h), by decide⟩, by decide, fun q hq => ?_⟩
    rw [List.mem_singleton.1 hq]
    exact ⟨⟨by unfold i64; decide, by unfold i64; decide⟩, by decide, fun s h => by cases h⟩
  · rw [List.mem_singleton.1 hs] at hp
    rw [List.mem_singleton.1 hp] at hq
    rw [List.mem_singleton.1 hq]
    exact fun s h => by cases h
theorem al1 : selB alL 2 alS 1 = true := by kernel_rfl
theorem al2 : selB alL 2 alS 2 = false := by kernel_rfl
theorem al3 : selB alL 2 alS 3 = true := by kernel_rfl
theorem alive10 (hC : HasC σ) (H : Hp) : Good Try.prog σ n_law10_alive [] H (Bo true) H := by
  refine good_by (fun K hK => law10_alive.run ?_) rfl rfl H
  iterate 5 refine bnd_of rfl ?_
  refine callK_of (Good.drop (fun H => domNew_ok alB alW (by decide) H) (.cons (frzS_ok skNds _ _ (by kernel_rfl)) .nil)) ?_
  simp only [x_tup, List.getElem?_cons_zero, List.getElem?_cons_succ, bnd_some]
  iterate 6 refine bnd_of rfl ?_
  simp only [allocK_eq]
  refine bnd_of rfl ?_
  refine bnd_of rfl ?_
  refine callK_of ((Sel_ok (alM hC) alSO 1 Hp.empty).frzA (.cons (.refl (noId_domT _ _)) (.cons (.refl rfl) (.cons (frzS_ok (skS 1) _ _ (by kernel_rfl)) .nil))) rfl) ?_
  simp only [al1, ifB_lit, if_true]
  refine bnd_of rfl ?_
  refine callK_of ((Sel_ok (alM hC) alSO 2 Hp.empty).frzA (.cons (.refl (noId_domT _ _)) (.cons (.refl rfl) (.cons (frzS_ok (skS 1) _ _ (by kernel_rfl)) .nil))) rfl) ?_
  simp only [al2, u_not, bnd_some, ifB_lit, if_true, Bool.not_false]
  refine bnd_of rfl ?_
  refine callK_of ((Sel_ok (alM hC) alSO 3 Hp.empty).frzA (.cons (.refl (noId_domT _ _)) (.cons (.refl rfl) (.cons (frzS_ok (skS 1) _ _ (by kernel_rfl)) .nil))) rfl) ?_
  rw [al3]
  exact hK _
end Go.Proofs.Ythmaggcfghjmfaa.Ev

/- law9.Big, law10.trees. -/
namespace Go.Proofs.Ythmaggcfghjmfaa.Ev
set_option linter.unusedVariables false
set_option linter.unusedSimpArgs false
variable {σ : Sig}

def bigS (s : ByteArray) : Bool := decide (60 < (s.data.size : Int))
def bigP (p : ByteArray × ByteArray) : Bool := bigS p.1 || decide (100 < (p.2.data.size : Int))
def bigN (n : Nd) : Bool := decide (8 < (n.classes.length : Int)) || (decide (8 < (n.attrs.length : Int)) || (bigS n.tag || (bigS n.id || (n.classes.any bigS || n.attrs.any bigP))))
def bigT (L : List Nd) : Bool := if 40 < L.length then (if L.length ≤ 4096 then true else decide (4100 < L.length)) else decide (4100 < L.length)
def bigR (L : List Nd) (m : Nat) : Bool := ((L.drop m).take (100 - m)).any bigN || bigT L
/-- What Big lets in. -/
structure NdSm (n : Nd) : Prop where
  classes : n.classes.length ≤ 8
  attrs : n.attrs.length ≤ 8
  tag : n.tag.data.size ≤ 60
  id : n.id.data.size ≤ 60
  cl : ∀ s ∈ n.classes, s.data.size ≤ 60
  at' : ∀ p ∈ n.attrs, p.1.data.size ≤ 60 ∧ p.2.data.size ≤ 100
theorem NdSm.of {n : Nd} (h : bigN n = false) : NdSm n := by
  unfold bigN bigP bigS at h
  simp only [Bool.or_eq_false_iff, decide_eq_false_iff_not, List.any_eq_false, Bool.or_eq_true, decide_eq_true_eq, not_or] at h
  obtain ⟨h1, h2, h3, h4, h5, h6⟩ := h
  exact ⟨by omega, by omega, by omega, by omega, fun s hs => by have := h5 s hs; omega, fun p hp => by have := h6 p hp; omega⟩
theorem bigR_step {L : List Nd} {m : Nat} {n : Nd} (h : L[m]? = some n) (hm : m < 100) : bigR L m = (bigN n || bigR L (m + 1)) := by
  unfold bigR
  obtain ⟨j, hj⟩ : ∃ j, 100 - m = j + 1 := ⟨99 - m, by omega⟩
  rw [drop_get h, hj, List.take_succ_cons, List.any_cons, Bool.or_assoc, show 100 - (m + 1) = j by omega]
section
attribute [local irreducible] law9_Big.L0 law9_Big.L1 law9_Big.L2
theorem big_L2 {L : List Nd} {m : Nat} {n : Nd} (hn : L[m]? = some n) (hm : m < 100) {K : AV → Hp → Prop} {y4 : AV} (hl : n.attrs.length ≤ 8)
    (h0 : ∀ H y4 y5, (∀ H, K (Bo (bigR L (m + 1))) H) → law9_Big.L0 σ K (nds L) (I ((m + 1 : Nat) : Int)) y4 y5 H) : ∀ (f k : Nat) (H : Hp), n.attrs.length - k = f → k ≤ n.attrs.length → (∀ H, K (Bo ((n.attrs.drop k).any bigP || bigR L (m + 1))) H) →
    law9_Big.L2 σ K (nds L) (I (m : Int)) y4 (I (k : Int)) H := by
  have hix : ixaSl 5 (nds L) (I (m : Int)) = some (.ip (encNd n)) := ix_map hn
  intro f
  induction f with
  | zero =>
    intro k H hf hk hK
    have : k = n.attrs.length := by omega
    subst this
    refine law9_Big.L2_step ?_
    have hw : wr .i64 ((m : Int) + 1) = ((m + 1 : Nat) : Int) := wr_succ (by omega)
    simp only [hix, bnd_some, sh_ip, ld_ip, f_encNd4, len_imm, List.length_map, b_lss, Int.lt_irrefl, decide_false, ifB_lit, Bool.false_eq_true, if_false, b_add, hw]
    refine h0 _ _ _ ?_
    simpa using hK
  | succ f ih =>
    intro k H hf hk hK
    have hlt : k < n.attrs.length := by omega
    obtain ⟨p, hp⟩ := get_lt hlt
    rw [drop_get hp, List.any_cons] at hK
    have hlt' : (k : Int) < n.attrs.length := by omega
    have hixp : ixaSl 2 (.imm 2 (n.attrs.map encPr)) (I (k : Int)) = some (.ip (encPr p)) := ix_map hp
    have hw : wr .i64 ((k : Int) + 1) = ((k + 1 : Nat) : Int) := wr_succ (by omega)
    refine law9_Big.L2_step ?_
    simp only [hix, bnd_some, sh_ip, ld_ip, f_encNd4, len_imm, List.length_map, b_lss, hlt', decide_true, ifB_lit, if_true, hixp, List.drop_zero, f_encPr0, f_encPr1', len_str, b_gtr, decide_eq_true_eq, b_add, hw]
    split
    · rename_i h
      have : bigP p = true := by unfold bigP bigS; rw [decide_eq_true h, Bool.true_or]
      rw [this] at hK
      simpa using hK H
    rename_i h1
    split
    · rename_i h
      have : bigP p = true := by unfold bigP; rw [decide_eq_true h, Bool.or_true]
      rw [this] at hK
      simpa using hK H
    · rename_i h
      have : bigP p = false := by unfold bigP bigS; rw [decide_eq_false h, decide_eq_false h1]; rfl
      rw [this] at hK
      exact ih (k + 1) H (by omega) (by omega) (by simpa using hK)
theorem big_L1 {L : List Nd} {m : Nat} {n : Nd} (hn : L[m]? = some n) (hm : m < 100) {K : AV → Hp → Prop} {y5 : AV} (hl : n.attrs.length ≤ 8) (hl2 : n.classes.length ≤ 8)
    (h0 : ∀ H y4 y5, (∀ H, K (Bo (bigR L (m + 1))) H) → law9_Big.L0 σ K (nds L) (I ((m + 1 : Nat) : Int)) y4 y5 H) : ∀ (f k : Nat) (H : Hp), n.classes.length - k = f → k ≤ n.classes.length → (∀ H, K (Bo ((n.classes.drop k).any bigS || (n.attrs.any bigP || bigR L (m + 1)))) H) →
    law9_Big.L1 σ K (nds L) (I (m : Int)) (I (k : Int)) y5 H := by
  have hix : ixaSl 5 (nds L) (I (m : Int)) = some (.ip (encNd n)) := ix_map hn
  intro f
  induction f with
  | zero =>
    intro k H hf hk hK
    have : k = n.classes.length := by omega
    subst this
    refine law9_Big.L1_step ?_
    simp only [hix, bnd_some, sh_ip, ld_ip, f_encNd3, len_strs, b_lss, Int.lt_irrefl, decide_false, ifB_lit, Bool.false_eq_true, if_false]
    exact big_L2 hn hm hl h0 _ 0 H rfl (Nat.zero_le _) (by simpa using hK)
  | succ f ih =>
    intro k H hf hk hK
    have hlt : k < n.classes.length := by omega
    obtain ⟨p, hp⟩ := get_lt hlt
    rw [drop_get hp, List.any_cons] at hK
    have hlt' : (k : Int) < n.classes.length := by omega
    have hixp : ixaSl 1 (strs n.classes) (I (k : Int)) = some (.ip [Sx p]) := ix_map hp
    have lx : ∀ H, ldA false 1 H (.ip [Sx p]) = some (Sx p) := fun _ => rfl
    have hw : wr .i64 ((k : Int) + 1) = ((k + 1 : Nat) : Int) := wr_succ (by omega)
    refine law9_Big.L1_step ?_
    simp only [hix, bnd_some, sh_ip, ld_ip, f_encNd3, len_strs, b_lss, hlt', decide_true, ifB_lit, if_true, hixp, ldL_one, len_str, b_gtr, decide_eq_true_eq, b_add, hw]
    split
    · rename_i h
      have : bigS p = true := decide_eq_true h
      rw [this] at hK
      simpa using hK H
    · rename_i h
      have : bigS p = false := decide_eq_false h
      rw [this] at hK
      exact ih (k + 1) H (by omega) (by omega) (by simpa using hK)
theorem big_end {L : List Nd} {K : AV → Hp → Prop} {H : Hp} (hK : ∀ H, K (Bo (bigT L)) H) : bnd (lenSl (nds L)) fun x24 => bnd (binR .gtr x24 (I 40)) fun x25 => ifB x25 (bnd (lenSl (nds L)) fun x26 => bnd (binR .leq x26 (I 4096)) fun x27 => ifB x27 (K (Bo true) H) (bnd (lenSl (nds L)) fun x28 => bnd (binR .gtr x28 (I 4100)) fun x29 => K x29 H)) (bnd (lenSl (nds L)) fun x30 => bnd (binR .gtr x30 (I 4100)) fun x31 => K x31 H) := by
  simp only [len_nds, bnd_some, b_gtr, b_leq, ifB_lit, decide_eq_true_eq]
  have e : decide ((4100 : Int) < (L.length : Int)) = decide (4100 < L.length) := by rw [decide_eq_decide]; omega
  rw [e]
  unfold bigT at hK
  by_cases h1 : 40 < L.length
  · have h1' : (40 : Int) < (L.length : Int) := by omega
    rw [if_pos h1] at hK
    rw [if_pos h1']
    by_cases h2 : L.length ≤ 4096
    · have h2' : (L.length : Int) ≤ 4096 := by omega
      rw [if_pos h2] at hK
      rw [if_pos h2']
      exact hK H
    · have h2' : ¬ (L.length : Int) ≤ 4096 := by omega
      rw [if_neg h2] at hK
      rw [if_neg h2']
      exact hK H
  · have h1' : ¬ (40 : Int) < (L.length : Int) := by omega
    rw [if_neg h1] at hK
    rw [if_neg h1']
    exact hK H
theorem Big_ok (L : List Nd) (H : Hp) : Good Try.prog σ n_law9_Big [nds L] H (Bo (bigR L 0)) H := by
  refine good_by (fun K hK => law9_Big.run ?_) (by simp [noIds, noId]) rfl H
  have L0 : ∀ (f m : Nat) (H : Hp) (y4 y5 : AV), 100 - m = f → m ≤ L.length → m ≤ 100 → (∀ H, K (Bo (bigR L m)) H) → law9_Big.L0 σ K (nds L) (I (m : Int)) y4 y5 H := by
    intro f
    induction f with
    | zero =>
      intro m H y4 y5 hf hm hm2 hK
      obtain rfl : m = 100 := by omega
      have hK : ∀ H, K (Bo (bigT L)) H := by simpa [bigR] using hK
      refine law9_Big.L0_step ?_
      have e0 : ¬ (((100 : Nat) : Int) < 100) := by decide
      by_cases h : ((100 : Nat) : Int) < L.length
      · simp only [len_nds, bnd_some, b_lss, h, decide_true, ifB_lit, if_true, e0, decide_false, Bool.false_eq_true, if_false]
        have hE := big_end (H := H) hK
        simp only [len_nds, bnd_some, b_gtr, b_leq] at hE ⊢
        exact hE
      · simp only [len_nds, bnd_some, b_lss, h, decide_false, ifB_lit, Bool.false_eq_true, if_false]
        have hE := big_end (H := H) hK
        simp only [len_nds, bnd_some, b_gtr, b_leq] at hE ⊢
        exact hE
    | succ f ih =>
      intro m H y4 y5 hf hm hm2 hK
      refine law9_Big.L0_step ?_
      have e0 : ((m : Nat) : Int) < 100 := by omega
      by_cases h : m < L.length
      · have h' : (m : Int) < L.length := by omega
        obtain ⟨n, hn⟩ := get_lt h
        rw [bigR_step hn (by omega)] at hK
        have hix : ixaSl 5 (nds L) (I (m : Int)) = some (.ip (encNd n)) := ix_map hn
        simp only [len_nds, bnd_some, b_lss, h', decide_true, ifB_lit, if_true, e0, hix, sh_ip, ld_ip, f_encNd3, f_encNd4, f_encNd1', f_encNd2, len_strs, len_imm, List.length_map, len_str, b_gtr, decide_eq_true_eq]
        unfold bigN at hK
        split
        · rename_i h1; simp only [h1, decide_true, Bool.true_or] at hK; exact hK H
        rename_i h1
        split
        · rename_i h2; simp only [h2, decide_true, Bool.true_or, Bool.or_true] at hK; exact hK H
        rename_i h2
        split
        · rename_i h3
          have : bigS n.tag = true := decide_eq_true h3
          simp only [this, Bool.true_or, Bool.or_true] at hK; exact hK H
        rename_i h3
        split
        · rename_i h4
          have : bigS n.id = true := decide_eq_true h4
          simp only [this, Bool.true_or, Bool.or_true] at hK; exact hK H
        rename_i h4
        have t3 : bigS n.tag = false := decide_eq_false h3
        have t4 : bigS n.id = false := decide_eq_false h4
        simp only [h1, h2, t3, t4, decide_false, Bool.false_or, Bool.or_assoc] at hK
        exact big_L1 hn (by omega) (by omega) (by omega) (fun H y4 y5 hK' => ih (m + 1) H y4 y5 (by omega) (by omega) (by omega) hK') _ 0 H rfl (Nat.zero_le _) (by simpa using hK)
      · have h' : ¬ (m : Int) < L.length := by omega
        have : m = L.length := by omega
        subst this
        have hK : ∀ H, K (Bo (bigT L)) H := by simpa [bigR] using hK
        simp only [len_nds, bnd_some, b_lss, h', decide_false, ifB_lit, Bool.false_eq_true, if_false]
        have hE := big_end (H := H) hK
        simp only [len_nds, bnd_some, b_gtr, b_leq] at hE ⊢
        exact hE
  exact L0 _ 0 _ _ _ rfl (Nat.zero_le _) (by decide) hK
end
/-- As good_by, where the result may hold memory that is never written. -/
theorem good_byI {P : Program} {σ : Sig} {f : Nat} {xs : List AV} {r : AV} (h : ∀ K : AV → Hp → Prop, (∀ H, K r H) → ∃ r' H1, Good P σ f xs Hp.empty r' H1 ∧ K r' H1) (hx : noIds xs = true) (hr : noId r = true) (H : Hp) : Good P σ f xs H r H := by
  obtain ⟨r', H1, hg, e⟩ := h (fun r' _ => r' = r) (fun _ => rfl)
  subst e
  exact hg.frzR hx (.refl hr) H
/-- Trees that laws ask about. -/
structure TreeOk (L : List Nd) (d : List Nat) : Prop where
  len : L.length ≤ 40
  hB : Built L L.length d
  sm : ∀ n ∈ L, NdSm n
theorem trees_ok (L : List Nd) (hW : ∀ n ∈ L, NdWf n) : (∀ H, Good Try.prog σ n_law10_trees [nds L] H (.tup [.lit (.pointer none), .lit (.pointer none), Bo false]) H) ∨
    (∃ d, TreeOk L d ∧ ∀ H, Good Try.prog σ n_law10_trees [nds L] H (.tup [domT L d, refT L d, Bo true]) H) := by
  rcases refNew_ok (σ := σ) L hW with ⟨_, e, he, hg⟩ | ⟨d, hN, hB, hg⟩
  · refine .inl fun H => good_by (fun K hK => law10_trees.run (callK_of (Big_ok L _) (callK_of (hg _) ?_))) (by simp [noIds, noId]) rfl H
    simp only [x_tup, List.getElem?_cons_zero, List.getElem?_cons_succ, bnd_some, ifB_lit, b_neq, he, decide_false, Bool.not_false, if_true]
    cases bigR L 0 <;> simp only [Bool.false_eq_true, if_true, if_false] <;> exact hK _
  · cases hb : bigR L 0 with
    | true =>
      refine .inl fun H => good_by (fun K hK => law10_trees.run (callK_of (Big_ok L _) (callK_of (hg _) ?_))) (by simp [noIds, noId]) rfl H
      simp only [x_tup, List.getElem?_cons_zero, List.getElem?_cons_succ, bnd_some, hb, ifB_lit, if_true]
      exact hK _
    | false =>
      have hT : TreeOk L d := by
        unfold bigR bigT at hb
        simp only [Bool.or_eq_false_iff, List.drop_zero] at hb
        have hl : L.length ≤ 40 := by
          have h2 := hb.2
          by_cases h : 40 < L.length
          · rw [if_pos h, if_pos hN] at h2; cases h2
          · omega
        refine ⟨hl, hB, fun n hn => NdSm.of ?_⟩
        have := List.any_eq_false.1 hb.1 n (by rw [List.take_of_length_le (by omega)]; exact hn)
        simpa using this
      refine .inr ⟨d, hT, fun H => good_byI (fun K hK => law10_trees.run (callK_of (Big_ok L _) (callK_of (hg _) ?_))) (by simp [noIds, noId]) ?_ H⟩
      · simp only [x_tup, List.getElem?_cons_zero, List.getElem?_cons_succ, bnd_some, hb, ifB_lit, b_neq, decide_true, Bool.not_true, Bool.false_eq_true, if_false]
        refine callK_of (domNew_ok hB hW hN _) ?_
        simp only [x_tup, List.getElem?_cons_zero, List.getElem?_cons_succ, bnd_some]
        exact hK _
      · simp [noId, noIds, noId_domT, noId_refT]
end Go.Proofs.Ythmaggcfghjmfaa.Ev

/- Arguments of package api's types, read as plain data. -/
namespace Go.Proofs.Ythmaggcfghjmfaa.Ev
set_option linter.unusedVariables false
set_option linter.unusedSimpArgs false

theorem rows_map {α : Type} {f : α → List AV} {P : α → Prop} : ∀ {rows : List (List AV)}, (∀ row ∈ rows, ∃ x, row = f x ∧ P x) → ∃ l : List α, rows = l.map f ∧ ∀ x ∈ l, P x
  | [], _ => ⟨[], rfl, fun x hx => by cases hx⟩
  | r :: rs, h => by
    obtain ⟨x, hx, px⟩ := h r (by simp)
    obtain ⟨l, hl, pl⟩ := rows_map (rows := rs) fun row hr => h row (by simp [hr])
    refine ⟨x :: l, by rw [hx, hl]; rfl, fun y hy => ?_⟩
    rcases List.mem_cons.1 hy with rfl | hy
    · exact px
    · exact pl y hy

theorem d_int {ts : List Nat} {zs : List AV} (h : Sh tiT.get (T_int :: ts) zs) : ∃ n ys, zs = I n :: ys ∧ i64 n ∧ Sh tiT.get ts ys := by
  obtain ⟨i, hi, hd, _⟩ := T_int_is
  obtain ⟨n, ys, e, hw, hs⟩ := sh_int hi hd h
  refine ⟨n, ys, e, ?_, hs⟩
  simp [Lit.wf, IntKind.min, IntKind.max, IntKind.signed, IntKind.bits] at hw
  unfold i64
  omega
theorem d_str {ts : List Nat} {zs : List AV} (h : Sh tiT.get (T_string :: ts) zs) : ∃ s ys, zs = Sx s :: ys ∧ s.data.size ≤ Lmax ∧ Sh tiT.get ts ys := by
  obtain ⟨i, hi, hd, _⟩ := T_string_is
  obtain ⟨s, ys, e, hw, hs⟩ := sh_str hi hd h
  exact ⟨s, ys, e, Nat.le_trans hw (by decide), hs⟩
theorem d_bool {ts : List Nat} {zs : List AV} (h : Sh tiT.get (T_bool :: ts) zs) : ∃ b ys, zs = Bo b :: ys ∧ Sh tiT.get ts ys := by
  obtain ⟨i, hi, hd, _⟩ := T_bool_is
  exact sh_bool hi hd h
theorem d_slice {t e sz : Nat} (hT : ∃ i, tiT.get t = some i ∧ i.d = .slice e ∧ i.size = 1) (hE : ∃ i, tiT.get e = some i ∧ i.size = sz) {ts : List Nat} {zs : List AV} (h : Sh tiT.get (t :: ts) zs) :
    ∃ rows ys, zs = .imm sz rows :: ys ∧ (∀ row ∈ rows, Sh tiT.get [e] row) ∧ rows.length ≤ Lmax ∧ Sh tiT.get ts ys := by
  obtain ⟨i, hi, hd, _⟩ := hT
  obtain ⟨j', hj', hs'⟩ := hE
  rcases sh_slice hi hd h with ⟨ys, _, _⟩ | ⟨j, rows, ys, hj, e, hr, hl, hm, _, hs⟩
  · cases h with
    | sl h' hd' he hc hl hm hb hs => rw [hi] at h'; cases h'; rw [hd] at hd'; cases hd'; rw [hj'] at he; cases he; exact ⟨_, _, by rw [hs'], hc, hm, hs⟩
    | _ => simp_all
  · rw [hj'] at hj
    cases hj
    rw [hs'] at e
    exact ⟨rows, ys, e, hr, hm, hs⟩
theorem d_struct {t : Nat} {fs : List (Nat × Nat)} {sz : Nat} (hT : ∃ i, tiT.get t = some i ∧ i.d = .struct fs ∧ i.size = sz) {ts : List Nat} {zs : List AV} (h : Sh tiT.get (t :: ts) zs) : Sh tiT.get (fs.map (·.2) ++ ts) zs := by
  obtain ⟨i, hi, hd, _⟩ := hT
  exact sh_struct hi hd h
theorem sz_of {t sz : Nat} {d : TD} (h : ∃ i, tiT.get t = some i ∧ i.d = d ∧ i.size = sz) : ∃ i, tiT.get t = some i ∧ i.size = sz := by
  obtain ⟨i, a, _, b⟩ := h
  exact ⟨i, a, b⟩

theorem d_strs {ts : List Nat} {zs : List AV} (h : Sh tiT.get (T_sl_string :: ts) zs) : ∃ l ys, zs = strs l :: ys ∧ strsWf Lmax l ∧ Sh tiT.get ts ys := by
  obtain ⟨rows, ys, e, hr, hm, hs⟩ := d_slice T_sl_string_is (sz_of T_string_is) h
  obtain ⟨l, hl, hp⟩ := rows_map (f := fun s => [Sx s]) (P := fun s => s.data.size ≤ Lmax) fun row hrow => by
    obtain ⟨s, ys, e, hw, hs⟩ := d_str (hr row hrow)
    rw [sh_nil hs] at e
    exact ⟨s, e, hw⟩
  exact ⟨l, ys, by rw [e, hl]; rfl, ⟨by rw [hl] at hm; simpa using hm, hp⟩, hs⟩

theorem d_attrs {ts : List Nat} {zs : List AV} (h : Sh tiT.get (T_sl_api_Attr :: ts) zs) : ∃ (l : List At) (ys : List AV), zs = .imm 3 (l.map encAt) :: ys ∧ (l.length ≤ Lmax ∧ ∀ x ∈ l, x.name.data.size ≤ Lmax ∧ i64 x.op ∧ x.text.data.size ≤ Lmax) ∧ Sh tiT.get ts ys := by
  obtain ⟨rows, ys, e, hr, hm, hs⟩ := d_slice T_sl_api_Attr_is (sz_of T_api_Attr_is) h
  obtain ⟨l, hl, hp⟩ := rows_map (f := encAt) (P := fun x => x.name.data.size ≤ Lmax ∧ i64 x.op ∧ x.text.data.size ≤ Lmax) fun row hrow => by
    have h1 := d_struct T_api_Attr_is (hr row hrow)
    obtain ⟨a, y1, e1, w1, h2⟩ := d_str h1
    obtain ⟨b, y2, e2, w2, h3⟩ := d_int h2
    obtain ⟨c, y3, e3, w3, h4⟩ := d_str h3
    rw [sh_nil h4] at e3
    exact ⟨⟨a, b, c⟩, by rw [e1, e2, e3]; rfl, w1, w2, w3⟩
  exact ⟨l, ys, by rw [e, hl], ⟨by rw [hl] at hm; simpa using hm, hp⟩, hs⟩

/-- Parts; by the size of what is read. -/
theorem d_parts : ∀ (n : Nat) {ts : List Nat} {zs : List AV}, SizeOf.sizeOf zs ≤ n → Sh tiT.get (T_sl_api_Part :: ts) zs → ∃ (l : List Pt) (ys : List AV), zs = .imm 6 (l.map encPt) :: ys ∧ (l.length ≤ Lmax ∧ ∀ p ∈ l, Pt.wf Lmax p) ∧ Sh tiT.get ts ys
  | 0, ts, zs, hn, h => by cases zs <;> simp at hn
  | n + 1, ts, zs, hn, h => by
    obtain ⟨rows, ys, e, hr, hm, hs⟩ := d_slice T_sl_api_Part_is (sz_of T_api_Part_is) h
    obtain ⟨l, hl, hp⟩ := rows_map (f := encPt) (P := fun p => Pt.wf Lmax p) fun row hrow => by
      have hsz : SizeOf.sizeOf row < n := by
        have h1 : SizeOf.sizeOf row < SizeOf.sizeOf rows := List.sizeOf_lt_of_mem hrow
        rw [e] at hn
        simp only [List.cons.sizeOf_spec, AV.imm.sizeOf_spec] at hn
        omega
      obtain ⟨k, y1, e1, w1, h1⟩ := d_int (d_struct T_api_Part_is (hr row hrow))
      have h1 := d_struct T_api_Compound_is h1
      obtain ⟨t, y2, e2, w2, h2⟩ := d_str h1
      obtain ⟨i, y3, e3, w3, h3⟩ := d_strs h2
      obtain ⟨c, y4, e4, w4, h4⟩ := d_strs h3
      obtain ⟨a, y5, e5, w5, h5⟩ := d_attrs h4
      obtain ⟨prows, y6, e6, hpr, hpm, h6⟩ := d_slice T_sl_api_Pseudo_is (sz_of T_api_Pseudo_is) h5
      rw [sh_nil h6] at e6
      subst e6 e5 e4 e3 e2 e1
      obtain ⟨ps, hps, hpp⟩ := rows_map (f := encPs) (P := fun p => Ps.wf Lmax p) fun prow hprow => by
        have hsz2 : SizeOf.sizeOf prow < n := by
          have h1 : SizeOf.sizeOf prow < SizeOf.sizeOf prows := List.sizeOf_lt_of_mem hprow
          simp only [List.cons.sizeOf_spec, AV.imm.sizeOf_spec] at hsz
          omega
        have g1 := d_struct T_api_Pseudo_is (hpr prow hprow)
        obtain ⟨k, y1, e1, w1, g2⟩ := d_int g1
        obtain ⟨a, y2, e2, w2, g3⟩ := d_int g2
        obtain ⟨b, y3, e3, w3, g4⟩ := d_int g3
        obtain ⟨srows, y4, e4, hsr, hsm, g5⟩ := d_slice T_sl_api_Selector_is (sz_of T_api_Selector_is) g4
        rw [sh_nil g5] at e4
        subst e4 e3 e2 e1
        obtain ⟨ss, hss, hsp⟩ := rows_map (f := encSl) (P := slWf Lmax) fun srow hsrow => by
          have hsz3 : SizeOf.sizeOf srow < n := by
            have h1 : SizeOf.sizeOf srow < SizeOf.sizeOf srows := List.sizeOf_lt_of_mem hsrow
            simp only [List.cons.sizeOf_spec, AV.imm.sizeOf_spec] at hsz2
            omega
          obtain ⟨l, y1, e1, w1, q1⟩ := d_parts n (by omega) (d_struct T_api_Selector_is (hsr srow hsrow))
          rw [sh_nil q1] at e1
          exact ⟨l, e1, w1.1, w1.2⟩
        refine ⟨.mk k a b ss, by rw [encPs_eq, hss]; rfl, ?_⟩
        rw [Ps.wf_iff]
        exact ⟨w1, w2, w3, by rw [hss, List.length_map] at hsm; exact hsm, hsp⟩
      refine ⟨.mk k (.mk t i c a ps), by rw [encPt_eq, encCp_eq, hps]; rfl, ?_⟩
      rw [Pt.wf_iff]
      exact ⟨w1, w2, w3, w4, w5.1, w5.2, by rw [hps, List.length_map] at hpm; exact hpm, hpp⟩
    exact ⟨l, ys, by rw [e, hl], ⟨by rw [hl] at hm; simpa using hm, hp⟩, hs⟩

theorem d_sel {ts : List Nat} {zs : List AV} (h : Sh tiT.get (T_api_Selector :: ts) zs) : ∃ (s : Sl) (ys : List AV), zs = encSl s ++ ys ∧ slWf Lmax s ∧ Sh tiT.get ts ys := by
  obtain ⟨l, ys, e, w, hs⟩ := d_parts _ (Nat.le_refl _) (d_struct T_api_Selector_is h)
  exact ⟨l, ys, e, w, hs⟩
theorem d_sels {ts : List Nat} {zs : List AV} (h : Sh tiT.get (T_sl_api_Selector :: ts) zs) : ∃ l ys, zs = sls l :: ys ∧ slsWf Lmax l ∧ Sh tiT.get ts ys := by
  obtain ⟨rows, ys, e, hr, hm, hs⟩ := d_slice T_sl_api_Selector_is (sz_of T_api_Selector_is) h
  obtain ⟨l, hl, hp⟩ := rows_map (f := encSl) (P := slWf Lmax) fun row hrow => by
    obtain ⟨s, y, e, w, hs⟩ := d_sel (hr row hrow)
    rw [sh_nil hs, List.append_nil] at e
    exact ⟨s, e, w⟩
  exact ⟨l, ys, by rw [e, hl]; rfl, ⟨by rw [hl] at hm; simpa using hm, hp⟩, hs⟩

/-- The types that are read so. -/
def readB : List Nat := [T_int, T_string, T_bool, T_sl_string, T_sl_api_Attr, T_api_Attr, T_sl_api_Part, T_api_Part, T_api_Compound, T_sl_api_Pseudo, T_api_Pseudo, T_sl_api_Selector, T_api_Selector, T_sl_api_Node, T_api_Node, T_sl_api_Pair, T_api_Pair]
theorem readB_closed : closedB tiT.get readB = true := by kernel_rfl

end Go.Proofs.Ythmaggcfghjmfaa.Ev
namespace Go.Proofs.Ythmaggcfghjmfaa.Ev
theorem v_agg {t sz : Nat} {fs : List (Nat × Nat)} (hT : ∃ i, tiT.get t = some i ∧ i.d = .struct fs ∧ i.size = sz) {x : AV} (h : ShV tiT.get t x) : ∃ ys, x = .agg ys ∧ Sh tiT.get [t] ys := by
  obtain ⟨i, hi, hd, _⟩ := hT
  exact shV_agg hi (by rw [hd]; rfl) h
theorem v_one {t sz : Nat} {d : TD} (hT : ∃ i, tiT.get t = some i ∧ i.d = d ∧ i.size = sz) (ha : d.agg = false) {x : AV} (h : ShV tiT.get t x) : Sh tiT.get [t] [x] := by
  obtain ⟨i, hi, hd, _⟩ := hT
  unfold ShV at h
  rw [hi] at h
  simp only [hd, ha] at h
  exact h
theorem v_sel {x : AV} (h : ShV tiT.get T_api_Selector x) : ∃ s : Sl, x = .agg (encSl s) ∧ slWf Lmax s := by
  obtain ⟨ys, e, hs⟩ := v_agg T_api_Selector_is h
  obtain ⟨s, zs, e2, w, hn⟩ := d_sel hs
  rw [sh_nil hn, List.append_nil] at e2
  exact ⟨s, by rw [e, e2], w⟩
theorem v_sels {x : AV} (h : ShV tiT.get T_sl_api_Selector x) : ∃ l, x = sls l ∧ slsWf Lmax l := by
  obtain ⟨l, ys, e, w, hn⟩ := d_sels (v_one T_sl_api_Selector_is rfl h)
  cases e
  exact ⟨l, rfl, w⟩
theorem v_int {x : AV} (h : ShV tiT.get T_int x) : ∃ n, x = I n ∧ i64 n := by
  obtain ⟨n, ys, e, w, hn⟩ := d_int (v_one T_int_is rfl h)
  cases e
  exact ⟨n, rfl, w⟩
theorem v_bool {x : AV} (h : ShV tiT.get T_bool x) : ∃ b, x = Bo b := by
  obtain ⟨n, ys, e, hn⟩ := d_bool (v_one T_bool_is rfl h)
  cases e
  exact ⟨n, rfl⟩
theorem v_str {x : AV} (h : ShV tiT.get T_string x) : ∃ s, x = Sx s ∧ s.data.size ≤ Lmax := by
  obtain ⟨n, ys, e, w, hn⟩ := d_str (v_one T_string_is rfl h)
  cases e
  exact ⟨n, rfl, w⟩
end Go.Proofs.Ythmaggcfghjmfaa.Ev
namespace Go.Proofs.Ythmaggcfghjmfaa.Ev
theorem d_strR {ts : List Nat} {zs : List AV} (h : Sh tiT.get (T_string :: ts) zs) : ∃ s ys, zs = Sx s :: ys ∧ s.data.size ≤ reachBytes ∧ Sh tiT.get ts ys := by
  obtain ⟨i, hi, hd, _⟩ := T_string_is
  obtain ⟨s, ys, e, hw, hs⟩ := sh_str hi hd h
  exact ⟨s, ys, e, hw, hs⟩
theorem d_sliceB {t e sz B : Nat} (hT : ∃ i, tiT.get t = some i ∧ i.d = .slice e ∧ i.size = 1) (hE : ∃ i, tiT.get e = some i ∧ i.size = sz) (hB : (tiT.get e).map (·.bytes) = some B) {ts : List Nat} {zs : List AV} (h : Sh tiT.get (t :: ts) zs) :
    ∃ rows ys, zs = .imm sz rows :: ys ∧ (∀ row ∈ rows, Sh tiT.get [e] row) ∧ rows.length * B ≤ reachBytes ∧ Sh tiT.get ts ys := by
  obtain ⟨i, hi, hd, _⟩ := hT
  obtain ⟨j', hj', hs'⟩ := hE
  rw [hj'] at hB
  simp only [Option.map_some, Option.some.injEq] at hB
  cases h with
  | sl h' hd' he hc hl hm hb hs => rw [hi] at h'; cases h'; rw [hd] at hd'; cases hd'; rw [hj'] at he; cases he; exact ⟨_, _, by rw [hs'], hc, by rw [← hB]; exact hb, hs⟩
  | _ => simp_all
theorem d_strsR {ts : List Nat} {zs : List AV} (h : Sh tiT.get (T_sl_string :: ts) zs) : ∃ l ys, zs = strs l :: ys ∧ l.length * 16 ≤ reachBytes ∧ Sh tiT.get ts ys := by
  obtain ⟨rows, ys, e, hr, hm, hs⟩ := d_sliceB T_sl_string_is (sz_of T_string_is) (B := 16) (by kernel_rfl) h
  obtain ⟨l, hl, hp⟩ := rows_map (f := fun s => [Sx s]) (P := fun s => True) fun row hrow => by
    obtain ⟨s, ys, e, hw, hs⟩ := d_str (hr row hrow)
    rw [sh_nil hs] at e
    exact ⟨s, e, trivial⟩
  exact ⟨l, ys, by rw [e, hl]; rfl, by rw [hl] at hm; simpa using hm, hs⟩
theorem d_pairs {ts : List Nat} {zs : List AV} (h : Sh tiT.get (T_sl_api_Pair :: ts) zs) : ∃ (l : List (ByteArray × ByteArray)) (ys : List AV), zs = .imm 2 (l.map encPr) :: ys ∧ (l.length * 32 ≤ reachBytes ∧ ∀ x ∈ l, x.1.data.size ≤ reachBytes) ∧ Sh tiT.get ts ys := by
  obtain ⟨rows, ys, e, hr, hm, hs⟩ := d_sliceB T_sl_api_Pair_is (sz_of T_api_Pair_is) (B := 32) (by kernel_rfl) h
  obtain ⟨l, hl, hp⟩ := rows_map (f := encPr) (P := fun x => x.1.data.size ≤ reachBytes) fun row hrow => by
    obtain ⟨a, y1, e1, w1, h2⟩ := d_strR (d_struct T_api_Pair_is (hr row hrow))
    obtain ⟨b, y2, e2, w2, h3⟩ := d_strR h2
    rw [sh_nil h3] at e2
    exact ⟨⟨a, b⟩, by rw [e1, e2]; rfl, w1⟩
  exact ⟨l, ys, by rw [e, hl], ⟨by rw [hl] at hm; simpa using hm, hp⟩, hs⟩
theorem d_nodes {ts : List Nat} {zs : List AV} (h : Sh tiT.get (T_sl_api_Node :: ts) zs) : ∃ (l : List Nd) (ys : List AV), zs = nds l :: ys ∧ (∀ x ∈ l, NdWf x) ∧ l.length ≤ Lmax ∧ Sh tiT.get ts ys := by
  obtain ⟨rows, ys, e, hr, hm, hs⟩ := d_slice T_sl_api_Node_is (sz_of T_api_Node_is) h
  obtain ⟨l, hl, hp⟩ := rows_map (f := encNd) (P := NdWf) fun row hrow => by
    obtain ⟨p, y1, e1, w1, h2⟩ := d_int (d_struct T_api_Node_is (hr row hrow))
    obtain ⟨t, y2, e2, w2, h3⟩ := d_strR h2
    obtain ⟨i, y3, e3, w3, h4⟩ := d_strR h3
    obtain ⟨c, y4, e4, w4, h5⟩ := d_strsR h4
    obtain ⟨a, y5, e5, w5, h6⟩ := d_pairs h5
    rw [sh_nil h6] at e5
    exact ⟨⟨p, t, i, c, a⟩, by rw [e1, e2, e3, e4, e5]; rfl, w1, w2, w4, w5.1, w5.2⟩
  exact ⟨l, ys, by rw [e, hl]; rfl, hp, by rw [hl] at hm; simpa using hm, hs⟩
theorem v_nodes {x : AV} (h : ShV tiT.get T_sl_api_Node x) : ∃ l, x = nds l ∧ (∀ n ∈ l, NdWf n) ∧ l.length ≤ Lmax := by
  obtain ⟨l, ys, e, w, hl, hn⟩ := d_nodes (v_one T_sl_api_Node_is rfl h)
  cases e
  exact ⟨l, rfl, w, hl⟩
theorem v_cp {x : AV} (h : ShV tiT.get T_api_Compound x) : ∃ c : Cp, x = .agg (encCp c) ∧ CpWf Lmax c := by
  obtain ⟨ys, e, hs⟩ := v_agg T_api_Compound_is h
  have h1 := d_struct T_api_Compound_is hs
  have h2 : Sh tiT.get [T_sl_api_Part] [.imm 6 [I 0 :: ys]] := by
    obtain ⟨i, hi, hd, _⟩ := T_sl_api_Part_is
    obtain ⟨j, hj, hdj, hsz⟩ := T_api_Part_is
    have hB : (tiT.get T_api_Part).map (·.bytes) = some 120 := by kernel_rfl
    rw [hj] at hB
    simp only [Option.map_some, Option.some.injEq] at hB
    have hlen : ys.length = 5 := by
      obtain ⟨t, y2, e2, w2, h2⟩ := d_str h1
      obtain ⟨i, y3, e3, w3, h3⟩ := d_strs h2
      obtain ⟨c, y4, e4, w4, h4⟩ := d_strs h3
      obtain ⟨a, y5, e5, w5, h5⟩ := d_attrs h4
      obtain ⟨prows, y6, e6, hpr, hpm, h6⟩ := d_slice T_sl_api_Pseudo_is (sz_of T_api_Pseudo_is) h5
      rw [sh_nil h6] at e6
      rw [e2, e3, e4, e5, e6]; rfl
    have hr : Sh tiT.get [T_api_Part] (I 0 :: ys) := by
      refine .struct hj hdj ?_
      obtain ⟨k, hk, hdk, _⟩ := T_int_is
      exact .int hk hdk (by decide) hs
    have := Sh.sl (ys := []) hi hd hj (rows := [I 0 :: ys]) (fun row hr' => by rw [List.mem_singleton.1 hr']; exact hr) (fun row hr' => by rw [List.mem_singleton.1 hr', hsz]; simp [hlen]) (by show 1 ≤ maxLen; decide) (by rw [hB]; show 1 * 120 ≤ reachBytes; decide) .nil
    rw [hsz] at this
    exact this
  obtain ⟨l, zs, e2, w, hn⟩ := d_parts _ (Nat.le_refl _) h2
  simp only [List.cons.injEq, AV.imm.injEq, true_and] at e2
  match l, e2.1, w with
  | [p], e3, w =>
    have hw := (Pt.wf_iff.1 (w.2 p (by simp))).2
    rw [List.map_cons, List.map_nil, encPt_eq] at e3
    simp only [List.cons.injEq, and_true] at e3
    exact ⟨p.c, by rw [e, e3.2], hw⟩
  | [], e3, w => simp at e3
  | _ :: _ :: _, e3, w => simp at e3
end Go.Proofs.Ythmaggcfghjmfaa.Ev

/- MatchPlaces. -/
namespace Go.Proofs.Ythmaggcfghjmfaa.Ev
set_option linter.unusedVariables false
set_option linter.unusedSimpArgs false
set_option maxRecDepth 100000
variable {σ : Sig}

def cp1 (k a b : Int) : Cp := .mk emp [] [] [] [.mk k a b []]
abbrev nilS : AV := .lit (.slice none 0 0)
theorem fz_cp1 {H : Hp} {id : Nat} {k a b : Int} {ex : Bool} {cap : Option Nat} (hg : H.get id = some (.cells [I k, I a, I b, nilS] ex)) :
    Fz H (.agg [Sx emp, nilS, nilS, nilS, .sl id 0 4 1 cap]) (.agg (encCp (cp1 k a b))) := by
  refine frzS_ok (skC 1) _ _ ?_
  simp only [skC, skCp, skPss, skStrs, skAts, frzS, frzR, frzRows, hg, beqN]
  rfl
/-- A compound of one pseudo-class, made in memory. -/
theorem cp1_blk {k a b : Int} {H : Hp} {C : AV → Hp → Prop} (h : ∀ H' id, H.n ≤ H'.n → (∀ j, j < H.n → H'.get j = H.get j) → H'.get id = some (.cells [I k, I a, I b, nilS] true) → C (.agg [Sx emp, nilS, nilS, nilS, .sl id 0 4 1 (some 1)]) H') :
    bnd (bldSlR [.int .i64 0, .int .i64 0, .int .i64 0, .slice none 0 0] 4 1 H [(0, 4, (.agg [I k, I a, I b, nilS]))]) fun p4 => bnd (bldR [.lit (.string ⟨#[]⟩), .lit (.slice none 0 0), .lit (.slice none 0 0), .lit (.slice none 0 0), .lit (.slice none 0 0)] [(4, 1, p4.1)]) fun l5 => allocK [.lit (.string ⟨#[]⟩), .lit (.slice none 0 0), .lit (.slice none 0 0), .lit (.slice none 0 0), .lit (.slice none 0 0)] p4.2 fun x6 H7 => bnd (stA 5 H7 x6 (.agg l5)) fun H8 => bnd (ldA true 5 H8 x6) fun x9 => C x9 H8 := by
  refine bnd_of (x := (.sl H.n 0 4 1 (some 1), H.new (.cells [I k, I a, I b, nilS] true))) rfl ?_
  refine bnd_of (x := [Sx emp, nilS, nilS, nilS, .sl H.n 0 4 1 (some 1)]) rfl ?_
  simp only [allocK_eq]
  refine bnd_of (x := ((H.new (.cells [I k, I a, I b, nilS] true)).new (.cells [Sx emp, nilS, nilS, nilS, nilS] true)).set (H.n + 1) (some (.cells [Sx emp, nilS, nilS, nilS, .sl H.n 0 4 1 (some 1)] true))) ?_ ?_
  · rw [st_agg]
    simp only [Hp.n_new, hp_get_new, if_true]
    rfl
  refine bnd_of (x := .agg [Sx emp, nilS, nilS, nilS, .sl H.n 0 4 1 (some 1)]) ?_ ?_
  · simp only [ld_ptr, Hp.n_new, hp_get_set, if_true, ldO_cells]
    rfl
  refine h _ H.n (by simp; omega) (fun j hj => ?_) ?_
  · have e1 : j ≠ H.n := by omega
    have e2 : j ≠ H.n + 1 := by omega
    simp [e1, e2]
  · have e1 : H.n ≠ H.n + 1 := by omega
    simp [e1]
theorem cp1_ok {k a b : Int} (hk : i64 k) (ha : i64 a) (hb : i64 b) : SelOk 2 [[⟨0, cp1 k a b⟩]] := by
  refine ⟨⟨by show 1 ≤ Lmax; decide, fun s hs => ?_⟩, ⟨by show 1 ≤ NB; decide, fun s hs => ?_⟩, fun s hs p hp q hq => ?_, by decide, ?_⟩
  · rw [List.mem_singleton.1 hs]
    refine ⟨by show 1 ≤ Lmax; decide, fun p hp => ?_⟩
    rw [List.mem_singleton.1 hp, Pt.wf_iff]
    refine ⟨by show i64 0; unfold i64; decide, by show 0 ≤ Lmax; decide, ⟨by show 0 ≤ Lmax; decide, fun s h => by cases h⟩, ⟨by show 0 ≤ Lmax; decide, fun s h => by cases h⟩, by show 0 ≤ Lmax; decide, (fun s h => by cases h), by show 1 ≤ Lmax; decide, fun q hq => ?_⟩
    rw [List.mem_singleton.1 hq, Ps.wf_iff]
    exact ⟨hk, ha, hb, by show 0 ≤ Lmax; decide, fun s h => by cases h⟩
  · rw [List.mem_singleton.1 hs]
    refine ⟨by show 1 ≤ NB; decide, fun p hp => ?_⟩
    rw [List.mem_singleton.1 hp]
    refine ⟨⟨by show 0 ≤ reachBytes; decide, by show 0 ≤ reachBytes; decide, by show 0 ≤ reachBytes; decide, (fun s h => by cases h), by show 1 ≤ reachBytes; decide⟩, by show 1 ≤ NB; decide, fun q hq => ?_⟩
    rw [List.mem_singleton.1 hq]
    exact ⟨⟨ha, hb⟩, by show 0 ≤ NB; decide, fun s h => by cases h⟩
  · rw [List.mem_singleton.1 hs] at hp
    rw [List.mem_singleton.1 hp] at hq
    rw [List.mem_singleton.1 hq]
    exact fun s h => by cases h
  · simp [cntF, cp1, Pt.c, Cp.pseudos, Ps.list, NB]
theorem cp1_eq {L : List Nd} {e : Nat} (he : e < L.length) {k a b : Int} (h7 : k ≠ 7) (h8 : k ≠ 8) : cpB L 2 (cp1 k a b) (e : Int) = pseudoB (AA L) L e (.mk k a b []) := by
  have i1 : (0 : Int) ≤ (e : Int) := by omega
  have i2 : (e : Int) < (L.length : Int) := by omega
  have hn : Nest 2 [[⟨0, cp1 k a b⟩]] := by
    intro s hs p hp q hq
    rw [List.mem_singleton.1 hs] at hp
    rw [List.mem_singleton.1 hp] at hq
    rw [List.mem_singleton.1 hq]
    exact fun s h => by cases h
  have hm : mayF 2 [[⟨0, cp1 k a b⟩]] 8 = true := by
    have hk : ¬ (k = 7 ∨ k = 8) := by omega
    simp [mayF, mayS, mayC, mayQ, cp1, Pt.c, Cp.pseudos, Ps.kind, hk]
  unfold cpB selB mayAny
  simp only [i1, i2, decide_true, Bool.and_self, Bool.true_and, Int.toNat_natCast, List.any_cons, List.any_nil, Bool.or_false, hm]
  rw [← AA_eq hn (by decide)]
  simp only [anyS, List.any_cons, List.any_nil, Bool.or_false, List.length_cons, List.length_nil]
  have : frontB (AA L) L [⟨0, cp1 k a b⟩] 0 e = compB (AA L) L e (cp1 k a b) := rfl
  show (!decide (0 + 1 = 0) && frontB (AA L) L [⟨0, cp1 k a b⟩] 0 e) = _
  rw [this]
  have hp : plainB (lowN (ndAt L e)) (cp1 k a b) = true := by
    simp [plainB, tagB, cp1, Cp.tag, Cp.ids, Cp.classes, Cp.attrs]
  unfold compB
  rw [hp]
  simp [cp1, Cp.pseudos]
theorem NdSm.low {n : Nd} (h : NdSm n) : SmN (lowN n) := by
  have r : reachBytes = 140737488351232 := rfl
  refine ⟨by have := h.classes; show n.classes.length ≤ _; omega, by have := h.attrs; show (n.attrs.map lowPr).length ≤ _; rw [List.length_map]; omega, fun p hp => ?_⟩
  obtain ⟨q, hq, rfl⟩ := List.mem_map.1 hp
  have := (h.at' q hq).2
  show q.2.data.size < _
  omega
theorem TreeOk.smN {L : List Nd} {d : List Nat} (h : TreeOk L d) : ∀ e, e < L.length → SmN (lowN (ndAt L e)) := by
  intro e he
  refine (h.sm _ ?_).low
  unfold ndAt
  rw [List.getD_eq_getElem?_getD, List.getElem?_eq_getElem he]
  exact List.getElem_mem _
theorem TreeOk.mc {L : List Nd} {d : List Nat} (h : TreeOk L d) (hC : HasC σ) : McT σ L d := ⟨hC, h.hB, by have := h.len; omega, h.smN⟩
theorem rChildren_neg (L : List Nd) (d : List Nat) (H : Hp) : Good Try.prog σ n_ref9_Tree_Children [refT L d, I (-1)] H nilS H := by
  refine good_by (fun K hK => ref9_Tree_Children.run ?_) (by simp [noIds, noId, noId_refT]) rfl H
  simp only [b_add, bnd_some]
  refine ref9_Tree_Children.L0_step (callK_of (ris_ok L d (-1) _) ?_)
  simpa using hK _
/-- How many children the parent has; of the root: one. -/
def sibN (L : List Nd) (e : Nat) : Int := if e = 0 then 1 else ((kids L L.length (par L e).toNat).length : Int)
theorem last_place {L : List Nd} {d : List Nat} (hB : Built L L.length d) {e : Nat} (he : e < L.length) : lastB L e = decide (place L e = sibN L e) := by
  by_cases h0 : e = 0
  · subst h0
    rw [lastB_zero hB he]
    rfl
  · obtain ⟨p, hp, hl⟩ := last_kids hB he (by omega)
    have hk : kids L (e + 1) p = sibs L e ++ [e] := by rw [kids_succ, if_pos ⟨by omega, hp⟩, kids_self hp]
    have hpl : place L e = ((kids L (e + 1) p).length : Int) := by
      rw [hk]
      unfold place
      simp only [List.length_append, List.length_cons, List.length_nil]
      omega
    have hle : (kids L (e + 1) p).length ≤ (kids L L.length p).length := by
      have := kids_le L p (e + 1) (L.length - (e + 1))
      rwa [show e + 1 + (L.length - (e + 1)) = L.length by omega] at this
    rw [hl, hpl]
    unfold sibN
    rw [if_neg h0, hp, Int.toNat_natCast, decide_eq_decide]
    omega
theorem only_place {L : List Nd} {d : List Nat} (hB : Built L L.length d) {e : Nat} (he : e < L.length) : (decide (place L e = 1) && lastB L e) = decide (sibN L e = 1) := by
  rw [last_place hB he, ← Bool.decide_and, decide_eq_decide]
  have h1 := (place_bd L e).1
  have h2 : place L e ≤ sibN L e := by
    by_cases h0 : e = 0
    · subst h0; exact Int.le_of_eq rfl
    · obtain ⟨p, hp, hl⟩ := last_kids hB he (by omega)
      have hk : kids L (e + 1) p = sibs L e ++ [e] := by rw [kids_succ, if_pos ⟨by omega, hp⟩, kids_self hp]
      have hle : (kids L (e + 1) p).length ≤ (kids L L.length p).length := by
        have := kids_le L p (e + 1) (L.length - (e + 1))
        rwa [show e + 1 + (L.length - (e + 1)) = L.length by omega] at this
      have hpl : place L e = ((kids L (e + 1) p).length : Int) := by
        rw [hk]
        unfold place
        simp only [List.length_append, List.length_cons, List.length_nil]
        omega
      unfold sibN
      rw [if_neg h0, hp, Int.toNat_natCast, hpl]
      omega
  omega
section
attribute [local irreducible] law10_MatchPlaces.L0 law10_MatchPlaces.L2 law10_MatchPlaces.J1
def wantP (L : List Nd) (e : Nat) : List Bool := [decide ((e : Int) = 0), decide (place L e = 1), decide (place L e = sibN L e), decide (sibN L e = 1), decide (((kids L L.length e).length : Int) = 0)]
theorem wantP_ok {L : List Nd} {d : List Nat} (hB : Built L L.length d) {e : Nat} (he : e < L.length) {i : Nat} (hi : i < 5) : (wantP L e)[i]? = some (cpB L 2 (cp1 (1 + i : Nat) 0 0) (e : Int)) := by
  rw [cp1_eq he (by omega) (by omega)]
  have : i = 0 ∨ i = 1 ∨ i = 2 ∨ i = 3 ∨ i = 4 := by omega
  rcases this with rfl | rfl | rfl | rfl | rfl
  · simp [wantP, pseudoB, Ps.kind]
    have := root_eq hB he
    simpa using this
  · simp [wantP, pseudoB, Ps.kind]
  · simp [wantP, pseudoB, Ps.kind, last_place hB he]
  · have := only_place hB he
    simp [wantP, pseudoB, Ps.kind]
    simpa using this.symm
  · simp [wantP, pseudoB, Ps.kind]
    have := empty_eq L e
    simpa using this
theorem MatchPlaces_good (hC : HasC σ) {L : List Nd} (hW : ∀ n ∈ L, NdWf n) : ∃ Hf, Good Try.prog σ n_law10_MatchPlaces [nds L] Hp.empty (Bo true) Hf := by
  refine ⟨Hp.empty, good_by (fun K hK => law10_MatchPlaces.run (callK_of (alive10 hC _) ?_)) (by simp [noIds, noId]) rfl _⟩
  rcases trees_ok (σ := σ) L hW with hg | ⟨d, hT, hg⟩
  · refine callK_of (hg _) ?_
    simp only [x_tup, List.getElem?_cons_zero, List.getElem?_cons_succ, bnd_some, u_not, ifB_lit, Bool.not_true, Bool.not_false, Bool.false_eq_true, if_true, if_false]
    exact hK _
  refine callK_of (hg _) ?_
  simp only [x_tup, List.getElem?_cons_zero, List.getElem?_cons_succ, bnd_some, u_not, ifB_lit, Bool.not_true, Bool.not_false, Bool.false_eq_true, if_true, if_false]
  have hl40 := hT.len
  have hN : L.length ≤ 4096 := by omega
  have hB := hT.hB
  have M := hT.mc hC
  have L0 : ∀ (f e : Nat) (H : Hp) (y8 y9 y10 : AV), L.length - e = f → e ≤ L.length → law10_MatchPlaces.L0 σ K (nds L) (domT L d) (refT L d) (I (e : Int)) y8 y9 y10 H := by
    intro f
    induction f with
    | zero =>
      intro e H y8 y9 y10 hf he
      have : e = L.length := by omega
      subst this
      refine law10_MatchPlaces.L0_step ?_
      simp only [len_nds, bnd_some, b_lss, Int.lt_irrefl, decide_false, ifB_lit, Bool.false_eq_true, if_false]
      exact hK _
    | succ f ih =>
      intro e H y8 y9 y10 hf he
      have hlt : e < L.length := by omega
      have hlt' : (e : Int) < L.length := by omega
      refine law10_MatchPlaces.L0_step ?_
      simp only [len_nds, bnd_some, b_lss, hlt', decide_true, ifB_lit, if_true]
      refine callK_of (rParent_ok L d hlt _) ?_
      have L2 : ∀ (g i : Nat) (H : Hp) (id : Nat) (y8 : AV), 5 - i = g → i ≤ 5 → id < H.n → H.get id = some (.cells ((wantP L e).map Bo) true) → law10_MatchPlaces.L2 σ K (nds L) (domT L d) (refT L d) (I (e : Int)) y8 (.sl id 0 1 5 (some 5)) (I (i : Int)) H := by
        intro g
        induction g with
        | zero =>
          intro i H id y8 hg hi hid hget
          obtain rfl : i = 5 := by omega
          refine law10_MatchPlaces.L2_step ?_
          simp only [b_lss, bnd_some, show ¬ (((5 : Nat) : Int) < 5) from by decide, decide_false, ifB_lit, Bool.false_eq_true, if_false, b_add]
          rw [wr_succ (by omega)]
          exact ih (e + 1) H _ _ _ (by omega) (by omega)
        | succ g ihg =>
          intro i H id y8 hg hi hid hget
          have hi5 : i < 5 := by omega
          have hi5' : (i : Int) < 5 := by omega
          have hw : wr .i64 (1 + (i : Int)) = ((1 + i : Nat) : Int) := by rw [wr64 (by omega) (by omega)]; omega
          refine law10_MatchPlaces.L2_step ?_
          simp only [b_lss, bnd_some, hi5', decide_true, ifB_lit, if_true, b_add, hw]
          refine bnd_of (x := [I ((1 + i : Nat) : Int), I 0, I 0, nilS]) rfl ?_
          refine cp1_blk fun H8 j hn hs hj => ?_
          refine callK_of ((Cp_ok M (cp1_ok (k := ((1 + i : Nat) : Int)) (a := 0) (b := 0) (by unfold i64; omega) (by unfold i64; decide) (by unfold i64; decide)) (e : Int) Hp.empty).frzA (.cons (.refl (noId_domT _ _)) (.cons (.refl rfl) (.cons (fz_cp1 hj) .nil))) rfl) ?_
          have hg8 : H8.get id = some (.cells ((wantP L e).map Bo) true) := by rw [hs id hid]; exact hget
          have hix : ixaSl 1 (.sl id 0 1 5 (some 5)) (I (i : Int)) = some (.ptr id i) := by
            have i0 : (0 : Int) ≤ (i : Int) := by omega
            have i5 : (i : Int) < ((5 : Nat) : Int) := by omega
            simp only [ixaSl, intA, i5, i0, decide_true, Bool.and_self, cond_true, Int.toNat_natCast, Nat.zero_add, Nat.mul_one]
          have hw5 := wantP_ok hB hlt hi5
          have hld : ldA false 1 H8 (.ptr id i) = some (Bo (cpB L 2 (cp1 (1 + i : Nat) 0 0) (e : Int))) := by
            have : ((wantP L e).map Bo)[i]? = some (Bo (cpB L 2 (cp1 (1 + i : Nat) 0 0) (e : Int))) := by rw [List.getElem?_map, hw5]; rfl
            rw [ld_ptr, hg8, ldO_cells, drop_get this, ldL_one]
          simp only [hix, bnd_some, kp_ptr, true_and, hld, e_boolN, BEq.rfl, Bool.not_true, ifB_lit, Bool.false_eq_true, if_false, b_add]
          rw [wr_succ (by omega)]
          exact ihg (i + 1) H8 id y8 (by omega) (by omega) (by omega) hg8
      have J1 : ∀ (H : Hp) (y9 y10 : AV), law10_MatchPlaces.J1 σ K (nds L) (domT L d) (refT L d) (I (e : Int)) (I (sibN L e)) y9 y10 H := by
        intro H y9 y10
        refine law10_MatchPlaces.J1_step ?_
        simp only [b_eql, bnd_some]
        refine callK_of (rPlace_ok L d hN hlt _) ?_
        simp only [b_eql, bnd_some]
        refine callK_of (rPlace_ok L d hN hlt _) ?_
        simp only [b_eql, bnd_some]
        refine callK_of (rChildren_ok L d hB hN hlt _) ?_
        have : lenSl (ints (kids L L.length e)) = some (I ((kids L L.length e).length : Int)) := by unfold ints; simp
        simp only [this, b_eql, bnd_some]
        refine bnd_of (x := (.sl H.n 0 1 5 (some 5), H.new (.cells ((wantP L e).map Bo) true))) rfl ?_
        exact L2 5 0 _ _ _ rfl (by decide) (by simp) (by simp)
      by_cases h0 : e = 0
      · subst h0
        rw [(hB.root hlt).1]
        refine callK_of (rChildren_neg L d _) ?_
        have : lenSl nilS = some (I 0) := rfl
        simp only [this, bnd_some, b_eql, Int.natCast_zero, decide_true, ifB_lit, if_true]
        exact J1 _ _ _
      · obtain ⟨p, x, hp, hpe, _⟩ := hB.step e (by omega) hlt
        rw [hp]
        refine callK_of (rChildren_ok L d hB hN (by omega) _) ?_
        have : lenSl (ints (kids L L.length p)) = some (I ((kids L L.length p).length : Int)) := by unfold ints; simp
        have h0' : ¬ (e : Int) = 0 := by omega
        simp only [this, bnd_some, b_eql, h0', decide_false, ifB_lit, Bool.false_eq_true, if_false]
        have hs : sibN L e = ((kids L L.length p).length : Int) := by unfold sibN; rw [if_neg h0, hp, Int.toNat_natCast]
        rw [← hs]
        exact J1 _ _ _
  exact L0 _ 0 _ _ _ _ rfl (Nat.zero_le _)
end
end Go.Proofs.Ythmaggcfghjmfaa.Ev
namespace Go.Proofs.Ythmaggcfghjmfaa.Ev
open Go.RowKit
def sigM : Sig := ⟨fun _ => 0, fun _ => false, fun _ => ⟨#[]⟩, some gMax⟩
theorem sigM_g : sigM.g = some gMax := rfl
end Go.Proofs.Ythmaggcfghjmfaa.Ev

/- MatchPlaces, of what the call is handed. -/
namespace Go.Proofs.Ythmaggcfghjmfaa.Ev
open Go.RowKit
set_option linter.unusedVariables false
set_option maxRecDepth 100000

theorem MatchPlaces_walk {H : Type} {enc : TypeId × Value → H} (W : World) (hsh : W.ShapedOpen Try.prog) {v0 : Value} {r : Reach} {b0 base : Nat} {spare : Nat → Bool} {held : Bool} {d0 : DataW H} {p0 : List MemPlace}
    (e0 : Value.okWide Try.prog W r b0 T_sl_api_Node v0) (h0 : DataW.Trod enc Try.prog W base spare held T_sl_api_Node v0 d0 p0) (w0 : ∀ n ∈ d0.weights Try.prog T_sl_api_Node, n ≤ reachBytes) :
    Calls Try.prog n_law10_MatchPlaces #[v0] W fun e W' => e = .returned (.bool true) ∧ Below W.heap.size W W' := by
  obtain ⟨x0, r0, s0⟩ := read_arg (P := Try.prog) (ti := tiT.get) (S := readB) (t := T_sl_api_Node) (σ := sigM) tiT_ok readB_closed (inB_mem (by kernel_rfl)) e0 h0 w0
  obtain ⟨a, rfl, ha, _⟩ := v_nodes s0
  obtain ⟨Hf, hg⟩ := MatchPlaces_good (hasC sigM_g) ha
  exact law_of_good (relL1 r0) hg (gMax_ok W hsh sigM_g)
end Go.Proofs.Ythmaggcfghjmfaa.Ev


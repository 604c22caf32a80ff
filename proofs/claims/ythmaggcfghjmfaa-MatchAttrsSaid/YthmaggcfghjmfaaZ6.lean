/- The walks, part 6: the evaluator, the functions, the laws. Conditions: none. -/
import Derived.Test.YthmaggcfghjmfaaZ5
namespace Go.Proofs.Ythmaggcfghjmfaa.Ev
set_option linter.unusedVariables false
set_option linter.unusedSimpArgs false
variable {σ : Sig}
section
variable {L : List Nd} {d : List Nat} {e : Nat} {c : Cp} {n : Nd} {dp : Nat} {b6 b9 : Nat} {K : AV → Hp → Prop}
theorem rc_L3 (hps : c.pseudos.length ≤ reachBytes) (hP : ∀ q ∈ c.pseudos, ∀ H, Good Try.prog σ n_ref9_Tree_pseudo [refT L d, I (e : Int), .agg (encPs q), I (dp : Int)] H (Bo (pseudoB (AA L) L e q)) H) {y10 y11 y12 : AV} : ∀ (k m : Nat) (H : Hp), c.pseudos.length - m = k → m ≤ c.pseudos.length → H.get b6 = some (.cells (encCp c) true) → (∀ H, K (Bo ((c.pseudos.drop m).all (pseudoB (AA L) L e))) H) →
    ref9_Tree_compound.L3 σ K (refT L d) (I (e : Int)) (I (dp : Int)) (.ptr b6 0) (.ptr b9 0) y10 y11 y12 (I (m : Int)) H := by
  intro k
  induction k with
  | zero =>
    intro m H hk hm h6 hK
    have : m = c.pseudos.length := by omega
    subst this
    have d4 : ldA false 1 H (.ptr b6 4) = some (.imm 4 (c.pseudos.map encPs)) := by simp [h6]
    refine ref9_Tree_compound.L3_step ?_
    simp only [sh_ptr, Nat.zero_add, bnd_some, d4, len_imm, List.length_map, b_lss, Int.lt_irrefl, decide_false, ifB_lit, Bool.false_eq_true, if_false]
    simpa using hK H
  | succ k ih =>
    intro m H hk hm h6 hK
    have hlt : m < c.pseudos.length := by omega
    obtain ⟨q, hq⟩ := get_lt hlt
    rw [drop_get hq, List.all_cons] at hK
    have hlt' : (m : Int) < c.pseudos.length := by omega
    have d4 : ldA false 1 H (.ptr b6 4) = some (.imm 4 (c.pseudos.map encPs)) := by simp [h6]
    refine ref9_Tree_compound.L3_step ?_
    simp only [sh_ptr, Nat.zero_add, bnd_some, d4, len_imm, List.length_map, b_lss, hlt', decide_true, ifB_lit, if_true, ix_map hq, ld_ip, ldL_ps]
    refine callK_of (hP q (List.mem_of_getElem? hq) _) ?_
    simp only [u_not, bnd_some, ifB_lit]
    cases hb : pseudoB (AA L) L e q with
    | false => rw [hb] at hK; simpa using hK H
    | true =>
      rw [hb] at hK
      simp only [Bool.not_true, Bool.false_eq_true, if_false, b_add, bnd_some]
      rw [wr_succL hlt hps (by decide)]
      exact ih (m + 1) H (by omega) (by omega) h6 (by simpa using hK)
theorem rc_L2 (has : c.attrs.length ≤ reachBytes) (hps : c.pseudos.length ≤ reachBytes) (hn : SmN n) (ha : ∀ a ∈ c.attrs, a.text.data.size < 4294967281) (hP : ∀ q ∈ c.pseudos, ∀ H, Good Try.prog σ n_ref9_Tree_pseudo [refT L d, I (e : Int), .agg (encPs q), I (dp : Int)] H (Bo (pseudoB (AA L) L e q)) H) {y10 y11 y14 : AV} : ∀ (k m : Nat) (H : Hp), c.attrs.length - m = k → m ≤ c.attrs.length → H.get b6 = some (.cells (encCp c) true) → H.get b9 = some (.cells (encNd n) true) → (∀ H, K (Bo ((c.attrs.drop m).all (attrB n.attrs) && c.pseudos.all (pseudoB (AA L) L e))) H) →
    ref9_Tree_compound.L2 σ K (refT L d) (I (e : Int)) (I (dp : Int)) (.ptr b6 0) (.ptr b9 0) y10 y11 (I (m : Int)) y14 H := by
  intro k
  induction k with
  | zero =>
    intro m H hk hm h6 h9 hK
    have : m = c.attrs.length := by omega
    subst this
    have d3 : ldA false 1 H (.ptr b6 3) = some (.imm 3 (c.attrs.map encAt)) := by simp [h6]
    refine ref9_Tree_compound.L2_step ?_
    simp only [sh_ptr, Nat.zero_add, bnd_some, d3, len_imm, List.length_map, b_lss, Int.lt_irrefl, decide_false, ifB_lit, Bool.false_eq_true, if_false]
    exact rc_L3 hps hP _ 0 H rfl (Nat.zero_le _) h6 (by simpa using hK)
  | succ k ih =>
    intro m H hk hm h6 h9 hK
    have hlt : m < c.attrs.length := by omega
    obtain ⟨a, hq⟩ := get_lt hlt
    rw [drop_get hq, List.all_cons] at hK
    have hlt' : (m : Int) < c.attrs.length := by omega
    have d3 : ldA false 1 H (.ptr b6 3) = some (.imm 3 (c.attrs.map encAt)) := by simp [h6]
    have d9 : ldA true 5 H (.ptr b9 0) = some (.agg (encNd n)) := by simp only [ld_ptr, h9, ldO_cells, List.drop_zero, ldL_nd]
    refine ref9_Tree_compound.L2_step ?_
    simp only [sh_ptr, Nat.zero_add, bnd_some, d3, d9, len_imm, List.length_map, b_lss, hlt', decide_true, ifB_lit, if_true, ix_map hq, ld_ip, ldL_at]
    refine callK_of (rattr_ok n hn.attrs hn.texts a (ha a (List.mem_of_getElem? hq)) _) ?_
    simp only [u_not, bnd_some, ifB_lit]
    cases hb : attrB n.attrs a with
    | false => rw [hb] at hK; simpa using hK H
    | true =>
      rw [hb] at hK
      simp only [Bool.not_true, Bool.false_eq_true, if_false, b_add, bnd_some]
      rw [wr_succL hlt has (by decide)]
      exact ih (m + 1) H (by omega) (by omega) h6 h9 (by simpa using hK)
structure RcOk (c : Cp) : Prop where
  ids : c.ids.length ≤ reachBytes
  classes : c.classes.length ≤ reachBytes
  attrs : c.attrs.length ≤ reachBytes
  ps : c.pseudos.length ≤ reachBytes
  texts : ∀ a ∈ c.attrs, a.text.data.size < 4294967281
theorem rc_L1 (hc : RcOk c) (hn : SmN n) (hP : ∀ q ∈ c.pseudos, ∀ H, Good Try.prog σ n_ref9_Tree_pseudo [refT L d, I (e : Int), .agg (encPs q), I (dp : Int)] H (Bo (pseudoB (AA L) L e q)) H) {y10 y12 y14 : AV} : ∀ (k m : Nat) (H : Hp), c.classes.length - m = k → m ≤ c.classes.length → H.get b6 = some (.cells (encCp c) true) → H.get b9 = some (.cells (encNd n) true) → (∀ H, K (Bo ((c.classes.drop m).all (hasB n.classes) && (c.attrs.all (attrB n.attrs) && c.pseudos.all (pseudoB (AA L) L e)))) H) →
    ref9_Tree_compound.L1 σ K (refT L d) (I (e : Int)) (I (dp : Int)) (.ptr b6 0) (.ptr b9 0) y10 (I (m : Int)) y12 y14 H := by
  intro k
  induction k with
  | zero =>
    intro m H hk hm h6 h9 hK
    have : m = c.classes.length := by omega
    subst this
    have d2 : ldA false 1 H (.ptr b6 2) = some (.imm 1 (c.classes.map fun s => [Sx s])) := by simp [h6, encCp_eq, strs]
    refine ref9_Tree_compound.L1_step ?_
    simp only [sh_ptr, Nat.zero_add, bnd_some, d2, len_imm, List.length_map, b_lss, Int.lt_irrefl, decide_false, ifB_lit, Bool.false_eq_true, if_false]
    exact rc_L2 hc.attrs hc.ps hn hc.texts hP _ 0 H rfl (Nat.zero_le _) h6 h9 (by simpa using hK)
  | succ k ih =>
    intro m H hk hm h6 h9 hK
    have hlt : m < c.classes.length := by omega
    obtain ⟨x, hq⟩ := get_lt hlt
    rw [drop_get hq, List.all_cons] at hK
    have hlt' : (m : Int) < c.classes.length := by omega
    have d2 : ldA false 1 H (.ptr b6 2) = some (.imm 1 (c.classes.map fun s => [Sx s])) := by simp [h6, encCp_eq, strs]
    have d9 : ldA false 1 H (.ptr b9 3) = some (strs n.classes) := by simp [h9, encNd]
    have lx : ldA false 1 H (.ip [Sx x]) = some (Sx x) := rfl
    have hix : ixaSl 1 (.imm 1 (c.classes.map fun s => [Sx s])) (I (m : Int)) = some (.ip [Sx x]) := ix_map hq
    refine ref9_Tree_compound.L1_step ?_
    simp only [sh_ptr, Nat.zero_add, bnd_some, d2, d9, len_imm, List.length_map, b_lss, hlt', decide_true, ifB_lit, if_true, hix, lx]
    refine callK_of (rhas_ok n.classes hn.classes x _) ?_
    simp only [u_not, bnd_some, ifB_lit]
    cases hb : hasB n.classes x with
    | false => rw [hb] at hK; simpa using hK H
    | true =>
      rw [hb] at hK
      simp only [Bool.not_true, Bool.false_eq_true, if_false, b_add, bnd_some]
      rw [wr_succL hlt hc.classes (by decide)]
      exact ih (m + 1) H (by omega) (by omega) h6 h9 (by simpa using hK)
theorem rc_L0 (hc : RcOk c) (hn : SmN n) (hP : ∀ q ∈ c.pseudos, ∀ H, Good Try.prog σ n_ref9_Tree_pseudo [refT L d, I (e : Int), .agg (encPs q), I (dp : Int)] H (Bo (pseudoB (AA L) L e q)) H) {y11 y12 y14 : AV} : ∀ (k m : Nat) (H : Hp), c.ids.length - m = k → m ≤ c.ids.length → H.get b6 = some (.cells (encCp c) true) → H.get b9 = some (.cells (encNd n) true) → (∀ H, K (Bo ((c.ids.drop m).all (idB n) && (c.classes.all (hasB n.classes) && (c.attrs.all (attrB n.attrs) && c.pseudos.all (pseudoB (AA L) L e))))) H) →
    ref9_Tree_compound.L0 σ K (refT L d) (I (e : Int)) (I (dp : Int)) (.ptr b6 0) (.ptr b9 0) (I (m : Int)) y11 y12 y14 H := by
  intro k
  induction k with
  | zero =>
    intro m H hk hm h6 h9 hK
    have : m = c.ids.length := by omega
    subst this
    have d2 : ldA false 1 H (.ptr b6 1) = some (.imm 1 (c.ids.map fun s => [Sx s])) := by simp [h6, encCp_eq, strs]
    refine ref9_Tree_compound.L0_step ?_
    simp only [sh_ptr, Nat.zero_add, bnd_some, d2, len_imm, List.length_map, b_lss, Int.lt_irrefl, decide_false, ifB_lit, Bool.false_eq_true, if_false]
    exact rc_L1 hc hn hP _ 0 H rfl (Nat.zero_le _) h6 h9 (by simpa using hK)
  | succ k ih =>
    intro m H hk hm h6 h9 hK
    have hlt : m < c.ids.length := by omega
    obtain ⟨x, hq⟩ := get_lt hlt
    rw [drop_get hq, List.all_cons] at hK
    have hlt' : (m : Int) < c.ids.length := by omega
    have d2 : ldA false 1 H (.ptr b6 1) = some (.imm 1 (c.ids.map fun s => [Sx s])) := by simp [h6, encCp_eq, strs]
    have d9 : ldA false 1 H (.ptr b9 2) = some (Sx n.id) := by simp [h9, encNd]
    have lx : ldA false 1 H (.ip [Sx x]) = some (Sx x) := rfl
    have hix : ixaSl 1 (.imm 1 (c.ids.map fun s => [Sx s])) (I (m : Int)) = some (.ip [Sx x]) := ix_map hq
    refine ref9_Tree_compound.L0_step ?_
    simp only [sh_ptr, Nat.zero_add, bnd_some, d2, d9, len_imm, List.length_map, b_lss, hlt', decide_true, ifB_lit, if_true, hix, lx, b_sneq, b_seql]
    by_cases h1 : x = n.id
    · by_cases h2 : n.id = emp
      · have h2' : n.id = ⟨#[]⟩ := h2
        have hid : idB n x = false := by unfold idB; rw [h1, h2]; simp
        rw [hid] at hK
        simp only [h1, h2', decide_true, Bool.not_true, Bool.false_eq_true, if_false, if_true]
        simpa using hK H
      · have h2' : ¬ (n.id = ⟨#[]⟩) := h2
        have hid : idB n x = true := by unfold idB; rw [h1]; simp [h2]
        rw [hid] at hK
        simp only [h1, h2', decide_true, decide_false, Bool.not_true, Bool.false_eq_true, if_false, b_add, bnd_some]
        rw [wr_succL hlt hc.ids (by decide)]
        exact ih (m + 1) H (by omega) (by omega) h6 h9 (by simpa using hK)
    · have hid : idB n x = false := by unfold idB; simp [h1]
      rw [hid] at hK
      simp only [h1, decide_false, Bool.not_false, if_true]
      simpa using hK H
end
end Go.Proofs.Ythmaggcfghjmfaa.Ev
namespace Go.Proofs.Ythmaggcfghjmfaa.Ev
set_option linter.unusedVariables false
set_option linter.unusedSimpArgs false
variable {σ : Sig}
section
attribute [local irreducible] ref9_Tree_compound.L0
theorem rcomp_ok {L : List Nd} {d : List Nat} (hB : Built L L.length d) (hN : L.length ≤ 4096) {e : Nat} (he : e < L.length) (hn : SmN (lowN (ndAt L e))) {c : Cp} (hc : RcOk c) (hq : ∀ q ∈ c.pseudos, i64 q.a ∧ i64 q.b) {dp : Nat} (hd : dp ≤ 100)
    (hA : ∀ q ∈ c.pseudos, (q.kind = 7 ∨ q.kind = 8) → ∀ H, Good Try.prog σ n_ref9_Tree_any [refT L d, I (e : Int), sls q.list, I ((dp + 1 : Nat) : Int)] H (Bo (AA L q.list e)) H) (H : Hp) :
    Good Try.prog σ n_ref9_Tree_compound [refT L d, I (e : Int), .agg (encCp c), I (dp : Int)] H (Bo (compB (AA L) L e c)) H := by
  refine good_by (fun K hK => ref9_Tree_compound.run ?_) (by simp [noIds, noId, noId_refT, noId_Cp]) rfl H
  have hP : ∀ q ∈ c.pseudos, ∀ H, Good Try.prog σ n_ref9_Tree_pseudo [refT L d, I (e : Int), .agg (encPs q), I (dp : Int)] H (Bo (pseudoB (AA L) L e q)) H := fun q h => rpseudo_ok hB hN he (hq q h) hd (hA q h)
  simp only [boxK_agg]
  refine callK_of (ris_t L d he _) ?_
  simp only [u_not, bnd_some, ifB_lit, Bool.not_true, Bool.false_eq_true, if_false, rnilp, rsh, rld, rix he, ld_ip, ldL_nd, allocK_eq, st_agg, len_encNd, if_true]
  rw [hp_get_new, if_pos rfl]
  simp only [stO_cells, len_encNd, one_Nd]
  rw [if_pos ⟨by decide, trivial⟩]
  rw [overlay_all (by rfl)]
  simp only [bnd_some]
  obtain ⟨H3, hH3⟩ : ∃ H3, H3 = ((Hp.empty.new (.cells (encCp c) true)).new (.cells [I 0, .lit (.string ⟨#[]⟩), .lit (.string ⟨#[]⟩), .lit (.slice none 0 0), .lit (.slice none 0 0)] true)).set (Hp.empty.new (.cells (encCp c) true)).n (some (.cells (encNd (lowN (ndAt L e))) true)) := ⟨_, rfl⟩
  have h6 : H3.get Hp.empty.n = some (.cells (encCp c) true) := by rw [hH3]; simp
  have h9 : H3.get (Hp.empty.new (.cells (encCp c) true)).n = some (.cells (encNd (lowN (ndAt L e))) true) := by rw [hH3]; simp
  rw [← hH3]
  generalize Hp.empty.n = b6 at h6
  generalize (Hp.empty.new (.cells (encCp c) true)).n = b9 at h9
  have d0 : ldA false 1 H3 (.ptr b6 0) = some (Sx c.tag) := by simp [h6]
  have d1 : ldA false 1 H3 (.ptr b9 1) = some (Sx (lowN (ndAt L e)).tag) := by simp [h9]
  simp only [sh_ptr, Nat.zero_add, bnd_some, d0, d1, b_sneq, ifB_lit]
  have hK' : ∀ H, K (Bo (tagB (lowN (ndAt L e)) c && (c.ids.all (idB (lowN (ndAt L e))) && (c.classes.all (hasB (lowN (ndAt L e)).classes) && (c.attrs.all (attrB (lowN (ndAt L e)).attrs) && c.pseudos.all (pseudoB (AA L) L e)))))) H := by
    intro H
    have := hK H
    unfold compB plainB at this
    simpa only [Bool.and_assoc] using this
  have go : tagB (lowN (ndAt L e)) c = true → ref9_Tree_compound.L0 σ K (refT L d) (I (e : Int)) (I (dp : Int)) (.ptr b6 0) (.ptr b9 0) (I 0) (.lit undef) (.lit undef) (.lit undef) H3 := by
    intro ht
    refine rc_L0 hc hn hP _ 0 H3 rfl (Nat.zero_le _) h6 h9 fun H => ?_
    have := hK' H
    rw [ht, Bool.true_and] at this
    exact this
  by_cases ht : c.tag = ⟨#[]⟩
  · simp only [ht, decide_true, Bool.not_true, Bool.false_eq_true, if_false]
    exact go (by unfold tagB emp; simp [ht])
  · by_cases ht2 : c.tag = (lowN (ndAt L e)).tag
    · simp only [ht, ht2, decide_true, decide_false, Bool.not_true, Bool.not_false, Bool.false_eq_true, if_true, if_false]
      have hne : ¬ ((lowN (ndAt L e)).tag = ⟨#[]⟩) := by rw [← ht2]; exact ht
      simp only [hne, decide_false, Bool.not_false, if_true]
      exact go (by unfold tagB; simp [ht2])
    · simp only [ht, ht2, decide_false, Bool.not_false, if_true]
      have := hK' H3
      have hb : tagB (lowN (ndAt L e)) c = false := by unfold tagB emp; simp [ht, ht2]
      rw [hb] at this
      simpa using this
end
structure Kn (L : List Nd) (s : Sl) (kb M : Nat) (H : Hp) : Prop where
  lt : kb < H.n
  get : ∃ ks, H.get kb = some (.cells ks true) ∧ ks.length = M ∧ ∀ e k, e < L.length → k < s.length → ∃ v : Int, ks[e * s.length + k]? = some (I v) ∧ (v = 0 ∨ (v = 1 ∧ frontB (AA L) L s k e = true) ∨ (v = 2 ∧ frontB (AA L) L s k e = false))
theorem Kn.keep {L : List Nd} {s : Sl} {kb M : Nat} {H H' : Hp} (h : Kn L s kb M H) (hn : H.n ≤ H'.n) (hg : H'.get kb = H.get kb) : Kn L s kb M H' := by
  obtain ⟨ks, h1, h2, h3⟩ := h.get
  exact ⟨Nat.lt_of_lt_of_le h.lt hn, ks, by rw [hg]; exact h1, h2, h3⟩
theorem Kn.new {L : List Nd} {s : Sl} {kb M : Nat} {H : Hp} (h : Kn L s kb M H) (b : Blk) : Kn L s kb M (H.new b) := by
  refine h.keep (by simp) ?_
  have : kb ≠ H.n := by have := h.lt; omega
  simp [this]
theorem idx_inj {n a b x y : Nat} (hx : x < n) (hy : y < n) (h : a * n + x = b * n + y) : a = b ∧ x = y := by
  have h1 : (a * n + x) / n = (b * n + y) / n := by rw [h]
  have hn : 0 < n := by omega
  rw [Nat.mul_comm a, Nat.mul_comm b, Nat.mul_add_div hn, Nat.mul_add_div hn, Nat.div_eq_of_lt hx, Nat.div_eq_of_lt hy] at h1
  simp only [Nat.add_zero] at h1
  subst h1
  exact ⟨rfl, by omega⟩
theorem ov_set : ∀ (cs : List AV) (i : Nat) (x : AV), i < cs.length → overlay cs i [x] = cs.set i x := by
  intro cs
  induction cs with
  | nil => intro i x hi; simp at hi
  | cons c r ih =>
    intro i x hi
    cases i with
    | zero => simp
    | succ i => rw [overlay_s, List.set_cons_succ, ih i x (by simpa using hi)]
theorem Kn.put {L : List Nd} {s : Sl} {kb M : Nat} {H : Hp} (h : Kn L s kb M H) {e k : Nat} (he : e < L.length) (hk : k < s.length) {v : Int} (hv : v = 0 ∨ (v = 1 ∧ frontB (AA L) L s k e = true) ∨ (v = 2 ∧ frontB (AA L) L s k e = false)) :
    ∃ H', stA 1 H (.ptr kb (e * s.length + k)) (I v) = some H' ∧ Kn L s kb M H' ∧ Kp kb H H' ∧ ldA false 1 H' (.ptr kb (e * s.length + k)) = some (I v) := by
  obtain ⟨ks, h1, h2, h3⟩ := h.get
  obtain ⟨v0, hv0, _⟩ := h3 e k he hk
  have hlt := (List.getElem?_eq_some_iff.1 hv0).1
  refine ⟨H.set kb (some (.cells (ks.set (e * s.length + k) (I v)) true)), ?_, ⟨by simpa using h.lt, _, by simp; rfl, by simpa using h2, fun e' k' he' hk' => ?_⟩, ⟨by simp, fun j hj hne => by simp [hne]⟩, ?_⟩
  · have hlt' : e * s.length + k + [I v].length ≤ ks.length := by simp; omega
    rw [st_int, h1]
    simp only [stO_cells]
    rw [if_pos ⟨hlt', rfl⟩, ov_set _ _ _ hlt]
  · by_cases hi : e * s.length + k = e' * s.length + k'
    · obtain ⟨rfl, rfl⟩ := idx_inj hk hk' hi
      exact ⟨v, by simp [hlt], hv⟩
    · obtain ⟨w, hw, hw'⟩ := h3 e' k' he' hk'
      exact ⟨w, by simp [List.getElem?_set, hi, hw], hw'⟩
  · simp only [ld_ptr, hp_get_set, if_true, ldO_cells]
    rw [List.drop_eq_getElem_cons (by simpa using hlt), ldL_one]
    simp
theorem Kn.put2 {L : List Nd} {s : Sl} {kb M : Nat} {H : Hp} (h : Kn L s kb M H) {e k : Nat} (he : e < L.length) (hk : k < s.length) {v w : Int} (hv : v = 0 ∨ (v = 1 ∧ frontB (AA L) L s k e = true) ∨ (v = 2 ∧ frontB (AA L) L s k e = false)) :
    ∃ H1 H', stA 1 H (.ptr kb (e * s.length + k)) (I w) = some H1 ∧ stA 1 H1 (.ptr kb (e * s.length + k)) (I v) = some H' ∧ Kn L s kb M H' ∧ Kp kb H H' ∧ ldA false 1 H' (.ptr kb (e * s.length + k)) = some (I v) := by
  obtain ⟨ks, h1, h2, h3⟩ := h.get
  obtain ⟨v0, hv0, _⟩ := h3 e k he hk
  have hlt := (List.getElem?_eq_some_iff.1 hv0).1
  refine ⟨H.set kb (some (.cells (ks.set (e * s.length + k) (I w)) true)), H.set kb (some (.cells (ks.set (e * s.length + k) (I w)) true)) |>.set kb (some (.cells ((ks.set (e * s.length + k) (I w)).set (e * s.length + k) (I v)) true)), ?_, ?_, ⟨by simpa using h.lt, _, by simp; rfl, by simpa using h2, fun e' k' he' hk' => ?_⟩, ⟨by simp, fun j hj hne => by simp [hne]⟩, ?_⟩
  · have hlt' : e * s.length + k + [I w].length ≤ ks.length := by simp; omega
    rw [st_int, h1]
    simp only [stO_cells]
    rw [if_pos ⟨hlt', rfl⟩, ov_set _ _ _ hlt]
  · have hlt' : e * s.length + k + [I v].length ≤ (ks.set (e * s.length + k) (I w)).length := by simp; omega
    rw [st_int]
    simp only [hp_get_set, if_true, stO_cells]
    rw [if_pos ⟨hlt', rfl⟩, ov_set _ _ _ (by simpa using hlt)]
  · by_cases hi : e * s.length + k = e' * s.length + k'
    · obtain ⟨rfl, rfl⟩ := idx_inj hk hk' hi
      exact ⟨v, by simp [hlt], hv⟩
    · obtain ⟨w, hw, hw'⟩ := h3 e' k' he' hk'
      exact ⟨w, by simp [List.getElem?_set, hi, hw], hw'⟩
  · simp only [ld_ptr, hp_get_set, if_true, ldO_cells]
    rw [List.drop_eq_getElem_cons (by simpa using hlt), ldL_one]
    simp
structure RSl (L : List Nd) (s : Sl) : Prop where
  len : s.length ≤ 50
  c : ∀ p ∈ s, RcOk p.c
  q : ∀ p ∈ s, ∀ q ∈ p.c.pseudos, i64 q.a ∧ i64 q.b
theorem rbefore_bd {L : List Nd} (e : Nat) : before L e = -1 ∨ ∃ p : Nat, before L e = p ∧ p < e := by
  unfold before lastI
  cases h : (sibs L e).getLast? with
  | none => exact .inl rfl
  | some j =>
    refine .inr ⟨j, rfl, ?_⟩
    have := List.mem_of_getLast? h
    unfold sibs at this
    simp only [List.mem_filter, List.mem_range] at this
    exact this.1
section
attribute [local irreducible] ref9_Tree_hangs.L0 ref9_Tree_hangs.L1 ref9_Tree_hangs.J2 ref9_Tree_front.J0
def FrOk (σ : Sig) (L : List Nd) (d : List Nat) (s : Sl) (dp kb M : Nat) (cap : Option Nat) (i : Nat) : Prop := ∀ (e : Nat) (H : Hp) (K : AV → Hp → Prop), e < L.length → Kn L s kb M H → (∀ H', Kn L s kb M H' → Kp kb H H' → K (Bo (frontB (AA L) L s i e)) H') →
  callK Try.prog σ n_ref9_Tree_front [refT L d, I (e : Int), .agg (encSl s), I ((i + 1 : Nat) : Int), I (dp : Int), .sl kb 0 1 M cap] H K
variable {L : List Nd} {d : List Nat} {s : Sl} {dp kb M : Nat} {cap : Option Nat}
theorem hangs_L0 (hB : Built L L.length d) (hN : L.length ≤ 4096) {i b8 : Nat} (hi : i < 100) (ih : FrOk σ L d s dp kb M cap i) {K : AV → Hp → Prop} {y15 : AV} : ∀ (f : Nat) (x : Int) (H : Hp), (x = -1 ∨ ∃ p : Nat, x = p ∧ p < f ∧ p < L.length) → Kn L s kb M H → b8 < H.n → b8 ≠ kb → H.get b8 = some (.cells (encSl s) true) →
    (∀ H', Kn L s kb M H' → Kp kb H H' → K (Bo (decide (0 ≤ x) && (frontB (AA L) L s i x.toNat || aheadF (frontB (AA L) L s i) L 1 f x.toNat))) H') →
    ref9_Tree_hangs.L0 σ K (refT L d) (I ((i + 1 + 1 : Nat) : Int)) (I (dp : Int)) (.sl kb 0 1 M cap) (.ptr b8 0) (I x) y15 H := by
  intro f
  induction f with
  | zero =>
    intro x H hx hk h8 hne hg hK
    obtain rfl : x = -1 := by rcases hx with h | ⟨p, _, h, _⟩ <;> omega
    refine ref9_Tree_hangs.L0_step ?_
    simp only [b_geq, bnd_some, ifB_lit, show ¬ ((0 : Int) ≤ -1) from by decide, decide_false, Bool.false_eq_true, if_false]
    exact ref9_Tree_hangs.J2_step (by simpa using hK H hk (Kp.refl _ _))
  | succ f ihf =>
    intro x H hx hk h8 hne hg hK
    refine ref9_Tree_hangs.L0_step ?_
    rcases hx with rfl | ⟨p, rfl, hpf, hpL⟩
    · simp only [b_geq, bnd_some, ifB_lit, show ¬ ((0 : Int) ≤ -1) from by decide, decide_false, Bool.false_eq_true, if_false]
      exact ref9_Tree_hangs.J2_step (by simpa using hK H hk (Kp.refl _ _))
    have hl : ldA true 1 H (.ptr b8 0) = some (.agg (encSl s)) := by simp [hg]
    have hsub : wr .i64 (((i + 1 + 1 : Nat) : Int) - 1) = ((i + 1 : Nat) : Int) := by rw [wr64 (by omega) (by omega)]; omega
    simp only [b_geq, bnd_some, ifB_lit, Int.natCast_nonneg, decide_true, if_true, hl, b_sub, hsub]
    refine ih p H _ hpL hk fun H1 hk1 hp1 => ?_
    simp only [ifB_lit]
    simp only [Int.natCast_nonneg, decide_true, Bool.true_and, Int.toNat_natCast] at hK
    cases hb : frontB (AA L) L s i p with
    | true =>
      simp only [if_true]
      have := hK H1 hk1 hp1
      rw [hb] at this
      simpa using this
    | false =>
      simp only [Bool.false_eq_true, if_false]
      refine callK_of (rParent_ok L d hpL _) ?_
      have hpb := par_bd hB hpL
      refine ihf (par L p) H1 ?_ hk1 (Nat.lt_of_lt_of_le h8 hp1.up) hne (by rw [hp1.get _ h8 hne]; exact hg) fun H2 hk2 hp2 => ?_
      · rcases hpb with h | ⟨q, h, hq⟩
        · exact .inl h
        · exact .inr ⟨q, h, by omega, by omega⟩
      have := hK H2 hk2 (hp1.trans hp2)
      rw [hb] at this
      have e1 : aheadF (frontB (AA L) L s i) L 1 (f + 1) p = (decide (0 ≤ par L p) && (frontB (AA L) L s i (par L p).toNat || aheadF (frontB (AA L) L s i) L 1 f (par L p).toNat)) := by
        rw [aheadF]
        have : standI L p 1 = par L p := by unfold standI; simp
        rw [this]
        have : farB 1 = true := rfl
        rw [this, Bool.true_and]
      rw [← e1]
      simpa using this
theorem hangs_L1 (hB : Built L L.length d) (hN : L.length ≤ 4096) {i b8 : Nat} (hi : i < 100) (ih : FrOk σ L d s dp kb M cap i) {K : AV → Hp → Prop} {y13 : AV} : ∀ (f : Nat) (x : Int) (H : Hp), (x = -1 ∨ ∃ p : Nat, x = p ∧ p < f ∧ p < L.length) → Kn L s kb M H → b8 < H.n → b8 ≠ kb → H.get b8 = some (.cells (encSl s) true) →
    (∀ H', Kn L s kb M H' → Kp kb H H' → K (Bo (decide (0 ≤ x) && (frontB (AA L) L s i x.toNat || aheadF (frontB (AA L) L s i) L 4 f x.toNat))) H') →
    ref9_Tree_hangs.L1 σ K (refT L d) (I ((i + 1 + 1 : Nat) : Int)) (I (dp : Int)) (.sl kb 0 1 M cap) (.ptr b8 0) y13 (I x) H := by
  intro f
  induction f with
  | zero =>
    intro x H hx hk h8 hne hg hK
    obtain rfl : x = -1 := by rcases hx with h | ⟨p, _, h, _⟩ <;> omega
    refine ref9_Tree_hangs.L1_step ?_
    simp only [b_geq, bnd_some, ifB_lit, show ¬ ((0 : Int) ≤ -1) from by decide, decide_false, Bool.false_eq_true, if_false]
    exact ref9_Tree_hangs.J2_step (by simpa using hK H hk (Kp.refl _ _))
  | succ f ihf =>
    intro x H hx hk h8 hne hg hK
    refine ref9_Tree_hangs.L1_step ?_
    rcases hx with rfl | ⟨p, rfl, hpf, hpL⟩
    · simp only [b_geq, bnd_some, ifB_lit, show ¬ ((0 : Int) ≤ -1) from by decide, decide_false, Bool.false_eq_true, if_false]
      exact ref9_Tree_hangs.J2_step (by simpa using hK H hk (Kp.refl _ _))
    have hl : ldA true 1 H (.ptr b8 0) = some (.agg (encSl s)) := by simp [hg]
    have hsub : wr .i64 (((i + 1 + 1 : Nat) : Int) - 1) = ((i + 1 : Nat) : Int) := by rw [wr64 (by omega) (by omega)]; omega
    simp only [b_geq, bnd_some, ifB_lit, Int.natCast_nonneg, decide_true, if_true, hl, b_sub, hsub]
    refine ih p H _ hpL hk fun H1 hk1 hp1 => ?_
    simp only [ifB_lit]
    simp only [Int.natCast_nonneg, decide_true, Bool.true_and, Int.toNat_natCast] at hK
    cases hb : frontB (AA L) L s i p with
    | true =>
      simp only [if_true]
      have := hK H1 hk1 hp1
      rw [hb] at this
      simpa using this
    | false =>
      simp only [Bool.false_eq_true, if_false]
      refine callK_of (rBefore_ok L d hN hpL _) ?_
      have hpb := rbefore_bd (L := L) p
      refine ihf (before L p) H1 ?_ hk1 (Nat.lt_of_lt_of_le h8 hp1.up) hne (by rw [hp1.get _ h8 hne]; exact hg) fun H2 hk2 hp2 => ?_
      · rcases hpb with h | ⟨q, h, hq⟩
        · exact .inl h
        · exact .inr ⟨q, h, by omega, by omega⟩
      have := hK H2 hk2 (hp1.trans hp2)
      rw [hb] at this
      have e1 : aheadF (frontB (AA L) L s i) L 4 (f + 1) p = (decide (0 ≤ before L p) && (frontB (AA L) L s i (before L p).toNat || aheadF (frontB (AA L) L s i) L 4 f (before L p).toNat)) := by
        rw [aheadF]
        have : standI L p 4 = before L p := by unfold standI; simp
        rw [this]
        have : farB 4 = true := rfl
        rw [this, Bool.true_and]
      rw [← e1]
      simpa using this
theorem hangs_sp (hB : Built L L.length d) (hN : L.length ≤ 4096) {i : Nat} (hi : i < 100) (ih : FrOk σ L d s dp kb M cap i) {p : Pt} (hp : s[i + 1]? = some p) {e : Nat} (he : e < L.length) {H : Hp} (hk : Kn L s kb M H) {K : AV → Hp → Prop}
    (hK : ∀ H', Kn L s kb M H' → Kp kb H H' → K (Bo (aheadF (frontB (AA L) L s i) L p.comb (e + 1) e)) H') :
    callK Try.prog σ n_ref9_Tree_hangs [refT L d, I (e : Int), .agg (encSl s), I ((i + 1 + 1 : Nat) : Int), I (dp : Int), .sl kb 0 1 M cap] H K := by
  refine ref9_Tree_hangs.run ?_
  simp only [boxK_agg]
  have hk2 := hk.new (.cells (encSl s) true)
  have hkp := Kp.new kb H (.cells (encSl s) true)
  obtain ⟨H2, hH2⟩ : ∃ H2, H2 = H.new (.cells (encSl s) true) := ⟨_, rfl⟩
  have h8 : H2.get H.n = some (.cells (encSl s) true) := by rw [hH2]; simp
  have hb8 : H.n < H2.n := by rw [hH2]; simp
  have hne : H.n ≠ kb := by have := hk.lt; omega
  rw [← hH2] at hk2 hkp ⊢
  clear hH2
  generalize H.n = b8 at h8 hb8 hne ⊢
  have hsub : wr .i64 (((i + 1 + 1 : Nat) : Int) - 1) = ((i + 1 : Nat) : Int) := by rw [wr64 (by omega) (by omega)]; omega
  have hl0 : ldA false 1 H2 (.ptr b8 0) = some (.imm 6 (s.map encPt)) := by simp [h8, encSl]
  have hl : ldA true 1 H2 (.ptr b8 0) = some (.agg (encSl s)) := by simp [h8]
  have hix : ixaSl 6 (.imm 6 (s.map encPt)) (I ((i + 1 : Nat) : Int)) = some (.ip (encPt p)) := ix_map hp
  simp only [sh_ptr, Nat.zero_add, bnd_some, hl0, b_sub, hsub, hix, sh_ip, List.drop_zero, ld_ip, f_encPt0, b_eql, ifB_lit, decide_eq_true_eq]
  have K2 : ∀ H', Kn L s kb M H' → Kp kb H2 H' → K (Bo (aheadF (frontB (AA L) L s i) L p.comb (e + 1) e)) H' := fun H' a b => hK H' a (hkp.trans b)
  rw [aheadF] at K2
  split
  · rename_i hc
    refine callK_of (rParent_ok L d he _) ?_
    have hpb := par_bd hB he
    refine hangs_L0 hB hN hi ih e (par L e) H2 ?_ hk2 hb8 hne h8 fun H3 a b => ?_
    · rcases hpb with h | ⟨q, h, hq⟩
      · exact .inl h
      · exact .inr ⟨q, h, by omega, by omega⟩
    have := K2 H3 a b
    rw [hc] at this
    have e1 : standI L e 1 = par L e := by unfold standI; simp
    have e2 : farB 1 = true := rfl
    rw [e1, e2, Bool.true_and] at this
    exact this
  rename_i hc1
  split
  · rename_i hc
    refine callK_of (rParent_ok L d he _) ?_
    have hpb := par_bd hB he
    have e1 : standI L e 2 = par L e := by unfold standI; simp
    have e2 : farB 2 = false := rfl
    rw [hc, e1, e2, Bool.false_and, Bool.or_false] at K2
    simp only [b_geq, bnd_some, ifB_lit, decide_eq_true_eq]
    rcases hpb with h | ⟨q, h, hq⟩
    · rw [h] at K2 ⊢
      simp only [show ¬ ((0 : Int) ≤ -1) from by decide, if_false]
      simpa using K2 H2 hk2 (Kp.refl _ _)
    · rw [h] at K2
      simp only [h, Int.natCast_nonneg, if_true]
      refine callK_of (rParent_ok L d he _) ?_
      rw [kp_ptr]
      refine ⟨rfl, ?_⟩
      simp only [hl, bnd_some]
      rw [h]
      refine ih q H2 _ (by omega) hk2 fun H3 a b => ?_
      simpa using K2 H3 a b
  rename_i hc2
  split
  · rename_i hc
    refine callK_of (rBefore_ok L d hN he _) ?_
    have hpb := rbefore_bd (L := L) e
    have e1 : standI L e 3 = before L e := by unfold standI; simp
    have e2 : farB 3 = false := rfl
    rw [hc, e1, e2, Bool.false_and, Bool.or_false] at K2
    simp only [b_geq, bnd_some, ifB_lit, decide_eq_true_eq]
    rcases hpb with h | ⟨q, h, hq⟩
    · rw [h] at K2 ⊢
      simp only [show ¬ ((0 : Int) ≤ -1) from by decide, if_false]
      simpa using K2 H2 hk2 (Kp.refl _ _)
    · rw [h] at K2
      simp only [h, Int.natCast_nonneg, if_true]
      refine callK_of (rBefore_ok L d hN he _) ?_
      rw [kp_ptr]
      refine ⟨rfl, ?_⟩
      simp only [hl, bnd_some]
      rw [h]
      refine ih q H2 _ (by omega) hk2 fun H3 a b => ?_
      simpa using K2 H3 a b
  rename_i hc3
  split
  · rename_i hc
    refine callK_of (rBefore_ok L d hN he _) ?_
    have hpb := rbefore_bd (L := L) e
    refine hangs_L1 hB hN hi ih e (before L e) H2 ?_ hk2 hb8 hne h8 fun H3 a b => ?_
    · rcases hpb with h | ⟨q, h, hq⟩
      · exact .inl h
      · exact .inr ⟨q, h, by omega, by omega⟩
    have := K2 H3 a b
    rw [hc] at this
    have e1 : standI L e 4 = before L e := by unfold standI; simp
    have e2 : farB 4 = true := rfl
    rw [e1, e2, Bool.true_and] at this
    exact this
  rename_i hc4
  refine ref9_Tree_hangs.J2_step ?_
  have e1 : standI L e p.comb = -1 := by unfold standI; rw [if_neg (by omega), if_neg (by omega)]
  rw [e1] at K2
  simpa using K2 H2 hk2 (Kp.refl _ _)
def AnyR (σ : Sig) (L : List Nd) (d : List Nat) (s : Sl) (dp : Nat) : Prop := ∀ p ∈ s, ∀ q ∈ p.c.pseudos, (q.kind = 7 ∨ q.kind = 8) → ∀ (e : Nat) (H : Hp), e < L.length → Good Try.prog σ n_ref9_Tree_any [refT L d, I (e : Int), sls q.list, I ((dp + 1 : Nat) : Int)] H (Bo (AA L q.list e)) H
theorem fr_step (hB : Built L L.length d) (hN : L.length ≤ 4096) (hsm : ∀ e, e < L.length → SmN (lowN (ndAt L e))) (hs : RSl L s) (hd : dp ≤ 100) (hM : M = L.length * s.length) (hA : AnyR σ L d s dp) {i : Nat} (hi : i < s.length)
    (ih : ∀ j, i = j + 1 → FrOk σ L d s dp kb M cap j) : FrOk σ L d s dp kb M cap i := by
  intro e H K he hk hK
  refine ref9_Tree_front.run ?_
  simp only [boxK_agg]
  have hk2 := hk.new (.cells (encSl s) true)
  have hkp := Kp.new kb H (.cells (encSl s) true)
  obtain ⟨H2, hH2⟩ : ∃ H2, H2 = H.new (.cells (encSl s) true) := ⟨_, rfl⟩
  have h8 : H2.get H.n = some (.cells (encSl s) true) := by rw [hH2]; simp
  have hb8 : H.n < H2.n := by rw [hH2]; simp
  have hne : H.n ≠ kb := by have := hk.lt; omega
  rw [← hH2] at hk2 hkp ⊢
  clear hH2
  generalize H.n = b8 at h8 hb8 hne ⊢
  have hl50 := hs.len
  have hmul : e * s.length ≤ 4096 * 50 := Nat.mul_le_mul (by omega) hl50
  have e1 : wr .i64 ((e : Int) * (s.length : Int)) = ((e * s.length : Nat) : Int) := by
    have : (e : Int) * (s.length : Int) = ((e * s.length : Nat) : Int) := by simp
    rw [this, wr64 (by omega) (by omega)]
  have e2 : wr .i64 (((e * s.length : Nat) : Int) + ((i + 1 : Nat) : Int)) = ((e * s.length + i + 1 : Nat) : Int) := by rw [wr64 (by omega) (by omega)]; omega
  have e3 : wr .i64 (((e * s.length + i + 1 : Nat) : Int) - 1) = ((e * s.length + i : Nat) : Int) := by rw [wr64 (by omega) (by omega)]; omega
  have e4 : wr .i64 (((i + 1 : Nat) : Int) - 1) = (i : Int) := by rw [wr64 (by omega) (by omega)]; omega
  have hlt : e * s.length + i < M := by
    rw [hM]
    have h1 : (e + 1) * s.length ≤ L.length * s.length := Nat.mul_le_mul_right _ he
    rw [Nat.succ_mul] at h1
    omega
  have hl0 : ldA false 1 H2 (.ptr b8 0) = some (.imm 6 (s.map encPt)) := by simp [h8, encSl]
  have hl : ldA true 1 H2 (.ptr b8 0) = some (.agg (encSl s)) := by simp [h8]
  have hix : ixaSl 1 (.sl kb 0 1 M cap) (I ((e * s.length + i : Nat) : Int)) = some (.ptr kb (e * s.length + i)) := by
    have a1 : ((e * s.length + i : Nat) : Int) < (M : Int) := by omega
    have a2 : (0 : Int) ≤ ((e * s.length + i : Nat) : Int) := by omega
    simp only [ixaSl, intA, a1, a2, decide_true, Bool.and_self, cond_true, Int.toNat_natCast, Nat.zero_add, Nat.mul_one]
  obtain ⟨p, hp⟩ := get_lt hi
  have hixp : ixaSl 6 (.imm 6 (s.map encPt)) (I (i : Int)) = some (.ip (encPt p)) := ix_map hp
  obtain ⟨ks, g1, g2, g3⟩ := hk2.get
  obtain ⟨v, hv, hv'⟩ := g3 e i he hi
  have hld : ldA false 1 H2 (.ptr kb (e * s.length + i)) = some (I v) := by
    rw [ld_ptr, g1, ldO_cells, drop_get hv, ldL_one]
  simp only [sh_ptr, Nat.zero_add, bnd_some, hl0, len_imm, List.length_map, b_mul, b_add, b_sub, e1, e2, e3, e4, hix, hld, b_eql, ifB_lit, decide_eq_true_eq]
  have K2 : ∀ H', Kn L s kb M H' → Kp kb H2 H' → K (Bo (frontB (AA L) L s i e)) H' := fun H' a b => hK H' a (hkp.trans b)
  have fin : ∀ (H3 : Hp) (w : Int), Kn L s kb M H3 → Kp kb H2 H3 → ldA false 1 H3 (.ptr kb (e * s.length + i)) = some (I w) → decide (w = 1) = frontB (AA L) L s i e →
      ref9_Tree_front.J0 σ K (.sl kb 0 1 M cap) (I ((e * s.length + i : Nat) : Int)) H3 := by
    intro H3 w a b c hw
    refine ref9_Tree_front.J0_step ?_
    simp only [hix, bnd_some, c, b_eql]
    rw [hw]
    exact K2 H3 a b
  have put2 : ∀ (H3 : Hp) (w : Int) (A : Hp → Prop), Kn L s kb M H3 → Kp kb H2 H3 → (w = 0 ∨ (w = 1 ∧ frontB (AA L) L s i e = true) ∨ (w = 2 ∧ frontB (AA L) L s i e = false)) →
      (∀ H4, Kn L s kb M H4 → Kp kb H2 H4 → ldA false 1 H4 (.ptr kb (e * s.length + i)) = some (I w) → A H4) → bnd (stA 1 H3 (.ptr kb (e * s.length + i)) (I w)) A := by
    intro H3 w A a b hw hA
    obtain ⟨H4, q1, q2, q3, q4⟩ := a.put he hi hw
    rw [q1, bnd_some]
    exact hA H4 q2 (b.trans q3) q4
  by_cases hv0 : v = 0
  · simp only [hv0, if_true]
    have hld5 : ldA true 5 H2 (.ip ((encPt p).drop 1)) = some (.agg (encCp p.c)) := by rw [encPt_eq]; simp
    simp only [hixp, bnd_some, sh_ip, hld5]
    have hpm := List.mem_of_getElem? hp
    refine callK_of (rcomp_ok hB hN he (hsm e he) (hs.c p hpm) (hs.q p hpm) hd (fun q hq hkd H => hA p hpm q hq hkd e H he) _) ?_
    simp only [ifB_lit]
    cases hcB : compB (AA L) L e p.c with
    | false =>
      have hf : frontB (AA L) L s i e = false := by
        cases i with
        | zero => simp only [frontB, hp]; exact hcB
        | succ i => simp only [frontB, hp, hcB, Bool.false_and]
      simp only [Bool.false_eq_true, if_false]
      refine put2 H2 2 _ hk2 (Kp.refl _ _) (.inr (.inr ⟨rfl, hf⟩)) fun H4 a b c => ?_
      exact fin H4 2 a b c (by rw [hf]; rfl)
    | true =>
      simp only [if_true]
      cases i with
      | zero =>
        have hf : frontB (AA L) L s 0 e = true := by simp only [frontB, hp]; exact hcB
        have : ((0 + 1 : Nat) : Int) = 1 := rfl
        simp only [this, if_true]
        have bad : ∀ (H3 : Hp) (w : Int) (A : Hp → Prop), Kn L s kb M H3 → Kp kb H2 H3 → (∀ H5 H6, stA 1 H3 (.ptr kb (e * s.length + 0)) (I 2) = some H5 → stA 1 H5 (.ptr kb (e * s.length + 0)) (I 1) = some H6 → Kn L s kb M H6 → Kp kb H2 H6 → ldA false 1 H6 (.ptr kb (e * s.length + 0)) = some (I 1) → A H6) →
            bnd (stA 1 H3 (.ptr kb (e * s.length + 0)) (I 2)) fun H5 => bnd (stA 1 H5 (.ptr kb (e * s.length + 0)) (I 1)) A := by
          intro H3 w A a b h
          obtain ⟨H5, H6, q1, q2, q3, q4, q5⟩ := a.put2 he hi (v := 1) (w := 2) (.inr (.inl ⟨rfl, hf⟩))
          rw [q1, bnd_some, q2, bnd_some]
          exact h H5 H6 q1 q2 q3 (b.trans q4) q5
        refine bad H2 1 _ hk2 (Kp.refl _ _) fun H5 H6 _ _ a b c => ?_
        exact fin H6 1 a b c (by rw [hf]; rfl)
      | succ i =>
        have hne1 : ¬ (((i + 1 + 1 : Nat) : Int) = 1) := by omega
        simp only [hne1, if_false, hl, bnd_some]
        refine hangs_sp hB hN (by omega) (ih i rfl) hp he hk2 fun H3 hk3 hp3 => ?_
        have hfr : frontB (AA L) L s (i + 1) e = aheadF (frontB (AA L) L s i) L p.comb (e + 1) e := by simp only [frontB, hp, hcB, Bool.true_and]
        rw [← hfr]
        simp only [ifB_lit]
        cases hf : frontB (AA L) L s (i + 1) e with
        | true =>
          obtain ⟨H5, H6, q1, q2, q3, q4, q5⟩ := hk3.put2 he hi (v := 1) (w := 2) (.inr (.inl ⟨rfl, hf⟩))
          rw [q1, bnd_some]
          simp only [if_true]
          rw [q2, bnd_some]
          exact fin H6 1 q3 (hp3.trans q4) q5 (by rw [hf]; rfl)
        | false =>
          refine put2 H3 2 _ hk3 hp3 (.inr (.inr ⟨rfl, hf⟩)) fun H4 a b c => ?_
          simp only [Bool.false_eq_true, if_false]
          exact fin H4 2 a b c (by rw [hf]; rfl)
  · simp only [hv0, if_false]
    refine fin H2 v hk2 (Kp.refl _ _) hld ?_
    rcases hv' with h | ⟨h, hf⟩ | ⟨h, hf⟩
    · exact absurd h hv0
    · rw [h, hf]; rfl
    · rw [h, hf]; rfl
theorem fr_ok (hB : Built L L.length d) (hN : L.length ≤ 4096) (hsm : ∀ e, e < L.length → SmN (lowN (ndAt L e))) (hs : RSl L s) (hd : dp ≤ 100) (hM : M = L.length * s.length) (hA : AnyR σ L d s dp) : ∀ (i : Nat), i < s.length → FrOk σ L d s dp kb M cap i := by
  intro i
  induction i with
  | zero => exact fun hi => fr_step hB hN hsm hs hd hM hA hi (fun j h => absurd h (by omega))
  | succ i ih =>
    intro hi
    refine fr_step hB hN hsm hs hd hM hA hi fun j h => ?_
    have : j = i := by omega
    subst this
    exact ih (by omega)
end
end Go.Proofs.Ythmaggcfghjmfaa.Ev
namespace Go.Proofs.Ythmaggcfghjmfaa.Ev
set_option linter.unusedVariables false
set_option linter.unusedSimpArgs false
variable {σ : Sig} {L : List Nd} {d : List Nat}
def RsOk : Nat → List Sl → Prop
  | 0, _ => False
  | f + 1, l => l.length ≤ reachBytes ∧ ∀ s ∈ l, s.length ≤ 50 ∧ ∀ p ∈ s, RcOk p.c ∧ ∀ q ∈ p.c.pseudos, (i64 q.a ∧ i64 q.b) ∧ ((q.kind = 7 ∨ q.kind = 8) → RsOk f q.list)
def frB (L : List Nd) (s : Sl) (e : Nat) : Bool := !decide (s.length = 0) && frontB (AA L) L s (s.length - 1) e
theorem rsel_ok (hB : Built L L.length d) (hN : L.length ≤ 4096) (hsm : ∀ e, e < L.length → SmN (lowN (ndAt L e))) {s : Sl} (hs : RSl L s) {dp : Nat} (hd : dp ≤ 100) (hA : AnyR σ L d s dp) {e : Int} (H : Hp) :
    Good Try.prog σ n_ref9_Tree_selector [refT L d, I e, .agg (encSl s), I (dp : Int)] H (Bo (decide (0 ≤ e) && decide (e < L.length) && frB L s e.toNat)) H := by
  refine good_by (fun K hK => ref9_Tree_selector.run ?_) (by simp [noIds, noId, noId_refT, noId_Sl]) rfl H
  simp only [boxK_agg]
  refine callK_of (ris_ok L d e _) ?_
  simp only [u_not, bnd_some, ifB_lit]
  cases hin : (decide (0 ≤ e) && decide (e < L.length)) with
  | false => rw [hin] at hK; simpa using hK _
  | true =>
  rw [hin] at hK
  simp only [Bool.true_and] at hK
  simp only [Bool.and_eq_true, decide_eq_true_eq] at hin
  obtain ⟨en, rfl⟩ : ∃ en : Nat, e = (en : Int) := ⟨e.toNat, by omega⟩
  have he : en < L.length := by omega
  rw [Int.toNat_natCast] at hK
  obtain ⟨H2, hH2⟩ : ∃ H2, H2 = Hp.empty.new (.cells (encSl s) true) := ⟨_, rfl⟩
  have h1 : H2.get Hp.empty.n = some (.cells (encSl s) true) := by rw [hH2]; simp
  have hlt : Hp.empty.n < H2.n := by rw [hH2]; simp
  rw [← hH2]
  generalize Hp.empty.n = b1 at h1 hlt ⊢
  have hl0 : ldA false 1 H2 (.ptr b1 0) = some (.imm 6 (s.map encPt)) := by simp [h1, encSl]
  simp only [Bool.not_true, Bool.false_eq_true, if_false, sh_ptr, Nat.zero_add, bnd_some, hl0, len_imm, List.length_map, b_eql, ifB_lit, decide_eq_true_eq]
  split
  · rename_i h0
    have h0' : s.length = 0 := by omega
    have : frB L s en = false := by unfold frB; simp [h0']
    rw [this] at hK
    exact hK _
  rename_i h0
  have h0' : ¬ s.length = 0 := by omega
  have hl50 := hs.len
  have hmul : L.length * s.length ≤ 4096 * 50 := Nat.mul_le_mul hN hl50
  have e1 : wr .i64 ((L.length : Int) * (s.length : Int)) = ((L.length * s.length : Nat) : Int) := by
    have : (L.length : Int) * (s.length : Int) = ((L.length * s.length : Nat) : Int) := by simp
    rw [this, wr64 (by omega) (by omega)]
  obtain ⟨M, hM⟩ : ∃ M, M = L.length * s.length := ⟨_, rfl⟩
  rw [← hM] at e1 hmul
  have e3 : mkSlR [.int .i64 0] 1 8 H2 (I (M : Int)) (I (M : Int)) = some (.sl H2.n 0 1 M (some M), H2.new (.cells (zrow [.int .i64 0] (M * 1)) true)) := by
    have a : (0 : Int) ≤ M := by omega
    have b : M ≤ 9223372036854775807 := by omega
    have c : 8 * M ≤ 281474976710656 := by omega
    simp [mkSlR, intA, a, bleN, b, c]
  simp only [rnilp, rsh, rld, rlen, bnd_some, b_mul, e1, e3]
  have g1 : ldA true 1 (H2.new (.cells (zrow [.int .i64 0] (M * 1)) true)) (.ptr b1 0) = some (.agg (encSl s)) := by
    have : b1 ≠ H2.n := by omega
    simp [this, h1]
  have g0 : ldA false 1 (H2.new (.cells (zrow [.int .i64 0] (M * 1)) true)) (.ptr b1 0) = some (.imm 6 (s.map encPt)) := by
    have : b1 ≠ H2.n := by omega
    simp [this, h1, encSl]
  simp only [g1, g0, bnd_some, len_imm, List.length_map]
  have hkn : Kn L s H2.n M (H2.new (.cells (zrow [.int .i64 0] (M * 1)) true)) := by
    refine ⟨by simp, _, by simp; rfl, by simp [zrow], fun e k he hk => ⟨0, ?_, .inl rfl⟩⟩
    have h2 : (e + 1) * s.length ≤ L.length * s.length := Nat.mul_le_mul_right _ he
    rw [Nat.succ_mul] at h2
    have h3 : e * s.length + k < M := by omega
    unfold zrow
    rw [List.getElem?_map, List.getElem?_range (by omega)]
    simp [Nat.mod_one]
  have hn1 : (s.length : Int) = ((s.length - 1 + 1 : Nat) : Int) := by omega
  rw [hn1]
  refine fr_ok hB hN hsm hs hd hM hA (s.length - 1) (by omega) en _ _ he hkn fun H4 _ _ => ?_
  have : frB L s en = frontB (AA L) L s (s.length - 1) en := by unfold frB; simp [h0']
  rw [← this]
  exact hK _
section
attribute [local irreducible] ref9_Tree_any.L0
theorem rany_ok (hB : Built L L.length d) (hN : L.length ≤ 4096) (hsm : ∀ e, e < L.length → SmN (lowN (ndAt L e))) : ∀ (f : Nat) (l : List Sl) (dp : Nat), f ≤ 12 → RsOk f l → Nest f l → dp + f ≤ 100 →
    (∀ s ∈ l, RSl L s ∧ AnyR σ L d s dp) ∧ ∀ (e : Nat) (H : Hp), e < L.length → Good Try.prog σ n_ref9_Tree_any [refT L d, I (e : Int), sls l, I (dp : Int)] H (Bo (AA L l e)) H := by
  intro f
  induction f with
  | zero => intro l dp _ h; exact h.elim
  | succ f ih =>
    intro l dp hf hl hn hd
    have hb : ∀ s ∈ l, RSl L s ∧ AnyR σ L d s dp := by
      intro s hs
      have h1 := hl.2 s hs
      refine ⟨⟨h1.1, fun p hp => (h1.2 p hp).1, fun p hp q hq => ((h1.2 p hp).2 q hq).1⟩, fun p hp q hq hk e H he => ?_⟩
      exact (ih q.list (dp + 1) (by omega) (((h1.2 p hp).2 q hq).2 hk) (hn s hs p hp q hq) (by omega)).2 e H he
    refine ⟨hb, fun e H he => ?_⟩
    refine good_by (fun K hK => ref9_Tree_any.run ?_) (by simp [noIds, noId, noId_refT, noId_sls]) rfl H
    rw [← AA_eq hn hf] at hK
    have L0 : ∀ (k m : Nat) (H : Hp), l.length - m = k → m ≤ l.length → (∀ H, K (Bo ((l.drop m).any fun s => frB L s e)) H) → ref9_Tree_any.L0 σ K (refT L d) (I (e : Int)) (sls l) (I (dp : Int)) (I (m : Int)) H := by
      intro k
      induction k with
      | zero =>
        intro m H hk hm hK
        have : m = l.length := by omega
        subst this
        refine ref9_Tree_any.L0_step ?_
        simp
        simpa using hK H
      | succ k ihk =>
        intro m H hk hm hK
        have hlt : m < l.length := by omega
        obtain ⟨s, hs⟩ := get_lt hlt
        rw [drop_get hs, List.any_cons] at hK
        have hlt' : (m : Int) < l.length := by omega
        have hix : ixaSl 1 (sls l) (I (m : Int)) = some (.ip (encSl s)) := ix_map hs
        refine ref9_Tree_any.L0_step ?_
        simp only [len_sls, bnd_some, b_lss, hlt', decide_true, ifB_lit, if_true, hix, ld_ip, ldL_sl]
        have h1 := hb s (List.mem_of_getElem? hs)
        refine callK_of (rsel_ok hB hN hsm h1.1 (by omega) h1.2 _) ?_
        have i1 : (0 : Int) ≤ (e : Int) := by omega
        have i2 : (e : Int) < (L.length : Int) := by omega
        simp only [i1, i2, decide_true, Bool.and_self, Bool.true_and, Int.toNat_natCast]
        cases hb : frB L s e with
        | true => rw [hb] at hK; simpa using hK H
        | false =>
          rw [hb] at hK
          simp only [ifB_lit, Bool.false_eq_true, if_false, b_add, bnd_some]
          rw [wr_succL hlt hl.1 (by decide)]
          exact ihk (m + 1) H (by omega) (by omega) (by simpa using hK)
    exact L0 _ 0 _ rfl (Nat.zero_le _) hK
end
end Go.Proofs.Ythmaggcfghjmfaa.Ev
namespace Go.Proofs.Ythmaggcfghjmfaa.Ev
set_option linter.unusedVariables false
set_option linter.unusedSimpArgs false
inductive Sk where
  | same
  | sl (sz : Nat) (row : List Sk)
  | agg (row : List Sk)
  | ptr (row : List Sk)
def frzRows (sz : Nat) (g : List AV → Option (List AV)) : Nat → List AV → Option (List (List AV))
  | 0, _ => some []
  | n + 1, l => match g (l.take sz) with
    | some r => match frzRows sz g n (l.drop sz) with
      | some rs => some (r :: rs)
      | none => none
    | none => none
mutual
def frzS (H : Hp) : Sk → AV → Option AV
  | .same, x => bif noId x then some x else none
  | .sl sz row, x => match x with
    | .lit (.slice none 0 0) => some (.imm sz [])
    | .emp => some (.imm sz [])
    | .se _ _ _ => some (.imm sz [])
    | .imm s rows => bif noId (.imm s rows) then some (.imm s rows) else none
    | .sl id off s len _ => bif Nat.beq s sz then match H.get id with
        | some (.cells cs _) => match frzRows sz (fun l => frzR H row l) len (cs.drop off) with
          | some rows => bif Nat.beq row.length sz then some (.imm sz rows) else none
          | none => none
        | _ => none
      else none
    | _ => none
  | .agg row, x => match x with
    | .agg xs => match frzR H row xs with
      | some ys => some (.agg ys)
      | none => none
    | _ => none
  | .ptr row, x => match x with
    | .ptr id off => match H.get id with
      | some (.cells cs _) => match frzR H row ((cs.drop off).take row.length) with
        | some ys => some (.ip ys)
        | none => none
      | _ => none
    | _ => none
def frzR (H : Hp) : List Sk → List AV → Option (List AV)
  | [], xs => match xs with
    | [] => some []
    | _ => none
  | k :: ks, xs => match xs with
    | x :: xs => match frzS H k x with
      | some y => match frzR H ks xs with
        | some ys => some (y :: ys)
        | none => none
      | none => none
    | [] => none
end
theorem frzRows_ok {sz : Nat} {g : List AV → Option (List AV)} {H : Hp} (hg : ∀ l r, g l = some r → FzL H l r) : ∀ (n : Nat) (l : List AV) (rows : List (List AV)), frzRows sz g n l = some rows → rows.length = n ∧ ∀ (i : Nat) (row : List AV), rows[i]? = some row → FzL H ((l.drop (i * sz)).take sz) row
  | 0, l, rows, h => by
    simp only [frzRows, Option.some.injEq] at h
    subst h
    exact ⟨rfl, fun i row h => by simp at h⟩
  | n + 1, l, rows, h => by
    simp only [frzRows] at h
    split at h
    case h_2 => cases h
    rename_i r hr
    split at h
    case h_2 => cases h
    rename_i rs hrs
    simp only [Option.some.injEq] at h
    subst h
    obtain ⟨h1, h2⟩ := frzRows_ok hg n _ _ hrs
    refine ⟨by simp [h1], fun i row hi => ?_⟩
    cases i with
    | zero =>
      simp at hi
      subst hi
      simpa using hg _ _ hr
    | succ i =>
      simp at hi
      have := h2 i row hi
      rw [List.drop_drop] at this
      rw [Nat.succ_mul, Nat.add_comm]
      exact this
theorem FzL.len {H : Hp} {xs ys : List AV} (h : FzL H xs ys) : xs.length = ys.length := h.get.1
mutual
theorem frzS_ok {H : Hp} : ∀ (k : Sk) (x y : AV), frzS H k x = some y → Fz H x y
  | .same, x, y, h => by
    simp only [frzS] at h
    cases hn : noId x with
    | false => rw [hn] at h; cases h
    | true => rw [hn] at h; cases h; exact .refl hn
  | .sl sz row, x, y, h => by
    simp only [frzS] at h
    split at h
    · cases h; exact .nil
    · cases h; exact .emp
    · cases h; exact .se
    · rename_i s rows
      cases hn : noId (.imm s rows) with
      | false => rw [hn] at h; cases h
      | true => rw [hn] at h; cases h; exact .refl hn
    · rename_i id off s len cap
      cases hs : Nat.beq s sz with
      | false => rw [hs] at h; cases h
      | true =>
        rw [hs] at h
        have := Nat.eq_of_beq_eq_true hs
        subst this
        simp only [cond_true] at h
        split at h
        case h_2 => cases h
        rename_i cs ex hg
        split at h
        case h_2 => cases h
        rename_i rows hr
        cases hl : Nat.beq row.length s with
        | false => rw [hl] at h; cases h
        | true =>
          rw [hl] at h
          cases h
          have hlen := Nat.eq_of_beq_eq_true hl
          obtain ⟨h1, h2⟩ := frzRows_ok (fun l r hh => frzR_ok row l r hh) _ _ _ hr
          have hrow : ∀ (i : Nat) (r : List AV), rows[i]? = some r → r.length = s := by
            intro i r hi
            obtain ⟨_, hh⟩ := frzRows_ok (g := fun l => frzR H row l) (fun l r hh => frzR_ok row l r hh) _ _ _ hr
            exact frzRows_len (fun l r hh => by rw [← hlen]; exact frzR_len row l r hh) _ _ _ hr i r hi
          refine .sl (fun i j => cs.getD (off + (i * s + j)) .any) hg h1 hrow (fun i r j y hi hy => ?_) (fun i r j y hi hy => ?_)
          · obtain ⟨x, hx, _⟩ := (h2 i r hi).get.2 j y hy
            have hj : j < s := by rw [← hrow i r hi]; exact (List.getElem?_eq_some_iff.1 hy).1
            rw [List.getElem?_take, if_pos hj, List.getElem?_drop, List.getElem?_drop] at hx
            simp [hx]
          · obtain ⟨x, hx, hf⟩ := (h2 i r hi).get.2 j y hy
            have hj : j < s := by rw [← hrow i r hi]; exact (List.getElem?_eq_some_iff.1 hy).1
            rw [List.getElem?_take, if_pos hj, List.getElem?_drop, List.getElem?_drop] at hx
            simp [hx]
            exact hf
    · cases h
  | .agg row, x, y, h => by
    simp only [frzS] at h
    split at h
    case h_2 => cases h
    split at h
    case h_2 => cases h
    rename_i hr
    cases h
    exact Fz.aggL (frzR_ok row _ _ hr)
  | .ptr row, x, y, h => by
    simp only [frzS] at h
    split at h
    case h_2 => cases h
    rename_i id off
    split at h
    case h_2 => cases h
    rename_i cs ex hg
    split at h
    case h_2 => cases h
    rename_i ys hr
    cases h
    have hl := (frzR_ok row _ _ hr).get
    refine .ptr (fun j => cs.getD (off + j) .any) hg (fun j y hy => ?_) (fun j y hy => ?_)
    · obtain ⟨x, hx, _⟩ := hl.2 j y hy
      rw [List.getElem?_take] at hx
      split at hx
      · rw [List.getElem?_drop] at hx
        simp [hx]
      · cases hx
    · obtain ⟨x, hx, hf⟩ := hl.2 j y hy
      rw [List.getElem?_take] at hx
      split at hx
      · rw [List.getElem?_drop] at hx
        simp [hx]
        exact hf
      · cases hx
theorem frzR_ok {H : Hp} : ∀ (ks : List Sk) (xs ys : List AV), frzR H ks xs = some ys → FzL H xs ys
  | [], xs, ys, h => by
    simp only [frzR] at h
    split at h
    · cases h; exact .nil
    · cases h
  | k :: ks, xs, ys, h => by
    simp only [frzR] at h
    split at h
    case h_2 => cases h
    rename_i x xs
    split at h
    case h_2 => cases h
    rename_i y hy
    split at h
    case h_2 => cases h
    rename_i zs hz
    cases h
    exact .cons (frzS_ok k x y hy) (frzR_ok ks xs zs hz)
theorem frzR_len {H : Hp} : ∀ (ks : List Sk) (xs ys : List AV), frzR H ks xs = some ys → ys.length = ks.length
  | [], xs, ys, h => by
    simp only [frzR] at h
    split at h
    · cases h; rfl
    · cases h
  | k :: ks, xs, ys, h => by
    simp only [frzR] at h
    split at h
    case h_2 => cases h
    split at h
    case h_2 => cases h
    split at h
    case h_2 => cases h
    rename_i zs hz
    cases h
    simp [frzR_len ks _ _ hz]
theorem frzRows_len {sz : Nat} {g : List AV → Option (List AV)} (hg : ∀ l r, g l = some r → r.length = sz) : ∀ (n : Nat) (l : List AV) (rows : List (List AV)), frzRows sz g n l = some rows → ∀ (i : Nat) (r : List AV), rows[i]? = some r → r.length = sz
  | 0, l, rows, h, i, r, hi => by
    simp only [frzRows, Option.some.injEq] at h
    subst h
    simp at hi
  | n + 1, l, rows, h, i, r, hi => by
    simp only [frzRows] at h
    split at h
    case h_2 => cases h
    rename_i r0 hr0
    split at h
    case h_2 => cases h
    rename_i rs hrs
    cases h
    cases i with
    | zero => simp at hi; subst hi; exact hg _ _ hr0
    | succ i => exact frzRows_len hg n _ _ hrs i r (by simpa using hi)
end
def skStrs : Sk := .sl 1 [.same]
def skAts : Sk := .sl 3 [.same, .same, .same]
def skPrs : Sk := .sl 2 [.same, .same]
def skNd : List Sk := [.same, .same, .same, skStrs, skPrs]
def skNds : Sk := .sl 5 skNd
def skCp (pss : Sk) : List Sk := [.same, skStrs, skStrs, skAts, pss]
def skPss : Nat → Sk
  | 0 => .same
  | n + 1 => .sl 4 [.same, .same, .same, .sl 1 [.sl 6 (.same :: skCp (skPss n))]]
def skC (n : Nat) : Sk := .agg (skCp (skPss n))
def skPts (n : Nat) : Sk := .sl 6 (.same :: skCp (skPss n))
def skS (n : Nat) : Sk := .agg [skPts n]
end Go.Proofs.Ythmaggcfghjmfaa.Ev
namespace Go.Proofs.Ythmaggcfghjmfaa.Ev
theorem Good.conv {P : Program} {σ : Sig} {f : Nat} {xs ys : List AV} {r : AV} {H H2 H3 : Hp} (k : Wk σ ys H xs H2) (h : Good P σ f xs H2 r H3) : Good P σ f ys H r H3 := by
  refine ⟨h.1, fun B w0 E w vs hσ hst hxs => ?_⟩
  obtain ⟨E2, h1, h2, h3⟩ := k hσ hst hxs
  refine (h.2 B w0 E2 w vs hσ h2 h3).mono fun e w' hh => ?_
  obtain ⟨E', v, rfl, hext, st2, hrel⟩ := hh
  exact ⟨E', v, rfl, h1.trans hext, st2, hrel⟩
def Hp.bare (n : Nat) : Hp := ⟨n, .leaf⟩
@[simp] theorem Hp.bare_n (n : Nat) : (Hp.bare n).n = n := rfl
@[simp] theorem Hp.bare_get (n j : Nat) : (Hp.bare n).get j = none := by simp [Hp.bare, Hp.get, Tr.get]
theorem FzL.t {H : Hp} {xs ys : List AV} (h : FzL H xs ys) : FzT H xs ys := by
  induction h with
  | nil => exact .nil
  | cons h hs ih => exact .fz h ih
theorem Good.drop {P : Program} {σ : Sig} {f : Nat} {xs ys : List AV} {r : AV} {H : Hp} (h : ∀ H, Good P σ f xs H r H) (hx : FzL H ys xs) : Good P σ f ys H r (Hp.bare H.n) :=
  Good.conv (Wk.frz (H2 := Hp.bare H.n) (Hd := H) rfl rfl (fun id k hk => ⟨hk, by simp⟩) (fun id k2 hk => by simp at hk) hx.t) (h _)
theorem bnd_of {α : Type} {o : Option α} {x : α} {K : α → Prop} (h : o = some x) (k : K x) : bnd o K := by rw [h]; exact k
end Go.Proofs.Ythmaggcfghjmfaa.Ev

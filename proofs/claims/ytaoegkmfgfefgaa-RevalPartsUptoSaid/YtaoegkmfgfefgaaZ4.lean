/- The walks, part 4: the evaluator, the functions, the laws. Conditions: none. -/
import Derived.Shelf.LaysM
import Derived.Shelf.Strings.Search1
import Derived.Shelf.Strings.Search2
import Derived.Shelf.Strings.Search3
import Derived.Shelf.Strings.Shaped
import Derived.Test.YtaoegkmfgfefgaaZ3
namespace Go.Proofs.Ytaoegkmfgfefgaa.Ev
open Go.Shelf Go.Proofs
def laysM144_ren : Ren :=
{
  f := fun x =>
    match x with
    | 144 => 180
    | 143 => 184
    | 219 => 187
    | 217 => 188
    | 225 => 189
    | 224 => 190
    | 267 => 191
    | 266 => 192
    | 314 => 193
    | n => n,
  t := fun x =>
    match x with
    | 9 => 9
    | 4 => 4
    | 3 => 3
    | 5 => 5
    | 46 => 137
    | 146 => 232
    | 51 => 169
    | n => n,
  g := fun x =>
    match x with
    | 1 => 0
    | n => n }
theorem laysM144 : LaysM.n144 Try.prog laysM144_ren :=
{ mixed := by kernel_rfl, f143 := Eq.trans Try.func184 (congrArg some (Eq.refl (Body.n143 laysM144_ren))),
  f144 := Eq.trans Try.func180 (congrArg some (Eq.refl (Body.n144 laysM144_ren))),
  f217 := Eq.trans Try.func188 (congrArg some (Eq.refl (Body.n217 laysM144_ren))),
  f219 := Eq.trans Try.func187 (congrArg some (Eq.refl (Body.n219 laysM144_ren))),
  f224 := Eq.trans Try.func190 (congrArg some (Eq.refl (Body.n224 laysM144_ren))),
  f225 := Eq.trans Try.func189 (congrArg some (Eq.refl (Body.n225 laysM144_ren))),
  f266 := Eq.trans Try.func192 (congrArg some (Eq.refl (Body.n266 laysM144_ren))),
  f267 := Eq.trans Try.func191 (congrArg some (Eq.refl (Body.n267 laysM144_ren))),
  f314 := Eq.trans Try.func193 (congrArg some (Eq.refl (Body.n314 laysM144_ren))), t3 := Try.underlying3,
  a3 := Try.isAgg3, z3 := Try.sizeOf3, v3 := Try.zeroValue3, t4 := Try.underlying4, a4 := Try.isAgg4, z4 := Try.sizeOf4,
  v4 := Try.zeroValue4, t5 := Try.underlying5, a5 := Try.isAgg5, z5 := Try.sizeOf5, v5 := Try.zeroValue5,
  t9 := Try.underlying9, a9 := Try.isAgg9, z9 := Try.sizeOf9, v9 := Try.zeroValue9, t46 := Try.underlying137,
  a46 := Try.isAgg137, z46 := Try.sizeOf137, v46 := Try.zeroValue137, t51 := Try.underlying169, a51 := Try.isAgg169,
  z51 := Try.sizeOf169, v51 := Try.zeroValue169, t146 := Try.underlying232, a146 := Try.isAgg232, z146 := Try.sizeOf232,
  v146 := Try.zeroValue232, g1 := by kernel_rfl,
  i3 := by kernel_rfl, i4 := by kernel_rfl,
  i5 := by kernel_rfl,
  i9 := by kernel_rfl,
  i46 := by kernel_rfl,
  i51 := by kernel_rfl,
  i146 := by kernel_rfl,
  m1 := by kernel_rfl,
  s1_3 := fun w h => Go.Proofs.cell_of_shapedOpen_int h (zero := #[Go.Value.int Go.IntKind.i64 0]) (t := 3) (of_decide_eq_true (by kernel_rfl)) (by kernel_rfl) rfl (by kernel_rfl) (by kernel_rfl) Try.underlying3 }
def gMax : Nat := laysM144_ren.g 1
theorem gMax_ok (W : World) (h : W.ShapedOpen Try.prog) {σ : Sig} (hg : σ.g = some gMax) : ∀ g, σ.g = some g → ∃ m : Int, W.cell? ⟨g, 0, none⟩ = some (.int .i64 m) := by
  intro g hg'
  rw [hg] at hg'
  cases hg'
  exact laysM144.s1_3 W h
end Go.Proofs.Ytaoegkmfgfefgaa.Ev
namespace Go.Proofs.Ytaoegkmfgfefgaa.Ev
set_option linter.unusedVariables false
set_option linter.unusedSimpArgs false
variable {σ : Sig}
structure RlWf (r : RL) : Prop where
  sels : slsWf Lmax r.sels
  setsL : r.sets.length ≤ Lmax
  sets : ∀ s ∈ r.sets, i64 s.prop ∧ i64 s.kind ∧ i64 s.n
def rlsWf (l : List RL) : Prop := l.length ≤ Lmax ∧ ∀ r ∈ l, RlWf r
theorem d_sets {ts : List Nat} {zs : List AV} (h : Sh tiT.get (T_sl_api_Set :: ts) zs) : ∃ (l : List ST) (ys : List AV), zs = .imm 4 (l.map encST) :: ys ∧ (l.length ≤ Lmax ∧ ∀ s ∈ l, i64 s.prop ∧ i64 s.kind ∧ i64 s.n) ∧ Sh tiT.get ts ys := by
  obtain ⟨rows, ys, e, hr, hm, hs⟩ := d_slice T_sl_api_Set_is (sz_of T_api_Set_is) h
  obtain ⟨l, hl, hp⟩ := rows_map (f := encST) (P := fun s => i64 s.prop ∧ i64 s.kind ∧ i64 s.n) fun row hrow => by
    obtain ⟨p, y1, e1, w1, h2⟩ := d_int (d_struct T_api_Set_is (hr row hrow))
    obtain ⟨k, y2, e2, w2, h3⟩ := d_int (d_struct T_api_Value_is h2)
    obtain ⟨n, y3, e3, w3, h4⟩ := d_int h3
    obtain ⟨b, y4, e4, h5⟩ := d_bool h4
    rw [sh_nil h5] at e4
    exact ⟨⟨p, k, n, b⟩, by rw [e1, e2, e3, e4]; rfl, w1, w2, w3⟩
  exact ⟨l, ys, by rw [e, hl], ⟨by rw [hl] at hm; simpa using hm, hp⟩, hs⟩
theorem d_rules {ts : List Nat} {zs : List AV} (h : Sh tiT.get (T_sl_api_Rule :: ts) zs) : ∃ (l : List RL) (ys : List AV), zs = rls l :: ys ∧ rlsWf l ∧ Sh tiT.get ts ys := by
  obtain ⟨rows, ys, e, hr, hm, hs⟩ := d_slice T_sl_api_Rule_is (sz_of T_api_Rule_is) h
  obtain ⟨l, hl, hp⟩ := rows_map (f := encRL) (P := RlWf) fun row hrow => by
    obtain ⟨s, y1, e1, w1, h2⟩ := d_sels (d_struct T_api_Rule_is (hr row hrow))
    obtain ⟨t, y2, e2, w2, h3⟩ := d_sets h2
    rw [sh_nil h3] at e2
    exact ⟨⟨s, t⟩, by rw [e1, e2]; rfl, w1, w2.1, w2.2⟩
  exact ⟨l, ys, by rw [e, hl]; rfl, ⟨by rw [hl] at hm; simpa using hm, hp⟩, hs⟩
def readR : List Nat := readB ++ [T_sl_api_Rule, T_api_Rule, T_sl_api_Set, T_api_Set, T_api_Value]
theorem readR_closed : closedB tiT.get readR = true := by kernel_rfl
theorem v_rules {x : AV} (h : ShV tiT.get T_sl_api_Rule x) : ∃ l, x = rls l ∧ rlsWf l := by
  obtain ⟨l, ys, e, w, hn⟩ := d_rules (v_one T_sl_api_Rule_is rfl h)
  cases e
  exact ⟨l, rfl, w⟩
theorem bk_rl (r : RL) : bkL (encRL r) = (bkLL (r.sels.map encSl) + 1) + (bkLL (r.sets.map encST) + 1) := by
  unfold encRL sls
  simp only [bkL, bk_imm, Nat.add_zero]
theorem bk_rls (l : List RL) : bk (rls l) = bkLL (l.map encRL) + 1 := by unfold rls; rw [bk_imm]
def allSels (l : List RL) : List Sl := l.flatMap (·.sels)
structure Fit12 (l : List RL) : Prop where
  len : l.length ≤ 30
  sels : ∀ r ∈ l, r.sels.length ≤ 8
  sets : ∀ r ∈ l, r.sets.length ≤ 30
  fit : ∀ r ∈ l, ∀ s ∈ r.sels, FitL 11 [s]
section
theorem dear12_drop {K : AV → Hp → Prop} {y0 y3 y3' y4 y5 y6 : AV} {H : Hp} (hf : Fz H y3 y3') (h : law12_Dear.L1 σ K y0 y3' y4 y5 y6 (Hp.bare H.n)) : law12_Dear.L1 σ K y0 y3 y4 y5 y6 H :=
  fun js => LoopP.drop (.same (.same (.same (.fz hf (FzTr _))))) (h js)
end
theorem all_len {l : List RL} (h : ∀ r ∈ l, r.sels.length ≤ 8) : (allSels l).length ≤ 8 * l.length := by
  induction l with
  | nil => simp [allSels]
  | cons r l ih =>
    have h1 := h r (by simp)
    have h2 := ih fun r hr => h r (by simp [hr])
    unfold allSels at h2 ⊢
    rw [List.flatMap_cons, List.length_append, List.length_cons]
    omega
section
attribute [local irreducible] law12_Dear.L0 law12_Dear.L1
theorem Dear12_ok (l : List RL) (hl : rlsWf l) : ∃ b, (∀ H, Good Try.prog σ n_law12_Dear [rls l] H (Bo b) H) ∧ (b = false → Fit12 l) := by
  have run : ∃ r H1, Good Try.prog σ n_law12_Dear [rls l] Hp.empty r H1 ∧ ∃ b, r = Bo b ∧ (b = false → Fit12 l) := by
    obtain ⟨K, hKd⟩ : ∃ K : AV → Hp → Prop, ∀ r H1, K r H1 ↔ ∃ b, r = Bo b ∧ (b = false → Fit12 l) := ⟨_, fun _ _ => Iff.rfl⟩
    have kt : ∀ H, K (Bo true) H := fun H => (hKd _ _).2 ⟨true, rfl, fun h => by cases h⟩
    suffices h : ∃ r H1, Good Try.prog σ n_law12_Dear [rls l] Hp.empty r H1 ∧ K r H1 by
      obtain ⟨r, H1, a, b⟩ := h
      exact ⟨r, H1, a, (hKd _ _).1 b⟩
    refine law12_Dear.run ?_
    simp only [len_rls, bnd_some, b_gtr, ifB_lit, decide_eq_true_eq]
    split
    · exact kt _
    rename_i h30
    have L1 : ∀ (all : List Sl), all = allSels l → (∀ r ∈ l, r.sels.length ≤ 8) → (∀ r ∈ l, r.sets.length ≤ 30) → ∀ (f j : Nat) (H : Hp) (n : Int) (y4 : AV), all.length - j = f → j ≤ all.length → (∀ s ∈ all.take j, FitL 11 [s]) → law12_Dear.L1 σ K (rls l) (sls all) y4 (I n) (I (j : Int)) H := by
      intro all hall h8 hst f
      have hal : all.length ≤ 240 := by
        have := all_len h8
        rw [hall]; omega
      have hawf : ∀ s ∈ all, slWf Lmax s := by
        intro s hs
        rw [hall] at hs
        obtain ⟨r, hr, hs⟩ := List.mem_flatMap.1 hs
        exact (hl.2 r hr).sels.2 s hs
      induction f with
      | zero =>
        intro j H n y4 hf hj hfit
        have : j = all.length := by omega
        subst this
        rw [List.take_length] at hfit
        refine law12_Dear.L1_step ?_
        simp only [len_sls, bnd_some, b_lss, Int.lt_irrefl, decide_false, ifB_lit, Bool.false_eq_true, if_false, b_gtr]
        rw [hKd]
        refine ⟨_, rfl, fun _ => ⟨by omega, h8, hst, fun r hr s hs => hfit s ?_⟩⟩
        rw [hall]
        exact List.mem_flatMap.2 ⟨r, hr, hs⟩
      | succ f ih =>
        intro j H n y4 hf hj hfit
        have hlt : j < all.length := by omega
        have hlt' : (j : Int) < all.length := by omega
        obtain ⟨s, hs⟩ := get_lt hlt
        have hsm := List.mem_of_getElem? hs
        obtain ⟨b, hd, hf1⟩ := Dear_ok (σ := σ) [s] ⟨by show 1 ≤ Lmax; decide, fun s' h => by rw [List.mem_singleton.1 h]; exact hawf s hsm⟩
        refine law12_Dear.L1_step ?_
        have hix : ixaSl 1 (sls all) (I (j : Int)) = some (.ip (encSl s)) := ix_map hs
        have hw : wr .i64 ((j : Int) + 1) = ((j + 1 : Nat) : Int) := wr_succ (by omega)
        simp only [len_sls, bnd_some, b_lss, hlt', decide_true, ifB_lit, if_true, b_add, hw, sl_one hs]
        refine callK_of (hd _) ?_
        simp only [ifB_lit]
        cases hb : b with
        | true => simp only [if_true]; exact kt _
        | false =>
          simp only [Bool.false_eq_true, if_false, hix, bnd_some, sh_ip, List.drop_zero, ld_ip, f_encSl0, len_imm, List.length_map, b_add]
          refine ih (j + 1) H _ y4 (by omega) (by omega) fun s' hs' => ?_
          rw [List.take_add_one, hs] at hs'
          rcases List.mem_append.1 hs' with h | h
          · exact hfit s' h
          · simp at h; subst h; exact hf1 hb
    have L0 : ∀ (f m : Nat) (H : Hp) (y3 y5 y6 : AV), l.length - m = f → m ≤ l.length → (∀ r ∈ l.take m, r.sels.length ≤ 8) → (∀ r ∈ l.take m, r.sets.length ≤ 30) → Gs 1 H y3 ((allSels (l.take m)).map encSl) → law12_Dear.L0 σ K (rls l) y3 (I (m : Int)) y5 y6 H := by
      intro f
      induction f with
      | zero =>
        intro m H y3 y5 y6 hf hm h8 hst hg
        have : m = l.length := by omega
        subst this
        rw [List.take_length] at h8 hst hg
        refine law12_Dear.L0_step ?_
        simp only [len_rls, bnd_some, b_lss, Int.lt_irrefl, decide_false, ifB_lit, Bool.false_eq_true, if_false]
        exact dear12_drop (hg.fz (noIds_map _ noId_Sl _)) (L1 _ rfl h8 hst _ 0 _ 0 _ rfl (Nat.zero_le _) (fun s h => by simp at h))
      | succ f ih =>
        intro m H y3 y5 y6 hf hm h8 hst hg
        have hlt : m < l.length := by omega
        have hlt' : (m : Int) < l.length := by omega
        obtain ⟨r, hr⟩ := get_lt hlt
        have hix : ixaSl 2 (rls l) (I (m : Int)) = some (.ip (encRL r)) := ix_map hr
        have e1 : ldA false 1 H (.ip (encRL r)) = some (sls r.sels) := rfl
        have e2 : ldA false 1 H (.ip ((encRL r).drop 1)) = some (.imm 4 (r.sets.map encST)) := rfl
        refine law12_Dear.L0_step ?_
        simp only [len_rls, bnd_some, b_lss, hlt', decide_true, ifB_lit, if_true, hix, sh_ip, List.drop_zero, e1, e2, len_sls, len_imm, List.length_map, b_gtr, decide_eq_true_eq]
        split
        · exact kt _
        split
        · exact kt _
        rename_i q1 q2
        have hal := all_len h8
        rw [List.length_take] at hal
        have hone : ((r.sels.map encSl).flatten).all AV.one = true := by
          rw [List.all_eq_true]; intro x hx
          obtain ⟨q, hq, hx⟩ := List.mem_flatten.1 hx
          obtain ⟨s, _, rfl⟩ := List.mem_map.1 hq
          exact List.all_eq_true.1 (one_Sl s) x hx
        refine bnd_app (y := .imm 1 (r.sels.map encSl)) hg rfl src_imm (fun q hq => by obtain ⟨s, _, rfl⟩ := List.mem_map.1 hq; rfl) hone (by simp only [List.length_map]; omega) (by simp only [List.length_map]; omega) fun x' H' g' _ => ?_
        rw [b_add, bnd_some, wr_succ (by omega)]
        have htk : l.take (m + 1) = l.take m ++ [r] := by rw [List.take_add_one, hr]; rfl
        refine ih (m + 1) H' x' _ _ (by omega) (by omega) ?_ ?_ ?_
        · intro q hq
          rw [htk] at hq
          rcases List.mem_append.1 hq with h | h
          · exact h8 q h
          · simp at h; subst h; omega
        · intro q hq
          rw [htk] at hq
          rcases List.mem_append.1 hq with h | h
          · exact hst q h
          · simp at h; subst h; omega
        · rw [htk]
          have : allSels (l.take m ++ [r]) = allSels (l.take m) ++ r.sels := by unfold allSels; simp
          rw [this, List.map_append]
          exact g'
    exact L0 _ 0 _ _ _ _ rfl (Nat.zero_le _) (fun r h => by simp at h) (fun r h => by simp at h) (by simpa [allSels] using Gs.nil)
  obtain ⟨r, H1, hg, b, rfl, hb⟩ := run
  exact ⟨b, fun H => hg.over (by simp [noIds]) rfl H, hb⟩
end
end Go.Proofs.Ytaoegkmfgfefgaa.Ev
namespace Go.Proofs.Ytaoegkmfgfefgaa.Ev
set_option linter.unusedVariables false
set_option linter.unusedSimpArgs false
variable {σ : Sig}
theorem src_gs {sz : Nat} {H : Hp} {x : AV} {rows : List (List AV)} (h : Gs sz H x rows) : srcA H sz x = some (rows.length, rows.flatten) := by
  cases h with
  | nil => rfl
  | sl hlt hg hsz =>
    have hl := flatten_len hsz
    have e : List.take (rows.length * sz) rows.flatten = rows.flatten := by rw [← hl]; exact List.take_length
    simp [srcA, hg, beqN, e, hl]
theorem sls_one (l : List Sl) : ((l.map encSl).flatten).all AV.one = true := by
  rw [List.all_eq_true]; intro x hx
  obtain ⟨q, hq, hx⟩ := List.mem_flatten.1 hx
  obtain ⟨s, _, rfl⟩ := List.mem_map.1 hq
  exact List.all_eq_true.1 (one_Sl s) x hx
theorem sls_sz (l : List Sl) : ∀ row ∈ l.map encSl, row.length = 1 := fun q hq => by obtain ⟨s, _, rfl⟩ := List.mem_map.1 hq; rfl
section
attribute [local irreducible] reval_kept_api_Selector.L0 reval_kept_api_Selector.J1
theorem kept_ok (l : List Sl) (hl : l.length ≤ 1000000) (hs : ∀ s ∈ l, s.length < 9000000000000000000) (H : Hp) : Good Try.prog σ n_reval_kept_api_Selector [sls l, .fn n_reval_Needs []] H (sls (l.filter needs)) H := by
  obtain ⟨Q, hQ⟩ : ∃ Q : AV → Hp → Prop, ∀ r H1, Q r H1 ↔ Gs 1 H1 r ((l.filter needs).map encSl) := ⟨_, fun _ _ => Iff.rfl⟩
  have run : ∃ r H1, Good Try.prog σ n_reval_kept_api_Selector [sls l, .fn n_reval_Needs []] Hp.empty r H1 ∧ Q r H1 := by
    refine reval_kept_api_Selector.run ?_
    rw [len_sls, bnd_some]
    have L0 : ∀ (f k : Nat) (H : Hp) (y5 : AV), l.length - k = f → k ≤ l.length → Gs 1 H y5 (((l.take k).filter needs).map encSl) → reval_kept_api_Selector.L0 σ Q (.fn n_reval_Needs []) y5 (sls l) (I (l.length : Int)) (I (k : Int)) H := by
      intro f
      induction f with
      | zero =>
        intro k H y5 hf hk hg
        have : k = l.length := by omega
        subst this
        rw [List.take_length] at hg
        refine reval_kept_api_Selector.L0_step ?_
        simp only [b_lss, bnd_some, Int.lt_irrefl, decide_false, ifB_lit, Bool.false_eq_true, if_false]
        exact (hQ _ _).2 hg
      | succ f ih =>
        intro k H y5 hf hk hg
        have hlt : k < l.length := by omega
        have hlt' : (k : Int) < l.length := by omega
        obtain ⟨s, hsk⟩ := get_lt hlt
        have hix : ixaSl 1 (sls l) (I (k : Int)) = some (.ip (encSl s)) := ix_map hsk
        have htk : l.take (k + 1) = l.take k ++ [s] := by rw [List.take_add_one, hsk]; rfl
        have J1 : ∀ (H : Hp) (y5 : AV), Gs 1 H y5 (((l.take (k + 1)).filter needs).map encSl) → reval_kept_api_Selector.J1 σ Q (.fn n_reval_Needs []) y5 (sls l) (I (l.length : Int)) (I (k : Int)) H := by
          intro H y5 hg
          refine reval_kept_api_Selector.J1_step ?_
          rw [b_add, bnd_some, wr_succ (by omega)]
          exact ih (k + 1) H y5 (by omega) (by omega) hg
        refine reval_kept_api_Selector.L0_step ?_
        simp only [b_lss, bnd_some, hlt', decide_true, ifB_lit, if_true, hix, ld_ip, ldL_sl, allocK_eq]
        obtain ⟨H2, hH2⟩ : ∃ H2, H2 = (H.new (.cells [.lit (.slice none 0 0)] true)).set H.n (some (.cells (encSl s) true)) := ⟨_, rfl⟩
        refine bnd_of (x := H2) ?_ ?_
        · rw [st_agg, hH2]
          simp only [hp_get_new, if_true]
          rfl
        have hg2 : Gs 1 H2 y5 (((l.take k).filter needs).map encSl) := by
          refine hg.keep (fun j hj => ?_) (by rw [hH2]; simp)
          have h1 := hg.lt hj
          have h2 : j ≠ H.n := by omega
          rw [hH2]
          simp [h2]
        have hl2 : ldA true 1 H2 (.ptr H.n 0) = some (.agg (encSl s)) := by rw [hH2]; simp
        rw [hl2, bnd_some]
        refine callK_of (needs_ok s (hs s (List.mem_of_getElem? hsk)) _) ?_
        simp only [ifB_lit]
        cases hn : needs s with
        | true =>
          simp only [if_true]
          rw [hl2, bnd_some]
          have hlen : (((l.take k).filter needs).map encSl).length ≤ k := by
            rw [List.length_map]
            exact Nat.le_trans (List.length_filter_le _ _) (by rw [List.length_take]; omega)
          refine bnd_app1 (y := .agg (encSl s)) hg2 rfl rfl (one_Sl s) (by omega) (by omega) fun x' H' g' _ => J1 _ _ ?_
          rw [htk, List.filter_append, List.map_append]
          simpa [hn] using g'
        | false =>
          simp only [Bool.false_eq_true, if_false]
          refine J1 _ _ ?_
          rw [htk, List.filter_append, List.map_append]
          simpa [hn] using hg2
    exact L0 _ 0 _ _ rfl (Nat.zero_le _) (by simpa using Gs.nil)
  obtain ⟨r, H1, hg, hq⟩ := run
  exact hg.frzR (by simp [noIds, noId]) ((hQ _ _).1 hq |>.fz (noIds_map _ noId_Sl _)) H
end
def needL (l : List RL) : List Sl := (allSels l).filter needs
theorem needL_app (a b : List RL) : needL (a ++ b) = needL a ++ needL b := by unfold needL allSels; simp
structure Rl8 (l : List RL) : Prop where
  len : l.length ≤ 60
  sels : ∀ r ∈ l, r.sels.length ≤ 8
  parts : ∀ r ∈ l, ∀ s ∈ r.sels, s.length < 9000000000000000000
theorem needL_len {l : List RL} (h : ∀ r ∈ l, r.sels.length ≤ 8) : (needL l).length ≤ 8 * l.length := Nat.le_trans (List.length_filter_le _ _) (all_len h)
section
attribute [local irreducible] reval_List.L0
theorem List_sp (l : List RL) (hl : Rl8 l) {H : Hp} {K : AV → Hp → Prop} (h : ∀ r H', Gs 1 H' r ((needL l).map encSl) → H.n ≤ H'.n → (∀ j, j < H.n → H'.get j = H.get j) → (∀ j, own r j → H.n ≤ j) → K r H') : callK Try.prog σ n_reval_List [rls l] H K := by
  have hlen := hl.len
  refine reval_List.run ?_
  rw [len_rls, bnd_some]
  have L0 : ∀ (f k : Nat) (H1 : Hp) (y3 : AV), l.length - k = f → k ≤ l.length → Gs 1 H1 y3 ((needL (l.take k)).map encSl) → H.n ≤ H1.n → (∀ j, j < H.n → H1.get j = H.get j) → (∀ j, own y3 j → H.n ≤ j) → reval_List.L0 σ K y3 (rls l) (I (l.length : Int)) (I (k : Int)) H1 := by
    intro f
    induction f with
    | zero =>
      intro k H1 y3 hf hk hg up same mine
      have : k = l.length := by omega
      subst this
      rw [List.take_length] at hg
      refine reval_List.L0_step ?_
      simp only [b_lss, bnd_some, Int.lt_irrefl, decide_false, ifB_lit, Bool.false_eq_true, if_false]
      exact h _ _ hg up same mine
    | succ f ih =>
      intro k H1 y3 hf hk hg up same mine
      have hlt : k < l.length := by omega
      have hlt' : (k : Int) < l.length := by omega
      obtain ⟨r, hr⟩ := get_lt hlt
      have hrm := List.mem_of_getElem? hr
      have hix : ixaSl 2 (rls l) (I (k : Int)) = some (.ip (encRL r)) := ix_map hr
      refine reval_List.L0_step ?_
      simp only [b_lss, bnd_some, hlt', decide_true, ifB_lit, if_true, hix, ld_ip, ldL_rl, allocK_eq]
      obtain ⟨H2, hH2⟩ : ∃ H2, H2 = (H1.new (.cells [.lit (.slice none 0 0), .lit (.slice none 0 0)] true)).set H1.n (some (.cells (encRL r) true)) := ⟨_, rfl⟩
      refine bnd_of (x := H2) ?_ ?_
      · rw [st_agg, hH2]
        simp only [hp_get_new, if_true]
        rfl
      have n2 : H2.n = H1.n + 1 := by rw [hH2]; rfl
      have s2 : ∀ j, j < H1.n → H2.get j = H1.get j := by
        intro j hj
        have h2 : j ≠ H1.n := by omega
        rw [hH2]
        simp [h2]
      have g2 : Gs 1 H2 y3 _ := hg.keep (fun j hj => s2 j (hg.lt hj)) (by omega)
      have l2 : ldA false 1 H2 (.ptr H1.n 0) = some (sls r.sels) := by rw [hH2, ld_ptr, hp_get_set, if_pos rfl]; rfl
      simp only [sh_ptr, Nat.zero_add, bnd_some, l2]
      refine callK_of (kept_ok r.sels (by have := hl.sels r hrm; omega) (fun s hs => hl.parts r hrm s hs) _) ?_
      have hnl := needL_len (l := l.take k) fun r hr => hl.sels r (List.mem_of_mem_take hr)
      rw [List.length_take] at hnl
      have hfl := List.length_filter_le needs r.sels
      have h8 := hl.sels r hrm
      refine bnd_app (y := .imm 1 ((r.sels.filter needs).map encSl)) g2 rfl src_imm (sls_sz _) (sls_one _) (by simp only [List.length_map]; omega) (by simp only [List.length_map]; omega) fun x' H' g' fr => ?_
      rw [b_add, bnd_some, wr_succ (by omega)]
      have htk : l.take (k + 1) = l.take k ++ [r] := by rw [List.take_add_one, hr]; rfl
      have up' := fr.grow
      refine ih (k + 1) H' x' (by omega) (by omega) ?_ (by omega) (fun j hj => ?_) (fun j hj => ?_)
      · rw [htk, needL_app, List.map_append]
        have : needL [r] = r.sels.filter needs := by simp [needL, allSels]
        rw [this]
        exact g'
      · rw [fr.same j (by omega) (fun ho => by have := mine j ho; omega), s2 j (by omega), same j hj]
      · rcases fr.mine j hj with q | q
        · exact mine j q
        · omega
  exact L0 _ 0 _ _ rfl (Nat.zero_le _) (by simpa [needL, allSels] using Gs.nil) (Nat.le_refl _) (fun _ _ => rfl) (fun j hj => hj.elim)
end
section
end
section
end
end Go.Proofs.Ytaoegkmfgfefgaa.Ev
namespace Go.Proofs.Ytaoegkmfgfefgaa.Ev
set_option linter.unusedVariables false
set_option linter.unusedSimpArgs false
variable {σ : Sig}
def SsOk (σ : Sig) (f : Nat) : Prop := ∀ (l : List Sl) (H : Hp), slsWf Lmax l → Nest f l → Good Try.prog σ n_ref1_SameSelectors [sls l, sls l] H (Bo true) H
theorem at_refl (a : At) : eqAggR [.string, .int .i64, .string] .neq (.agg (encAt a)) (.agg (encAt a)) = some (Bo false) := by
  simp [eqAggR, isAggA, eqC, encAt, AV.cells, tfB]
section
attribute [local irreducible] ref1_SameStrings.L0
theorem SameStrings_ok' (a : List ByteArray) (ha : a.length ≤ Lmax) (H : Hp) : Good Try.prog σ n_ref1_SameStrings [strs a, strs a] H (Bo true) H := by
  refine good_by (fun K hK => ref1_SameStrings.run ?_) (by simp [noIds]) rfl H
  simp only [len_strs, bnd_some, b_neq, decide_true, Bool.not_true, ifB_lit, Bool.false_eq_true, if_false]
  have L0 : ∀ (f k : Nat) (H : Hp), a.length - k = f → k ≤ a.length → ref1_SameStrings.L0 σ K (strs a) (strs a) (I (k : Int)) H := by
    intro f
    induction f with
    | zero =>
      intro k H hf hk
      have : k = a.length := by omega
      subst this
      refine ref1_SameStrings.L0_step ?_
      simp only [len_strs, bnd_some, b_lss, Int.lt_irrefl, decide_false, ifB_lit, Bool.false_eq_true, if_false]
      exact hK H
    | succ f ih =>
      intro k H hf hk
      have hlt : k < a.length := by omega
      have hlt' : (k : Int) < a.length := by omega
      obtain ⟨x, hx⟩ := get_lt hlt
      have ix : ixaSl 1 (strs a) (I (k : Int)) = some (.ip [Sx x]) := ix_map hx
      refine ref1_SameStrings.L0_step ?_
      simp only [len_strs, bnd_some, b_lss, hlt', decide_true, ifB_lit, if_true, ix, ld_ip, ldL_one, b_sneq, Bool.not_true, Bool.false_eq_true, if_false, b_add]
      rw [wr_succL hlt ha]
      exact ih (k + 1) H (by omega) (by omega)
  exact L0 _ 0 _ rfl (Nat.zero_le _)
end
section
attribute [local irreducible] ref1_SameCompound.L0 ref1_SameCompound.L1
theorem sc_step {f : Nat} (ih : SsOk σ f) (c : Cp) (hw : CpWf Lmax c) (hn : ∀ q ∈ c.pseudos, Nest f q.list) (H : Hp) : Good Try.prog σ n_ref1_SameCompound [.agg (encCp c), .agg (encCp c)] H (Bo true) H := by
  have hL : Lmax = 9223372036854775807 := rfl
  refine good_by (fun K hK => ref1_SameCompound.run ?_) (by simp [noIds, noId, noId_Cp]) rfl H
  simp only [boxK_agg]
  obtain ⟨H0, hH0⟩ : ∃ H0, H0 = (Hp.empty.new (.cells (encCp c) true)).new (.cells (encCp c) true) := ⟨_, rfl⟩
  have g0 : H0.get 0 = some (.cells (encCp c) true) := by rw [hH0]; simp [Hp.empty]
  have g1 : H0.get 1 = some (.cells (encCp c) true) := by rw [hH0]; simp [Hp.empty]
  have n0 : H0.n = 2 := by rw [hH0]; rfl
  have e0 : Hp.empty.n = 0 := rfl
  have e1 : (Hp.empty.new (.cells (encCp c) true)).n = 1 := rfl
  rw [← hH0, e0, e1]
  clear hH0
  have ld : ∀ (H : Hp) (j : Nat), H.get j = some (.cells (encCp c) true) → ldA false 1 H (.ptr j 0) = some (Sx c.tag) ∧ ldA false 1 H (.ptr j 1) = some (strs c.ids) ∧ ldA false 1 H (.ptr j 2) = some (strs c.classes) ∧ ldA false 1 H (.ptr j 3) = some (.imm 3 (c.attrs.map encAt)) ∧ ldA false 1 H (.ptr j 4) = some (.imm 4 (c.pseudos.map encPs)) := by
    intro H j h
    simp only [ld_ptr, h, ldO_cells, List.drop_zero]
    exact ⟨f_encCp0 c, f_encCp1' c, f_encCp2 c, f_encCp3 c, f_encCp4 c⟩
  obtain ⟨a1, a2, a3, a4, a5⟩ := ld H0 0 g0
  obtain ⟨b1, b2, b3, b4, b5⟩ := ld H0 1 g1
  simp only [sh_ptr, Nat.zero_add, bnd_some, a1, a2, a3, a4, a5, b1, b2, b3, b4, b5, b_sneq, decide_true, Bool.not_true, ifB_lit, Bool.false_eq_true, if_false]
  refine callK_of (SameStrings_ok' _ hw.ids.1 _) ?_
  simp only [u_not, Bool.not_true, bnd_some, ifB_lit, Bool.false_eq_true, if_false, a3, b3]
  refine callK_of (SameStrings_ok' _ hw.classes.1 _) ?_
  simp only [u_not, Bool.not_true, bnd_some, ifB_lit, Bool.false_eq_true, if_false, a4, b4, a5, b5, len_imm, b_neq, decide_true]
  have L1 : ∀ (g i : Nat) (H : Hp) (y5 : AV), c.pseudos.length - i = g → i ≤ c.pseudos.length → 2 ≤ H.n → H.get 0 = some (.cells (encCp c) true) → H.get 1 = some (.cells (encCp c) true) → ref1_SameCompound.L1 σ K (.ptr 0 0) (.ptr 1 0) y5 (I (i : Int)) H := by
    intro g
    induction g with
    | zero =>
      intro i H y5 hg hi hn2 h0 h1
      have : i = c.pseudos.length := by omega
      subst this
      obtain ⟨_, _, _, _, a5⟩ := ld H 0 h0
      refine ref1_SameCompound.L1_step ?_
      simp only [sh_ptr, Nat.zero_add, bnd_some, a5, len_imm, List.length_map, b_lss, Int.lt_irrefl, decide_false, ifB_lit, Bool.false_eq_true, if_false]
      exact hK _
    | succ g ihg =>
      intro i H y5 hg hi hn2 h0 h1
      have hlt : i < c.pseudos.length := by omega
      have hlt' : (i : Int) < c.pseudos.length := by omega
      obtain ⟨q, hq⟩ := get_lt hlt
      have hqm := List.mem_of_getElem? hq
      obtain ⟨_, _, _, _, a5⟩ := ld H 0 h0
      have hix : ixaSl 4 (.imm 4 (c.pseudos.map encPs)) (I (i : Int)) = some (.ip (encPs q)) := ix_map hq
      refine ref1_SameCompound.L1_step ?_
      simp only [sh_ptr, Nat.zero_add, bnd_some, a5, len_imm, List.length_map, b_lss, hlt', decide_true, ifB_lit, if_true, hix, ld_ip, ldL_ps, allocK_eq]
      obtain ⟨H2, hH2⟩ : ∃ H2, H2 = (H.new (.cells [I 0, I 0, I 0, .lit (.slice none 0 0)] true)).set H.n (some (.cells (encPs q) true)) := ⟨_, rfl⟩
      refine bnd_of (x := H2) ?_ ?_
      · rw [st_agg, hH2]
        simp only [hp_get_new, if_true, stO_cells, len_encPs]
        rw [if_pos ⟨by decide, one_Ps _⟩, ov_Ps _ rfl]
      have n2 : H2.n = H.n + 1 := by rw [hH2]; rfl
      have ne0 : (0 : Nat) ≠ H.n := by omega
      have ne1 : (1 : Nat) ≠ H.n := by omega
      have k0 : H2.get 0 = some (.cells (encCp c) true) := by rw [hH2]; simp [ne0, h0]
      have k1 : H2.get 1 = some (.cells (encCp c) true) := by rw [hH2]; simp [ne1, h1]
      have kq : H2.get H.n = some (.cells (encPs q) true) := by rw [hH2]; simp
      clear hH2
      obtain ⟨_, _, _, _, b5⟩ := ld H2 1 k1
      simp only [b5, bnd_some, hix, ld_ip, ldL_ps]
      obtain ⟨H3, hH3⟩ : ∃ H3, H3 = (H2.new (.cells [I 0, I 0, I 0, .lit (.slice none 0 0)] true)).set H2.n (some (.cells (encPs q) true)) := ⟨_, rfl⟩
      refine bnd_of (x := H3) ?_ ?_
      · rw [st_agg, hH3]
        simp only [hp_get_new, if_true, stO_cells, len_encPs]
        rw [if_pos ⟨by decide, one_Ps _⟩, ov_Ps _ rfl]
      have ne2 : (0 : Nat) ≠ H2.n := by omega
      have ne3 : (1 : Nat) ≠ H2.n := by omega
      have ne4 : H.n ≠ H2.n := by omega
      have m0 : H3.get 0 = some (.cells (encCp c) true) := by rw [hH3]; simp [ne2, k0]
      have m1 : H3.get 1 = some (.cells (encCp c) true) := by rw [hH3]; simp [ne3, k1]
      have mq : H3.get H.n = some (.cells (encPs q) true) := by rw [hH3]; simp [ne4, kq]
      have mr : H3.get H2.n = some (.cells (encPs q) true) := by rw [hH3]; simp
      have n3 : H3.n = H2.n + 1 := by rw [hH3]; rfl
      clear hH3
      have lq : ∀ j, H3.get j = some (.cells (encPs q) true) → ldA false 1 H3 (.ptr j 0) = some (I q.kind) ∧ ldA false 1 H3 (.ptr j 1) = some (I q.a) ∧ ldA false 1 H3 (.ptr j 2) = some (I q.b) ∧ ldA false 1 H3 (.ptr j 3) = some (sls q.list) := by
        intro j h
        simp only [ld_ptr, h, ldO_cells, List.drop_zero]
        exact ⟨f_encPs0 q, f_encPs1' q, f_encPs2 q, f_encPs3 q⟩
      obtain ⟨c1, c2, c3, c4⟩ := lq _ mq
      obtain ⟨d1, d2, d3, d4⟩ := lq _ mr
      simp only [c1, c2, c3, c4, d1, d2, d3, d4, bnd_some, b_neq, decide_true, Bool.not_true, ifB_lit, Bool.false_eq_true, if_false]
      refine callK_of (ih q.list _ (Ps.wf_iff.1 (hw.ps q hqm)).2.2.2 (hn q hqm)) ?_
      simp only [u_not, Bool.not_true, bnd_some, ifB_lit, Bool.false_eq_true, if_false, b_add]
      rw [wr_succL hlt hw.psL]
      exact ihg (i + 1) H3 y5 (by omega) (by omega) (by omega) m0 m1
  have L0 : ∀ (g i : Nat) (y6 : AV), c.attrs.length - i = g → i ≤ c.attrs.length → ref1_SameCompound.L0 σ K (.ptr 0 0) (.ptr 1 0) (I (i : Int)) y6 H0 := by
    intro g
    induction g with
    | zero =>
      intro i y6 hg hi
      have : i = c.attrs.length := by omega
      subst this
      refine ref1_SameCompound.L0_step ?_
      simp only [sh_ptr, Nat.zero_add, bnd_some, a4, len_imm, List.length_map, b_lss, Int.lt_irrefl, decide_false, ifB_lit, Bool.false_eq_true, if_false]
      exact L1 _ 0 _ _ rfl (Nat.zero_le _) (by omega) g0 g1
    | succ g ihg =>
      intro i y6 hg hi
      have hlt : i < c.attrs.length := by omega
      have hlt' : (i : Int) < c.attrs.length := by omega
      obtain ⟨a, ha⟩ := get_lt hlt
      have hix : ixaSl 3 (.imm 3 (c.attrs.map encAt)) (I (i : Int)) = some (.ip (encAt a)) := ix_map ha
      refine ref1_SameCompound.L0_step ?_
      simp only [sh_ptr, Nat.zero_add, bnd_some, a4, b4, len_imm, List.length_map, b_lss, hlt', decide_true, ifB_lit, if_true, hix, ld_ip, ldL_at, at_refl, Bool.false_eq_true, if_false, b_add]
      rw [wr_succL hlt hw.attrsL]
      exact ihg (i + 1) y6 (by omega) (by omega)
  exact L0 _ 0 _ rfl (Nat.zero_le _)
end
section
attribute [local irreducible] ref1_SameSelectors.L0 ref1_SameSelectors.L1
theorem ss_step {f : Nat} (ih : ∀ (c : Cp), CpWf Lmax c → (∀ q ∈ c.pseudos, Nest f q.list) → ∀ H, Good Try.prog σ n_ref1_SameCompound [.agg (encCp c), .agg (encCp c)] H (Bo true) H) : SsOk σ (f + 1) := by
  intro l H hw hn
  refine good_by (fun K hK => ref1_SameSelectors.run ?_) (by simp [noIds]) rfl H
  simp only [len_sls, bnd_some, b_neq, decide_true, Bool.not_true, ifB_lit, Bool.false_eq_true, if_false]
  have L0 : ∀ (g i : Nat) (H : Hp) (y6 : AV), l.length - i = g → i ≤ l.length → ref1_SameSelectors.L0 σ K (sls l) (sls l) (I (i : Int)) y6 H := by
    intro g
    induction g with
    | zero =>
      intro i H y6 hg hi
      have : i = l.length := by omega
      subst this
      refine ref1_SameSelectors.L0_step ?_
      simp only [len_sls, bnd_some, b_lss, Int.lt_irrefl, decide_false, ifB_lit, Bool.false_eq_true, if_false]
      exact hK _
    | succ g ihg =>
      intro i H y6 hg hi
      have hlt : i < l.length := by omega
      have hlt' : (i : Int) < l.length := by omega
      obtain ⟨s, hs⟩ := get_lt hlt
      have hsm := List.mem_of_getElem? hs
      have hix : ixaSl 1 (sls l) (I (i : Int)) = some (.ip (encSl s)) := ix_map hs
      have hsw := hw.2 s hsm
      refine ref1_SameSelectors.L0_step ?_
      simp only [len_sls, bnd_some, b_lss, hlt', decide_true, ifB_lit, if_true, hix, sh_ip, List.drop_zero, ld_ip, f_encSl0, len_imm, b_neq, decide_true, Bool.not_true, Bool.false_eq_true, if_false]
      have L1 : ∀ (g k : Nat) (H : Hp), s.length - k = g → k ≤ s.length → ref1_SameSelectors.L1 σ K (sls l) (sls l) (I (i : Int)) (I (k : Int)) H := by
        intro g
        induction g with
        | zero =>
          intro k H hg hk
          have : k = s.length := by omega
          subst this
          refine ref1_SameSelectors.L1_step ?_
          simp only [hix, bnd_some, sh_ip, List.drop_zero, ld_ip, f_encSl0, len_imm, List.length_map, b_lss, Int.lt_irrefl, decide_false, ifB_lit, Bool.false_eq_true, if_false, b_add]
          rw [wr_succL hlt hw.1]
          exact ihg (i + 1) H _ (by omega) (by omega)
        | succ g ihk =>
          intro k H hg hk
          have hkl : k < s.length := by omega
          have hkl' : (k : Int) < s.length := by omega
          obtain ⟨p, hp⟩ := get_lt hkl
          have hpm := List.mem_of_getElem? hp
          have hpx : ixaSl 6 (.imm 6 (s.map encPt)) (I (k : Int)) = some (.ip (encPt p)) := ix_map hp
          have l5 : ldL true 5 ((encPt p).drop 1) = some (.agg (encCp p.c)) := by rw [encPt_eq]; simp
          refine ref1_SameSelectors.L1_step ?_
          simp only [hix, bnd_some, sh_ip, List.drop_zero, ld_ip, f_encSl0, len_imm, List.length_map, b_lss, hkl', decide_true, ifB_lit, if_true, hpx, f_encPt0, b_neq, Bool.not_true, Bool.false_eq_true, if_false, l5]
          refine callK_of (ih p.c (Pt.wf_iff.1 (hsw.2 p hpm)).2 (fun q hq => hn s hsm p hpm q hq) _) ?_
          simp only [u_not, Bool.not_true, bnd_some, ifB_lit, Bool.false_eq_true, if_false, b_add]
          rw [wr_succL hkl hsw.1]
          exact ihk (k + 1) H (by omega) (by omega)
      exact L1 _ 0 _ rfl (Nat.zero_le _)
  exact L0 _ 0 _ _ rfl (Nat.zero_le _)
end
theorem ss_ok : ∀ f, SsOk σ f
  | 0 => fun l H _ h => h.elim
  | f + 1 => ss_step fun c hw hn H => sc_step (ss_ok f) c hw hn H
end Go.Proofs.Ytaoegkmfgfefgaa.Ev
namespace Go.Proofs.Ytaoegkmfgfefgaa.Ev
open Go.RowKit
set_option linter.unusedVariables false
set_option linter.unusedSimpArgs false
set_option maxRecDepth 100000
variable {σ : Sig}
theorem NdSm.low {n : Nd} (h : NdSm n) : SmN (lowN n) := by
  have r : reachBytes = 140737488351232 := rfl
  refine ⟨by have := h.classes; show n.classes.length ≤ _; omega, by have := h.attrs; show (n.attrs.map lowPr).length ≤ _; rw [List.length_map]; omega, fun p hp => ?_⟩
  obtain ⟨q, hq, rfl⟩ := List.mem_map.1 hp
  have := (h.at' q hq).2
  show q.2.data.size < _
  omega
section
end
def sigM : Sig := ⟨fun _ => 0, fun _ => false, fun _ => ⟨#[]⟩, some gMax⟩
theorem sigM_g : sigM.g = some gMax := rfl
end Go.Proofs.Ytaoegkmfgfefgaa.Ev
namespace Go.Proofs.Ytaoegkmfgfefgaa.Ev
open Go.RowKit
set_option linter.unusedVariables false
set_option linter.unusedSimpArgs false
set_option maxRecDepth 100000
variable {σ : Sig}
theorem callK_drop {P : Program} {σ : Sig} {f : Nat} {xs ys : List AV} {H : Hp} {K : AV → Hp → Prop} (hx : FzL H ys xs) (h : callK P σ f xs (Hp.bare H.n) K) : callK P σ f ys H K := by
  obtain ⟨r, H1, hg, hk⟩ := h
  exact ⟨r, H1, Good.conv (Wk.frz (H2 := Hp.bare H.n) (Hd := H) rfl rfl (fun id k hk => ⟨hk, by simp⟩) (fun id k2 hk => by simp at hk) hx.t) hg, hk⟩
theorem gs_ns {sz : Nat} {H : Hp} {x : AV} {rows : List (List AV)} (h : Gs sz H x rows) : notStr x = true := by cases h <;> rfl
theorem rls_one (l : List RL) : ((l.map encRL).flatten).all AV.one = true := by
  rw [List.all_eq_true]; intro x hx
  obtain ⟨q, hq, hx⟩ := List.mem_flatten.1 hx
  obtain ⟨s, _, rfl⟩ := List.mem_map.1 hq
  exact List.all_eq_true.1 (one_RL s) x hx
theorem rls_sz (l : List RL) : ∀ row ∈ l.map encRL, row.length = 2 := fun q hq => by obtain ⟨s, _, rfl⟩ := List.mem_map.1 hq; rfl
theorem Fit12.rl8 {l : List RL} (h : Fit12 l) : Rl8 l := by
  refine ⟨by have := h.len; omega, h.sels, fun r hr s hs => ?_⟩
  have := (h.fit r hr s hs s (by simp)).1
  omega
theorem Nest.all {f : Nat} {l : List Sl} (hf : 0 < f) (h : ∀ s ∈ l, Nest f [s]) : Nest f l := by
  cases f with
  | zero => omega
  | succ f => exact fun s hs => h s hs s (by simp)
theorem needL_mem {l : List RL} {s : Sl} (h : s ∈ needL l) : ∃ r ∈ l, s ∈ r.sels := by
  unfold needL at h
  obtain ⟨r, hr, hs⟩ := List.mem_flatMap.1 (List.mem_filter.1 h).1
  exact ⟨r, hr, hs⟩
theorem rl_len (l : List RL) : l.length ≤ bkLL (l.map encRL) := len_bk fun r _ => by rw [bk_rl]; omega
theorem RevalParts_good {a b : List RL} (ha : rlsWf a) (hb : rlsWf b) (hk : bkLL (a.map encRL) + bkLL (b.map encRL) ≤ NB) : ∃ Hf, Good Try.prog σ n_law14_RevalParts [rls a, rls b] Hp.empty (Bo true) Hf := by
  have hN : NB = 1048576 := rfl
  have hL : Lmax = 9223372036854775807 := rfl
  have la := rl_len a
  have lb := rl_len b
  refine ⟨Hp.empty, good_by (fun K hK => law14_RevalParts.run (callK_of (alive14 _) ?_)) (by simp [noIds]) rfl _⟩
  refine bnd_app (x := .lit (.slice none 0 0)) (rows := []) (y := .imm 2 (a.map encRL)) .nil rfl src_imm (rls_sz _) (rls_one _) (by simp only [List.length_map, List.length_nil]; omega) (by simp only [List.length_map, List.length_nil]; omega) fun x1 H1 g1 f1 => ?_
  rw [List.nil_append] at g1
  refine bnd_app (y := .imm 2 (b.map encRL)) g1 rfl src_imm (rls_sz _) (rls_one _) (by simp only [List.length_map]; omega) (by simp only [List.length_map]; omega) fun x2 H2 g2 f2 => ?_
  rw [← List.map_append] at g2
  have fz : Fz H2 x2 (rls (a ++ b)) := g2.fz (noIds_map _ noId_RL _)
  have hw : rlsWf (a ++ b) := ⟨by rw [List.length_append]; omega, fun r hr => by
    rcases List.mem_append.1 hr with h | h
    · exact ha.2 r h
    · exact hb.2 r h⟩
  obtain ⟨much, hd, hfit⟩ := Dear12_ok (σ := σ) (a ++ b) hw
  refine callK_of ((hd Hp.empty).frzA (.cons fz .nil) rfl) ?_
  simp only [u_not, Bool.not_true, bnd_some, ifB_lit, Bool.false_eq_true, if_false]
  cases hm : much with
  | true => simp only [if_true]; exact hK _
  | false =>
  simp only [Bool.false_eq_true, if_false]
  have hF := hfit hm
  have R := hF.rl8
  have Ra : Rl8 a := ⟨by have := R.len; rw [List.length_append] at this; omega, fun r hr => R.sels r (List.mem_append_left _ hr), fun r hr => R.parts r (List.mem_append_left _ hr)⟩
  have Rb : Rl8 b := ⟨by have := R.len; rw [List.length_append] at this; omega, fun r hr => R.sels r (List.mem_append_right _ hr), fun r hr => R.parts r (List.mem_append_right _ hr)⟩
  have na := needL_len Ra.sels
  have nb := needL_len Rb.sels
  have h60a := Ra.len
  have h60b := Rb.len
  refine callK_drop (.cons fz .nil) ?_
  refine List_sp (a ++ b) R fun x8 H8 g8 _ _ _ => ?_
  refine List_sp a Ra fun x10 H10 g10 up10 same10 mine10 => ?_
  have g8' := g8.keep (fun j hj => same10 j (g8.lt hj)) up10
  refine List_sp b Rb fun x12 H12 g12 up12 same12 mine12 => ?_
  have g8'' := g8'.keep (fun j hj => same12 j (by have := g8.lt hj; omega)) up12
  have g10' := g10.keep (fun j hj => same12 j (g10.lt hj)) up12
  have ns : notStr x12 = true := gs_ns g12
  refine bnd_app g10' ns (src_gs g12) (sls_sz _) (sls_one _) (by simp only [List.length_map]; omega) (by simp only [List.length_map]; omega) fun x14 H14 g14 f14 => ?_
  have hd8 : ∀ j, own x8 j → ¬ own x10 j := fun j h8 h10 => by have := g8.lt h8; have := mine10 j h10; omega
  have g8f := g8''.keep (fun j hj => f14.same j (g8''.lt hj) (hd8 j hj)) f14.grow
  rw [← List.map_append, ← needL_app] at g14
  have hnw : slsWf Lmax (needL (a ++ b)) := ⟨by rw [needL_app, List.length_append]; omega, fun s hs => by
    obtain ⟨r, hr, hs⟩ := needL_mem hs
    exact (hw.2 r hr).sels.2 s hs⟩
  have hnn : Nest 11 (needL (a ++ b)) := Nest.all (by decide) fun s hs => by
    obtain ⟨r, hr, hs⟩ := needL_mem hs
    exact (hF.fit r hr s hs).nest
  refine callK_of ((ss_ok 11 (needL (a ++ b)) Hp.empty hnw hnn).frzA (.cons (g8f.fz (noIds_map _ noId_Sl _)) (.cons (g14.fz (noIds_map _ noId_Sl _)) .nil)) rfl) ?_
  exact hK _
theorem RevalParts_walk {H : Type} {enc : TypeId × Value → H} (W : World) (hsh : W.ShapedOpen Try.prog) {v0 v1 : Value} {r : Reach} {b0 base : Nat} {spare : Nat → Bool} {held : Bool} {d0 d1 : DataW H} {p0 p1 : List MemPlace}
    (e0 : Value.okWide Try.prog W r b0 T_sl_api_Rule v0) (h0 : DataW.Trod enc Try.prog W base spare held T_sl_api_Rule v0 d0 p0) (w0 : ∀ n ∈ d0.weights Try.prog T_sl_api_Rule, n ≤ reachBytes)
    (e1 : Value.okWide Try.prog W r b0 T_sl_api_Rule v1) (h1 : DataW.Trod enc Try.prog W base spare held T_sl_api_Rule v1 d1 p1) (w1 : ∀ n ∈ d1.weights Try.prog T_sl_api_Rule, n ≤ reachBytes)
    (hk : bulkDs [d0, d1] ≤ 1048576) :
    Calls Try.prog n_law14_RevalParts #[v0, v1] W fun e W' => e = .returned (.bool true) ∧ Below W.heap.size W W' := by
  obtain ⟨x0, r0, s0, k0⟩ := read_argB (P := Try.prog) (ti := tiT.get) (S := readR) (t := T_sl_api_Rule) (σ := sigM) tiT_ok readR_closed (inB_mem (by kernel_rfl)) e0 h0 w0
  obtain ⟨x1, r1, s1, k1⟩ := read_argB (P := Try.prog) (ti := tiT.get) (S := readR) (t := T_sl_api_Rule) (σ := sigM) tiT_ok readR_closed (inB_mem (by kernel_rfl)) e1 h1 w1
  obtain ⟨a, rfl, ha⟩ := v_rules s0
  obtain ⟨b, rfl, hb⟩ := v_rules s1
  simp only [bulkDs] at hk
  rw [bk_rls] at k0 k1
  obtain ⟨Hf, hg⟩ := RevalParts_good (σ := sigM) ha hb (by show _ ≤ 1048576; omega)
  exact law_of_good (relL2 r0 r1) hg (gMax_ok W hsh sigM_g)
end Go.Proofs.Ytaoegkmfgfefgaa.Ev

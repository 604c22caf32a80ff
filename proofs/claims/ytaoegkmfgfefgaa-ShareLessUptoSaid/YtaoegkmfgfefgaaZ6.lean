/- The walks, part 6: the evaluator, the functions, the laws. Conditions: none. -/
import Derived.Shelf.LaysM
import Derived.Shelf.Strings.Search1
import Derived.Shelf.Strings.Search2
import Derived.Shelf.Strings.Search3
import Derived.Shelf.Strings.Shaped
import Derived.Test.YtaoegkmfgfefgaaZ5
namespace Go.Proofs.Ytaoegkmfgfefgaa.Ev
open Go.Shelf Go.Proofs
def laysM144_ren : Ren :=
{
  f := fun x =>
    match x with
    | 144 => 180
    | 143 => 184
    | 219 => 187
    | 217 => 188
    | 225 => 189
    | 224 => 190
    | 267 => 191
    | 266 => 192
    | 314 => 193
    | n => n,
  t := fun x =>
    match x with
    | 9 => 9
    | 4 => 4
    | 3 => 3
    | 5 => 5
    | 46 => 137
    | 146 => 232
    | 51 => 169
    | n => n,
  g := fun x =>
    match x with
    | 1 => 0
    | n => n }
theorem laysM144 : LaysM.n144 Try.prog laysM144_ren :=
{ mixed := by kernel_rfl, f143 := Eq.trans Try.func184 (congrArg some (Eq.refl (Body.n143 laysM144_ren))),
  f144 := Eq.trans Try.func180 (congrArg some (Eq.refl (Body.n144 laysM144_ren))),
  f217 := Eq.trans Try.func188 (congrArg some (Eq.refl (Body.n217 laysM144_ren))),
  f219 := Eq.trans Try.func187 (congrArg some (Eq.refl (Body.n219 laysM144_ren))),
  f224 := Eq.trans Try.func190 (congrArg some (Eq.refl (Body.n224 laysM144_ren))),
  f225 := Eq.trans Try.func189 (congrArg some (Eq.refl (Body.n225 laysM144_ren))),
  f266 := Eq.trans Try.func192 (congrArg some (Eq.refl (Body.n266 laysM144_ren))),
  f267 := Eq.trans Try.func191 (congrArg some (Eq.refl (Body.n267 laysM144_ren))),
  f314 := Eq.trans Try.func193 (congrArg some (Eq.refl (Body.n314 laysM144_ren))), t3 := Try.underlying3,
  a3 := Try.isAgg3, z3 := Try.sizeOf3, v3 := Try.zeroValue3, t4 := Try.underlying4, a4 := Try.isAgg4, z4 := Try.sizeOf4,
  v4 := Try.zeroValue4, t5 := Try.underlying5, a5 := Try.isAgg5, z5 := Try.sizeOf5, v5 := Try.zeroValue5,
  t9 := Try.underlying9, a9 := Try.isAgg9, z9 := Try.sizeOf9, v9 := Try.zeroValue9, t46 := Try.underlying137,
  a46 := Try.isAgg137, z46 := Try.sizeOf137, v46 := Try.zeroValue137, t51 := Try.underlying169, a51 := Try.isAgg169,
  z51 := Try.sizeOf169, v51 := Try.zeroValue169, t146 := Try.underlying232, a146 := Try.isAgg232, z146 := Try.sizeOf232,
  v146 := Try.zeroValue232, g1 := by kernel_rfl,
  i3 := by kernel_rfl, i4 := by kernel_rfl,
  i5 := by kernel_rfl,
  i9 := by kernel_rfl,
  i46 := by kernel_rfl,
  i51 := by kernel_rfl,
  i146 := by kernel_rfl,
  m1 := by kernel_rfl,
  s1_3 := fun w h => Go.Proofs.cell_of_shapedOpen_int h (zero := #[Go.Value.int Go.IntKind.i64 0]) (t := 3) (of_decide_eq_true (by kernel_rfl)) (by kernel_rfl) rfl (by kernel_rfl) (by kernel_rfl) Try.underlying3 }
def gMax : Nat := laysM144_ren.g 1
theorem hasC {σ : Sig} (hg : σ.g = some gMax) : HasC σ := by
  intro s t H hs
  refine ⟨⟨_, Try.func180, by kernel_rfl, by kernel_rfl⟩, fun B w0 E w vs hσ hst hx => ?_⟩
  obtain ⟨_, m, hm⟩ := hst.glNow gMax (by rw [hσ]; exact hg)
  have hl := hx.len
  obtain ⟨v0, v1, rfl⟩ : ∃ v0 v1, vs = #[v0, v1] := by
    obtain ⟨l⟩ := vs
    match l, hl with
    | [a, b], _ => exact ⟨a, b, rfl⟩
  have r0 := hx.at_ 0 _ v0 rfl (by simp)
  have r1 := hx.at_ 1 _ v1 rfl (by simp)
  cases r0
  cases r1
  refine (Any.strings_Contains (ρ := laysM144_ren) { laysM144 with } s t m w hs hm).mono fun e w' he => ?_
  obtain ⟨rfl, rfl⟩ := he
  exact ⟨E, _, rfl, .refl E, hst, .lit _⟩
theorem gMax_ok (W : World) (h : W.ShapedOpen Try.prog) {σ : Sig} (hg : σ.g = some gMax) : ∀ g, σ.g = some g → ∃ m : Int, W.cell? ⟨g, 0, none⟩ = some (.int .i64 m) := by
  intro g hg'
  rw [hg] at hg'
  cases hg'
  exact laysM144.s1_3 W h
end Go.Proofs.Ytaoegkmfgfefgaa.Ev
namespace Go.Proofs.Ytaoegkmfgfefgaa.Ev
set_option linter.unusedVariables false
set_option linter.unusedSimpArgs false
variable {σ : Sig}
structure RlWf (r : RL) : Prop where
  sels : slsWf Lmax r.sels
  setsL : r.sets.length ≤ Lmax
  sets : ∀ s ∈ r.sets, i64 s.prop ∧ i64 s.kind ∧ i64 s.n
def rlsWf (l : List RL) : Prop := l.length ≤ Lmax ∧ ∀ r ∈ l, RlWf r
theorem d_sets {ts : List Nat} {zs : List AV} (h : Sh tiT.get (T_sl_api_Set :: ts) zs) : ∃ (l : List ST) (ys : List AV), zs = .imm 4 (l.map encST) :: ys ∧ (l.length ≤ Lmax ∧ ∀ s ∈ l, i64 s.prop ∧ i64 s.kind ∧ i64 s.n) ∧ Sh tiT.get ts ys := by
  obtain ⟨rows, ys, e, hr, hm, hs⟩ := d_slice T_sl_api_Set_is (sz_of T_api_Set_is) h
  obtain ⟨l, hl, hp⟩ := rows_map (f := encST) (P := fun s => i64 s.prop ∧ i64 s.kind ∧ i64 s.n) fun row hrow => by
    obtain ⟨p, y1, e1, w1, h2⟩ := d_int (d_struct T_api_Set_is (hr row hrow))
    obtain ⟨k, y2, e2, w2, h3⟩ := d_int (d_struct T_api_Value_is h2)
    obtain ⟨n, y3, e3, w3, h4⟩ := d_int h3
    obtain ⟨b, y4, e4, h5⟩ := d_bool h4
    rw [sh_nil h5] at e4
    exact ⟨⟨p, k, n, b⟩, by rw [e1, e2, e3, e4]; rfl, w1, w2, w3⟩
  exact ⟨l, ys, by rw [e, hl], ⟨by rw [hl] at hm; simpa using hm, hp⟩, hs⟩
theorem d_rules {ts : List Nat} {zs : List AV} (h : Sh tiT.get (T_sl_api_Rule :: ts) zs) : ∃ (l : List RL) (ys : List AV), zs = rls l :: ys ∧ rlsWf l ∧ Sh tiT.get ts ys := by
  obtain ⟨rows, ys, e, hr, hm, hs⟩ := d_slice T_sl_api_Rule_is (sz_of T_api_Rule_is) h
  obtain ⟨l, hl, hp⟩ := rows_map (f := encRL) (P := RlWf) fun row hrow => by
    obtain ⟨s, y1, e1, w1, h2⟩ := d_sels (d_struct T_api_Rule_is (hr row hrow))
    obtain ⟨t, y2, e2, w2, h3⟩ := d_sets h2
    rw [sh_nil h3] at e2
    exact ⟨⟨s, t⟩, by rw [e1, e2]; rfl, w1, w2.1, w2.2⟩
  exact ⟨l, ys, by rw [e, hl]; rfl, ⟨by rw [hl] at hm; simpa using hm, hp⟩, hs⟩
def readR : List Nat := readB ++ [T_sl_api_Rule, T_api_Rule, T_sl_api_Set, T_api_Set, T_api_Value]
theorem readR_closed : closedB tiT.get readR = true := by kernel_rfl
theorem v_rules {x : AV} (h : ShV tiT.get T_sl_api_Rule x) : ∃ l, x = rls l ∧ rlsWf l := by
  obtain ⟨l, ys, e, w, hn⟩ := d_rules (v_one T_sl_api_Rule_is rfl h)
  cases e
  exact ⟨l, rfl, w⟩
theorem bk_rl (r : RL) : bkL (encRL r) = (bkLL (r.sels.map encSl) + 1) + (bkLL (r.sets.map encST) + 1) := by
  unfold encRL sls
  simp only [bkL, bk_imm, Nat.add_zero]
theorem bk_rls (l : List RL) : bk (rls l) = bkLL (l.map encRL) + 1 := by unfold rls; rw [bk_imm]
def allSels (l : List RL) : List Sl := l.flatMap (·.sels)
structure Fit12 (l : List RL) : Prop where
  len : l.length ≤ 30
  sels : ∀ r ∈ l, r.sels.length ≤ 8
  sets : ∀ r ∈ l, r.sets.length ≤ 30
  fit : ∀ r ∈ l, ∀ s ∈ r.sels, FitL 11 [s]
section
theorem dear12_drop {K : AV → Hp → Prop} {y0 y3 y3' y4 y5 y6 : AV} {H : Hp} (hf : Fz H y3 y3') (h : law12_Dear.L1 σ K y0 y3' y4 y5 y6 (Hp.bare H.n)) : law12_Dear.L1 σ K y0 y3 y4 y5 y6 H :=
  fun js => LoopP.drop (.same (.same (.same (.fz hf (FzTr _))))) (h js)
end
theorem all_len {l : List RL} (h : ∀ r ∈ l, r.sels.length ≤ 8) : (allSels l).length ≤ 8 * l.length := by
  induction l with
  | nil => simp [allSels]
  | cons r l ih =>
    have h1 := h r (by simp)
    have h2 := ih fun r hr => h r (by simp [hr])
    unfold allSels at h2 ⊢
    rw [List.flatMap_cons, List.length_append, List.length_cons]
    omega
section
attribute [local irreducible] law12_Dear.L0 law12_Dear.L1
theorem Dear12_ok (l : List RL) (hl : rlsWf l) : ∃ b, (∀ H, Good Try.prog σ n_law12_Dear [rls l] H (Bo b) H) ∧ (b = false → Fit12 l) := by
  have run : ∃ r H1, Good Try.prog σ n_law12_Dear [rls l] Hp.empty r H1 ∧ ∃ b, r = Bo b ∧ (b = false → Fit12 l) := by
    obtain ⟨K, hKd⟩ : ∃ K : AV → Hp → Prop, ∀ r H1, K r H1 ↔ ∃ b, r = Bo b ∧ (b = false → Fit12 l) := ⟨_, fun _ _ => Iff.rfl⟩
    have kt : ∀ H, K (Bo true) H := fun H => (hKd _ _).2 ⟨true, rfl, fun h => by cases h⟩
    suffices h : ∃ r H1, Good Try.prog σ n_law12_Dear [rls l] Hp.empty r H1 ∧ K r H1 by
      obtain ⟨r, H1, a, b⟩ := h
      exact ⟨r, H1, a, (hKd _ _).1 b⟩
    refine law12_Dear.run ?_
    simp only [len_rls, bnd_some, b_gtr, ifB_lit, decide_eq_true_eq]
    split
    · exact kt _
    rename_i h30
    have L1 : ∀ (all : List Sl), all = allSels l → (∀ r ∈ l, r.sels.length ≤ 8) → (∀ r ∈ l, r.sets.length ≤ 30) → ∀ (f j : Nat) (H : Hp) (n : Int) (y4 : AV), all.length - j = f → j ≤ all.length → (∀ s ∈ all.take j, FitL 11 [s]) → law12_Dear.L1 σ K (rls l) (sls all) y4 (I n) (I (j : Int)) H := by
      intro all hall h8 hst f
      have hal : all.length ≤ 240 := by
        have := all_len h8
        rw [hall]; omega
      have hawf : ∀ s ∈ all, slWf Lmax s := by
        intro s hs
        rw [hall] at hs
        obtain ⟨r, hr, hs⟩ := List.mem_flatMap.1 hs
        exact (hl.2 r hr).sels.2 s hs
      induction f with
      | zero =>
        intro j H n y4 hf hj hfit
        have : j = all.length := by omega
        subst this
        rw [List.take_length] at hfit
        refine law12_Dear.L1_step ?_
        simp only [len_sls, bnd_some, b_lss, Int.lt_irrefl, decide_false, ifB_lit, Bool.false_eq_true, if_false, b_gtr]
        rw [hKd]
        refine ⟨_, rfl, fun _ => ⟨by omega, h8, hst, fun r hr s hs => hfit s ?_⟩⟩
        rw [hall]
        exact List.mem_flatMap.2 ⟨r, hr, hs⟩
      | succ f ih =>
        intro j H n y4 hf hj hfit
        have hlt : j < all.length := by omega
        have hlt' : (j : Int) < all.length := by omega
        obtain ⟨s, hs⟩ := get_lt hlt
        have hsm := List.mem_of_getElem? hs
        obtain ⟨b, hd, hf1⟩ := Dear_ok (σ := σ) [s] ⟨by show 1 ≤ Lmax; decide, fun s' h => by rw [List.mem_singleton.1 h]; exact hawf s hsm⟩
        refine law12_Dear.L1_step ?_
        have hix : ixaSl 1 (sls all) (I (j : Int)) = some (.ip (encSl s)) := ix_map hs
        have hw : wr .i64 ((j : Int) + 1) = ((j + 1 : Nat) : Int) := wr_succ (by omega)
        simp only [len_sls, bnd_some, b_lss, hlt', decide_true, ifB_lit, if_true, b_add, hw, sl_one hs]
        refine callK_of (hd _) ?_
        simp only [ifB_lit]
        cases hb : b with
        | true => simp only [if_true]; exact kt _
        | false =>
          simp only [Bool.false_eq_true, if_false, hix, bnd_some, sh_ip, List.drop_zero, ld_ip, f_encSl0, len_imm, List.length_map, b_add]
          refine ih (j + 1) H _ y4 (by omega) (by omega) fun s' hs' => ?_
          rw [List.take_add_one, hs] at hs'
          rcases List.mem_append.1 hs' with h | h
          · exact hfit s' h
          · simp at h; subst h; exact hf1 hb
    have L0 : ∀ (f m : Nat) (H : Hp) (y3 y5 y6 : AV), l.length - m = f → m ≤ l.length → (∀ r ∈ l.take m, r.sels.length ≤ 8) → (∀ r ∈ l.take m, r.sets.length ≤ 30) → Gs 1 H y3 ((allSels (l.take m)).map encSl) → law12_Dear.L0 σ K (rls l) y3 (I (m : Int)) y5 y6 H := by
      intro f
      induction f with
      | zero =>
        intro m H y3 y5 y6 hf hm h8 hst hg
        have : m = l.length := by omega
        subst this
        rw [List.take_length] at h8 hst hg
        refine law12_Dear.L0_step ?_
        simp only [len_rls, bnd_some, b_lss, Int.lt_irrefl, decide_false, ifB_lit, Bool.false_eq_true, if_false]
        exact dear12_drop (hg.fz (noIds_map _ noId_Sl _)) (L1 _ rfl h8 hst _ 0 _ 0 _ rfl (Nat.zero_le _) (fun s h => by simp at h))
      | succ f ih =>
        intro m H y3 y5 y6 hf hm h8 hst hg
        have hlt : m < l.length := by omega
        have hlt' : (m : Int) < l.length := by omega
        obtain ⟨r, hr⟩ := get_lt hlt
        have hix : ixaSl 2 (rls l) (I (m : Int)) = some (.ip (encRL r)) := ix_map hr
        have e1 : ldA false 1 H (.ip (encRL r)) = some (sls r.sels) := rfl
        have e2 : ldA false 1 H (.ip ((encRL r).drop 1)) = some (.imm 4 (r.sets.map encST)) := rfl
        refine law12_Dear.L0_step ?_
        simp only [len_rls, bnd_some, b_lss, hlt', decide_true, ifB_lit, if_true, hix, sh_ip, List.drop_zero, e1, e2, len_sls, len_imm, List.length_map, b_gtr, decide_eq_true_eq]
        split
        · exact kt _
        split
        · exact kt _
        rename_i q1 q2
        have hal := all_len h8
        rw [List.length_take] at hal
        have hone : ((r.sels.map encSl).flatten).all AV.one = true := by
          rw [List.all_eq_true]; intro x hx
          obtain ⟨q, hq, hx⟩ := List.mem_flatten.1 hx
          obtain ⟨s, _, rfl⟩ := List.mem_map.1 hq
          exact List.all_eq_true.1 (one_Sl s) x hx
        refine bnd_app (y := .imm 1 (r.sels.map encSl)) hg rfl src_imm (fun q hq => by obtain ⟨s, _, rfl⟩ := List.mem_map.1 hq; rfl) hone (by simp only [List.length_map]; omega) (by simp only [List.length_map]; omega) fun x' H' g' _ => ?_
        rw [b_add, bnd_some, wr_succ (by omega)]
        have htk : l.take (m + 1) = l.take m ++ [r] := by rw [List.take_add_one, hr]; rfl
        refine ih (m + 1) H' x' _ _ (by omega) (by omega) ?_ ?_ ?_
        · intro q hq
          rw [htk] at hq
          rcases List.mem_append.1 hq with h | h
          · exact h8 q h
          · simp at h; subst h; omega
        · intro q hq
          rw [htk] at hq
          rcases List.mem_append.1 hq with h | h
          · exact hst q h
          · simp at h; subst h; omega
        · rw [htk]
          have : allSels (l.take m ++ [r]) = allSels (l.take m) ++ r.sels := by unfold allSels; simp
          rw [this, List.map_append]
          exact g'
    exact L0 _ 0 _ _ _ _ rfl (Nat.zero_le _) (fun r h => by simp at h) (fun r h => by simp at h) (by simpa [allSels] using Gs.nil)
  obtain ⟨r, H1, hg, b, rfl, hb⟩ := run
  exact ⟨b, fun H => hg.over (by simp [noIds]) rfl H, hb⟩
end
theorem rules_ok {l : List RL} (hl : rlsWf l) (hf : Fit12 l) (hb : bkLL (l.map encRL) ≤ NB) : ∀ r ∈ l, ∀ s ∈ r.sels, slWf Lmax s ∧ s.length ≤ 1048576 ∧ SelOk 11 [s] ∧ TxL 11 [s] := by
  intro r hr s hs
  have hN : NB = 1048576 := rfl
  have h1 := mem_bk (f := encRL) hr
  rw [bk_rl] at h1
  have h2 := mem_bk (f := encSl) hs
  have hw := (hl.2 r hr).sels.2 s hs
  have h3 : s.length ≤ bkLL (s.map encPt) := len_bk fun p _ => by rw [bk_pt]; omega
  have h4 := h2
  rw [bk_sl] at h4
  refine ⟨hw, by omega, sel_bulk ⟨by show 1 ≤ Lmax; decide, fun s' h => by rw [List.mem_singleton.1 h]; exact hw⟩ (hf.fit r hr s hs) ?_⟩
  simp only [List.map_cons, List.map_nil, bkLL]
  omega
end Go.Proofs.Ytaoegkmfgfefgaa.Ev
namespace Go.Proofs.Ytaoegkmfgfefgaa.Ev
set_option linter.unusedVariables false
set_option linter.unusedSimpArgs false
variable {σ : Sig}
section
attribute [local irreducible] reval_kept_api_Selector.L0 reval_kept_api_Selector.J1
theorem kept_ok (l : List Sl) (hl : l.length ≤ 1000000) (hs : ∀ s ∈ l, s.length < 9000000000000000000) (H : Hp) : Good Try.prog σ n_reval_kept_api_Selector [sls l, .fn n_reval_Needs []] H (sls (l.filter needs)) H := by
  obtain ⟨Q, hQ⟩ : ∃ Q : AV → Hp → Prop, ∀ r H1, Q r H1 ↔ Gs 1 H1 r ((l.filter needs).map encSl) := ⟨_, fun _ _ => Iff.rfl⟩
  have run : ∃ r H1, Good Try.prog σ n_reval_kept_api_Selector [sls l, .fn n_reval_Needs []] Hp.empty r H1 ∧ Q r H1 := by
    refine reval_kept_api_Selector.run ?_
    rw [len_sls, bnd_some]
    have L0 : ∀ (f k : Nat) (H : Hp) (y5 : AV), l.length - k = f → k ≤ l.length → Gs 1 H y5 (((l.take k).filter needs).map encSl) → reval_kept_api_Selector.L0 σ Q (.fn n_reval_Needs []) y5 (sls l) (I (l.length : Int)) (I (k : Int)) H := by
      intro f
      induction f with
      | zero =>
        intro k H y5 hf hk hg
        have : k = l.length := by omega
        subst this
        rw [List.take_length] at hg
        refine reval_kept_api_Selector.L0_step ?_
        simp only [b_lss, bnd_some, Int.lt_irrefl, decide_false, ifB_lit, Bool.false_eq_true, if_false]
        exact (hQ _ _).2 hg
      | succ f ih =>
        intro k H y5 hf hk hg
        have hlt : k < l.length := by omega
        have hlt' : (k : Int) < l.length := by omega
        obtain ⟨s, hsk⟩ := get_lt hlt
        have hix : ixaSl 1 (sls l) (I (k : Int)) = some (.ip (encSl s)) := ix_map hsk
        have htk : l.take (k + 1) = l.take k ++ [s] := by rw [List.take_add_one, hsk]; rfl
        have J1 : ∀ (H : Hp) (y5 : AV), Gs 1 H y5 (((l.take (k + 1)).filter needs).map encSl) → reval_kept_api_Selector.J1 σ Q (.fn n_reval_Needs []) y5 (sls l) (I (l.length : Int)) (I (k : Int)) H := by
          intro H y5 hg
          refine reval_kept_api_Selector.J1_step ?_
          rw [b_add, bnd_some, wr_succ (by omega)]
          exact ih (k + 1) H y5 (by omega) (by omega) hg
        refine reval_kept_api_Selector.L0_step ?_
        simp only [b_lss, bnd_some, hlt', decide_true, ifB_lit, if_true, hix, ld_ip, ldL_sl, allocK_eq]
        obtain ⟨H2, hH2⟩ : ∃ H2, H2 = (H.new (.cells [.lit (.slice none 0 0)] true)).set H.n (some (.cells (encSl s) true)) := ⟨_, rfl⟩
        refine bnd_of (x := H2) ?_ ?_
        · rw [st_agg, hH2]
          simp only [hp_get_new, if_true]
          rfl
        have hg2 : Gs 1 H2 y5 (((l.take k).filter needs).map encSl) := by
          refine hg.keep (fun j hj => ?_) (by rw [hH2]; simp)
          have h1 := hg.lt hj
          have h2 : j ≠ H.n := by omega
          rw [hH2]
          simp [h2]
        have hl2 : ldA true 1 H2 (.ptr H.n 0) = some (.agg (encSl s)) := by rw [hH2]; simp
        rw [hl2, bnd_some]
        refine callK_of (needs_ok s (hs s (List.mem_of_getElem? hsk)) _) ?_
        simp only [ifB_lit]
        cases hn : needs s with
        | true =>
          simp only [if_true]
          rw [hl2, bnd_some]
          have hlen : (((l.take k).filter needs).map encSl).length ≤ k := by
            rw [List.length_map]
            exact Nat.le_trans (List.length_filter_le _ _) (by rw [List.length_take]; omega)
          refine bnd_app1 (y := .agg (encSl s)) hg2 rfl rfl (one_Sl s) (by omega) (by omega) fun x' H' g' _ => J1 _ _ ?_
          rw [htk, List.filter_append, List.map_append]
          simpa [hn] using g'
        | false =>
          simp only [Bool.false_eq_true, if_false]
          refine J1 _ _ ?_
          rw [htk, List.filter_append, List.map_append]
          simpa [hn] using hg2
    exact L0 _ 0 _ _ rfl (Nat.zero_le _) (by simpa using Gs.nil)
  obtain ⟨r, H1, hg, hq⟩ := run
  exact hg.frzR (by simp [noIds, noId]) ((hQ _ _).1 hq |>.fz (noIds_map _ noId_Sl _)) H
end
def needL (l : List RL) : List Sl := (allSels l).filter needs
theorem needL_app (a b : List RL) : needL (a ++ b) = needL a ++ needL b := by unfold needL allSels; simp
structure Rl8 (l : List RL) : Prop where
  len : l.length ≤ 60
  sels : ∀ r ∈ l, r.sels.length ≤ 8
  parts : ∀ r ∈ l, ∀ s ∈ r.sels, s.length < 9000000000000000000
theorem needL_len {l : List RL} (h : ∀ r ∈ l, r.sels.length ≤ 8) : (needL l).length ≤ 8 * l.length := Nat.le_trans (List.length_filter_le _ _) (all_len h)
section
end
theorem rneeds_pt (p : Pt) : needsPt p = (decide ((0 : Int) < p.c.attrs.length) || (decide ((0 : Int) < p.c.pseudos.length) || (decide (p.comb = 3) || decide (p.comb = 4)))) := by
  unfold needsPt
  have e1 : decide ((0 : Int) < p.c.attrs.length) = decide (0 < p.c.attrs.length) := by rw [decide_eq_decide]; omega
  have e2 : decide ((0 : Int) < p.c.pseudos.length) = decide (0 < p.c.pseudos.length) := by rw [decide_eq_decide]; omega
  rw [e1, e2]
section
attribute [local irreducible] ref9_Needs.L0
theorem rneeds_ok (s : Sl) (hs : s.length < 9000000000000000000) (H : Hp) : Good Try.prog σ n_ref9_Needs [.agg (encSl s)] H (Bo (needs s)) H := by
  refine good_by (fun K hK => ref9_Needs.run ?_) (by simp [noIds, noId, noId_Sl]) rfl H
  simp only [boxK_agg]
  have L0 : ∀ (f k : Nat) (H : Hp), s.length - k = f → k ≤ s.length → 0 < H.n → H.get 0 = some (.cells (encSl s) true) → (∀ H', K (Bo ((s.drop k).any needsPt)) H') → ref9_Needs.L0 σ K (.ptr 0 0) (I (k : Int)) H := by
    intro f
    induction f with
    | zero =>
      intro k H hf hk hn hg hK
      have : k = s.length := by omega
      subst this
      have l0 : ldA false 1 H (.ptr 0 0) = some (.imm 6 (s.map encPt)) := by simp [hg, encSl]
      refine ref9_Needs.L0_step ?_
      simp only [sh_ptr, Nat.zero_add, bnd_some, l0, len_imm, List.length_map, b_lss, Int.lt_irrefl, decide_false, ifB_lit, Bool.false_eq_true, if_false]
      simpa using hK H
    | succ f ih =>
      intro k H hf hk hn hg hK
      have hlt : k < s.length := by omega
      have hlt' : (k : Int) < s.length := by omega
      obtain ⟨p, hp⟩ := get_lt hlt
      rw [drop_get hp, List.any_cons, rneeds_pt] at hK
      have l0 : ldA false 1 H (.ptr 0 0) = some (.imm 6 (s.map encPt)) := by simp [hg, encSl]
      have hix : ixaSl 6 (.imm 6 (s.map encPt)) (I (k : Int)) = some (.ip (encPt p)) := ix_map hp
      have l5 : ldA true 5 H (.ip ((encPt p).drop 1)) = some (.agg (encCp p.c)) := by rw [encPt_eq]; simp
      refine ref9_Needs.L0_step ?_
      simp only [sh_ptr, Nat.zero_add, bnd_some, l0, len_imm, List.length_map, b_lss, hlt', decide_true, ifB_lit, if_true, hix, sh_ip, l5, allocK_eq]
      obtain ⟨H2, hH2⟩ : ∃ H2, H2 = (H.new (.cells [.lit (.string ⟨#[]⟩), .lit (.slice none 0 0), .lit (.slice none 0 0), .lit (.slice none 0 0), .lit (.slice none 0 0)] true)).set H.n (some (.cells (encCp p.c) true)) := ⟨_, rfl⟩
      refine bnd_of (x := H2) ?_ ?_
      · rw [st_agg, hH2]
        simp only [hp_get_new, if_true, stO_cells, len_encCp]
        rw [if_pos ⟨by decide, one_Cp _⟩, ov_Cp _ rfl]
      have h0 : (0 : Nat) ≠ H.n := by omega
      have hg2 : H2.get 0 = some (.cells (encSl s) true) := by rw [hH2]; simp [h0, hg]
      have l02 : ldA false 1 H2 (.ptr 0 0) = some (.imm 6 (s.map encPt)) := by simp [hg2, encSl]
      have lk : ldA false 1 H2 (.ip (encPt p)) = some (I p.comb) := by simp
      have la : ldA false 1 H2 (.ptr H.n 3) = some (.imm 3 (p.c.attrs.map encAt)) := by rw [hH2, ld_ptr, hp_get_set, if_pos rfl, ldO_cells, f_encCp3]
      have lp : ldA false 1 H2 (.ptr H.n 4) = some (.imm 4 (p.c.pseudos.map encPs)) := by rw [hH2, ld_ptr, hp_get_set, if_pos rfl, ldO_cells, f_encCp4]
      have n2 : H2.n = H.n + 1 := by rw [hH2]; rfl
      rw [l02]
      simp only [bnd_some, hix, sh_ip, List.drop_zero, lk, la, lp, len_imm, List.length_map, b_gtr, b_eql, ifB_lit, decide_eq_true_eq]
      split
      · rename_i h; simp only [h, decide_true, Bool.true_or, Bool.or_true] at hK; exact hK H2
      rename_i q1
      split
      · rename_i h; simp only [h, decide_true, Bool.true_or, Bool.or_true] at hK; exact hK H2
      rename_i q2
      split
      · rename_i h; simp only [h, decide_true, Bool.true_or, Bool.or_true] at hK; exact hK H2
      rename_i q3
      split
      · rename_i h; simp only [h, decide_true, Bool.true_or, Bool.or_true] at hK; exact hK H2
      rename_i q4
      rw [b_add, bnd_some, wr_succ (by omega)]
      exact ih (k + 1) H2 (by omega) (by omega) (by omega) hg2 (by simp only [q1, q2, q3, q4, decide_false, Bool.false_or] at hK; exact hK)
  exact L0 _ 0 _ rfl (Nat.zero_le _) (by simp) (by simp [Hp.empty]) hK
end
section
attribute [local irreducible] ref9_NeedList.L0 ref9_NeedList.L1 ref9_NeedList.J2
theorem NeedList_ok (l : List RL) (hl : Rl8 l) (H : Hp) : Good Try.prog σ n_ref9_NeedList [rls l] H (sls (needL l)) H := by
  have hlen := hl.len
  obtain ⟨Q, hQ⟩ : ∃ Q : AV → Hp → Prop, ∀ r H1, Q r H1 ↔ Gs 1 H1 r ((needL l).map encSl) := ⟨_, fun _ _ => Iff.rfl⟩
  have run : ∃ r H1, Good Try.prog σ n_ref9_NeedList [rls l] Hp.empty r H1 ∧ Q r H1 := by
    refine ref9_NeedList.run ?_
    have L0 : ∀ (f k : Nat) (H1 : Hp) (y3 y5 : AV), l.length - k = f → k ≤ l.length → Gs 1 H1 y3 ((needL (l.take k)).map encSl) → ref9_NeedList.L0 σ Q (rls l) y3 (I (k : Int)) y5 H1 := by
      intro f
      induction f with
      | zero =>
        intro k H1 y3 y5 hf hk hg
        have : k = l.length := by omega
        subst this
        rw [List.take_length] at hg
        refine ref9_NeedList.L0_step ?_
        simp only [len_rls, b_lss, bnd_some, Int.lt_irrefl, decide_false, ifB_lit, Bool.false_eq_true, if_false]
        exact (hQ _ _).2 hg
      | succ f ih =>
        intro k H1 y3 y5 hf hk hg
        have hlt : k < l.length := by omega
        have hlt' : (k : Int) < l.length := by omega
        obtain ⟨r, hr⟩ := get_lt hlt
        have hrm := List.mem_of_getElem? hr
        have hix : ixaSl 2 (rls l) (I (k : Int)) = some (.ip (encRL r)) := ix_map hr
        have htk : l.take (k + 1) = l.take k ++ [r] := by rw [List.take_add_one, hr]; rfl
        have h8 := hl.sels r hrm
        have hnl := needL_len (l := l.take k) fun r hr => hl.sels r (List.mem_of_mem_take hr)
        rw [List.length_take] at hnl
        refine ref9_NeedList.L0_step ?_
        simp only [len_rls, b_lss, bnd_some, hlt', decide_true, ifB_lit, if_true]
        have L1 : ∀ (g i : Nat) (H : Hp) (y3 : AV), r.sels.length - i = g → i ≤ r.sels.length → Gs 1 H y3 ((needL (l.take k) ++ (r.sels.take i).filter needs).map encSl) → ref9_NeedList.L1 σ Q (rls l) y3 (I (k : Int)) (I (i : Int)) H := by
          intro g
          induction g with
          | zero =>
            intro i H y3 hg' hi hgs
            have : i = r.sels.length := by omega
            subst this
            rw [List.take_length] at hgs
            have lr : ldA false 1 H (.ip (encRL r)) = some (sls r.sels) := rfl
            refine ref9_NeedList.L1_step ?_
            simp only [hix, bnd_some, sh_ip, List.drop_zero, lr, len_sls, b_lss, Int.lt_irrefl, decide_false, ifB_lit, Bool.false_eq_true, if_false, b_add]
            rw [wr_succ (by omega)]
            refine ih (k + 1) H y3 _ (by omega) (by omega) ?_
            rw [htk, needL_app]
            have : needL [r] = r.sels.filter needs := by simp [needL, allSels]
            rw [this]
            exact hgs
          | succ g ihg =>
            intro i H y3 hg' hi hgs
            have hil : i < r.sels.length := by omega
            have hil' : (i : Int) < r.sels.length := by omega
            obtain ⟨s, hs⟩ := get_lt hil
            have hsm := List.mem_of_getElem? hs
            have lr : ∀ H : Hp, ldA false 1 H (.ip (encRL r)) = some (sls r.sels) := fun _ => rfl
            have his : ixaSl 1 (sls r.sels) (I (i : Int)) = some (.ip (encSl s)) := ix_map hs
            have hti : r.sels.take (i + 1) = r.sels.take i ++ [s] := by rw [List.take_add_one, hs]; rfl
            have J2 : ∀ (H : Hp) (y3 : AV), Gs 1 H y3 ((needL (l.take k) ++ (r.sels.take (i + 1)).filter needs).map encSl) → ref9_NeedList.J2 σ Q (rls l) y3 (I (k : Int)) (I (i : Int)) H := by
              intro H y3 hgs
              refine ref9_NeedList.J2_step ?_
              rw [b_add, bnd_some, wr_succ (by omega)]
              exact ihg (i + 1) H y3 (by omega) (by omega) hgs
            refine ref9_NeedList.L1_step ?_
            simp only [hix, bnd_some, sh_ip, List.drop_zero, lr, len_sls, b_lss, hil', decide_true, ifB_lit, if_true, his, ld_ip, ldL_sl, f_encRL0]
            refine callK_of (rneeds_ok s (hl.parts r hrm s hsm) _) ?_
            simp only [ifB_lit]
            cases hn : needs s with
            | true =>
              simp only [if_true]
              have hfl := List.length_filter_le needs (r.sels.take i)
              rw [List.length_take] at hfl
              refine bnd_app1 (y := .agg (encSl s)) hgs rfl rfl (one_Sl s) (by rw [List.length_map, List.length_append]; omega) (by rw [List.length_map, List.length_append]; omega) fun x' H' g' _ => J2 _ _ ?_
              rw [hti, List.filter_append, ← List.append_assoc, List.map_append]
              simpa [hn] using g'
            | false =>
              simp only [Bool.false_eq_true, if_false]
              refine J2 _ _ ?_
              rw [hti, List.filter_append]
              simpa [hn] using hgs
        exact L1 _ 0 _ _ rfl (Nat.zero_le _) (by simpa using hg)
    exact L0 _ 0 _ _ _ rfl (Nat.zero_le _) (by simpa [needL, allSels] using Gs.nil)
  obtain ⟨r, H1, hg, hq⟩ := run
  exact hg.frzR (by simp [noIds, noId]) ((hQ _ _).1 hq |>.fz (noIds_map _ noId_Sl _)) H
end
end Go.Proofs.Ytaoegkmfgfefgaa.Ev
namespace Go.Proofs.Ytaoegkmfgfefgaa.Ev
set_option linter.unusedVariables false
set_option linter.unusedSimpArgs false
variable {σ : Sig}
section
end
section
end
section
end
end Go.Proofs.Ytaoegkmfgfefgaa.Ev
namespace Go.Proofs.Ytaoegkmfgfefgaa.Ev
open Go.RowKit
set_option linter.unusedVariables false
set_option linter.unusedSimpArgs false
set_option maxRecDepth 100000
variable {σ : Sig}
theorem NdSm.low {n : Nd} (h : NdSm n) : SmN (lowN n) := by
  have r : reachBytes = 140737488351232 := rfl
  refine ⟨by have := h.classes; show n.classes.length ≤ _; omega, by have := h.attrs; show (n.attrs.map lowPr).length ≤ _; rw [List.length_map]; omega, fun p hp => ?_⟩
  obtain ⟨q, hq, rfl⟩ := List.mem_map.1 hp
  have := (h.at' q hq).2
  show q.2.data.size < _
  omega
theorem TreeOk.smN {L : List Nd} {d : List Nat} (h : TreeOk L d) : ∀ e, e < L.length → SmN (lowN (ndAt L e)) := by
  intro e he
  refine (h.sm _ ?_).low
  unfold ndAt
  rw [List.getD_eq_getElem?_getD, List.getElem?_eq_getElem he]
  exact List.getElem_mem _
theorem TreeOk.mc {L : List Nd} {d : List Nat} (h : TreeOk L d) (hC : HasC σ) : McT σ L d := ⟨hC, h.hB, by have := h.len; omega, h.smN⟩
section
end
def sigM : Sig := ⟨fun _ => 0, fun _ => false, fun _ => ⟨#[]⟩, some gMax⟩
theorem sigM_g : sigM.g = some gMax := rfl
end Go.Proofs.Ytaoegkmfgfefgaa.Ev
namespace Go.Proofs.Ytaoegkmfgfefgaa.Ev
open Go.RowKit
set_option linter.unusedVariables false
set_option linter.unusedSimpArgs false
set_option maxRecDepth 100000
variable {σ : Sig}
theorem callK_drop {P : Program} {σ : Sig} {f : Nat} {xs ys : List AV} {H : Hp} {K : AV → Hp → Prop} (hx : FzL H ys xs) (h : callK P σ f xs (Hp.bare H.n) K) : callK P σ f ys H K := by
  obtain ⟨r, H1, hg, hk⟩ := h
  exact ⟨r, H1, Good.conv (Wk.frz (H2 := Hp.bare H.n) (Hd := H) rfl rfl (fun id k hk => ⟨hk, by simp⟩) (fun id k2 hk => by simp at hk) hx.t) hg, hk⟩
theorem rls_one (l : List RL) : ((l.map encRL).flatten).all AV.one = true := by
  rw [List.all_eq_true]; intro x hx
  obtain ⟨q, hq, hx⟩ := List.mem_flatten.1 hx
  obtain ⟨s, _, rfl⟩ := List.mem_map.1 hq
  exact List.all_eq_true.1 (one_RL s) x hx
theorem rls_sz (l : List RL) : ∀ row ∈ l.map encRL, row.length = 2 := fun q hq => by obtain ⟨s, _, rfl⟩ := List.mem_map.1 hq; rfl
theorem Fit12.rl8 {l : List RL} (h : Fit12 l) : Rl8 l := by
  refine ⟨by have := h.len; omega, h.sels, fun r hr s hs => ?_⟩
  have := (h.fit r hr s hs s (by simp)).1
  omega
theorem Nest.all {f : Nat} {l : List Sl} (hf : 0 < f) (h : ∀ s ∈ l, Nest f [s]) : Nest f l := by
  cases f with
  | zero => omega
  | succ f => exact fun s hs => h s hs s (by simp)
theorem needL_mem {l : List RL} {s : Sl} (h : s ∈ needL l) : ∃ r ∈ l, s ∈ r.sels := by
  unfold needL at h
  obtain ⟨r, hr, hs⟩ := List.mem_flatMap.1 (List.mem_filter.1 h).1
  exact ⟨r, hr, hs⟩
theorem rl_len (l : List RL) : l.length ≤ bkLL (l.map encRL) := len_bk fun r _ => by rw [bk_rl]; omega
end Go.Proofs.Ytaoegkmfgfefgaa.Ev
namespace Go.Proofs.Ytaoegkmfgfefgaa.Ev
set_option linter.unusedVariables false
set_option linter.unusedSimpArgs false
variable {σ : Sig}
def encB (b : Bool) : List AV := [Bo b]
def bools (l : List Bool) : AV := .imm 1 (l.map encB)
@[simp] theorem noId_bools (l : List Bool) : noId (bools l) = true := by unfold bools; simp only [noId]; exact noIds_map _ (fun _ => rfl) l
@[simp] theorem len_bools (l : List Bool) : lenSl (bools l) = some (.lit (.int .i64 l.length)) := by simp [bools]
section
attribute [local irreducible] slices_Equal_string_string.L0 slices_Equal_bool_bool.L0 ref9_SameBits.L0
theorem EqStr_ok (a b : List ByteArray) (ha : a.length ≤ reachBytes) (H : Hp) : Good Try.prog σ n_slices_Equal_string_string [strs a, strs b] H (Bo (decide (a = b))) H := by
  refine good_by (fun K hK => slices_Equal_string_string.run ?_) (by simp [noIds]) rfl H
  simp only [len_strs, bnd_some, b_neq, ifB_lit]
  by_cases hl : a.length = b.length
  · have hl' : (a.length : Int) = b.length := by omega
    simp only [hl', decide_true, Bool.not_true, Bool.false_eq_true, if_false]
    have L0 : ∀ (f k : Nat) (H : Hp), a.length - k = f → k ≤ a.length → (∀ H, K (Bo (eqFrom a b k)) H) → slices_Equal_string_string.L0 σ K (strs a) (strs b) (I (b.length : Int)) (I (k : Int)) H := by
      intro f
      induction f with
      | zero =>
        intro k H hf hk hK
        have : k = a.length := by omega
        subst this
        refine slices_Equal_string_string.L0_step ?_
        have hn : ¬ ((a.length : Int) < (b.length : Int)) := by omega
        simp only [bnd_some, b_lss, hn, decide_false, ifB_lit, Bool.false_eq_true, if_false]
        rw [eqFrom_end hl] at hK
        exact hK H
      | succ f ih =>
        intro k H hf hk hK
        have hlt : k < a.length := by omega
        have hlt' : (k : Int) < b.length := by omega
        obtain ⟨x, hx⟩ := get_lt hlt
        obtain ⟨y, hy⟩ := get_lt (l := b) (k := k) (by omega)
        rw [eqFrom_step hx hy] at hK
        have ix : ixaSl 1 (strs a) (I (k : Int)) = some (.ip [Sx x]) := ix_map hx
        have iy : ixaSl 1 (strs b) (I (k : Int)) = some (.ip [Sx y]) := ix_map hy
        refine slices_Equal_string_string.L0_step ?_
        simp only [bnd_some, b_lss, hlt', decide_true, ifB_lit, if_true, ix, iy, ld_ip, ldL_one, b_sneq]
        by_cases hxy : x = y
        · simp only [hxy, decide_true, Bool.not_true, Bool.false_eq_true, if_false, b_add, bnd_some]
          rw [wr_succL hlt ha (by decide)]
          exact ih (k + 1) H (by omega) (by omega) (by simpa [hxy] using hK)
        · simp only [hxy, decide_false, Bool.not_false, if_true]
          simpa [hxy] using hK H
    exact L0 _ 0 _ rfl (Nat.zero_le _) hK
  · have hl' : ¬ (a.length : Int) = b.length := by omega
    simp only [hl', decide_false, Bool.not_false, if_true]
    rw [eqFrom_len hl] at hK
    exact hK _
theorem bxor (x y : Bool) : (x == y) = decide (x = y) := by cases x <;> cases y <;> rfl
theorem EqBits_ok (a b : List Bool) (ha : a.length ≤ reachBytes) (H : Hp) : Good Try.prog σ n_slices_Equal_bool_bool [bools a, bools b] H (Bo (decide (a = b))) H := by
  refine good_by (fun K hK => slices_Equal_bool_bool.run ?_) (by simp [noIds]) rfl H
  simp only [len_bools, bnd_some, b_neq, ifB_lit]
  by_cases hl : a.length = b.length
  · have hl' : (a.length : Int) = b.length := by omega
    simp only [hl', decide_true, Bool.not_true, Bool.false_eq_true, if_false]
    have L0 : ∀ (f k : Nat) (H : Hp), a.length - k = f → k ≤ a.length → (∀ H, K (Bo (eqFrom a b k)) H) → slices_Equal_bool_bool.L0 σ K (bools a) (bools b) (I (b.length : Int)) (I (k : Int)) H := by
      intro f
      induction f with
      | zero =>
        intro k H hf hk hK
        have : k = a.length := by omega
        subst this
        refine slices_Equal_bool_bool.L0_step ?_
        have hn : ¬ ((a.length : Int) < (b.length : Int)) := by omega
        simp only [bnd_some, b_lss, hn, decide_false, ifB_lit, Bool.false_eq_true, if_false]
        rw [eqFrom_end hl] at hK
        exact hK H
      | succ f ih =>
        intro k H hf hk hK
        have hlt : k < a.length := by omega
        have hlt' : (k : Int) < b.length := by omega
        obtain ⟨x, hx⟩ := get_lt hlt
        obtain ⟨y, hy⟩ := get_lt (l := b) (k := k) (by omega)
        rw [eqFrom_step hx hy] at hK
        have ix : ixaSl 1 (bools a) (I (k : Int)) = some (.ip [Bo x]) := ix_map hx
        have iy : ixaSl 1 (bools b) (I (k : Int)) = some (.ip [Bo y]) := ix_map hy
        refine slices_Equal_bool_bool.L0_step ?_
        simp only [bnd_some, b_lss, hlt', decide_true, ifB_lit, if_true, ix, iy, ld_ip, ldL_one, e_boolN, bxor]
        by_cases hxy : x = y
        · simp only [hxy, decide_true, Bool.not_true, Bool.false_eq_true, if_false, b_add, bnd_some]
          rw [wr_succL hlt ha (by decide)]
          exact ih (k + 1) H (by omega) (by omega) (by simpa [hxy] using hK)
        · simp only [hxy, decide_false, Bool.not_false, if_true]
          simpa [hxy] using hK H
    exact L0 _ 0 _ rfl (Nat.zero_le _) hK
  · have hl' : ¬ (a.length : Int) = b.length := by omega
    simp only [hl', decide_false, Bool.not_false, if_true]
    rw [eqFrom_len hl] at hK
    exact hK _
theorem SameBits_ok (a b : List Bool) (ha : a.length ≤ reachBytes) (H : Hp) : Good Try.prog σ n_ref9_SameBits [bools a, bools b] H (Bo (decide (a = b))) H := by
  refine good_by (fun K hK => ref9_SameBits.run ?_) (by simp [noIds]) rfl H
  simp only [len_bools, bnd_some, b_neq, ifB_lit]
  by_cases hl : a.length = b.length
  · have hl' : (a.length : Int) = b.length := by omega
    simp only [hl', decide_true, Bool.not_true, Bool.false_eq_true, if_false]
    have L0 : ∀ (f k : Nat) (H : Hp), a.length - k = f → k ≤ a.length → (∀ H, K (Bo (eqFrom a b k)) H) → ref9_SameBits.L0 σ K (bools a) (bools b) (I (k : Int)) H := by
      intro f
      induction f with
      | zero =>
        intro k H hf hk hK
        have : k = a.length := by omega
        subst this
        refine ref9_SameBits.L0_step ?_
        simp only [len_bools, bnd_some, b_lss, Int.lt_irrefl, decide_false, ifB_lit, Bool.false_eq_true, if_false]
        rw [eqFrom_end hl] at hK
        exact hK H
      | succ f ih =>
        intro k H hf hk hK
        have hlt : k < a.length := by omega
        have hlt' : (k : Int) < a.length := by omega
        obtain ⟨x, hx⟩ := get_lt hlt
        obtain ⟨y, hy⟩ := get_lt (l := b) (k := k) (by omega)
        rw [eqFrom_step hx hy] at hK
        have ix : ixaSl 1 (bools a) (I (k : Int)) = some (.ip [Bo x]) := ix_map hx
        have iy : ixaSl 1 (bools b) (I (k : Int)) = some (.ip [Bo y]) := ix_map hy
        refine ref9_SameBits.L0_step ?_
        simp only [len_bools, bnd_some, b_lss, hlt', decide_true, ifB_lit, if_true, ix, iy, ld_ip, ldL_one, e_boolN, bxor]
        by_cases hxy : x = y
        · simp only [hxy, decide_true, Bool.not_true, Bool.false_eq_true, if_false, b_add, bnd_some]
          rw [wr_succL hlt ha (by decide)]
          exact ih (k + 1) H (by omega) (by omega) (by simpa [hxy] using hK)
        · simp only [hxy, decide_false, Bool.not_false, if_true]
          simpa [hxy] using hK H
    exact L0 _ 0 _ rfl (Nat.zero_le _) hK
  · have hl' : ¬ (a.length : Int) = b.length := by omega
    simp only [hl', decide_false, Bool.not_false, if_true]
    rw [eqFrom_len hl] at hK
    exact hK _
end
def bitsB (L : List Nd) (l : List Sl) (e : Int) : List Bool := l.map fun s => selB L 11 s e
structure LsOk (l : List Sl) : Prop where
  len : l.length ≤ 100000
  ok : ∀ s ∈ l, SelOk 11 [s] ∧ TxL 11 [s]
section
attribute [local irreducible] reval_Bits.L0
theorem Bits_ok {L : List Nd} {d : List Nat} (M : McT σ L d) {l : List Sl} (hl : LsOk l) (e : Int) (H : Hp) : Good Try.prog σ n_reval_Bits [domT L d, I e, sls l] H (bools (bitsB L l e)) H := by
  have hll := hl.len
  obtain ⟨Q, hQ⟩ : ∃ Q : AV → Hp → Prop, ∀ r H1, Q r H1 ↔ Fz H1 r (bools (bitsB L l e)) := ⟨_, fun _ _ => Iff.rfl⟩
  have run : ∃ r H1, Good Try.prog σ n_reval_Bits [domT L d, I e, sls l] Hp.empty r H1 ∧ Q r H1 := by
    refine reval_Bits.run ?_
    have e3 : mkSlR [.bool false] 1 1 Hp.empty (I (l.length : Int)) (I (l.length : Int)) = some (.sl 0 0 1 l.length (some l.length), Hp.empty.new (.cells (zrow [.bool false] (l.length * 1)) true)) := by
      have a : (0 : Int) ≤ l.length := by omega
      have b : l.length ≤ 9223372036854775807 := by omega
      have c : l.length ≤ 281474976710656 := by omega
      simp [mkSlR, intA, bleN, b, c]
      rfl
    simp only [len_sls, bnd_some, e3]
    have L0 : ∀ (f k : Nat) (H1 : Hp) (cs : List AV), l.length - k = f → k ≤ l.length → 0 < H1.n → H1.get 0 = some (.cells cs true) → cs.length = l.length → (∀ i s, i < k → l[i]? = some s → cs[i]? = some (Bo (selB L 11 s e))) → reval_Bits.L0 σ Q (domT L d) (I e) (.sl 0 0 1 l.length (some l.length)) (sls l) (I (l.length : Int)) (I (k : Int)) H1 := by
      intro f
      induction f with
      | zero =>
        intro k H1 cs hf hk hn hg hcl hc
        have : k = l.length := by omega
        subst this
        refine reval_Bits.L0_step ?_
        simp only [b_lss, bnd_some, Int.lt_irrefl, decide_false, ifB_lit, Bool.false_eq_true, if_false]
        rw [hQ]
        have hcs : cs = (bitsB L l e).map Bo := by
          apply List.ext_getElem?
          intro i
          by_cases hi : i < l.length
          · obtain ⟨s, hs⟩ := get_lt hi
            rw [hc i s hi hs]
            simp [bitsB, hs]
          · rw [List.getElem?_eq_none (by omega), List.getElem?_eq_none (by simp [bitsB]; omega)]
        have := Fz.cells1 (n := l.length) (cap := some l.length) hg (by rw [hcs]; clear hcs hc; induction bitsB L l e with
          | nil => rfl
          | cons a r ih => simp [noIds, noId]; exact ih) hcl
        rw [hcs, List.map_map] at this
        exact this
      | succ f ih =>
        intro k H1 cs hf hk hn hg hcl hc
        have hlt : k < l.length := by omega
        have hlt' : (k : Int) < l.length := by omega
        obtain ⟨s, hs⟩ := get_lt hlt
        have hsm := List.mem_of_getElem? hs
        have hix : ixaSl 1 (sls l) (I (k : Int)) = some (.ip (encSl s)) := ix_map hs
        refine reval_Bits.L0_step ?_
        simp only [b_lss, bnd_some, hlt', decide_true, ifB_lit, if_true, hix, ld_ip, ldL_sl, allocK_eq]
        obtain ⟨H2, hH2⟩ : ∃ H2, H2 = (H1.new (.cells [.lit (.slice none 0 0)] true)).set H1.n (some (.cells (encSl s) true)) := ⟨_, rfl⟩
        refine bnd_of (x := H2) ?_ ?_
        · rw [st_agg, hH2]
          simp only [hp_get_new, if_true]
          rfl
        have hl2 : ldA true 1 H2 (.ptr H1.n 0) = some (.agg (encSl s)) := by rw [hH2]; simp
        have h0 : (0 : Nat) ≠ H1.n := by omega
        have hg2 : H2.get 0 = some (.cells cs true) := by rw [hH2]; simp [h0, hg]
        have n2 : H2.n = H1.n + 1 := by rw [hH2]; rfl
        rw [hl2, bnd_some]
        obtain ⟨S, X⟩ := hl.ok s hsm
        refine callK_of (Sel_ok M S e _) ?_
        have hixa : ixaSl 1 (.sl 0 0 1 l.length (some l.length)) (I (k : Int)) = some (.ptr 0 k) := by
          have i0 : (0 : Int) ≤ (k : Int) := by omega
          simp only [ixaSl, intA, hlt', i0, decide_true, Bool.and_self, cond_true, Int.toNat_natCast, Nat.zero_add, Nat.mul_one]
        have hst : stA 1 H2 (.ptr 0 k) (Bo (selB L 11 s e)) = some (H2.set 0 (some (.cells (cs.set k (Bo (selB L 11 s e))) true))) := by
          rw [st_bool, hg2, stO_cells]
          have : k + [Bo (selB L 11 s e)].length ≤ cs.length := by simp; omega
          rw [if_pos ⟨this, rfl⟩, ov_set _ _ _ (by omega)]
        rw [hixa, bnd_some, hst, bnd_some, b_add, bnd_some, wr_succ (by omega)]
        refine ih (k + 1) _ (cs.set k (Bo (selB L 11 s e))) (by omega) (by omega) (by simp; omega) (by simp) (by simp [hcl]) fun i s' hi hs' => ?_
        by_cases hik : i = k
        · subst hik
          rw [hs] at hs'
          cases hs'
          simp [hcl, hlt]
        · rw [List.getElem?_set_ne (by omega)]
          exact hc i s' (by omega) hs'
    exact L0 _ 0 _ _ rfl (Nat.zero_le _) (by simp) (by simp [Hp.empty]; rfl) (by simp [zrow]) (fun i s hi => by omega)
  obtain ⟨r, H1, hg, hq⟩ := run
  exact hg.frzR (by simp [noIds, noId, noId_domT]) ((hQ _ _).1 hq) H
end
theorem Node_ok (L : List Nd) (d : List Nat) (hN : L.length ≤ 4096) {e : Nat} (he : e < L.length) (hw : NdWf (lowN (ndAt L e))) (H : Hp) : Good Try.prog σ n_dom_Tree_Node [domT L d, I (e : Int)] H (.agg (encNd (lowN (ndAt L e)))) H := by
  obtain ⟨n, hn⟩ : ∃ n, n = lowN (ndAt L e) := ⟨_, rfl⟩
  obtain ⟨Q, hQ⟩ : ∃ Q : AV → Hp → Prop, ∀ r H1, Q r H1 ↔ Fz H1 r (.agg (encNd (lowN (ndAt L e)))) := ⟨_, fun _ _ => Iff.rfl⟩
  have run : ∃ r H1, Good Try.prog σ n_dom_Tree_Node [domT L d, I (e : Int)] Hp.empty r H1 ∧ Q r H1 := by
    refine dom_Tree_Node.run ?_
    rw [allocK_eq]
    obtain ⟨H0, hH0⟩ : ∃ H0, H0 = Hp.empty.new (.cells [I 0, Sx emp, Sx emp, .lit (.slice none 0 0), .lit (.slice none 0 0)] true) := ⟨_, rfl⟩
    have g0 : H0.get 0 = some (.cells [I 0, Sx emp, Sx emp, .lit (.slice none 0 0), .lit (.slice none 0 0)] true) := by rw [hH0]; rfl
    have n0 : H0.n = 1 := by rw [hH0]; rfl
    have e0 : Hp.empty.n = 0 := rfl
    have hH0' : Hp.empty.new (.cells [I 0, .lit (.string ⟨#[]⟩), .lit (.string ⟨#[]⟩), .lit (.slice none 0 0), .lit (.slice none 0 0)] true) = H0 := hH0.symm
    rw [hH0', e0]
    refine callK_of (at_ok L d hN he _) ?_
    have hp : partR true 0 5 (.agg (elE L d e)) = some (.agg (encNd (lowN (ndAt L e)))) := rfl
    rw [hp, bnd_some]
    refine copied_sp (lowN (ndAt L e)) hw (fun he' H' hn' hs => ?_) (fun he' H' id hn' hs hid hid' hg => ?_)
    · have g0' : H'.get 0 = some (.cells [I 0, Sx emp, Sx emp, .lit (.slice none 0 0), .lit (.slice none 0 0)] true) := by rw [hs 0 (by omega)]; exact g0
      refine bnd_of (x := H'.set 0 (some (.cells (encNd (lowN (ndAt L e))) true))) ?_ ?_
      · rw [st_agg, g0']; rfl
      refine bnd_of (x := .agg (encNd (lowN (ndAt L e)))) ?_ ?_
      · simp only [ld_ptr, hp_get_set, if_true, ldO_cells, List.drop_zero, ldL_nd]
      · rw [hQ]; exact .refl (by simp [noId, noId_Nd])
    · have g0' : H'.get 0 = some (.cells [I 0, Sx emp, Sx emp, .lit (.slice none 0 0), .lit (.slice none 0 0)] true) := by rw [hs 0 (by omega)]; exact g0
      rw [← hn] at hg ⊢
      refine bnd_of (x := H'.set 0 (some (.cells [I n.parent, Sx n.tag, Sx n.id, strs n.classes, .sl id 0 2 n.attrs.length none] true))) ?_ ?_
      · rw [st_agg, g0']; rfl
      refine bnd_of (x := .agg [I n.parent, Sx n.tag, Sx n.id, strs n.classes, .sl id 0 2 n.attrs.length none]) ?_ ?_
      · simp only [ld_ptr, hp_get_set, if_true, ldO_cells, List.drop_zero]; rfl
      · rw [hQ, ← hn]
        have hne : id ≠ 0 := by omega
        have hg' : (H'.set 0 (some (.cells [I n.parent, Sx n.tag, Sx n.id, strs n.classes, .sl id 0 2 n.attrs.length none] true))).get id = some (.cells (n.attrs.map encPr).flatten false) := by rw [hp_get_set, if_neg hne]; exact hg
        have hr : Fz (H'.set 0 (some (.cells [I n.parent, Sx n.tag, Sx n.id, strs n.classes, .sl id 0 2 n.attrs.length none] true))) (.sl id 0 2 (n.attrs.map encPr).length none) (.imm 2 (n.attrs.map encPr)) := by
          refine .rows hg' attrs_len ?_ (noIds_map _ (fun _ => rfl) _)
          rw [List.drop_zero, ← flatten_len (sz := 2) attrs_len]
          exact List.take_length
        rw [List.length_map] at hr
        exact Fz.aggL (.cons (.refl rfl) (.cons (.refl rfl) (.cons (.refl rfl) (.cons (.refl (noId_strs _)) (.cons hr .nil)))))
  obtain ⟨r, H1, hg, hq⟩ := run
  exact hg.frzR (by simp [noIds, noId, noId_domT]) ((hQ _ _).1 hq) H
def parI (L : List Nd) (a : Int) : Int := if 0 ≤ a ∧ a < L.length then par L a.toNat else -1
theorem ParentI_ok (L : List Nd) (d : List Nat) (hN : L.length ≤ 4096) (a : Int) (H : Hp) : Good Try.prog σ n_dom_Tree_Parent [domT L d, I a] H (I (parI L a)) H := by
  by_cases h : 0 ≤ a ∧ a < L.length
  · obtain ⟨k, rfl⟩ : ∃ k : Nat, a = k := ⟨a.toNat, by omega⟩
    have := Parent_ok (σ := σ) L d hN (e := k) (by omega) H
    unfold parI
    rw [if_pos h, Int.toNat_natCast]
    exact this
  · refine good_by (fun K hK => dom_Tree_Parent.run ?_) (by simp [noIds, noId, noId_domT]) rfl H
    unfold parI at hK
    rw [if_neg h] at hK
    have hl : ldA false 1 Hp.empty (domT L d) = some (.imm 9 ((List.range L.length).map (elE L d))) := rfl
    have hn : nilR (domT L d) = some (domT L d) := rfl
    have hs : shiftA (domT L d) 0 = some (domT L d) := rfl
    simp only [b_lss, bnd_some, ifB_lit, decide_eq_true_eq, hn, hs, hl, len_imm, List.length_map, List.length_range, b_geq]
    split
    · exact hK _
    · rename_i h0
      rw [if_pos (by omega)]
      exact hK _
end Go.Proofs.Ytaoegkmfgfefgaa.Ev
namespace Go.Proofs.Ytaoegkmfgfefgaa.Ev
open Go.RowKit
set_option linter.unusedVariables false
set_option linter.unusedSimpArgs false
set_option maxRecDepth 100000
variable {σ : Sig}
def ndI (L : List Nd) (e : Int) : Nd := lowN (ndAt L e.toNat)
def shI (L : List Nd) (l : List Sl) (a b : Int) : Bool :=
  decide (0 ≤ parI L a) && (decide (parI L a = parI L b) && (decide ((ndI L a).tag = (ndI L b).tag) && (decide ((ndI L a).id = (ndI L b).id) && (decide ((ndI L a).classes = (ndI L b).classes) && decide (bitsB L l a = bitsB L l b)))))
theorem parI_in {L : List Nd} {a : Int} (h : 0 ≤ parI L a) : 0 ≤ a ∧ a < L.length := by
  unfold parI at h
  split at h
  · assumption
  · omega
theorem bits_len (L : List Nd) (l : List Sl) (e : Int) : (bitsB L l e).length = l.length := by simp [bitsB]
theorem May_ok {L : List Nd} {d : List Nat} (hT : TreeOk L d) (hC : HasC σ) (hW : ∀ e, e < L.length → NdWf (lowN (ndAt L e))) {l : List Sl} (hl : LsOk l) (a b : Int) (H : Hp) : Good Try.prog σ n_share_May [domT L d, I a, I b, sls l] H (Bo (shI L l a b)) H := by
  have M := hT.mc hC
  have hl40 := hT.len
  have hN : L.length ≤ 4096 := by omega
  refine good_by (fun K hK => share_May.run ?_) (by simp [noIds, noId, noId_domT]) rfl H
  have e0 : eqPtrR .eql (domT L d) (.lit (.pointer none)) = some (Bo false) := rfl
  simp only [e0, bnd_some, ifB_lit, Bool.false_eq_true, if_false]
  refine callK_of (ParentI_ok L d hN a _) ?_
  unfold shI at hK
  simp only [b_lss, bnd_some, ifB_lit, decide_eq_true_eq]
  split
  · rename_i h
    have : ¬ (0 ≤ parI L a) := by omega
    simpa [this] using hK _
  rename_i h
  have hpa : 0 ≤ parI L a := by omega
  refine callK_of (ParentI_ok L d hN a _) (callK_of (ParentI_ok L d hN b _) ?_)
  simp only [b_neq, bnd_some, ifB_lit]
  by_cases hpe : parI L a = parI L b
  · have hina := parI_in hpa
    have hinb := parI_in (L := L) (a := b) (by omega)
    obtain ⟨na, rfl⟩ : ∃ k : Nat, a = k := ⟨a.toNat, by omega⟩
    obtain ⟨nb, rfl⟩ : ∃ k : Nat, b = k := ⟨b.toNat, by omega⟩
    have la : na < L.length := by omega
    have lb : nb < L.length := by omega
    simp only [hpe, decide_true, Bool.not_true, Bool.false_eq_true, if_false]
    refine callK_of (Node_ok L d hN la (hW na la) _) (callK_of (Node_ok L d hN lb (hW nb lb) _) ?_)
    rw [allocK_eq, allocK_eq]
    have i1 : ndI L (na : Int) = lowN (ndAt L na) := rfl
    have i2 : ndI L (nb : Int) = lowN (ndAt L nb) := rfl
    rw [i1, i2] at hK
    generalize hna : lowN (ndAt L na) = x at hK ⊢
    generalize hnb : lowN (ndAt L nb) = y at hK ⊢
    have e1 : Hp.empty.n = 0 := rfl
    have e2 : (Hp.empty.new (.cells [I 0, .lit (.string ⟨#[]⟩), .lit (.string ⟨#[]⟩), .lit (.slice none 0 0), .lit (.slice none 0 0)] true)).n = 1 := rfl
    rw [e1, e2]
    obtain ⟨H1, hH1⟩ : ∃ H1, H1 = (((Hp.empty.new (.cells [I 0, .lit (.string ⟨#[]⟩), .lit (.string ⟨#[]⟩), .lit (.slice none 0 0), .lit (.slice none 0 0)] true)).new (.cells [I 0, .lit (.string ⟨#[]⟩), .lit (.string ⟨#[]⟩), .lit (.slice none 0 0), .lit (.slice none 0 0)] true)).set 0 (some (.cells (encNd x) true))) := ⟨_, rfl⟩
    refine bnd_of (x := H1) (by rw [hH1]; rfl) ?_
    obtain ⟨H2, hH2⟩ : ∃ H2, H2 = H1.set 1 (some (.cells (encNd y) true)) := ⟨_, rfl⟩
    refine bnd_of (x := H2) (by rw [hH2, hH1]; rfl) ?_
    have g0 : H2.get 0 = some (.cells (encNd x) true) := by rw [hH2, hH1]; simp
    have g1 : H2.get 1 = some (.cells (encNd y) true) := by rw [hH2]; simp
    clear hH2 hH1
    have ld : ∀ (j : Nat) (x : Nd), H2.get j = some (.cells (encNd x) true) → ldA false 1 H2 (.ptr j 1) = some (Sx x.tag) ∧ ldA false 1 H2 (.ptr j 2) = some (Sx x.id) ∧ ldA false 1 H2 (.ptr j 3) = some (strs x.classes) := by
      intro j x h
      simp only [ld_ptr, h, ldO_cells]
      exact ⟨rfl, rfl, rfl⟩
    obtain ⟨a2, a3, a4⟩ := ld 0 x g0
    obtain ⟨c2, c3, c4⟩ := ld 1 y g1
    have hcl : x.classes.length ≤ reachBytes := by rw [← hna]; exact (M.sm na la).classes
    have hbl : (bitsB L l (na : Int)).length ≤ reachBytes := by rw [bits_len]; have := hl.len; have r : reachBytes = 140737488351232 := rfl; omega
    simp only [hpe, decide_true, Bool.true_and] at hK
    have hpb : 0 ≤ parI L (nb : Int) := by omega
    simp only [hpb, decide_true, Bool.true_and] at hK
    simp only [sh_ptr, Nat.zero_add, bnd_some, a2, a3, a4, c2, c3, c4, b_seql, ifB_lit, decide_eq_true_eq]
    split
    · rename_i h2
      split
      · rename_i h3
        refine callK_of (EqStr_ok _ _ hcl _) ?_
        simp only [ifB_lit, decide_eq_true_eq]
        split
        · rename_i h4
          refine callK_of (Bits_ok M hl (na : Int) _) (callK_of (Bits_ok M hl (nb : Int) _) (callK_of (EqBits_ok _ _ hbl _) ?_))
          simpa [h2, h3, h4] using hK _
        · rename_i h4
          simpa [h2, h3, h4] using hK _
      · rename_i h3
        simpa [h2, h3] using hK _
    · rename_i h2
      simpa [h2] using hK _
  · simp only [hpe, decide_false, Bool.not_false, if_true]
    simpa [hpe] using hK _
theorem parI_0 {L : List Nd} {d : List Nat} (hB : Built L L.length d) {a : Nat} (ha : a < L.length) : parI L (a : Int) = par L a ∧ (0 ≤ par L a ↔ a ≠ 0) := by
  refine ⟨by unfold parI; rw [if_pos (by omega), Int.toNat_natCast], fun h h0 => ?_, fun h0 => ?_⟩
  · subst h0
    have := (hB.root ha).1
    omega
  · obtain ⟨p, x, h1, _⟩ := hB.step a (by omega) ha
    omega
def alL2 : List Nd := [⟨-1, emp, emp, [], []⟩, ⟨0, ⟨#[108, 105]⟩, emp, [], []⟩, ⟨0, ⟨#[108, 105]⟩, emp, [], []⟩, ⟨0, ⟨#[98]⟩, emp, [], []⟩]
theorem alB2 : Built alL2 alL2.length [0, 1, 1, 1] := by
  have h1 : Built alL2 1 [0] := Built.first (by decide) rfl
  have h2 : Built alL2 2 [0, 1] := h1.next (p := 0) (x := 0) (by decide) (by decide) rfl (by decide) rfl (by decide)
  have h3 : Built alL2 3 [0, 1, 1] := h2.next (p := 0) (x := 0) (by decide) (by decide) rfl (by decide) rfl (by decide)
  exact h3.next (p := 0) (x := 0) (by decide) (by decide) rfl (by decide) rfl (by decide)
theorem alW2 : ∀ n ∈ alL2, NdWf n ∧ NdSm n := by
  intro n hn
  simp only [alL2, List.mem_cons, List.not_mem_nil, or_false] at hn
  rcases hn with rfl | rfl | rfl | rfl <;> exact ⟨⟨by unfold i64; decide, by decide, by decide, by decide, (by intro p hp; cases hp)⟩, by decide, by decide, by decide, by decide, (by intro s hs; cases hs), by intro p hp; cases hp⟩
theorem lowB_size (s : ByteArray) : (lowB s).data.size = s.data.size := by simp [lowB]
theorem NdWf.low {n : Nd} (h : NdWf n) : NdWf (lowN n) := by
  refine ⟨h.parent, ?_, h.classes, ?_, fun p hp => ?_⟩
  · show (lowB n.tag).data.size ≤ _
    rw [lowB_size]; exact h.tag
  · show (n.attrs.map lowPr).length * 32 ≤ _
    rw [List.length_map]; exact h.attrs
  · obtain ⟨q, hq, rfl⟩ := List.mem_map.1 hp
    show (lowB q.1).data.size ≤ _
    rw [lowB_size]; exact h.names q hq
theorem wf_at {L : List Nd} (hW : ∀ n ∈ L, NdWf n) : ∀ e, e < L.length → NdWf (lowN (ndAt L e)) := by
  intro e he
  refine (hW _ ?_).low
  unfold ndAt
  rw [List.getD_eq_getElem?_getD, List.getElem?_eq_getElem he]
  exact List.getElem_mem _
theorem alive22 (hC : HasC σ) (H : Hp) : Good Try.prog σ n_law22_alive [] H (Bo true) H := by
  refine good_by (fun K hK => law22_alive.run ?_) rfl rfl H
  iterate 5 refine bnd_of rfl ?_
  refine callK_of (Good.drop (fun H => domNew_ok alB2 (fun n hn => (alW2 n hn).1) (by decide) H) (.cons (frzS_ok skNds _ _ (by kernel_rfl)) .nil)) ?_
  simp only [x_tup, List.getElem?_cons_zero, List.getElem?_cons_succ, bnd_some]
  have hT : TreeOk alL2 [0, 1, 1, 1] := ⟨by decide, alB2, fun n hn => (alW2 n hn).2⟩
  have hl : LsOk [] := ⟨by decide, fun s h => by cases h⟩
  have hw := wf_at fun n hn => (alW2 n hn).1
  have m1 : shI alL2 [] 1 2 = true := by kernel_rfl
  have m2 : shI alL2 [] 1 3 = false := by kernel_rfl
  refine callK_of ((May_ok hT hC hw hl 1 2 Hp.empty).frzA (.cons (.refl (noId_domT _ _)) (.cons (.refl rfl) (.cons (.refl rfl) (.cons .nil .nil)))) rfl) ?_
  simp only [m1, ifB_lit, if_true]
  refine callK_of ((May_ok hT hC hw hl 1 3 Hp.empty).frzA (.cons (.refl (noId_domT _ _)) (.cons (.refl rfl) (.cons (.refl rfl) (.cons .nil .nil)))) rfl) ?_
  simp only [m2, u_not, Bool.not_false, bnd_some]
  exact hK _
end Go.Proofs.Ytaoegkmfgfefgaa.Ev
namespace Go.Proofs.Ytaoegkmfgfefgaa.Ev
open Go.RowKit
set_option linter.unusedVariables false
set_option linter.unusedSimpArgs false
set_option maxRecDepth 100000
variable {σ : Sig}
theorem need_ls {m : List RL} (hm : rlsWf m) (hf : Fit12 m) (hb : bkLL (m.map encRL) ≤ NB) : LsOk (needL m) := by
  have h := rules_ok hm hf hb
  refine ⟨?_, fun s hs => ?_⟩
  · have := needL_len hf.rl8.sels
    have := hf.len
    omega
  · obtain ⟨r, hr, hs⟩ := needL_mem hs
    exact (h r hr s hs).2.2
section
attribute [local irreducible] law22_ShareEqual.L0 law22_ShareEqual.L1 law22_ShareLess.L0 law22_ShareLess.L1
theorem sh_self {L : List Nd} {d : List Nat} (hB : Built L L.length d) {l : List Sl} {a : Nat} (ha : a < L.length) : shI L l (a : Int) (a : Int) = decide ((0 : Int) < (a : Int)) := by
  unfold shI
  obtain ⟨pa, za⟩ := parI_0 hB ha
  rw [pa]
  simp only [decide_true, Bool.and_true]
  rw [decide_eq_decide, za]
  omega
theorem sh_symm (L : List Nd) (l : List Sl) (a b : Int) : shI L l a b = shI L l b a := by
  unfold shI
  rw [Bool.eq_iff_iff]
  simp only [Bool.and_eq_true, decide_eq_true_eq]
  constructor
  · rintro ⟨h1, h2, h3, h4, h5, h6⟩; exact ⟨by omega, h2.symm, h3.symm, h4.symm, h5.symm, h6.symm⟩
  · rintro ⟨h1, h2, h3, h4, h5, h6⟩; exact ⟨by omega, h2.symm, h3.symm, h4.symm, h5.symm, h6.symm⟩
theorem sh_trans {L : List Nd} {l : List Sl} {a b c : Int} (h : shI L l a b = true) (k : shI L l b c = true) : shI L l a c = true := by
  unfold shI at *
  simp only [Bool.and_eq_true, decide_eq_true_eq] at *
  obtain ⟨h1, h2, h3, h4, h5, h6⟩ := h
  obtain ⟨k1, k2, k3, k4, k5, k6⟩ := k
  exact ⟨h1, h2.trans k2, h3.trans k3, h4.trans k4, h5.trans k5, h6.trans k6⟩
theorem sh_less {L : List Nd} {l k : List Sl} {a b : Int} (hs : ∀ s ∈ l, s ∈ k) (h : shI L k a b = true) : shI L l a b = true := by
  unfold shI bitsB at *
  simp only [Bool.and_eq_true, decide_eq_true_eq] at *
  obtain ⟨h1, h2, h3, h4, h5, h6⟩ := h
  refine ⟨h1, h2, h3, h4, h5, ?_⟩
  have : ∀ s ∈ k, selB L 11 s a = selB L 11 s b := fun s hs' => by
    have := List.map_eq_map_iff.1 h6
    exact this s hs'
  exact List.map_eq_map_iff.2 fun s hs' => this s (hs s hs')
theorem ShareEqual_good (hC : HasC σ) {L : List Nd} (hW : ∀ n ∈ L, NdWf n) {m : List RL} (hm : rlsWf m) (hb : bkLL (m.map encRL) ≤ NB) (c : Int) : ∃ Hf, Good Try.prog σ n_law22_ShareEqual [nds L, rls m, I c] Hp.empty (Bo true) Hf := by
  refine ⟨Hp.empty, good_by (fun K hK => law22_ShareEqual.run (callK_of (alive22 hC _) ?_)) (by simp [noIds, noId]) rfl _⟩
  obtain ⟨much, hd, hfit⟩ := Dear12_ok (σ := σ) m hm
  refine callK_of (hd _) ?_
  rcases trees_ok (σ := σ) L hW with hg | ⟨d, hT, hg⟩
  · refine callK_of (hg _) ?_
    simp only [x_tup, List.getElem?_cons_zero, List.getElem?_cons_succ, bnd_some, u_not, ifB_lit, Bool.not_true, Bool.not_false, Bool.false_eq_true, if_true, if_false]
    cases much <;> simp only [Bool.false_eq_true, if_true, if_false] <;> exact hK _
  refine callK_of (hg _) ?_
  simp only [x_tup, List.getElem?_cons_zero, List.getElem?_cons_succ, bnd_some, u_not, ifB_lit, Bool.not_true, Bool.not_false, Bool.false_eq_true, if_true, if_false]
  cases hmu : much with
  | true => simp only [if_true]; exact hK _
  | false =>
  simp only [Bool.false_eq_true, if_false, b_lss, bnd_some, ifB_lit, decide_eq_true_eq, len_nds, b_geq, b_gtr]
  split
  · exact hK _
  split
  · exact hK _
  split
  · exact hK _
  have hF := hfit hmu
  have hl := need_ls hm hF hb
  have hw := wf_at hW
  refine callK_of (NeedList_ok m hF.rl8 _) ?_
  have hl40 := hT.len
  have L0 : ∀ (f i : Nat) (H : Hp) (y14 : AV), L.length - i = f → i ≤ L.length → law22_ShareEqual.L0 σ K (nds L) (I c) (domT L d) (sls (needL m)) (I (i : Int)) y14 H := by
    intro f
    induction f with
    | zero =>
      intro i H y14 hf hi
      have : i = L.length := by omega
      subst this
      refine law22_ShareEqual.L0_step ?_
      simp only [len_nds, bnd_some, b_lss, Int.lt_irrefl, decide_false, ifB_lit, Bool.false_eq_true, if_false]
      exact hK _
    | succ f ih =>
      intro i H y14 hf hi
      have hlt : (i : Int) < (L.length : Int) := by omega
      refine law22_ShareEqual.L0_step ?_
      simp only [len_nds, bnd_some, b_lss, hlt, decide_true, ifB_lit, if_true]
      refine callK_of (May_ok hT hC hw hl _ _ _) ?_
      rw [sh_self hT.hB (by omega)]
      simp only [b_gtr, bnd_some, e_boolN, BEq.rfl, Bool.not_true, ifB_lit, Bool.false_eq_true, if_false]
      have L1 : ∀ (g j : Nat) (H : Hp), L.length - j = g → j ≤ L.length → law22_ShareEqual.L1 σ K (nds L) (I c) (domT L d) (sls (needL m)) (I (i : Int)) (I (j : Int)) H := by
        intro g
        induction g with
        | zero =>
          intro j H hg' hj
          have : j = L.length := by omega
          subst this
          refine law22_ShareEqual.L1_step ?_
          simp only [len_nds, bnd_some, b_lss, Int.lt_irrefl, decide_false, ifB_lit, Bool.false_eq_true, if_false, b_add]
          rw [wr_succ (by omega)]
          exact ih (i + 1) H _ (by omega) (by omega)
        | succ g ihg =>
          intro j H hg' hj
          have hlt : (j : Int) < (L.length : Int) := by omega
          have nxt : ∀ H, law22_ShareEqual.L1 σ K (nds L) (I c) (domT L d) (sls (needL m)) (I (i : Int)) (I ((j + 1 : Nat) : Int)) H := fun H => ihg (j + 1) H (by omega) (by omega)
          refine law22_ShareEqual.L1_step ?_
          simp only [len_nds, bnd_some, b_lss, hlt, decide_true, ifB_lit, if_true]
          refine callK_of (May_ok hT hC hw hl _ _ _) (callK_of (May_ok hT hC hw hl _ _ _) ?_)
          rw [sh_symm L (needL m) (j : Int) (i : Int)]
          simp only [e_boolN, BEq.rfl, Bool.not_true, bnd_some, ifB_lit, Bool.false_eq_true, if_false, b_add]
          rw [wr_succ (by omega)]
          cases h1 : shI L (needL m) (i : Int) (j : Int) with
          | false => simp only [Bool.false_eq_true, if_false]; exact nxt _
          | true =>
            simp only [if_true]
            refine callK_of (May_ok hT hC hw hl _ _ _) ?_
            simp only [ifB_lit]
            cases h2 : shI L (needL m) (j : Int) c with
            | false => simp only [Bool.false_eq_true, if_false]; exact nxt _
            | true =>
              simp only [if_true]
              refine callK_of (May_ok hT hC hw hl _ _ _) ?_
              rw [sh_trans h1 h2]
              simp only [u_not, Bool.not_true, bnd_some, ifB_lit, Bool.false_eq_true, if_false]
              exact nxt _
      exact L1 _ 0 _ rfl (Nat.zero_le _)
  exact L0 _ 0 _ _ rfl (Nat.zero_le _)
theorem ShareLess_good (hC : HasC σ) {L : List Nd} (hW : ∀ n ∈ L, NdWf n) {a b : List RL} (ha : rlsWf a) (hb : rlsWf b) (hk : bkLL (a.map encRL) + bkLL (b.map encRL) ≤ NB) : ∃ Hf, Good Try.prog σ n_law22_ShareLess [nds L, rls a, rls b] Hp.empty (Bo true) Hf := by
  have hN : NB = 1048576 := rfl
  have hLm : Lmax = 9223372036854775807 := rfl
  have la := rl_len a
  have lb := rl_len b
  refine ⟨Hp.empty, good_by (fun K hK => law22_ShareLess.run (callK_of (alive22 hC _) ?_)) (by simp [noIds]) rfl _⟩
  refine bnd_app (x := .lit (.slice none 0 0)) (rows := []) (y := .imm 2 (a.map encRL)) .nil rfl src_imm (rls_sz _) (rls_one _) (by simp only [List.length_map, List.length_nil]; omega) (by simp only [List.length_map, List.length_nil]; omega) fun x1 H1 g1 f1 => ?_
  rw [List.nil_append] at g1
  refine bnd_app (y := .imm 2 (b.map encRL)) g1 rfl src_imm (rls_sz _) (rls_one _) (by simp only [List.length_map]; omega) (by simp only [List.length_map]; omega) fun x2 H2 g2 f2 => ?_
  rw [← List.map_append] at g2
  have fz : Fz H2 x2 (rls (a ++ b)) := g2.fz (noIds_map _ noId_RL _)
  have hw : rlsWf (a ++ b) := ⟨by rw [List.length_append]; omega, fun r hr => by
    rcases List.mem_append.1 hr with h | h
    · exact ha.2 r h
    · exact hb.2 r h⟩
  have hbk : ∀ a b : List (List AV), bkLL (a ++ b) = bkLL a + bkLL b := by
    intro a b
    induction a with
    | nil => simp [bkLL]
    | cons x r ih => rw [List.cons_append, bkLL, bkLL, ih]; omega
  have hbab : bkLL ((a ++ b).map encRL) ≤ NB := by rw [List.map_append, hbk]; exact hk
  obtain ⟨much, hd, hfit⟩ := Dear12_ok (σ := σ) (a ++ b) hw
  refine callK_of ((hd Hp.empty).frzA (.cons fz .nil) rfl) ?_
  rcases trees_ok (σ := σ) L hW with hg | ⟨d, hT, hg⟩
  · refine callK_of (hg _) ?_
    simp only [x_tup, List.getElem?_cons_zero, List.getElem?_cons_succ, bnd_some, u_not, ifB_lit, Bool.not_true, Bool.not_false, Bool.false_eq_true, if_true, if_false]
    cases much <;> simp only [Bool.false_eq_true, if_true, if_false] <;> exact hK _
  refine callK_of (hg _) ?_
  simp only [x_tup, List.getElem?_cons_zero, List.getElem?_cons_succ, bnd_some, u_not, ifB_lit, Bool.not_true, Bool.not_false, Bool.false_eq_true, if_true, if_false]
  cases hmu : much with
  | true => simp only [if_true]; exact hK _
  | false =>
  simp only [Bool.false_eq_true, if_false, len_nds, bnd_some, b_gtr, ifB_lit, decide_eq_true_eq]
  split
  · exact hK _
  have hF := hfit hmu
  have R := hF.rl8
  have Fa : Fit12 a := ⟨by have := hF.len; rw [List.length_append] at this; omega, fun r hr => hF.sels r (List.mem_append_left _ hr), fun r hr => hF.sets r (List.mem_append_left _ hr), fun r hr => hF.fit r (List.mem_append_left _ hr)⟩
  have hla := need_ls ha Fa (by omega)
  have hlab := need_ls hw hF hbab
  have hwd := wf_at hW
  refine callK_of (NeedList_ok a Fa.rl8 _) ?_
  refine callK_drop (.cons fz .nil) (callK_of (NeedList_ok (a ++ b) R _) ?_)
  have hl40 := hT.len
  have hsub : ∀ s ∈ needL a, s ∈ needL (a ++ b) := fun s hs => by rw [needL_app]; exact List.mem_append_left _ hs
  have L0 : ∀ (f i : Nat) (H : Hp) (y16 : AV), L.length - i = f → i ≤ L.length → law22_ShareLess.L0 σ K (nds L) (domT L d) (sls (needL a)) (sls (needL (a ++ b))) (I (i : Int)) y16 H := by
    intro f
    induction f with
    | zero =>
      intro i H y16 hf hi
      have : i = L.length := by omega
      subst this
      refine law22_ShareLess.L0_step ?_
      simp only [len_nds, bnd_some, b_lss, Int.lt_irrefl, decide_false, ifB_lit, Bool.false_eq_true, if_false]
      exact hK _
    | succ f ih =>
      intro i H y16 hf hi
      have hlt : (i : Int) < (L.length : Int) := by omega
      refine law22_ShareLess.L0_step ?_
      simp only [len_nds, bnd_some, b_lss, hlt, decide_true, ifB_lit, if_true]
      have L1 : ∀ (g j : Nat) (H : Hp), i - j = g → j ≤ i → law22_ShareLess.L1 σ K (nds L) (domT L d) (sls (needL a)) (sls (needL (a ++ b))) (I (i : Int)) (I (j : Int)) H := by
        intro g
        induction g with
        | zero =>
          intro j H hg' hj
          have : j = i := by omega
          subst this
          refine law22_ShareLess.L1_step ?_
          simp only [bnd_some, b_lss, Int.lt_irrefl, decide_false, ifB_lit, Bool.false_eq_true, if_false, b_add]
          rw [wr_succ (by omega)]
          exact ih (j + 1) H _ (by omega) (by omega)
        | succ g ihg =>
          intro j H hg' hj
          have hlt : (j : Int) < (i : Int) := by omega
          refine law22_ShareLess.L1_step ?_
          simp only [bnd_some, b_lss, hlt, decide_true, ifB_lit, if_true]
          refine callK_of (May_ok hT hC hwd hlab _ _ _) ?_
          simp only [ifB_lit, b_add, bnd_some]
          rw [wr_succ (by omega)]
          cases h1 : shI L (needL (a ++ b)) (i : Int) (j : Int) with
          | false => simp only [Bool.false_eq_true, if_false]; exact ihg (j + 1) _ (by omega) (by omega)
          | true =>
            simp only [if_true]
            refine callK_of (May_ok hT hC hwd hla _ _ _) ?_
            rw [sh_less hsub h1]
            simp only [u_not, Bool.not_true, bnd_some, ifB_lit, Bool.false_eq_true, if_false]
            exact ihg (j + 1) _ (by omega) (by omega)
      exact L1 _ 0 _ rfl (Nat.zero_le _)
  exact L0 _ 0 _ _ rfl (Nat.zero_le _)
end
theorem ShareLess_walk {H : Type} {enc : TypeId × Value → H} (W : World) (hsh : W.ShapedOpen Try.prog) {v0 v1 v2 : Value} {r : Reach} {b0 base : Nat} {spare : Nat → Bool} {held : Bool} {d0 d1 d2 : DataW H} {p0 p1 p2 : List MemPlace}
    (e0 : Value.okWide Try.prog W r b0 T_sl_api_Node v0) (h0 : DataW.Trod enc Try.prog W base spare held T_sl_api_Node v0 d0 p0) (w0 : ∀ n ∈ d0.weights Try.prog T_sl_api_Node, n ≤ reachBytes)
    (e1 : Value.okWide Try.prog W r b0 T_sl_api_Rule v1) (h1 : DataW.Trod enc Try.prog W base spare held T_sl_api_Rule v1 d1 p1) (w1 : ∀ n ∈ d1.weights Try.prog T_sl_api_Rule, n ≤ reachBytes)
    (e2 : Value.okWide Try.prog W r b0 T_sl_api_Rule v2) (h2 : DataW.Trod enc Try.prog W base spare held T_sl_api_Rule v2 d2 p2) (w2 : ∀ n ∈ d2.weights Try.prog T_sl_api_Rule, n ≤ reachBytes)
    (hk : bulkDs [d0, d1, d2] ≤ 1048576) :
    Calls Try.prog n_law22_ShareLess #[v0, v1, v2] W fun e W' => e = .returned (.bool true) ∧ Below W.heap.size W W' := by
  obtain ⟨x0, r0, s0⟩ := read_arg (P := Try.prog) (ti := tiT.get) (S := readR) (t := T_sl_api_Node) (σ := sigM) tiT_ok readR_closed (inB_mem (by kernel_rfl)) e0 h0 w0
  obtain ⟨x1, r1, s1, k1⟩ := read_argB (P := Try.prog) (ti := tiT.get) (S := readR) (t := T_sl_api_Rule) (σ := sigM) tiT_ok readR_closed (inB_mem (by kernel_rfl)) e1 h1 w1
  obtain ⟨x2, r2, s2, k2⟩ := read_argB (P := Try.prog) (ti := tiT.get) (S := readR) (t := T_sl_api_Rule) (σ := sigM) tiT_ok readR_closed (inB_mem (by kernel_rfl)) e2 h2 w2
  obtain ⟨a, rfl, ha, _⟩ := v_nodes s0
  obtain ⟨b, rfl, hb⟩ := v_rules s1
  obtain ⟨c, rfl, hc⟩ := v_rules s2
  simp only [bulkDs] at hk
  rw [bk_rls] at k1 k2
  obtain ⟨Hf, hg⟩ := ShareLess_good (hasC sigM_g) ha hb hc (by show _ ≤ 1048576; omega)
  exact law_of_good (relL3 r0 r1 r2) hg (gMax_ok W hsh sigM_g)
end Go.Proofs.Ytaoegkmfgfefgaa.Ev

/- The walks, part 7: the evaluator, the functions, the laws. Conditions: none. -/
import Derived.Shelf.LaysM
import Derived.Shelf.Strings.Search1
import Derived.Shelf.Strings.Search2
import Derived.Shelf.Strings.Search3
import Derived.Shelf.Strings.Shaped
import Derived.Test.YtaoegkmfgfefgaaGreatZ6
namespace Go.Proofs.YtaoegkmfgfefgaaGreat.Ev
open Go.Shelf Go.Proofs
def laysM144_ren : Ren :=
{
  f := fun x =>
    match x with
    | 144 => 171
    | 143 => 175
    | 219 => 178
    | 217 => 179
    | 225 => 180
    | 224 => 181
    | 267 => 182
    | 266 => 183
    | 314 => 184
    | n => n,
  t := fun x =>
    match x with
    | 9 => 9
    | 4 => 4
    | 3 => 3
    | 5 => 5
    | 46 => 115
    | 146 => 217
    | 51 => 151
    | n => n,
  g := fun x =>
    match x with
    | 1 => 0
    | n => n }
theorem laysM144 : LaysM.n144 Tryz.prog laysM144_ren :=
{ mixed := by kernel_rfl, f143 := Eq.trans Tryz.func175 (congrArg some (Eq.refl (Body.n143 laysM144_ren))),
  f144 := Eq.trans Tryz.func171 (congrArg some (Eq.refl (Body.n144 laysM144_ren))),
  f217 := Eq.trans Tryz.func179 (congrArg some (Eq.refl (Body.n217 laysM144_ren))),
  f219 := Eq.trans Tryz.func178 (congrArg some (Eq.refl (Body.n219 laysM144_ren))),
  f224 := Eq.trans Tryz.func181 (congrArg some (Eq.refl (Body.n224 laysM144_ren))),
  f225 := Eq.trans Tryz.func180 (congrArg some (Eq.refl (Body.n225 laysM144_ren))),
  f266 := Eq.trans Tryz.func183 (congrArg some (Eq.refl (Body.n266 laysM144_ren))),
  f267 := Eq.trans Tryz.func182 (congrArg some (Eq.refl (Body.n267 laysM144_ren))),
  f314 := Eq.trans Tryz.func184 (congrArg some (Eq.refl (Body.n314 laysM144_ren))), t3 := Tryz.underlying3,
  a3 := Tryz.isAgg3, z3 := Tryz.sizeOf3, v3 := Tryz.zeroValue3, t4 := Tryz.underlying4, a4 := Tryz.isAgg4,
  z4 := Tryz.sizeOf4, v4 := Tryz.zeroValue4, t5 := Tryz.underlying5, a5 := Tryz.isAgg5, z5 := Tryz.sizeOf5,
  v5 := Tryz.zeroValue5, t9 := Tryz.underlying9, a9 := Tryz.isAgg9, z9 := Tryz.sizeOf9, v9 := Tryz.zeroValue9,
  t46 := Tryz.underlying115, a46 := Tryz.isAgg115, z46 := Tryz.sizeOf115, v46 := Tryz.zeroValue115,
  t51 := Tryz.underlying151, a51 := Tryz.isAgg151, z51 := Tryz.sizeOf151, v51 := Tryz.zeroValue151,
  t146 := Tryz.underlying217, a146 := Tryz.isAgg217, z146 := Tryz.sizeOf217, v146 := Tryz.zeroValue217,
  g1 := by kernel_rfl, i3 := by kernel_rfl,
  i4 := by kernel_rfl, i5 := by kernel_rfl,
  i9 := by kernel_rfl,
  i46 := by kernel_rfl,
  i51 := by kernel_rfl,
  i146 := by kernel_rfl,
  m1 := by kernel_rfl,
  s1_3 := fun w h => Go.Proofs.cell_of_shapedOpen_int h (zero := #[Go.Value.int Go.IntKind.i64 0]) (t := 3) (of_decide_eq_true (by kernel_rfl)) (by kernel_rfl) rfl (by kernel_rfl) (by kernel_rfl) Tryz.underlying3 }
def gMax : Nat := laysM144_ren.g 1
theorem hasC {σ : Sig} (hg : σ.g = some gMax) : HasC σ := by
  intro s t H hs
  refine ⟨⟨_, Tryz.func171, by kernel_rfl, by kernel_rfl⟩, fun B w0 E w vs hσ hst hx => ?_⟩
  obtain ⟨_, m, hm⟩ := hst.glNow gMax (by rw [hσ]; exact hg)
  have hl := hx.len
  obtain ⟨v0, v1, rfl⟩ : ∃ v0 v1, vs = #[v0, v1] := by
    obtain ⟨l⟩ := vs
    match l, hl with
    | [a, b], _ => exact ⟨a, b, rfl⟩
  have r0 := hx.at_ 0 _ v0 rfl (by simp)
  have r1 := hx.at_ 1 _ v1 rfl (by simp)
  cases r0
  cases r1
  refine (Any.strings_Contains (ρ := laysM144_ren) { laysM144 with } s t m w hs hm).mono fun e w' he => ?_
  obtain ⟨rfl, rfl⟩ := he
  exact ⟨E, _, rfl, .refl E, hst, .lit _⟩
theorem gMax_ok (W : World) (h : W.ShapedOpen Tryz.prog) {σ : Sig} (hg : σ.g = some gMax) : ∀ g, σ.g = some g → ∃ m : Int, W.cell? ⟨g, 0, none⟩ = some (.int .i64 m) := by
  intro g hg'
  rw [hg] at hg'
  cases hg'
  exact laysM144.s1_3 W h
end Go.Proofs.YtaoegkmfgfefgaaGreat.Ev
namespace Go.Proofs.YtaoegkmfgfefgaaGreat.Ev
set_option linter.unusedVariables false
set_option linter.unusedSimpArgs false
variable {σ : Sig}
structure RlWf (r : RL) : Prop where
  sels : slsWf Lmax r.sels
  setsL : r.sets.length ≤ Lmax
  sets : ∀ s ∈ r.sets, i64 s.prop ∧ i64 s.kind ∧ i64 s.n
def rlsWf (l : List RL) : Prop := l.length ≤ Lmax ∧ ∀ r ∈ l, RlWf r
theorem d_sets {ts : List Nat} {zs : List AV} (h : Sh tiT.get (T_sl_api_Set :: ts) zs) : ∃ (l : List ST) (ys : List AV), zs = .imm 4 (l.map encST) :: ys ∧ (l.length ≤ Lmax ∧ ∀ s ∈ l, i64 s.prop ∧ i64 s.kind ∧ i64 s.n) ∧ Sh tiT.get ts ys := by
  obtain ⟨rows, ys, e, hr, hm, hs⟩ := d_slice T_sl_api_Set_is (sz_of T_api_Set_is) h
  obtain ⟨l, hl, hp⟩ := rows_map (f := encST) (P := fun s => i64 s.prop ∧ i64 s.kind ∧ i64 s.n) fun row hrow => by
    obtain ⟨p, y1, e1, w1, h2⟩ := d_int (d_struct T_api_Set_is (hr row hrow))
    obtain ⟨k, y2, e2, w2, h3⟩ := d_int (d_struct T_api_Value_is h2)
    obtain ⟨n, y3, e3, w3, h4⟩ := d_int h3
    obtain ⟨b, y4, e4, h5⟩ := d_bool h4
    rw [sh_nil h5] at e4
    exact ⟨⟨p, k, n, b⟩, by rw [e1, e2, e3, e4]; rfl, w1, w2, w3⟩
  exact ⟨l, ys, by rw [e, hl], ⟨by rw [hl] at hm; simpa using hm, hp⟩, hs⟩
theorem d_rules {ts : List Nat} {zs : List AV} (h : Sh tiT.get (T_sl_api_Rule :: ts) zs) : ∃ (l : List RL) (ys : List AV), zs = rls l :: ys ∧ rlsWf l ∧ Sh tiT.get ts ys := by
  obtain ⟨rows, ys, e, hr, hm, hs⟩ := d_slice T_sl_api_Rule_is (sz_of T_api_Rule_is) h
  obtain ⟨l, hl, hp⟩ := rows_map (f := encRL) (P := RlWf) fun row hrow => by
    obtain ⟨s, y1, e1, w1, h2⟩ := d_sels (d_struct T_api_Rule_is (hr row hrow))
    obtain ⟨t, y2, e2, w2, h3⟩ := d_sets h2
    rw [sh_nil h3] at e2
    exact ⟨⟨s, t⟩, by rw [e1, e2]; rfl, w1, w2.1, w2.2⟩
  exact ⟨l, ys, by rw [e, hl]; rfl, ⟨by rw [hl] at hm; simpa using hm, hp⟩, hs⟩
def readR : List Nat := readB ++ [T_sl_api_Rule, T_api_Rule, T_sl_api_Set, T_api_Set, T_api_Value]
theorem readR_closed : closedB tiT.get readR = true := by kernel_rfl
theorem v_rules {x : AV} (h : ShV tiT.get T_sl_api_Rule x) : ∃ l, x = rls l ∧ rlsWf l := by
  obtain ⟨l, ys, e, w, hn⟩ := d_rules (v_one T_sl_api_Rule_is rfl h)
  cases e
  exact ⟨l, rfl, w⟩
theorem bk_rl (r : RL) : bkL (encRL r) = (bkLL (r.sels.map encSl) + 1) + (bkLL (r.sets.map encST) + 1) := by
  unfold encRL sls
  simp only [bkL, bk_imm, Nat.add_zero]
theorem bk_rls (l : List RL) : bk (rls l) = bkLL (l.map encRL) + 1 := by unfold rls; rw [bk_imm]
def allSels (l : List RL) : List Sl := l.flatMap (·.sels)
structure Fit12 (l : List RL) : Prop where
  len : l.length ≤ 30
  sels : ∀ r ∈ l, r.sels.length ≤ 8
  sets : ∀ r ∈ l, r.sets.length ≤ 30
  fit : ∀ r ∈ l, ∀ s ∈ r.sels, FitL 11 [s]
section
theorem dear12_drop {K : AV → Hp → Prop} {y0 y3 y3' y4 y5 y6 : AV} {H : Hp} (hf : Fz H y3 y3') (h : law12_Dear.L1 σ K y0 y3' y4 y5 y6 (Hp.bare H.n)) : law12_Dear.L1 σ K y0 y3 y4 y5 y6 H :=
  fun js => LoopP.drop (.same (.same (.same (.fz hf (FzTr _))))) (h js)
end
theorem all_len {l : List RL} (h : ∀ r ∈ l, r.sels.length ≤ 8) : (allSels l).length ≤ 8 * l.length := by
  induction l with
  | nil => simp [allSels]
  | cons r l ih =>
    have h1 := h r (by simp)
    have h2 := ih fun r hr => h r (by simp [hr])
    unfold allSels at h2 ⊢
    rw [List.flatMap_cons, List.length_append, List.length_cons]
    omega
section
attribute [local irreducible] law12_Dear.L0 law12_Dear.L1
theorem Dear12_ok (l : List RL) (hl : rlsWf l) : ∃ b, (∀ H, Good Tryz.prog σ n_law12_Dear [rls l] H (Bo b) H) ∧ (b = false → Fit12 l) := by
  have run : ∃ r H1, Good Tryz.prog σ n_law12_Dear [rls l] Hp.empty r H1 ∧ ∃ b, r = Bo b ∧ (b = false → Fit12 l) := by
    obtain ⟨K, hKd⟩ : ∃ K : AV → Hp → Prop, ∀ r H1, K r H1 ↔ ∃ b, r = Bo b ∧ (b = false → Fit12 l) := ⟨_, fun _ _ => Iff.rfl⟩
    have kt : ∀ H, K (Bo true) H := fun H => (hKd _ _).2 ⟨true, rfl, fun h => by cases h⟩
    suffices h : ∃ r H1, Good Tryz.prog σ n_law12_Dear [rls l] Hp.empty r H1 ∧ K r H1 by
      obtain ⟨r, H1, a, b⟩ := h
      exact ⟨r, H1, a, (hKd _ _).1 b⟩
    refine law12_Dear.run ?_
    simp only [len_rls, bnd_some, b_gtr, ifB_lit, decide_eq_true_eq]
    split
    · exact kt _
    rename_i h30
    have L1 : ∀ (all : List Sl), all = allSels l → (∀ r ∈ l, r.sels.length ≤ 8) → (∀ r ∈ l, r.sets.length ≤ 30) → ∀ (f j : Nat) (H : Hp) (n : Int) (y4 : AV), all.length - j = f → j ≤ all.length → (∀ s ∈ all.take j, FitL 11 [s]) → law12_Dear.L1 σ K (rls l) (sls all) y4 (I n) (I (j : Int)) H := by
      intro all hall h8 hst f
      have hal : all.length ≤ 240 := by
        have := all_len h8
        rw [hall]; omega
      have hawf : ∀ s ∈ all, slWf Lmax s := by
        intro s hs
        rw [hall] at hs
        obtain ⟨r, hr, hs⟩ := List.mem_flatMap.1 hs
        exact (hl.2 r hr).sels.2 s hs
      induction f with
      | zero =>
        intro j H n y4 hf hj hfit
        have : j = all.length := by omega
        subst this
        rw [List.take_length] at hfit
        refine law12_Dear.L1_step ?_
        simp only [len_sls, bnd_some, b_lss, Int.lt_irrefl, decide_false, ifB_lit, Bool.false_eq_true, if_false, b_gtr]
        rw [hKd]
        refine ⟨_, rfl, fun _ => ⟨by omega, h8, hst, fun r hr s hs => hfit s ?_⟩⟩
        rw [hall]
        exact List.mem_flatMap.2 ⟨r, hr, hs⟩
      | succ f ih =>
        intro j H n y4 hf hj hfit
        have hlt : j < all.length := by omega
        have hlt' : (j : Int) < all.length := by omega
        obtain ⟨s, hs⟩ := get_lt hlt
        have hsm := List.mem_of_getElem? hs
        obtain ⟨b, hd, hf1⟩ := Dear_ok (σ := σ) [s] ⟨by show 1 ≤ Lmax; decide, fun s' h => by rw [List.mem_singleton.1 h]; exact hawf s hsm⟩
        refine law12_Dear.L1_step ?_
        have hix : ixaSl 1 (sls all) (I (j : Int)) = some (.ip (encSl s)) := ix_map hs
        have hw : wr .i64 ((j : Int) + 1) = ((j + 1 : Nat) : Int) := wr_succ (by omega)
        simp only [len_sls, bnd_some, b_lss, hlt', decide_true, ifB_lit, if_true, b_add, hw, sl_one hs]
        refine callK_of (hd _) ?_
        simp only [ifB_lit]
        cases hb : b with
        | true => simp only [if_true]; exact kt _
        | false =>
          simp only [Bool.false_eq_true, if_false, hix, bnd_some, sh_ip, List.drop_zero, ld_ip, f_encSl0, len_imm, List.length_map, b_add]
          refine ih (j + 1) H _ y4 (by omega) (by omega) fun s' hs' => ?_
          rw [List.take_add_one, hs] at hs'
          rcases List.mem_append.1 hs' with h | h
          · exact hfit s' h
          · simp at h; subst h; exact hf1 hb
    have L0 : ∀ (f m : Nat) (H : Hp) (y3 y5 y6 : AV), l.length - m = f → m ≤ l.length → (∀ r ∈ l.take m, r.sels.length ≤ 8) → (∀ r ∈ l.take m, r.sets.length ≤ 30) → Gs 1 H y3 ((allSels (l.take m)).map encSl) → law12_Dear.L0 σ K (rls l) y3 (I (m : Int)) y5 y6 H := by
      intro f
      induction f with
      | zero =>
        intro m H y3 y5 y6 hf hm h8 hst hg
        have : m = l.length := by omega
        subst this
        rw [List.take_length] at h8 hst hg
        refine law12_Dear.L0_step ?_
        simp only [len_rls, bnd_some, b_lss, Int.lt_irrefl, decide_false, ifB_lit, Bool.false_eq_true, if_false]
        exact dear12_drop (hg.fz (noIds_map _ noId_Sl _)) (L1 _ rfl h8 hst _ 0 _ 0 _ rfl (Nat.zero_le _) (fun s h => by simp at h))
      | succ f ih =>
        intro m H y3 y5 y6 hf hm h8 hst hg
        have hlt : m < l.length := by omega
        have hlt' : (m : Int) < l.length := by omega
        obtain ⟨r, hr⟩ := get_lt hlt
        have hix : ixaSl 2 (rls l) (I (m : Int)) = some (.ip (encRL r)) := ix_map hr
        have e1 : ldA false 1 H (.ip (encRL r)) = some (sls r.sels) := rfl
        have e2 : ldA false 1 H (.ip ((encRL r).drop 1)) = some (.imm 4 (r.sets.map encST)) := rfl
        refine law12_Dear.L0_step ?_
        simp only [len_rls, bnd_some, b_lss, hlt', decide_true, ifB_lit, if_true, hix, sh_ip, List.drop_zero, e1, e2, len_sls, len_imm, List.length_map, b_gtr, decide_eq_true_eq]
        split
        · exact kt _
        split
        · exact kt _
        rename_i q1 q2
        have hal := all_len h8
        rw [List.length_take] at hal
        have hone : ((r.sels.map encSl).flatten).all AV.one = true := by
          rw [List.all_eq_true]; intro x hx
          obtain ⟨q, hq, hx⟩ := List.mem_flatten.1 hx
          obtain ⟨s, _, rfl⟩ := List.mem_map.1 hq
          exact List.all_eq_true.1 (one_Sl s) x hx
        refine bnd_app (y := .imm 1 (r.sels.map encSl)) hg rfl src_imm (fun q hq => by obtain ⟨s, _, rfl⟩ := List.mem_map.1 hq; rfl) hone (by simp only [List.length_map]; omega) (by simp only [List.length_map]; omega) fun x' H' g' _ => ?_
        rw [b_add, bnd_some, wr_succ (by omega)]
        have htk : l.take (m + 1) = l.take m ++ [r] := by rw [List.take_add_one, hr]; rfl
        refine ih (m + 1) H' x' _ _ (by omega) (by omega) ?_ ?_ ?_
        · intro q hq
          rw [htk] at hq
          rcases List.mem_append.1 hq with h | h
          · exact h8 q h
          · simp at h; subst h; omega
        · intro q hq
          rw [htk] at hq
          rcases List.mem_append.1 hq with h | h
          · exact hst q h
          · simp at h; subst h; omega
        · rw [htk]
          have : allSels (l.take m ++ [r]) = allSels (l.take m) ++ r.sels := by unfold allSels; simp
          rw [this, List.map_append]
          exact g'
    exact L0 _ 0 _ _ _ _ rfl (Nat.zero_le _) (fun r h => by simp at h) (fun r h => by simp at h) (by simpa [allSels] using Gs.nil)
  obtain ⟨r, H1, hg, b, rfl, hb⟩ := run
  exact ⟨b, fun H => hg.over (by simp [noIds]) rfl H, hb⟩
end
theorem rules_ok {l : List RL} (hl : rlsWf l) (hf : Fit12 l) (hb : bkLL (l.map encRL) ≤ NB) : ∀ r ∈ l, ∀ s ∈ r.sels, slWf Lmax s ∧ s.length ≤ 1048576 ∧ SelOk 11 [s] ∧ TxL 11 [s] := by
  intro r hr s hs
  have hN : NB = 1048576 := rfl
  have h1 := mem_bk (f := encRL) hr
  rw [bk_rl] at h1
  have h2 := mem_bk (f := encSl) hs
  have hw := (hl.2 r hr).sels.2 s hs
  have h3 : s.length ≤ bkLL (s.map encPt) := len_bk fun p _ => by rw [bk_pt]; omega
  have h4 := h2
  rw [bk_sl] at h4
  refine ⟨hw, by omega, sel_bulk ⟨by show 1 ≤ Lmax; decide, fun s' h => by rw [List.mem_singleton.1 h]; exact hw⟩ (hf.fit r hr s hs) ?_⟩
  simp only [List.map_cons, List.map_nil, bkLL]
  omega
end Go.Proofs.YtaoegkmfgfefgaaGreat.Ev
namespace Go.Proofs.YtaoegkmfgfefgaaGreat.Ev
set_option linter.unusedVariables false
set_option linter.unusedSimpArgs false
variable {σ : Sig}
theorem sls_one (l : List Sl) : ((l.map encSl).flatten).all AV.one = true := by
  rw [List.all_eq_true]; intro x hx
  obtain ⟨q, hq, hx⟩ := List.mem_flatten.1 hx
  obtain ⟨s, _, rfl⟩ := List.mem_map.1 hq
  exact List.all_eq_true.1 (one_Sl s) x hx
theorem sls_sz (l : List Sl) : ∀ row ∈ l.map encSl, row.length = 1 := fun q hq => by obtain ⟨s, _, rfl⟩ := List.mem_map.1 hq; rfl
section
attribute [local irreducible] reval_kept_api_Selector.L0 reval_kept_api_Selector.J1
theorem kept_ok (l : List Sl) (hl : l.length ≤ 1000000) (hs : ∀ s ∈ l, s.length < 9000000000000000000) (H : Hp) : Good Tryz.prog σ n_reval_kept_api_Selector [sls l, .fn n_reval_Needs []] H (sls (l.filter needs)) H := by
  obtain ⟨Q, hQ⟩ : ∃ Q : AV → Hp → Prop, ∀ r H1, Q r H1 ↔ Gs 1 H1 r ((l.filter needs).map encSl) := ⟨_, fun _ _ => Iff.rfl⟩
  have run : ∃ r H1, Good Tryz.prog σ n_reval_kept_api_Selector [sls l, .fn n_reval_Needs []] Hp.empty r H1 ∧ Q r H1 := by
    refine reval_kept_api_Selector.run ?_
    rw [len_sls, bnd_some]
    have L0 : ∀ (f k : Nat) (H : Hp) (y5 : AV), l.length - k = f → k ≤ l.length → Gs 1 H y5 (((l.take k).filter needs).map encSl) → reval_kept_api_Selector.L0 σ Q (.fn n_reval_Needs []) y5 (sls l) (I (l.length : Int)) (I (k : Int)) H := by
      intro f
      induction f with
      | zero =>
        intro k H y5 hf hk hg
        have : k = l.length := by omega
        subst this
        rw [List.take_length] at hg
        refine reval_kept_api_Selector.L0_step ?_
        simp only [b_lss, bnd_some, Int.lt_irrefl, decide_false, ifB_lit, Bool.false_eq_true, if_false]
        exact (hQ _ _).2 hg
      | succ f ih =>
        intro k H y5 hf hk hg
        have hlt : k < l.length := by omega
        have hlt' : (k : Int) < l.length := by omega
        obtain ⟨s, hsk⟩ := get_lt hlt
        have hix : ixaSl 1 (sls l) (I (k : Int)) = some (.ip (encSl s)) := ix_map hsk
        have htk : l.take (k + 1) = l.take k ++ [s] := by rw [List.take_add_one, hsk]; rfl
        have J1 : ∀ (H : Hp) (y5 : AV), Gs 1 H y5 (((l.take (k + 1)).filter needs).map encSl) → reval_kept_api_Selector.J1 σ Q (.fn n_reval_Needs []) y5 (sls l) (I (l.length : Int)) (I (k : Int)) H := by
          intro H y5 hg
          refine reval_kept_api_Selector.J1_step ?_
          rw [b_add, bnd_some, wr_succ (by omega)]
          exact ih (k + 1) H y5 (by omega) (by omega) hg
        refine reval_kept_api_Selector.L0_step ?_
        simp only [b_lss, bnd_some, hlt', decide_true, ifB_lit, if_true, hix, ld_ip, ldL_sl, allocK_eq]
        obtain ⟨H2, hH2⟩ : ∃ H2, H2 = (H.new (.cells [.lit (.slice none 0 0)] true)).set H.n (some (.cells (encSl s) true)) := ⟨_, rfl⟩
        refine bnd_of (x := H2) ?_ ?_
        · rw [st_agg, hH2]
          simp only [hp_get_new, if_true]
          rfl
        have hg2 : Gs 1 H2 y5 (((l.take k).filter needs).map encSl) := by
          refine hg.keep (fun j hj => ?_) (by rw [hH2]; simp)
          have h1 := hg.lt hj
          have h2 : j ≠ H.n := by omega
          rw [hH2]
          simp [h2]
        have hl2 : ldA true 1 H2 (.ptr H.n 0) = some (.agg (encSl s)) := by rw [hH2]; simp
        rw [hl2, bnd_some]
        refine callK_of (needs_ok s (hs s (List.mem_of_getElem? hsk)) _) ?_
        simp only [ifB_lit]
        cases hn : needs s with
        | true =>
          simp only [if_true]
          rw [hl2, bnd_some]
          have hlen : (((l.take k).filter needs).map encSl).length ≤ k := by
            rw [List.length_map]
            exact Nat.le_trans (List.length_filter_le _ _) (by rw [List.length_take]; omega)
          refine bnd_app1 (y := .agg (encSl s)) hg2 rfl rfl (one_Sl s) (by omega) (by omega) fun x' H' g' _ => J1 _ _ ?_
          rw [htk, List.filter_append, List.map_append]
          simpa [hn] using g'
        | false =>
          simp only [Bool.false_eq_true, if_false]
          refine J1 _ _ ?_
          rw [htk, List.filter_append, List.map_append]
          simpa [hn] using hg2
    exact L0 _ 0 _ _ rfl (Nat.zero_le _) (by simpa using Gs.nil)
  obtain ⟨r, H1, hg, hq⟩ := run
  exact hg.frzR (by simp [noIds, noId]) ((hQ _ _).1 hq |>.fz (noIds_map _ noId_Sl _)) H
end
def needL (l : List RL) : List Sl := (allSels l).filter needs
theorem needL_app (a b : List RL) : needL (a ++ b) = needL a ++ needL b := by unfold needL allSels; simp
structure Rl8 (l : List RL) : Prop where
  len : l.length ≤ 60
  sels : ∀ r ∈ l, r.sels.length ≤ 8
  parts : ∀ r ∈ l, ∀ s ∈ r.sels, s.length < 9000000000000000000
theorem needL_len {l : List RL} (h : ∀ r ∈ l, r.sels.length ≤ 8) : (needL l).length ≤ 8 * l.length := Nat.le_trans (List.length_filter_le _ _) (all_len h)
section
attribute [local irreducible] reval_List.L0
theorem List_sp (l : List RL) (hl : Rl8 l) {H : Hp} {K : AV → Hp → Prop} (h : ∀ r H', Gs 1 H' r ((needL l).map encSl) → H.n ≤ H'.n → (∀ j, j < H.n → H'.get j = H.get j) → (∀ j, own r j → H.n ≤ j) → K r H') : callK Tryz.prog σ n_reval_List [rls l] H K := by
  have hlen := hl.len
  refine reval_List.run ?_
  rw [len_rls, bnd_some]
  have L0 : ∀ (f k : Nat) (H1 : Hp) (y3 : AV), l.length - k = f → k ≤ l.length → Gs 1 H1 y3 ((needL (l.take k)).map encSl) → H.n ≤ H1.n → (∀ j, j < H.n → H1.get j = H.get j) → (∀ j, own y3 j → H.n ≤ j) → reval_List.L0 σ K y3 (rls l) (I (l.length : Int)) (I (k : Int)) H1 := by
    intro f
    induction f with
    | zero =>
      intro k H1 y3 hf hk hg up same mine
      have : k = l.length := by omega
      subst this
      rw [List.take_length] at hg
      refine reval_List.L0_step ?_
      simp only [b_lss, bnd_some, Int.lt_irrefl, decide_false, ifB_lit, Bool.false_eq_true, if_false]
      exact h _ _ hg up same mine
    | succ f ih =>
      intro k H1 y3 hf hk hg up same mine
      have hlt : k < l.length := by omega
      have hlt' : (k : Int) < l.length := by omega
      obtain ⟨r, hr⟩ := get_lt hlt
      have hrm := List.mem_of_getElem? hr
      have hix : ixaSl 2 (rls l) (I (k : Int)) = some (.ip (encRL r)) := ix_map hr
      refine reval_List.L0_step ?_
      simp only [b_lss, bnd_some, hlt', decide_true, ifB_lit, if_true, hix, ld_ip, ldL_rl, allocK_eq]
      obtain ⟨H2, hH2⟩ : ∃ H2, H2 = (H1.new (.cells [.lit (.slice none 0 0), .lit (.slice none 0 0)] true)).set H1.n (some (.cells (encRL r) true)) := ⟨_, rfl⟩
      refine bnd_of (x := H2) ?_ ?_
      · rw [st_agg, hH2]
        simp only [hp_get_new, if_true]
        rfl
      have n2 : H2.n = H1.n + 1 := by rw [hH2]; rfl
      have s2 : ∀ j, j < H1.n → H2.get j = H1.get j := by
        intro j hj
        have h2 : j ≠ H1.n := by omega
        rw [hH2]
        simp [h2]
      have g2 : Gs 1 H2 y3 _ := hg.keep (fun j hj => s2 j (hg.lt hj)) (by omega)
      have l2 : ldA false 1 H2 (.ptr H1.n 0) = some (sls r.sels) := by rw [hH2, ld_ptr, hp_get_set, if_pos rfl]; rfl
      simp only [sh_ptr, Nat.zero_add, bnd_some, l2]
      refine callK_of (kept_ok r.sels (by have := hl.sels r hrm; omega) (fun s hs => hl.parts r hrm s hs) _) ?_
      have hnl := needL_len (l := l.take k) fun r hr => hl.sels r (List.mem_of_mem_take hr)
      rw [List.length_take] at hnl
      have hfl := List.length_filter_le needs r.sels
      have h8 := hl.sels r hrm
      refine bnd_app (y := .imm 1 ((r.sels.filter needs).map encSl)) g2 rfl src_imm (sls_sz _) (sls_one _) (by simp only [List.length_map]; omega) (by simp only [List.length_map]; omega) fun x' H' g' fr => ?_
      rw [b_add, bnd_some, wr_succ (by omega)]
      have htk : l.take (k + 1) = l.take k ++ [r] := by rw [List.take_add_one, hr]; rfl
      have up' := fr.grow
      refine ih (k + 1) H' x' (by omega) (by omega) ?_ (by omega) (fun j hj => ?_) (fun j hj => ?_)
      · rw [htk, needL_app, List.map_append]
        have : needL [r] = r.sels.filter needs := by simp [needL, allSels]
        rw [this]
        exact g'
      · rw [fr.same j (by omega) (fun ho => by have := mine j ho; omega), s2 j (by omega), same j hj]
      · rcases fr.mine j hj with q | q
        · exact mine j q
        · omega
  exact L0 _ 0 _ _ rfl (Nat.zero_le _) (by simpa [needL, allSels] using Gs.nil) (Nat.le_refl _) (fun _ _ => rfl) (fun j hj => hj.elim)
end
theorem rneeds_pt (p : Pt) : needsPt p = (decide ((0 : Int) < p.c.attrs.length) || (decide ((0 : Int) < p.c.pseudos.length) || (decide (p.comb = 3) || decide (p.comb = 4)))) := by
  unfold needsPt
  have e1 : decide ((0 : Int) < p.c.attrs.length) = decide (0 < p.c.attrs.length) := by rw [decide_eq_decide]; omega
  have e2 : decide ((0 : Int) < p.c.pseudos.length) = decide (0 < p.c.pseudos.length) := by rw [decide_eq_decide]; omega
  rw [e1, e2]
section
attribute [local irreducible] ref9_Needs.L0
theorem rneeds_ok (s : Sl) (hs : s.length < 9000000000000000000) (H : Hp) : Good Tryz.prog σ n_ref9_Needs [.agg (encSl s)] H (Bo (needs s)) H := by
  refine good_by (fun K hK => ref9_Needs.run ?_) (by simp [noIds, noId, noId_Sl]) rfl H
  simp only [boxK_agg]
  have L0 : ∀ (f k : Nat) (H : Hp), s.length - k = f → k ≤ s.length → 0 < H.n → H.get 0 = some (.cells (encSl s) true) → (∀ H', K (Bo ((s.drop k).any needsPt)) H') → ref9_Needs.L0 σ K (.ptr 0 0) (I (k : Int)) H := by
    intro f
    induction f with
    | zero =>
      intro k H hf hk hn hg hK
      have : k = s.length := by omega
      subst this
      have l0 : ldA false 1 H (.ptr 0 0) = some (.imm 6 (s.map encPt)) := by simp [hg, encSl]
      refine ref9_Needs.L0_step ?_
      simp only [sh_ptr, Nat.zero_add, bnd_some, l0, len_imm, List.length_map, b_lss, Int.lt_irrefl, decide_false, ifB_lit, Bool.false_eq_true, if_false]
      simpa using hK H
    | succ f ih =>
      intro k H hf hk hn hg hK
      have hlt : k < s.length := by omega
      have hlt' : (k : Int) < s.length := by omega
      obtain ⟨p, hp⟩ := get_lt hlt
      rw [drop_get hp, List.any_cons, rneeds_pt] at hK
      have l0 : ldA false 1 H (.ptr 0 0) = some (.imm 6 (s.map encPt)) := by simp [hg, encSl]
      have hix : ixaSl 6 (.imm 6 (s.map encPt)) (I (k : Int)) = some (.ip (encPt p)) := ix_map hp
      have l5 : ldA true 5 H (.ip ((encPt p).drop 1)) = some (.agg (encCp p.c)) := by rw [encPt_eq]; simp
      refine ref9_Needs.L0_step ?_
      simp only [sh_ptr, Nat.zero_add, bnd_some, l0, len_imm, List.length_map, b_lss, hlt', decide_true, ifB_lit, if_true, hix, sh_ip, l5, allocK_eq]
      obtain ⟨H2, hH2⟩ : ∃ H2, H2 = (H.new (.cells [.lit (.string ⟨#[]⟩), .lit (.slice none 0 0), .lit (.slice none 0 0), .lit (.slice none 0 0), .lit (.slice none 0 0)] true)).set H.n (some (.cells (encCp p.c) true)) := ⟨_, rfl⟩
      refine bnd_of (x := H2) ?_ ?_
      · rw [st_agg, hH2]
        simp only [hp_get_new, if_true, stO_cells, len_encCp]
        rw [if_pos ⟨by decide, one_Cp _⟩, ov_Cp _ rfl]
      have h0 : (0 : Nat) ≠ H.n := by omega
      have hg2 : H2.get 0 = some (.cells (encSl s) true) := by rw [hH2]; simp [h0, hg]
      have l02 : ldA false 1 H2 (.ptr 0 0) = some (.imm 6 (s.map encPt)) := by simp [hg2, encSl]
      have lk : ldA false 1 H2 (.ip (encPt p)) = some (I p.comb) := by simp
      have la : ldA false 1 H2 (.ptr H.n 3) = some (.imm 3 (p.c.attrs.map encAt)) := by rw [hH2, ld_ptr, hp_get_set, if_pos rfl, ldO_cells, f_encCp3]
      have lp : ldA false 1 H2 (.ptr H.n 4) = some (.imm 4 (p.c.pseudos.map encPs)) := by rw [hH2, ld_ptr, hp_get_set, if_pos rfl, ldO_cells, f_encCp4]
      have n2 : H2.n = H.n + 1 := by rw [hH2]; rfl
      rw [l02]
      simp only [bnd_some, hix, sh_ip, List.drop_zero, lk, la, lp, len_imm, List.length_map, b_gtr, b_eql, ifB_lit, decide_eq_true_eq]
      split
      · rename_i h; simp only [h, decide_true, Bool.true_or, Bool.or_true] at hK; exact hK H2
      rename_i q1
      split
      · rename_i h; simp only [h, decide_true, Bool.true_or, Bool.or_true] at hK; exact hK H2
      rename_i q2
      split
      · rename_i h; simp only [h, decide_true, Bool.true_or, Bool.or_true] at hK; exact hK H2
      rename_i q3
      split
      · rename_i h; simp only [h, decide_true, Bool.true_or, Bool.or_true] at hK; exact hK H2
      rename_i q4
      rw [b_add, bnd_some, wr_succ (by omega)]
      exact ih (k + 1) H2 (by omega) (by omega) (by omega) hg2 (by simp only [q1, q2, q3, q4, decide_false, Bool.false_or] at hK; exact hK)
  exact L0 _ 0 _ rfl (Nat.zero_le _) (by simp) (by simp [Hp.empty]) hK
end
section
attribute [local irreducible] ref9_NeedList.L0 ref9_NeedList.L1 ref9_NeedList.J2
theorem NeedList_ok (l : List RL) (hl : Rl8 l) (H : Hp) : Good Tryz.prog σ n_ref9_NeedList [rls l] H (sls (needL l)) H := by
  have hlen := hl.len
  obtain ⟨Q, hQ⟩ : ∃ Q : AV → Hp → Prop, ∀ r H1, Q r H1 ↔ Gs 1 H1 r ((needL l).map encSl) := ⟨_, fun _ _ => Iff.rfl⟩
  have run : ∃ r H1, Good Tryz.prog σ n_ref9_NeedList [rls l] Hp.empty r H1 ∧ Q r H1 := by
    refine ref9_NeedList.run ?_
    have L0 : ∀ (f k : Nat) (H1 : Hp) (y3 y5 : AV), l.length - k = f → k ≤ l.length → Gs 1 H1 y3 ((needL (l.take k)).map encSl) → ref9_NeedList.L0 σ Q (rls l) y3 (I (k : Int)) y5 H1 := by
      intro f
      induction f with
      | zero =>
        intro k H1 y3 y5 hf hk hg
        have : k = l.length := by omega
        subst this
        rw [List.take_length] at hg
        refine ref9_NeedList.L0_step ?_
        simp only [len_rls, b_lss, bnd_some, Int.lt_irrefl, decide_false, ifB_lit, Bool.false_eq_true, if_false]
        exact (hQ _ _).2 hg
      | succ f ih =>
        intro k H1 y3 y5 hf hk hg
        have hlt : k < l.length := by omega
        have hlt' : (k : Int) < l.length := by omega
        obtain ⟨r, hr⟩ := get_lt hlt
        have hrm := List.mem_of_getElem? hr
        have hix : ixaSl 2 (rls l) (I (k : Int)) = some (.ip (encRL r)) := ix_map hr
        have htk : l.take (k + 1) = l.take k ++ [r] := by rw [List.take_add_one, hr]; rfl
        have h8 := hl.sels r hrm
        have hnl := needL_len (l := l.take k) fun r hr => hl.sels r (List.mem_of_mem_take hr)
        rw [List.length_take] at hnl
        refine ref9_NeedList.L0_step ?_
        simp only [len_rls, b_lss, bnd_some, hlt', decide_true, ifB_lit, if_true]
        have L1 : ∀ (g i : Nat) (H : Hp) (y3 : AV), r.sels.length - i = g → i ≤ r.sels.length → Gs 1 H y3 ((needL (l.take k) ++ (r.sels.take i).filter needs).map encSl) → ref9_NeedList.L1 σ Q (rls l) y3 (I (k : Int)) (I (i : Int)) H := by
          intro g
          induction g with
          | zero =>
            intro i H y3 hg' hi hgs
            have : i = r.sels.length := by omega
            subst this
            rw [List.take_length] at hgs
            have lr : ldA false 1 H (.ip (encRL r)) = some (sls r.sels) := rfl
            refine ref9_NeedList.L1_step ?_
            simp only [hix, bnd_some, sh_ip, List.drop_zero, lr, len_sls, b_lss, Int.lt_irrefl, decide_false, ifB_lit, Bool.false_eq_true, if_false, b_add]
            rw [wr_succ (by omega)]
            refine ih (k + 1) H y3 _ (by omega) (by omega) ?_
            rw [htk, needL_app]
            have : needL [r] = r.sels.filter needs := by simp [needL, allSels]
            rw [this]
            exact hgs
          | succ g ihg =>
            intro i H y3 hg' hi hgs
            have hil : i < r.sels.length := by omega
            have hil' : (i : Int) < r.sels.length := by omega
            obtain ⟨s, hs⟩ := get_lt hil
            have hsm := List.mem_of_getElem? hs
            have lr : ∀ H : Hp, ldA false 1 H (.ip (encRL r)) = some (sls r.sels) := fun _ => rfl
            have his : ixaSl 1 (sls r.sels) (I (i : Int)) = some (.ip (encSl s)) := ix_map hs
            have hti : r.sels.take (i + 1) = r.sels.take i ++ [s] := by rw [List.take_add_one, hs]; rfl
            have J2 : ∀ (H : Hp) (y3 : AV), Gs 1 H y3 ((needL (l.take k) ++ (r.sels.take (i + 1)).filter needs).map encSl) → ref9_NeedList.J2 σ Q (rls l) y3 (I (k : Int)) (I (i : Int)) H := by
              intro H y3 hgs
              refine ref9_NeedList.J2_step ?_
              rw [b_add, bnd_some, wr_succ (by omega)]
              exact ihg (i + 1) H y3 (by omega) (by omega) hgs
            refine ref9_NeedList.L1_step ?_
            simp only [hix, bnd_some, sh_ip, List.drop_zero, lr, len_sls, b_lss, hil', decide_true, ifB_lit, if_true, his, ld_ip, ldL_sl, f_encRL0]
            refine callK_of (rneeds_ok s (hl.parts r hrm s hsm) _) ?_
            simp only [ifB_lit]
            cases hn : needs s with
            | true =>
              simp only [if_true]
              have hfl := List.length_filter_le needs (r.sels.take i)
              rw [List.length_take] at hfl
              refine bnd_app1 (y := .agg (encSl s)) hgs rfl rfl (one_Sl s) (by rw [List.length_map, List.length_append]; omega) (by rw [List.length_map, List.length_append]; omega) fun x' H' g' _ => J2 _ _ ?_
              rw [hti, List.filter_append, ← List.append_assoc, List.map_append]
              simpa [hn] using g'
            | false =>
              simp only [Bool.false_eq_true, if_false]
              refine J2 _ _ ?_
              rw [hti, List.filter_append]
              simpa [hn] using hgs
        exact L1 _ 0 _ _ rfl (Nat.zero_le _) (by simpa using hg)
    exact L0 _ 0 _ _ _ rfl (Nat.zero_le _) (by simpa [needL, allSels] using Gs.nil)
  obtain ⟨r, H1, hg, hq⟩ := run
  exact hg.frzR (by simp [noIds, noId]) ((hQ _ _).1 hq |>.fz (noIds_map _ noId_Sl _)) H
end
end Go.Proofs.YtaoegkmfgfefgaaGreat.Ev
namespace Go.Proofs.YtaoegkmfgfefgaaGreat.Ev
set_option linter.unusedVariables false
set_option linter.unusedSimpArgs false
variable {σ : Sig}
def SsOk (σ : Sig) (f : Nat) : Prop := ∀ (l : List Sl) (H : Hp), slsWf Lmax l → Nest f l → Good Tryz.prog σ n_ref1_SameSelectors [sls l, sls l] H (Bo true) H
theorem at_refl (a : At) : eqAggR [.string, .int .i64, .string] .neq (.agg (encAt a)) (.agg (encAt a)) = some (Bo false) := by
  simp [eqAggR, isAggA, eqC, encAt, AV.cells, tfB]
section
attribute [local irreducible] ref1_SameStrings.L0
theorem SameStrings_ok' (a : List ByteArray) (ha : a.length ≤ Lmax) (H : Hp) : Good Tryz.prog σ n_ref1_SameStrings [strs a, strs a] H (Bo true) H := by
  refine good_by (fun K hK => ref1_SameStrings.run ?_) (by simp [noIds]) rfl H
  simp only [len_strs, bnd_some, b_neq, decide_true, Bool.not_true, ifB_lit, Bool.false_eq_true, if_false]
  have L0 : ∀ (f k : Nat) (H : Hp), a.length - k = f → k ≤ a.length → ref1_SameStrings.L0 σ K (strs a) (strs a) (I (k : Int)) H := by
    intro f
    induction f with
    | zero =>
      intro k H hf hk
      have : k = a.length := by omega
      subst this
      refine ref1_SameStrings.L0_step ?_
      simp only [len_strs, bnd_some, b_lss, Int.lt_irrefl, decide_false, ifB_lit, Bool.false_eq_true, if_false]
      exact hK H
    | succ f ih =>
      intro k H hf hk
      have hlt : k < a.length := by omega
      have hlt' : (k : Int) < a.length := by omega
      obtain ⟨x, hx⟩ := get_lt hlt
      have ix : ixaSl 1 (strs a) (I (k : Int)) = some (.ip [Sx x]) := ix_map hx
      refine ref1_SameStrings.L0_step ?_
      simp only [len_strs, bnd_some, b_lss, hlt', decide_true, ifB_lit, if_true, ix, ld_ip, ldL_one, b_sneq, Bool.not_true, Bool.false_eq_true, if_false, b_add]
      rw [wr_succL hlt ha]
      exact ih (k + 1) H (by omega) (by omega)
  exact L0 _ 0 _ rfl (Nat.zero_le _)
end
section
attribute [local irreducible] ref1_SameCompound.L0 ref1_SameCompound.L1
theorem sc_step {f : Nat} (ih : SsOk σ f) (c : Cp) (hw : CpWf Lmax c) (hn : ∀ q ∈ c.pseudos, Nest f q.list) (H : Hp) : Good Tryz.prog σ n_ref1_SameCompound [.agg (encCp c), .agg (encCp c)] H (Bo true) H := by
  have hL : Lmax = 9223372036854775807 := rfl
  refine good_by (fun K hK => ref1_SameCompound.run ?_) (by simp [noIds, noId, noId_Cp]) rfl H
  simp only [boxK_agg]
  obtain ⟨H0, hH0⟩ : ∃ H0, H0 = (Hp.empty.new (.cells (encCp c) true)).new (.cells (encCp c) true) := ⟨_, rfl⟩
  have g0 : H0.get 0 = some (.cells (encCp c) true) := by rw [hH0]; simp [Hp.empty]
  have g1 : H0.get 1 = some (.cells (encCp c) true) := by rw [hH0]; simp [Hp.empty]
  have n0 : H0.n = 2 := by rw [hH0]; rfl
  have e0 : Hp.empty.n = 0 := rfl
  have e1 : (Hp.empty.new (.cells (encCp c) true)).n = 1 := rfl
  rw [← hH0, e0, e1]
  clear hH0
  have ld : ∀ (H : Hp) (j : Nat), H.get j = some (.cells (encCp c) true) → ldA false 1 H (.ptr j 0) = some (Sx c.tag) ∧ ldA false 1 H (.ptr j 1) = some (strs c.ids) ∧ ldA false 1 H (.ptr j 2) = some (strs c.classes) ∧ ldA false 1 H (.ptr j 3) = some (.imm 3 (c.attrs.map encAt)) ∧ ldA false 1 H (.ptr j 4) = some (.imm 4 (c.pseudos.map encPs)) := by
    intro H j h
    simp only [ld_ptr, h, ldO_cells, List.drop_zero]
    exact ⟨f_encCp0 c, f_encCp1' c, f_encCp2 c, f_encCp3 c, f_encCp4 c⟩
  obtain ⟨a1, a2, a3, a4, a5⟩ := ld H0 0 g0
  obtain ⟨b1, b2, b3, b4, b5⟩ := ld H0 1 g1
  simp only [sh_ptr, Nat.zero_add, bnd_some, a1, a2, a3, a4, a5, b1, b2, b3, b4, b5, b_sneq, decide_true, Bool.not_true, ifB_lit, Bool.false_eq_true, if_false]
  refine callK_of (SameStrings_ok' _ hw.ids.1 _) ?_
  simp only [u_not, Bool.not_true, bnd_some, ifB_lit, Bool.false_eq_true, if_false, a3, b3]
  refine callK_of (SameStrings_ok' _ hw.classes.1 _) ?_
  simp only [u_not, Bool.not_true, bnd_some, ifB_lit, Bool.false_eq_true, if_false, a4, b4, a5, b5, len_imm, b_neq, decide_true]
  have L1 : ∀ (g i : Nat) (H : Hp) (y5 : AV), c.pseudos.length - i = g → i ≤ c.pseudos.length → 2 ≤ H.n → H.get 0 = some (.cells (encCp c) true) → H.get 1 = some (.cells (encCp c) true) → ref1_SameCompound.L1 σ K (.ptr 0 0) (.ptr 1 0) y5 (I (i : Int)) H := by
    intro g
    induction g with
    | zero =>
      intro i H y5 hg hi hn2 h0 h1
      have : i = c.pseudos.length := by omega
      subst this
      obtain ⟨_, _, _, _, a5⟩ := ld H 0 h0
      refine ref1_SameCompound.L1_step ?_
      simp only [sh_ptr, Nat.zero_add, bnd_some, a5, len_imm, List.length_map, b_lss, Int.lt_irrefl, decide_false, ifB_lit, Bool.false_eq_true, if_false]
      exact hK _
    | succ g ihg =>
      intro i H y5 hg hi hn2 h0 h1
      have hlt : i < c.pseudos.length := by omega
      have hlt' : (i : Int) < c.pseudos.length := by omega
      obtain ⟨q, hq⟩ := get_lt hlt
      have hqm := List.mem_of_getElem? hq
      obtain ⟨_, _, _, _, a5⟩ := ld H 0 h0
      have hix : ixaSl 4 (.imm 4 (c.pseudos.map encPs)) (I (i : Int)) = some (.ip (encPs q)) := ix_map hq
      refine ref1_SameCompound.L1_step ?_
      simp only [sh_ptr, Nat.zero_add, bnd_some, a5, len_imm, List.length_map, b_lss, hlt', decide_true, ifB_lit, if_true, hix, ld_ip, ldL_ps, allocK_eq]
      obtain ⟨H2, hH2⟩ : ∃ H2, H2 = (H.new (.cells [I 0, I 0, I 0, .lit (.slice none 0 0)] true)).set H.n (some (.cells (encPs q) true)) := ⟨_, rfl⟩
      refine bnd_of (x := H2) ?_ ?_
      · rw [st_agg, hH2]
        simp only [hp_get_new, if_true, stO_cells, len_encPs]
        rw [if_pos ⟨by decide, one_Ps _⟩, ov_Ps _ rfl]
      have n2 : H2.n = H.n + 1 := by rw [hH2]; rfl
      have ne0 : (0 : Nat) ≠ H.n := by omega
      have ne1 : (1 : Nat) ≠ H.n := by omega
      have k0 : H2.get 0 = some (.cells (encCp c) true) := by rw [hH2]; simp [ne0, h0]
      have k1 : H2.get 1 = some (.cells (encCp c) true) := by rw [hH2]; simp [ne1, h1]
      have kq : H2.get H.n = some (.cells (encPs q) true) := by rw [hH2]; simp
      clear hH2
      obtain ⟨_, _, _, _, b5⟩ := ld H2 1 k1
      simp only [b5, bnd_some, hix, ld_ip, ldL_ps]
      obtain ⟨H3, hH3⟩ : ∃ H3, H3 = (H2.new (.cells [I 0, I 0, I 0, .lit (.slice none 0 0)] true)).set H2.n (some (.cells (encPs q) true)) := ⟨_, rfl⟩
      refine bnd_of (x := H3) ?_ ?_
      · rw [st_agg, hH3]
        simp only [hp_get_new, if_true, stO_cells, len_encPs]
        rw [if_pos ⟨by decide, one_Ps _⟩, ov_Ps _ rfl]
      have ne2 : (0 : Nat) ≠ H2.n := by omega
      have ne3 : (1 : Nat) ≠ H2.n := by omega
      have ne4 : H.n ≠ H2.n := by omega
      have m0 : H3.get 0 = some (.cells (encCp c) true) := by rw [hH3]; simp [ne2, k0]
      have m1 : H3.get 1 = some (.cells (encCp c) true) := by rw [hH3]; simp [ne3, k1]
      have mq : H3.get H.n = some (.cells (encPs q) true) := by rw [hH3]; simp [ne4, kq]
      have mr : H3.get H2.n = some (.cells (encPs q) true) := by rw [hH3]; simp
      have n3 : H3.n = H2.n + 1 := by rw [hH3]; rfl
      clear hH3
      have lq : ∀ j, H3.get j = some (.cells (encPs q) true) → ldA false 1 H3 (.ptr j 0) = some (I q.kind) ∧ ldA false 1 H3 (.ptr j 1) = some (I q.a) ∧ ldA false 1 H3 (.ptr j 2) = some (I q.b) ∧ ldA false 1 H3 (.ptr j 3) = some (sls q.list) := by
        intro j h
        simp only [ld_ptr, h, ldO_cells, List.drop_zero]
        exact ⟨f_encPs0 q, f_encPs1' q, f_encPs2 q, f_encPs3 q⟩
      obtain ⟨c1, c2, c3, c4⟩ := lq _ mq
      obtain ⟨d1, d2, d3, d4⟩ := lq _ mr
      simp only [c1, c2, c3, c4, d1, d2, d3, d4, bnd_some, b_neq, decide_true, Bool.not_true, ifB_lit, Bool.false_eq_true, if_false]
      refine callK_of (ih q.list _ (Ps.wf_iff.1 (hw.ps q hqm)).2.2.2 (hn q hqm)) ?_
      simp only [u_not, Bool.not_true, bnd_some, ifB_lit, Bool.false_eq_true, if_false, b_add]
      rw [wr_succL hlt hw.psL]
      exact ihg (i + 1) H3 y5 (by omega) (by omega) (by omega) m0 m1
  have L0 : ∀ (g i : Nat) (y6 : AV), c.attrs.length - i = g → i ≤ c.attrs.length → ref1_SameCompound.L0 σ K (.ptr 0 0) (.ptr 1 0) (I (i : Int)) y6 H0 := by
    intro g
    induction g with
    | zero =>
      intro i y6 hg hi
      have : i = c.attrs.length := by omega
      subst this
      refine ref1_SameCompound.L0_step ?_
      simp only [sh_ptr, Nat.zero_add, bnd_some, a4, len_imm, List.length_map, b_lss, Int.lt_irrefl, decide_false, ifB_lit, Bool.false_eq_true, if_false]
      exact L1 _ 0 _ _ rfl (Nat.zero_le _) (by omega) g0 g1
    | succ g ihg =>
      intro i y6 hg hi
      have hlt : i < c.attrs.length := by omega
      have hlt' : (i : Int) < c.attrs.length := by omega
      obtain ⟨a, ha⟩ := get_lt hlt
      have hix : ixaSl 3 (.imm 3 (c.attrs.map encAt)) (I (i : Int)) = some (.ip (encAt a)) := ix_map ha
      refine ref1_SameCompound.L0_step ?_
      simp only [sh_ptr, Nat.zero_add, bnd_some, a4, b4, len_imm, List.length_map, b_lss, hlt', decide_true, ifB_lit, if_true, hix, ld_ip, ldL_at, at_refl, Bool.false_eq_true, if_false, b_add]
      rw [wr_succL hlt hw.attrsL]
      exact ihg (i + 1) y6 (by omega) (by omega)
  exact L0 _ 0 _ rfl (Nat.zero_le _)
end
section
attribute [local irreducible] ref1_SameSelectors.L0 ref1_SameSelectors.L1
theorem ss_step {f : Nat} (ih : ∀ (c : Cp), CpWf Lmax c → (∀ q ∈ c.pseudos, Nest f q.list) → ∀ H, Good Tryz.prog σ n_ref1_SameCompound [.agg (encCp c), .agg (encCp c)] H (Bo true) H) : SsOk σ (f + 1) := by
  intro l H hw hn
  refine good_by (fun K hK => ref1_SameSelectors.run ?_) (by simp [noIds]) rfl H
  simp only [len_sls, bnd_some, b_neq, decide_true, Bool.not_true, ifB_lit, Bool.false_eq_true, if_false]
  have L0 : ∀ (g i : Nat) (H : Hp) (y6 : AV), l.length - i = g → i ≤ l.length → ref1_SameSelectors.L0 σ K (sls l) (sls l) (I (i : Int)) y6 H := by
    intro g
    induction g with
    | zero =>
      intro i H y6 hg hi
      have : i = l.length := by omega
      subst this
      refine ref1_SameSelectors.L0_step ?_
      simp only [len_sls, bnd_some, b_lss, Int.lt_irrefl, decide_false, ifB_lit, Bool.false_eq_true, if_false]
      exact hK _
    | succ g ihg =>
      intro i H y6 hg hi
      have hlt : i < l.length := by omega
      have hlt' : (i : Int) < l.length := by omega
      obtain ⟨s, hs⟩ := get_lt hlt
      have hsm := List.mem_of_getElem? hs
      have hix : ixaSl 1 (sls l) (I (i : Int)) = some (.ip (encSl s)) := ix_map hs
      have hsw := hw.2 s hsm
      refine ref1_SameSelectors.L0_step ?_
      simp only [len_sls, bnd_some, b_lss, hlt', decide_true, ifB_lit, if_true, hix, sh_ip, List.drop_zero, ld_ip, f_encSl0, len_imm, b_neq, decide_true, Bool.not_true, Bool.false_eq_true, if_false]
      have L1 : ∀ (g k : Nat) (H : Hp), s.length - k = g → k ≤ s.length → ref1_SameSelectors.L1 σ K (sls l) (sls l) (I (i : Int)) (I (k : Int)) H := by
        intro g
        induction g with
        | zero =>
          intro k H hg hk
          have : k = s.length := by omega
          subst this
          refine ref1_SameSelectors.L1_step ?_
          simp only [hix, bnd_some, sh_ip, List.drop_zero, ld_ip, f_encSl0, len_imm, List.length_map, b_lss, Int.lt_irrefl, decide_false, ifB_lit, Bool.false_eq_true, if_false, b_add]
          rw [wr_succL hlt hw.1]
          exact ihg (i + 1) H _ (by omega) (by omega)
        | succ g ihk =>
          intro k H hg hk
          have hkl : k < s.length := by omega
          have hkl' : (k : Int) < s.length := by omega
          obtain ⟨p, hp⟩ := get_lt hkl
          have hpm := List.mem_of_getElem? hp
          have hpx : ixaSl 6 (.imm 6 (s.map encPt)) (I (k : Int)) = some (.ip (encPt p)) := ix_map hp
          have l5 : ldL true 5 ((encPt p).drop 1) = some (.agg (encCp p.c)) := by rw [encPt_eq]; simp
          refine ref1_SameSelectors.L1_step ?_
          simp only [hix, bnd_some, sh_ip, List.drop_zero, ld_ip, f_encSl0, len_imm, List.length_map, b_lss, hkl', decide_true, ifB_lit, if_true, hpx, f_encPt0, b_neq, Bool.not_true, Bool.false_eq_true, if_false, l5]
          refine callK_of (ih p.c (Pt.wf_iff.1 (hsw.2 p hpm)).2 (fun q hq => hn s hsm p hpm q hq) _) ?_
          simp only [u_not, Bool.not_true, bnd_some, ifB_lit, Bool.false_eq_true, if_false, b_add]
          rw [wr_succL hkl hsw.1]
          exact ihk (k + 1) H (by omega) (by omega)
      exact L1 _ 0 _ rfl (Nat.zero_le _)
  exact L0 _ 0 _ _ rfl (Nat.zero_le _)
end
theorem ss_ok : ∀ f, SsOk σ f
  | 0 => fun l H _ h => h.elim
  | f + 1 => ss_step fun c hw hn H => sc_step (ss_ok f) c hw hn H
end Go.Proofs.YtaoegkmfgfefgaaGreat.Ev
namespace Go.Proofs.YtaoegkmfgfefgaaGreat.Ev
set_option linter.unusedVariables false
set_option linter.unusedSimpArgs false
variable {σ : Sig}
def encB (b : Bool) : List AV := [Bo b]
def bools (l : List Bool) : AV := .imm 1 (l.map encB)
@[simp] theorem noId_bools (l : List Bool) : noId (bools l) = true := by unfold bools; simp only [noId]; exact noIds_map _ (fun _ => rfl) l
@[simp] theorem len_bools (l : List Bool) : lenSl (bools l) = some (.lit (.int .i64 l.length)) := by simp [bools]
section
attribute [local irreducible] ref9_SameBits.L0
theorem bxor (x y : Bool) : (x == y) = decide (x = y) := by cases x <;> cases y <;> rfl
theorem SameBits_ok (a b : List Bool) (ha : a.length ≤ reachBytes) (H : Hp) : Good Tryz.prog σ n_ref9_SameBits [bools a, bools b] H (Bo (decide (a = b))) H := by
  refine good_by (fun K hK => ref9_SameBits.run ?_) (by simp [noIds]) rfl H
  simp only [len_bools, bnd_some, b_neq, ifB_lit]
  by_cases hl : a.length = b.length
  · have hl' : (a.length : Int) = b.length := by omega
    simp only [hl', decide_true, Bool.not_true, Bool.false_eq_true, if_false]
    have L0 : ∀ (f k : Nat) (H : Hp), a.length - k = f → k ≤ a.length → (∀ H, K (Bo (eqFrom a b k)) H) → ref9_SameBits.L0 σ K (bools a) (bools b) (I (k : Int)) H := by
      intro f
      induction f with
      | zero =>
        intro k H hf hk hK
        have : k = a.length := by omega
        subst this
        refine ref9_SameBits.L0_step ?_
        simp only [len_bools, bnd_some, b_lss, Int.lt_irrefl, decide_false, ifB_lit, Bool.false_eq_true, if_false]
        rw [eqFrom_end hl] at hK
        exact hK H
      | succ f ih =>
        intro k H hf hk hK
        have hlt : k < a.length := by omega
        have hlt' : (k : Int) < a.length := by omega
        obtain ⟨x, hx⟩ := get_lt hlt
        obtain ⟨y, hy⟩ := get_lt (l := b) (k := k) (by omega)
        rw [eqFrom_step hx hy] at hK
        have ix : ixaSl 1 (bools a) (I (k : Int)) = some (.ip [Bo x]) := ix_map hx
        have iy : ixaSl 1 (bools b) (I (k : Int)) = some (.ip [Bo y]) := ix_map hy
        refine ref9_SameBits.L0_step ?_
        simp only [len_bools, bnd_some, b_lss, hlt', decide_true, ifB_lit, if_true, ix, iy, ld_ip, ldL_one, e_boolN, bxor]
        by_cases hxy : x = y
        · simp only [hxy, decide_true, Bool.not_true, Bool.false_eq_true, if_false, b_add, bnd_some]
          rw [wr_succL hlt ha (by decide)]
          exact ih (k + 1) H (by omega) (by omega) (by simpa [hxy] using hK)
        · simp only [hxy, decide_false, Bool.not_false, if_true]
          simpa [hxy] using hK H
    exact L0 _ 0 _ rfl (Nat.zero_le _) hK
  · have hl' : ¬ (a.length : Int) = b.length := by omega
    simp only [hl', decide_false, Bool.not_false, if_true]
    rw [eqFrom_len hl] at hK
    exact hK _
end
def bitsB (L : List Nd) (l : List Sl) (e : Int) : List Bool := l.map fun s => selB L 11 s e
structure LsOk (l : List Sl) : Prop where
  len : l.length ≤ 100000
  ok : ∀ s ∈ l, SelOk 11 [s] ∧ TxL 11 [s]
section
attribute [local irreducible] ref9_Tree_Bits.L0 reval_Bits.L0
theorem rBits_ok {L : List Nd} {d : List Nat} (M : McT σ L d) {l : List Sl} (hl : LsOk l) (e : Int) (H : Hp) : Good Tryz.prog σ n_ref9_Tree_Bits [refT L d, I e, sls l] H (bools (bitsB L l e)) H := by
  obtain ⟨Q, hQ⟩ : ∃ Q : AV → Hp → Prop, ∀ r H1, Q r H1 ↔ Gs 1 H1 r ((bitsB L l e).map encB) := ⟨_, fun _ _ => Iff.rfl⟩
  have hll := hl.len
  have run : ∃ r H1, Good Tryz.prog σ n_ref9_Tree_Bits [refT L d, I e, sls l] Hp.empty r H1 ∧ Q r H1 := by
    refine ref9_Tree_Bits.run ?_
    have L0 : ∀ (f k : Nat) (H1 : Hp) (y7 : AV), l.length - k = f → k ≤ l.length → Gs 1 H1 y7 ((bitsB L (l.take k) e).map encB) → ref9_Tree_Bits.L0 σ Q (refT L d) (I e) (sls l) y7 (I (k : Int)) H1 := by
      intro f
      induction f with
      | zero =>
        intro k H1 y7 hf hk hg
        have : k = l.length := by omega
        subst this
        rw [List.take_length] at hg
        refine ref9_Tree_Bits.L0_step ?_
        simp only [len_sls, b_lss, bnd_some, Int.lt_irrefl, decide_false, ifB_lit, Bool.false_eq_true, if_false]
        exact (hQ _ _).2 hg
      | succ f ih =>
        intro k H1 y7 hf hk hg
        have hlt : k < l.length := by omega
        have hlt' : (k : Int) < l.length := by omega
        obtain ⟨s, hs⟩ := get_lt hlt
        have hsm := List.mem_of_getElem? hs
        have hix : ixaSl 1 (sls l) (I (k : Int)) = some (.ip (encSl s)) := ix_map hs
        refine ref9_Tree_Bits.L0_step ?_
        simp only [len_sls, b_lss, bnd_some, hlt', decide_true, ifB_lit, if_true, hix, ld_ip, ldL_sl]
        obtain ⟨S, X⟩ := hl.ok s hsm
        refine callK_of (rTopSel_ok M S X e _) ?_
        refine bnd_app1 (y := Bo (selB L 11 s e)) hg rfl rfl rfl (by simp only [bitsB, List.length_map, List.length_take]; omega) (by simp only [bitsB, List.length_map, List.length_take]; omega) fun x' H' g' _ => ?_
        rw [b_add, bnd_some, wr_succ (by omega)]
        refine ih (k + 1) H' x' (by omega) (by omega) ?_
        have htk : l.take (k + 1) = l.take k ++ [s] := by rw [List.take_add_one, hs]; rfl
        unfold bitsB at g' ⊢
        rw [htk, List.map_append, List.map_append]
        exact g'
    exact L0 _ 0 _ _ rfl (Nat.zero_le _) (by simpa [bitsB] using Gs.nil)
  obtain ⟨r, H1, hg, hq⟩ := run
  exact hg.frzR (by simp [noIds, noId, noId_refT]) ((hQ _ _).1 hq |>.fz (noIds_map _ (fun _ => rfl) _)) H
theorem Bits_ok {L : List Nd} {d : List Nat} (M : McT σ L d) {l : List Sl} (hl : LsOk l) (e : Int) (H : Hp) : Good Tryz.prog σ n_reval_Bits [domT L d, I e, sls l] H (bools (bitsB L l e)) H := by
  have hll := hl.len
  obtain ⟨Q, hQ⟩ : ∃ Q : AV → Hp → Prop, ∀ r H1, Q r H1 ↔ Fz H1 r (bools (bitsB L l e)) := ⟨_, fun _ _ => Iff.rfl⟩
  have run : ∃ r H1, Good Tryz.prog σ n_reval_Bits [domT L d, I e, sls l] Hp.empty r H1 ∧ Q r H1 := by
    refine reval_Bits.run ?_
    have e3 : mkSlR [.bool false] 1 1 Hp.empty (I (l.length : Int)) (I (l.length : Int)) = some (.sl 0 0 1 l.length (some l.length), Hp.empty.new (.cells (zrow [.bool false] (l.length * 1)) true)) := by
      have a : (0 : Int) ≤ l.length := by omega
      have b : l.length ≤ 9223372036854775807 := by omega
      have c : l.length ≤ 281474976710656 := by omega
      simp [mkSlR, intA, bleN, b, c]
      rfl
    simp only [len_sls, bnd_some, e3]
    have L0 : ∀ (f k : Nat) (H1 : Hp) (cs : List AV), l.length - k = f → k ≤ l.length → 0 < H1.n → H1.get 0 = some (.cells cs true) → cs.length = l.length → (∀ i s, i < k → l[i]? = some s → cs[i]? = some (Bo (selB L 11 s e))) → reval_Bits.L0 σ Q (domT L d) (I e) (.sl 0 0 1 l.length (some l.length)) (sls l) (I (l.length : Int)) (I (k : Int)) H1 := by
      intro f
      induction f with
      | zero =>
        intro k H1 cs hf hk hn hg hcl hc
        have : k = l.length := by omega
        subst this
        refine reval_Bits.L0_step ?_
        simp only [b_lss, bnd_some, Int.lt_irrefl, decide_false, ifB_lit, Bool.false_eq_true, if_false]
        rw [hQ]
        have hcs : cs = (bitsB L l e).map Bo := by
          apply List.ext_getElem?
          intro i
          by_cases hi : i < l.length
          · obtain ⟨s, hs⟩ := get_lt hi
            rw [hc i s hi hs]
            simp [bitsB, hs]
          · rw [List.getElem?_eq_none (by omega), List.getElem?_eq_none (by simp [bitsB]; omega)]
        have := Fz.cells1 (n := l.length) (cap := some l.length) hg (by rw [hcs]; clear hcs hc; induction bitsB L l e with
          | nil => rfl
          | cons a r ih => simp [noIds, noId]; exact ih) hcl
        rw [hcs, List.map_map] at this
        exact this
      | succ f ih =>
        intro k H1 cs hf hk hn hg hcl hc
        have hlt : k < l.length := by omega
        have hlt' : (k : Int) < l.length := by omega
        obtain ⟨s, hs⟩ := get_lt hlt
        have hsm := List.mem_of_getElem? hs
        have hix : ixaSl 1 (sls l) (I (k : Int)) = some (.ip (encSl s)) := ix_map hs
        refine reval_Bits.L0_step ?_
        simp only [b_lss, bnd_some, hlt', decide_true, ifB_lit, if_true, hix, ld_ip, ldL_sl, allocK_eq]
        obtain ⟨H2, hH2⟩ : ∃ H2, H2 = (H1.new (.cells [.lit (.slice none 0 0)] true)).set H1.n (some (.cells (encSl s) true)) := ⟨_, rfl⟩
        refine bnd_of (x := H2) ?_ ?_
        · rw [st_agg, hH2]
          simp only [hp_get_new, if_true]
          rfl
        have hl2 : ldA true 1 H2 (.ptr H1.n 0) = some (.agg (encSl s)) := by rw [hH2]; simp
        have h0 : (0 : Nat) ≠ H1.n := by omega
        have hg2 : H2.get 0 = some (.cells cs true) := by rw [hH2]; simp [h0, hg]
        have n2 : H2.n = H1.n + 1 := by rw [hH2]; rfl
        rw [hl2, bnd_some]
        obtain ⟨S, X⟩ := hl.ok s hsm
        refine callK_of (Sel_ok M S e _) ?_
        have hixa : ixaSl 1 (.sl 0 0 1 l.length (some l.length)) (I (k : Int)) = some (.ptr 0 k) := by
          have i0 : (0 : Int) ≤ (k : Int) := by omega
          simp only [ixaSl, intA, hlt', i0, decide_true, Bool.and_self, cond_true, Int.toNat_natCast, Nat.zero_add, Nat.mul_one]
        have hst : stA 1 H2 (.ptr 0 k) (Bo (selB L 11 s e)) = some (H2.set 0 (some (.cells (cs.set k (Bo (selB L 11 s e))) true))) := by
          rw [st_bool, hg2, stO_cells]
          have : k + [Bo (selB L 11 s e)].length ≤ cs.length := by simp; omega
          rw [if_pos ⟨this, rfl⟩, ov_set _ _ _ (by omega)]
        rw [hixa, bnd_some, hst, bnd_some, b_add, bnd_some, wr_succ (by omega)]
        refine ih (k + 1) _ (cs.set k (Bo (selB L 11 s e))) (by omega) (by omega) (by simp; omega) (by simp) (by simp [hcl]) fun i s' hi hs' => ?_
        by_cases hik : i = k
        · subst hik
          rw [hs] at hs'
          cases hs'
          simp [hcl, hlt]
        · rw [List.getElem?_set_ne (by omega)]
          exact hc i s' (by omega) hs'
    exact L0 _ 0 _ _ rfl (Nat.zero_le _) (by simp) (by simp [Hp.empty]; rfl) (by simp [zrow]) (fun i s hi => by omega)
  obtain ⟨r, H1, hg, hq⟩ := run
  exact hg.frzR (by simp [noIds, noId, noId_domT]) ((hQ _ _).1 hq) H
end
end Go.Proofs.YtaoegkmfgfefgaaGreat.Ev
namespace Go.Proofs.YtaoegkmfgfefgaaGreat.Ev
open Go.RowKit
set_option linter.unusedVariables false
set_option linter.unusedSimpArgs false
set_option maxRecDepth 100000
variable {σ : Sig}
theorem NdSm.low {n : Nd} (h : NdSm n) : SmN (lowN n) := by
  have r : reachBytes = 140737488351232 := rfl
  refine ⟨by have := h.classes; show n.classes.length ≤ _; omega, by have := h.attrs; show (n.attrs.map lowPr).length ≤ _; rw [List.length_map]; omega, fun p hp => ?_⟩
  obtain ⟨q, hq, rfl⟩ := List.mem_map.1 hp
  have := (h.at' q hq).2
  show q.2.data.size < _
  omega
theorem TreeOk.smN {L : List Nd} {d : List Nat} (h : TreeOk L d) : ∀ e, e < L.length → SmN (lowN (ndAt L e)) := by
  intro e he
  refine (h.sm _ ?_).low
  unfold ndAt
  rw [List.getD_eq_getElem?_getD, List.getElem?_eq_getElem he]
  exact List.getElem_mem _
theorem TreeOk.mc {L : List Nd} {d : List Nat} (h : TreeOk L d) (hC : HasC σ) : McT σ L d := ⟨hC, h.hB, by have := h.len; omega, h.smN⟩
theorem big_new (L : List Nd) (hW : ∀ n ∈ L, NdWf n) : (∃ b e : Int, True ∧ ∃ bb : Bool, (bb = true ∨ e ≠ 0) ∧ (∀ H, Good Tryz.prog σ n_law9_Big [nds L] H (Bo bb) H) ∧ ∃ x, ∀ H, Good Tryz.prog σ n_ref9_New [nds L] H (.tup [x, I e]) H) ∨
    (∃ d, TreeOk L d ∧ (∀ H, Good Tryz.prog σ n_law9_Big [nds L] H (Bo false) H) ∧ ∀ H, Good Tryz.prog σ n_ref9_New [nds L] H (.tup [refT L d, I 0]) H) := by
  rcases refNew_ok (σ := σ) L hW with ⟨_, e, he, hg⟩ | ⟨d, hN, hB, hg⟩
  · exact .inl ⟨0, e, trivial, bigR L 0, .inr he, Big_ok L, _, hg⟩
  · cases hb : bigR L 0 with
    | true => exact .inl ⟨0, 0, trivial, true, .inl rfl, fun H => by have := Big_ok (σ := σ) L H; rwa [hb] at this, _, hg⟩
    | false =>
      refine .inr ⟨d, ?_, fun H => by have := Big_ok (σ := σ) L H; rwa [hb] at this, hg⟩
      unfold bigR bigT at hb
      simp only [Bool.or_eq_false_iff, List.drop_zero] at hb
      have hl : L.length ≤ 40 := by
        have h2 := hb.2
        by_cases h : 40 < L.length
        · rw [if_pos h, if_pos hN] at h2; cases h2
        · omega
      refine ⟨hl, hB, fun n hn => NdSm.of ?_⟩
      have := List.any_eq_false.1 hb.1 n (by rw [List.take_of_length_le (by omega)]; exact hn)
      simpa using this
def sigM : Sig := ⟨fun _ => 0, fun _ => false, fun _ => ⟨#[]⟩, some gMax⟩
theorem sigM_g : sigM.g = some gMax := rfl
theorem Fit12.rl8 {l : List RL} (h : Fit12 l) : Rl8 l := by
  refine ⟨by have := h.len; omega, h.sels, fun r hr s hs => ?_⟩
  have := (h.fit r hr s hs s (by simp)).1
  omega
theorem Nest.all {f : Nat} {l : List Sl} (hf : 0 < f) (h : ∀ s ∈ l, Nest f [s]) : Nest f l := by
  cases f with
  | zero => omega
  | succ f => exact fun s hs => h s hs s (by simp)
theorem needL_mem {l : List RL} {s : Sl} (h : s ∈ needL l) : ∃ r ∈ l, s ∈ r.sels := by
  unfold needL at h
  obtain ⟨r, hr, hs⟩ := List.mem_flatMap.1 (List.mem_filter.1 h).1
  exact ⟨r, hr, hs⟩
theorem need_ls {m : List RL} (hm : rlsWf m) (hf : Fit12 m) (hb : bkLL (m.map encRL) ≤ NB) : LsOk (needL m) := by
  have h := rules_ok hm hf hb
  refine ⟨?_, fun s hs => ?_⟩
  · have := needL_len hf.rl8.sels
    have := hf.len
    omega
  · obtain ⟨r, hr, hs⟩ := needL_mem hs
    exact (h r hr s hs).2.2
end Go.Proofs.YtaoegkmfgfefgaaGreat.Ev
namespace Go.Proofs.YtaoegkmfgfefgaaGreat.Ev
open Go.RowKit
set_option linter.unusedVariables false
set_option linter.unusedSimpArgs false
set_option maxRecDepth 100000
variable {σ : Sig}
section
theorem revalNeeds_drop {K : AV → Hp → Prop} {y0 y1 y7 y9 y9' y10 y12 y13 y14 : AV} {H : Hp} (hf : Fz H y9 y9') (h : law14_RevalNeeds.L0 σ K y0 y1 y7 y9' y10 y12 y13 y14 (Hp.bare H.n)) : law14_RevalNeeds.L0 σ K y0 y1 y7 y9 y10 y12 y13 y14 H :=
  fun js => LoopP.drop (.same (.same (.same (.same (.same (.same (.same (.same (.same (.fz hf (FzTr _))))))))))) (h js)
end
section
attribute [local irreducible] law14_RevalNeeds.L0 law14_RevalNeeds.L1 law14_RevalNeeds.L2
theorem RevalNeeds_good (hC : HasC σ) {l : List RL} (hl : rlsWf l) {L : List Nd} (hW : ∀ n ∈ L, NdWf n) (hb : bkLL (l.map encRL) ≤ NB) : ∃ Hf, Good Tryz.prog σ n_law14_RevalNeeds [rls l, nds L] Hp.empty (Bo true) Hf := by
  have hN : NB = 1048576 := rfl
  refine ⟨Hp.empty, good_by (fun K hK => law14_RevalNeeds.run (callK_of (alive14 _) ?_)) (by simp [noIds]) rfl _⟩
  obtain ⟨much, hdear, hfit⟩ := Dear12_ok (σ := σ) l hl
  refine callK_of (hdear _) ?_
  simp only [ifB_lit]
  rcases big_new (σ := σ) L hW with ⟨_, e, _, bb, he, hbig, x, hnew⟩ | ⟨d, hT, hbig, hnew⟩
  · cases much with
    | true =>
      simp only [if_true]
      refine callK_of (hnew _) ?_
      simp only [x_tup, List.getElem?_cons_zero, List.getElem?_cons_succ, bnd_some, u_not, Bool.not_true, ifB_lit, Bool.false_eq_true, if_false]
      exact hK _
    | false =>
      simp only [Bool.false_eq_true, if_false]
      refine callK_of (hbig _) ?_
      refine callK_of (hnew _) ?_
      simp only [x_tup, List.getElem?_cons_zero, List.getElem?_cons_succ, bnd_some, u_not, Bool.not_true, ifB_lit, Bool.false_eq_true, if_false]
      cases hbb : bb with
      | true => simp only [if_true]; exact hK _
      | false =>
        have he : e ≠ 0 := by rcases he with h | h; rw [hbb] at h; cases h; exact h
        simp only [Bool.false_eq_true, if_false, b_neq, he, decide_false, Bool.not_false, bnd_some, ifB_lit, if_true]
        exact hK _
  cases hm : much with
  | true =>
    simp only [if_true]
    refine callK_of (hnew _) ?_
    simp only [x_tup, List.getElem?_cons_zero, List.getElem?_cons_succ, bnd_some, u_not, Bool.not_true, ifB_lit, Bool.false_eq_true, if_false]
    exact hK _
  | false =>
  simp only [Bool.false_eq_true, if_false]
  refine callK_of (hbig _) ?_
  refine callK_of (hnew _) ?_
  simp only [x_tup, List.getElem?_cons_zero, List.getElem?_cons_succ, bnd_some, u_not, Bool.not_true, ifB_lit, Bool.false_eq_true, if_false, b_neq, decide_true]
  have M := hT.mc hC
  have hl40 := hT.len
  have hB := hT.hB
  have hF := hfit hm
  have R := hF.rl8
  have hls := need_ls hl hF hb
  have h60 := R.len
  refine List_sp l R fun x8 H8 g8 _ _ _ => ?_
  refine callK_of (domNew_ok hB hW (by omega) _) ?_
  simp only [x_tup, List.getElem?_cons_zero, List.getElem?_cons_succ, bnd_some]
  refine callK_of (NeedList_ok l R _) ?_
  have fz8 := g8.fz (noIds_map _ noId_Sl _)
  have hnw : slsWf Lmax (needL l) := ⟨by have := hls.len; have hL : Lmax = 9223372036854775807 := rfl; omega, fun s hs => by
    obtain ⟨r, hr, hs⟩ := needL_mem hs
    exact (hl.2 r hr).sels.2 s hs⟩
  have hnn : Nest 11 (needL l) := Nest.all (by decide) fun s hs => by
    obtain ⟨r, hr, hs⟩ := needL_mem hs
    exact (hF.fit r hr s hs).nest
  refine callK_of ((ss_ok 11 (needL l) Hp.empty hnw hnn).frzA (.cons fz8 (.cons (.refl (noId_sls _)) .nil)) rfl) ?_
  simp only [u_not, Bool.not_true, bnd_some, ifB_lit, Bool.false_eq_true, if_false]
  refine revalNeeds_drop fz8 ?_
  have hnd : noId (sls (needL l)) = true := noId_sls _
  have L2 : ∀ (f i : Nat) (H : Hp) (y13 : AV), L.length + 1 - i = f → i ≤ L.length + 1 → law14_RevalNeeds.L2 σ K (rls l) (nds L) (refT L d) (sls (needL l)) (domT L d) (I (l.length : Int)) y13 (I ((i : Int) - 1)) H := by
    intro f
    induction f with
    | zero =>
      intro i H y13 hf hi
      have : ¬ ((i : Int) - 1 < (L.length : Int)) := by omega
      refine law14_RevalNeeds.L2_step ?_
      simp only [len_nds, bnd_some, b_lss, this, decide_false, ifB_lit, Bool.false_eq_true, if_false]
      exact hK _
    | succ f ih =>
      intro i H y13 hf hi
      have hlt : (i : Int) - 1 < (L.length : Int) := by omega
      refine law14_RevalNeeds.L2_step ?_
      simp only [len_nds, bnd_some, b_lss, hlt, decide_true, ifB_lit, if_true]
      refine callK_of (Bits_ok M hls _ _) ?_
      refine callK_of (rBits_ok M hls _ _) ?_
      refine callK_of (SameBits_ok _ _ (by have := hls.len; have r : reachBytes = 140737488351232 := rfl; unfold bitsB; rw [List.length_map]; omega) _) ?_
      simp only [decide_true, u_not, Bool.not_true, bnd_some, ifB_lit, Bool.false_eq_true, if_false, b_add]
      rw [wr_in (by omega) (by omega)]
      have e1 : (i : Int) - 1 + 1 = ((i + 1 : Nat) : Int) - 1 := by omega
      rw [e1]
      exact ih (i + 1) H y13 (by omega) (by omega)
  have L1 : ∀ (k : Nat) (r : RL) (y14 : AV), l[k]? = some r → (∀ H y13, law14_RevalNeeds.L0 σ K (rls l) (nds L) (refT L d) (sls (needL l)) (domT L d) (I ((k + 1 : Nat) : Int)) y13 y14 H) → ∀ (f i : Nat) (H : Hp), r.sels.length - i = f → i ≤ r.sels.length → law14_RevalNeeds.L1 σ K (rls l) (nds L) (refT L d) (sls (needL l)) (domT L d) (I (k : Int)) (I (i : Int)) y14 H := by
    intro k r y14 hr next f
    have hrm := List.mem_of_getElem? hr
    have hkl : k < l.length := (List.getElem?_eq_some_iff.1 hr).1
    have hix : ixaSl 2 (rls l) (I (k : Int)) = some (.ip (encRL r)) := ix_map hr
    have lr : ∀ H : Hp, ldA false 1 H (.ip (encRL r)) = some (sls r.sels) := fun _ => rfl
    have h8 := R.sels r hrm
    induction f with
    | zero =>
      intro i H hf hi
      have : i = r.sels.length := by omega
      subst this
      refine law14_RevalNeeds.L1_step ?_
      simp only [hix, bnd_some, sh_ip, List.drop_zero, lr, len_sls, b_lss, Int.lt_irrefl, decide_false, ifB_lit, Bool.false_eq_true, if_false, b_add]
      rw [wr_succ (by omega)]
      exact next _ _
    | succ f ih =>
      intro i H hf hi
      have hil : i < r.sels.length := by omega
      have hil' : (i : Int) < r.sels.length := by omega
      obtain ⟨s, hs⟩ := get_lt hil
      have hsm := List.mem_of_getElem? hs
      have his : ixaSl 1 (sls r.sels) (I (i : Int)) = some (.ip (encSl s)) := ix_map hs
      refine law14_RevalNeeds.L1_step ?_
      simp only [hix, bnd_some, sh_ip, List.drop_zero, lr, len_sls, b_lss, hil', decide_true, ifB_lit, if_true, his, ld_ip, ldL_sl, f_encRL0]
      refine callK_of (needs_ok s (R.parts r hrm s hsm) _) ?_
      simp only [kp_ip, hix, bnd_some, sh_ip, List.drop_zero, lr, his, ld_ip, ldL_sl, f_encRL0]
      refine callK_of (rneeds_ok s (R.parts r hrm s hsm) _) ?_
      simp only [e_boolN, BEq.rfl, Bool.not_true, bnd_some, ifB_lit, Bool.false_eq_true, if_false, b_add]
      rw [wr_succ (by omega)]
      exact ih (i + 1) H (by omega) (by omega)
  have L0 : ∀ (f k : Nat) (H : Hp) (y13 y14 : AV), l.length - k = f → k ≤ l.length → law14_RevalNeeds.L0 σ K (rls l) (nds L) (refT L d) (sls (needL l)) (domT L d) (I (k : Int)) y13 y14 H := by
    intro f
    induction f with
    | zero =>
      intro k H y13 y14 hf hk
      have : k = l.length := by omega
      subst this
      refine law14_RevalNeeds.L0_step ?_
      simp only [len_rls, bnd_some, b_lss, Int.lt_irrefl, decide_false, ifB_lit, Bool.false_eq_true, if_false]
      have := L2 _ 0 H y13 rfl (Nat.zero_le _)
      simpa using this
    | succ f ih =>
      intro k H y13 y14 hf hk
      have hlt : k < l.length := by omega
      have hlt' : (k : Int) < l.length := by omega
      obtain ⟨r, hr⟩ := get_lt hlt
      refine law14_RevalNeeds.L0_step ?_
      simp only [len_rls, bnd_some, b_lss, hlt', decide_true, ifB_lit, if_true]
      exact L1 k r y14 hr (fun H y13 => ih (k + 1) H y13 y14 (by omega) (by omega)) _ 0 H rfl (Nat.zero_le _)
  exact L0 _ 0 _ _ _ rfl (Nat.zero_le _)
end
theorem RevalNeeds_walk {H : Type} {enc : TypeId × Value → H} (W : World) (hsh : W.ShapedOpen Tryz.prog) {v0 v1 : Value} {r : Reach} {b0 base : Nat} {spare : Nat → Bool} {held : Bool} {d0 d1 : DataW H} {p0 p1 : List MemPlace}
    (e0 : Value.okWide Tryz.prog W r b0 T_sl_api_Rule v0) (h0 : DataW.Trod enc Tryz.prog W base spare held T_sl_api_Rule v0 d0 p0) (w0 : ∀ n ∈ d0.weights Tryz.prog T_sl_api_Rule, n ≤ reachBytes)
    (e1 : Value.okWide Tryz.prog W r b0 T_sl_api_Node v1) (h1 : DataW.Trod enc Tryz.prog W base spare held T_sl_api_Node v1 d1 p1) (w1 : ∀ n ∈ d1.weights Tryz.prog T_sl_api_Node, n ≤ reachBytes)
    (hk : bulkDs [d0, d1] ≤ 1048576) :
    Calls Tryz.prog n_law14_RevalNeeds #[v0, v1] W fun e W' => e = .returned (.bool true) ∧ Below W.heap.size W W' := by
  obtain ⟨x0, r0, s0, k0⟩ := read_argB (P := Tryz.prog) (ti := tiT.get) (S := readR) (t := T_sl_api_Rule) (σ := sigM) tiT_ok readR_closed (inB_mem (by kernel_rfl)) e0 h0 w0
  obtain ⟨x1, r1, s1⟩ := read_arg (P := Tryz.prog) (ti := tiT.get) (S := readB) (t := T_sl_api_Node) (σ := sigM) tiT_ok readB_closed (inB_mem (by kernel_rfl)) e1 h1 w1
  obtain ⟨l, rfl, hl⟩ := v_rules s0
  obtain ⟨a, rfl, ha, _⟩ := v_nodes s1
  simp only [bulkDs] at hk
  rw [bk_rls] at k0
  obtain ⟨Hf, hg⟩ := RevalNeeds_good (hasC sigM_g) hl ha (by show _ ≤ 1048576; omega)
  exact law_of_good (relL2 r0 r1) hg (gMax_ok W hsh sigM_g)
end Go.Proofs.YtaoegkmfgfefgaaGreat.Ev

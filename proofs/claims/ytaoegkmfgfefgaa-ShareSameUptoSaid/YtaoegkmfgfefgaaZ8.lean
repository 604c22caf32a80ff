/- The walks, part 8: the evaluator, the functions, the laws. Conditions: none. -/
import Derived.Shelf.LaysM
import Derived.Shelf.Strings.Search1
import Derived.Shelf.Strings.Search2
import Derived.Shelf.Strings.Search3
import Derived.Shelf.Strings.Shaped
import Derived.Test.YtaoegkmfgfefgaaZ7
namespace Go.Proofs.Ytaoegkmfgfefgaa.Ev
open Go.Shelf Go.Proofs
def laysM144_ren : Ren :=
{
 f := fun x =>
  match x with
  | 144 => 180
  | 143 => 184
  | 219 => 187
  | 217 => 188
  | 225 => 189
  | 224 => 190
  | 267 => 191
  | 266 => 192
  | 314 => 193
  | n => n,
 t := fun x =>
  match x with
  | 9 => 9
  | 4 => 4
  | 3 => 3
  | 5 => 5
  | 46 => 137
  | 146 => 232
  | 51 => 169
  | n => n,
 g := fun x =>
  match x with
  | 1 => 0
  | n => n }
theorem laysM144 : LaysM.n144 Try.prog laysM144_ren :=
{ mixed := by kernel_rfl, f143 := Eq.trans Try.func184 (congrArg some (Eq.refl (Body.n143 laysM144_ren))),
  f144 := Eq.trans Try.func180 (congrArg some (Eq.refl (Body.n144 laysM144_ren))),
  f217 := Eq.trans Try.func188 (congrArg some (Eq.refl (Body.n217 laysM144_ren))),
  f219 := Eq.trans Try.func187 (congrArg some (Eq.refl (Body.n219 laysM144_ren))),
  f224 := Eq.trans Try.func190 (congrArg some (Eq.refl (Body.n224 laysM144_ren))),
  f225 := Eq.trans Try.func189 (congrArg some (Eq.refl (Body.n225 laysM144_ren))),
  f266 := Eq.trans Try.func192 (congrArg some (Eq.refl (Body.n266 laysM144_ren))),
  f267 := Eq.trans Try.func191 (congrArg some (Eq.refl (Body.n267 laysM144_ren))),
  f314 := Eq.trans Try.func193 (congrArg some (Eq.refl (Body.n314 laysM144_ren))), t3 := Try.underlying3,
  a3 := Try.isAgg3, z3 := Try.sizeOf3, v3 := Try.zeroValue3, t4 := Try.underlying4, a4 := Try.isAgg4, z4 := Try.sizeOf4,
  v4 := Try.zeroValue4, t5 := Try.underlying5, a5 := Try.isAgg5, z5 := Try.sizeOf5, v5 := Try.zeroValue5,
  t9 := Try.underlying9, a9 := Try.isAgg9, z9 := Try.sizeOf9, v9 := Try.zeroValue9, t46 := Try.underlying137,
  a46 := Try.isAgg137, z46 := Try.sizeOf137, v46 := Try.zeroValue137, t51 := Try.underlying169, a51 := Try.isAgg169,
  z51 := Try.sizeOf169, v51 := Try.zeroValue169, t146 := Try.underlying232, a146 := Try.isAgg232, z146 := Try.sizeOf232,
  v146 := Try.zeroValue232, g1 := by kernel_rfl,
  i3 := by kernel_rfl, i4 := by kernel_rfl,
  i5 := by kernel_rfl,
  i9 := by kernel_rfl,
  i46 := by kernel_rfl,
  i51 := by kernel_rfl,
  i146 := by kernel_rfl,
  m1 := by kernel_rfl,
  s1_3 := fun w h => Go.Proofs.cell_of_shapedOpen_int h (zero := #[Go.Value.int Go.IntKind.i64 0]) (t := 3) (of_decide_eq_true (by kernel_rfl)) (by kernel_rfl) rfl (by kernel_rfl) (by kernel_rfl) Try.underlying3 }
def gMax : Nat := laysM144_ren.g 1
theorem hasC {σ : Sig} (hg : σ.g = some gMax) : HasC σ := by
 intro s t H hs
 refine ⟨⟨_, Try.func180, by kernel_rfl, by kernel_rfl⟩, fun B w0 E w vs hσ hst hx => ?_⟩
 obtain ⟨_, m, hm⟩ := hst.glNow gMax (by rw [hσ]; exact hg)
 have hl := hx.len
 obtain ⟨v0, v1, rfl⟩ : ∃ v0 v1, vs = #[v0, v1] := by
  obtain ⟨l⟩ := vs
  match l, hl with
  | [a, b], _ => exact ⟨a, b, rfl⟩
 have r0 := hx.at_ 0 _ v0 rfl (by simp)
 have r1 := hx.at_ 1 _ v1 rfl (by simp)
 cases r0
 cases r1
 refine (Any.strings_Contains (ρ := laysM144_ren) { laysM144 with } s t m w hs hm).mono fun e w' he => ?_
 obtain ⟨rfl, rfl⟩ := he
 exact ⟨E, _, rfl, .refl E, hst, .lit _⟩
theorem gMax_ok (W : World) (h : W.ShapedOpen Try.prog) {σ : Sig} (hg : σ.g = some gMax) : ∀ g, σ.g = some g → ∃ m : Int, W.cell? ⟨g, 0, none⟩ = some (.int .i64 m) := by
 intro g hg'
 rw [hg] at hg'
 cases hg'
 exact laysM144.s1_3 W h
end Go.Proofs.Ytaoegkmfgfefgaa.Ev
namespace Go.Proofs.Ytaoegkmfgfefgaa.Ev
set_option linter.unusedVariables false
set_option linter.unusedSimpArgs false
variable {σ : Sig}
structure RlWf (r : RL) : Prop where
 sels : slsWf Lmax r.sels
 setsL : r.sets.length ≤ Lmax
 sets : ∀ s ∈ r.sets, i64 s.prop ∧ i64 s.kind ∧ i64 s.n
def rlsWf (l : List RL) : Prop := l.length ≤ Lmax ∧ ∀ r ∈ l, RlWf r
theorem d_sets {ts : List Nat} {zs : List AV} (h : Sh tiT.get (T_sl_api_Set :: ts) zs) : ∃ (l : List ST) (ys : List AV), zs = .imm 4 (l.map encST) :: ys ∧ (l.length ≤ Lmax ∧ ∀ s ∈ l, i64 s.prop ∧ i64 s.kind ∧ i64 s.n) ∧ Sh tiT.get ts ys := by
 obtain ⟨rows, ys, e, hr, hm, hs⟩ := d_slice T_sl_api_Set_is (sz_of T_api_Set_is) h
 obtain ⟨l, hl, hp⟩ := rows_map (f := encST) (P := fun s => i64 s.prop ∧ i64 s.kind ∧ i64 s.n) fun row hrow => by
  obtain ⟨p, y1, e1, w1, h2⟩ := d_int (d_struct T_api_Set_is (hr row hrow))
  obtain ⟨k, y2, e2, w2, h3⟩ := d_int (d_struct T_api_Value_is h2)
  obtain ⟨n, y3, e3, w3, h4⟩ := d_int h3
  obtain ⟨b, y4, e4, h5⟩ := d_bool h4
  rw [sh_nil h5] at e4
  exact ⟨⟨p, k, n, b⟩, by rw [e1, e2, e3, e4]; rfl, w1, w2, w3⟩
 exact ⟨l, ys, by rw [e, hl], ⟨by rw [hl] at hm; simpa using hm, hp⟩, hs⟩
theorem d_rules {ts : List Nat} {zs : List AV} (h : Sh tiT.get (T_sl_api_Rule :: ts) zs) : ∃ (l : List RL) (ys : List AV), zs = rls l :: ys ∧ rlsWf l ∧ Sh tiT.get ts ys := by
 obtain ⟨rows, ys, e, hr, hm, hs⟩ := d_slice T_sl_api_Rule_is (sz_of T_api_Rule_is) h
 obtain ⟨l, hl, hp⟩ := rows_map (f := encRL) (P := RlWf) fun row hrow => by
  obtain ⟨s, y1, e1, w1, h2⟩ := d_sels (d_struct T_api_Rule_is (hr row hrow))
  obtain ⟨t, y2, e2, w2, h3⟩ := d_sets h2
  rw [sh_nil h3] at e2
  exact ⟨⟨s, t⟩, by rw [e1, e2]; rfl, w1, w2.1, w2.2⟩
 exact ⟨l, ys, by rw [e, hl]; rfl, ⟨by rw [hl] at hm; simpa using hm, hp⟩, hs⟩
def readR : List Nat := readB ++ [T_sl_api_Rule, T_api_Rule, T_sl_api_Set, T_api_Set, T_api_Value]
theorem readR_closed : closedB tiT.get readR = true := by kernel_rfl
theorem v_rules {x : AV} (h : ShV tiT.get T_sl_api_Rule x) : ∃ l, x = rls l ∧ rlsWf l := by
 obtain ⟨l, ys, e, w, hn⟩ := d_rules (v_one T_sl_api_Rule_is rfl h)
 cases e
 exact ⟨l, rfl, w⟩
theorem bk_rl (r : RL) : bkL (encRL r) = (bkLL (r.sels.map encSl) + 1) + (bkLL (r.sets.map encST) + 1) := by
 unfold encRL sls
 simp only [bkL, bk_imm, Nat.add_zero]
theorem bk_rls (l : List RL) : bk (rls l) = bkLL (l.map encRL) + 1 := by unfold rls; rw [bk_imm]
def allSels (l : List RL) : List Sl := l.flatMap (·.sels)
structure Fit12 (l : List RL) : Prop where
 len : l.length ≤ 30
 sels : ∀ r ∈ l, r.sels.length ≤ 8
 sets : ∀ r ∈ l, r.sets.length ≤ 30
 fit : ∀ r ∈ l, ∀ s ∈ r.sels, FitL 11 [s]
section
theorem dear12_drop {K : AV → Hp → Prop} {y0 y3 y3' y4 y5 y6 : AV} {H : Hp} (hf : Fz H y3 y3') (h : law12_Dear.L1 σ K y0 y3' y4 y5 y6 (Hp.bare H.n)) : law12_Dear.L1 σ K y0 y3 y4 y5 y6 H :=
 fun js => LoopP.drop (.same (.same (.same (.fz hf (FzTr _))))) (h js)
end
theorem all_len {l : List RL} (h : ∀ r ∈ l, r.sels.length ≤ 8) : (allSels l).length ≤ 8 * l.length := by
 induction l with
 | nil => simp [allSels]
 | cons r l ih =>
  have h1 := h r (by simp)
  have h2 := ih fun r hr => h r (by simp [hr])
  unfold allSels at h2 ⊢
  rw [List.flatMap_cons, List.length_append, List.length_cons]
  omega
section
attribute [local irreducible] law12_Dear.L0 law12_Dear.L1
theorem Dear12_ok (l : List RL) (hl : rlsWf l) : ∃ b, (∀ H, Good Try.prog σ n_law12_Dear [rls l] H (Bo b) H) ∧ (b = false → Fit12 l) := by
 have run : ∃ r H1, Good Try.prog σ n_law12_Dear [rls l] Hp.empty r H1 ∧ ∃ b, r = Bo b ∧ (b = false → Fit12 l) := by
  obtain ⟨K, hKd⟩ : ∃ K : AV → Hp → Prop, ∀ r H1, K r H1 ↔ ∃ b, r = Bo b ∧ (b = false → Fit12 l) := ⟨_, fun _ _ => Iff.rfl⟩
  have kt : ∀ H, K (Bo true) H := fun H => (hKd _ _).2 ⟨true, rfl, fun h => by cases h⟩
  suffices h : ∃ r H1, Good Try.prog σ n_law12_Dear [rls l] Hp.empty r H1 ∧ K r H1 by
   obtain ⟨r, H1, a, b⟩ := h
   exact ⟨r, H1, a, (hKd _ _).1 b⟩
  refine law12_Dear.run ?_
  simp only [len_rls, bnd_some, b_gtr, ifB_lit, decide_eq_true_eq]
  split
  ·exact kt _
  rename_i h30
  have L1 : ∀ (all : List Sl), all = allSels l → (∀ r ∈ l, r.sels.length ≤ 8) → (∀ r ∈ l, r.sets.length ≤ 30) → ∀ (f j : Nat) (H : Hp) (n : Int) (y4 : AV), all.length - j = f → j ≤ all.length → (∀ s ∈ all.take j, FitL 11 [s]) → law12_Dear.L1 σ K (rls l) (sls all) y4 (I n) (I (j : Int)) H := by
   intro all hall h8 hst f
   have hal : all.length ≤ 240 := by
    have := all_len h8
    rw [hall]; omega
   have hawf : ∀ s ∈ all, slWf Lmax s := by
    intro s hs
    rw [hall] at hs
    obtain ⟨r, hr, hs⟩ := List.mem_flatMap.1 hs
    exact (hl.2 r hr).sels.2 s hs
   induction f with
   | zero =>
    intro j H n y4 hf hj hfit
    have : j = all.length := by omega
    subst this
    rw [List.take_length] at hfit
    refine law12_Dear.L1_step ?_
    simp only [len_sls, bnd_some, b_lss, Int.lt_irrefl, decide_false, ifB_lit, Bool.false_eq_true, if_false, b_gtr]
    rw [hKd]
    refine ⟨_, rfl, fun _ => ⟨by omega, h8, hst, fun r hr s hs => hfit s ?_⟩⟩
    rw [hall]
    exact List.mem_flatMap.2 ⟨r, hr, hs⟩
   | succ f ih =>
    intro j H n y4 hf hj hfit
    have hlt : j < all.length := by omega
    have hlt' : (j : Int) < all.length := by omega
    obtain ⟨s, hs⟩ := get_lt hlt
    have hsm := List.mem_of_getElem? hs
    obtain ⟨b, hd, hf1⟩ := Dear_ok (σ := σ) [s] ⟨by show 1 ≤ Lmax; decide, fun s' h => by rw [List.mem_singleton.1 h]; exact hawf s hsm⟩
    refine law12_Dear.L1_step ?_
    have hix : ixaSl 1 (sls all) (I (j : Int)) = some (.ip (encSl s)) := ix_map hs
    have hw : wr .i64 ((j : Int) + 1) = ((j + 1 : Nat) : Int) := wr_succ (by omega)
    simp only [len_sls, bnd_some, b_lss, hlt', decide_true, ifB_lit, if_true, b_add, hw, sl_one hs]
    refine callK_of (hd _) ?_
    simp only [ifB_lit]
    cases hb : b with
    | true => simp only [if_true]; exact kt _
    | false =>
     simp only [Bool.false_eq_true, if_false, hix, bnd_some, sh_ip, List.drop_zero, ld_ip, f_encSl0, len_imm, List.length_map, b_add]
     refine ih (j + 1) H _ y4 (by omega) (by omega) fun s' hs' => ?_
     rw [List.take_add_one, hs] at hs'
     rcases List.mem_append.1 hs' with h | h
     ·exact hfit s' h
     ·simp at h; subst h; exact hf1 hb
  have L0 : ∀ (f m : Nat) (H : Hp) (y3 y5 y6 : AV), l.length - m = f → m ≤ l.length → (∀ r ∈ l.take m, r.sels.length ≤ 8) → (∀ r ∈ l.take m, r.sets.length ≤ 30) → Gs 1 H y3 ((allSels (l.take m)).map encSl) → law12_Dear.L0 σ K (rls l) y3 (I (m : Int)) y5 y6 H := by
   intro f
   induction f with
   | zero =>
    intro m H y3 y5 y6 hf hm h8 hst hg
    have : m = l.length := by omega
    subst this
    rw [List.take_length] at h8 hst hg
    refine law12_Dear.L0_step ?_
    simp only [len_rls, bnd_some, b_lss, Int.lt_irrefl, decide_false, ifB_lit, Bool.false_eq_true, if_false]
    exact dear12_drop (hg.fz (noIds_map _ noId_Sl _)) (L1 _ rfl h8 hst _ 0 _ 0 _ rfl (Nat.zero_le _) (fun s h => by simp at h))
   | succ f ih =>
    intro m H y3 y5 y6 hf hm h8 hst hg
    have hlt : m < l.length := by omega
    have hlt' : (m : Int) < l.length := by omega
    obtain ⟨r, hr⟩ := get_lt hlt
    have hix : ixaSl 2 (rls l) (I (m : Int)) = some (.ip (encRL r)) := ix_map hr
    have e1 : ldA false 1 H (.ip (encRL r)) = some (sls r.sels) := rfl
    have e2 : ldA false 1 H (.ip ((encRL r).drop 1)) = some (.imm 4 (r.sets.map encST)) := rfl
    refine law12_Dear.L0_step ?_
    simp only [len_rls, bnd_some, b_lss, hlt', decide_true, ifB_lit, if_true, hix, sh_ip, List.drop_zero, e1, e2, len_sls, len_imm, List.length_map, b_gtr, decide_eq_true_eq]
    split
    ·exact kt _
    split
    ·exact kt _
    rename_i q1 q2
    have hal := all_len h8
    rw [List.length_take] at hal
    have hone : ((r.sels.map encSl).flatten).all AV.one = true := by
     rw [List.all_eq_true]; intro x hx
     obtain ⟨q, hq, hx⟩ := List.mem_flatten.1 hx
     obtain ⟨s, _, rfl⟩ := List.mem_map.1 hq
     exact List.all_eq_true.1 (one_Sl s) x hx
    refine bnd_app (y := .imm 1 (r.sels.map encSl)) hg rfl src_imm (fun q hq => by obtain ⟨s, _, rfl⟩ := List.mem_map.1 hq; rfl) hone (by simp only [List.length_map]; omega) (by simp only [List.length_map]; omega) fun x' H' g' _ => ?_
    rw [b_add, bnd_some, wr_succ (by omega)]
    have htk : l.take (m + 1) = l.take m ++ [r] := by rw [List.take_add_one, hr]; rfl
    refine ih (m + 1) H' x' _ _ (by omega) (by omega) ?_ ?_ ?_
    ·intro q hq
     rw [htk] at hq
     rcases List.mem_append.1 hq with h | h
     ·exact h8 q h
     ·simp at h; subst h; omega
    ·intro q hq
     rw [htk] at hq
     rcases List.mem_append.1 hq with h | h
     ·exact hst q h
     ·simp at h; subst h; omega
    ·rw [htk]
     have : allSels (l.take m ++ [r]) = allSels (l.take m) ++ r.sels := by unfold allSels; simp
     rw [this, List.map_append]
     exact g'
  exact L0 _ 0 _ _ _ _ rfl (Nat.zero_le _) (fun r h => by simp at h) (fun r h => by simp at h) (by simpa [allSels] using Gs.nil)
 obtain ⟨r, H1, hg, b, rfl, hb⟩ := run
 exact ⟨b, fun H => hg.over (by simp [noIds]) rfl H, hb⟩
end
theorem rules_ok {l : List RL} (hl : rlsWf l) (hf : Fit12 l) (hb : bkLL (l.map encRL) ≤ NB) : ∀ r ∈ l, ∀ s ∈ r.sels, slWf Lmax s ∧ s.length ≤ 1048576 ∧ SelOk 11 [s] ∧ TxL 11 [s] := by
 intro r hr s hs
 have hN : NB = 1048576 := rfl
 have h1 := mem_bk (f := encRL) hr
 rw [bk_rl] at h1
 have h2 := mem_bk (f := encSl) hs
 have hw := (hl.2 r hr).sels.2 s hs
 have h3 : s.length ≤ bkLL (s.map encPt) := len_bk fun p _ => by rw [bk_pt]; omega
 have h4 := h2
 rw [bk_sl] at h4
 refine ⟨hw, by omega, sel_bulk ⟨by show 1 ≤ Lmax; decide, fun s' h => by rw [List.mem_singleton.1 h]; exact hw⟩ (hf.fit r hr s hs) ?_⟩
 simp only [List.map_cons, List.map_nil, bkLL]
 omega
end Go.Proofs.Ytaoegkmfgfefgaa.Ev
namespace Go.Proofs.Ytaoegkmfgfefgaa.Ev
set_option linter.unusedVariables false
set_option linter.unusedSimpArgs false
variable {σ : Sig}
section
attribute [local irreducible] reval_kept_api_Selector.L0 reval_kept_api_Selector.J1
theorem kept_ok (l : List Sl) (hl : l.length ≤ 1000000) (hs : ∀ s ∈ l, s.length < 9000000000000000000) (H : Hp) : Good Try.prog σ n_reval_kept_api_Selector [sls l, .fn n_reval_Needs []] H (sls (l.filter needs)) H := by
 obtain ⟨Q, hQ⟩ : ∃ Q : AV → Hp → Prop, ∀ r H1, Q r H1 ↔ Gs 1 H1 r ((l.filter needs).map encSl) := ⟨_, fun _ _ => Iff.rfl⟩
 have run : ∃ r H1, Good Try.prog σ n_reval_kept_api_Selector [sls l, .fn n_reval_Needs []] Hp.empty r H1 ∧ Q r H1 := by
  refine reval_kept_api_Selector.run ?_
  rw [len_sls, bnd_some]
  have L0 : ∀ (f k : Nat) (H : Hp) (y5 : AV), l.length - k = f → k ≤ l.length → Gs 1 H y5 (((l.take k).filter needs).map encSl) → reval_kept_api_Selector.L0 σ Q (.fn n_reval_Needs []) y5 (sls l) (I (l.length : Int)) (I (k : Int)) H := by
   intro f
   induction f with
   | zero =>
    intro k H y5 hf hk hg
    have : k = l.length := by omega
    subst this
    rw [List.take_length] at hg
    refine reval_kept_api_Selector.L0_step ?_
    simp only [b_lss, bnd_some, Int.lt_irrefl, decide_false, ifB_lit, Bool.false_eq_true, if_false]
    exact (hQ _ _).2 hg
   | succ f ih =>
    intro k H y5 hf hk hg
    have hlt : k < l.length := by omega
    have hlt' : (k : Int) < l.length := by omega
    obtain ⟨s, hsk⟩ := get_lt hlt
    have hix : ixaSl 1 (sls l) (I (k : Int)) = some (.ip (encSl s)) := ix_map hsk
    have htk : l.take (k + 1) = l.take k ++ [s] := by rw [List.take_add_one, hsk]; rfl
    have J1 : ∀ (H : Hp) (y5 : AV), Gs 1 H y5 (((l.take (k + 1)).filter needs).map encSl) → reval_kept_api_Selector.J1 σ Q (.fn n_reval_Needs []) y5 (sls l) (I (l.length : Int)) (I (k : Int)) H := by
     intro H y5 hg
     refine reval_kept_api_Selector.J1_step ?_
     rw [b_add, bnd_some, wr_succ (by omega)]
     exact ih (k + 1) H y5 (by omega) (by omega) hg
    refine reval_kept_api_Selector.L0_step ?_
    simp only [b_lss, bnd_some, hlt', decide_true, ifB_lit, if_true, hix, ld_ip, ldL_sl, allocK_eq]
    obtain ⟨H2, hH2⟩ : ∃ H2, H2 = (H.new (.cells [.lit (.slice none 0 0)] true)).set H.n (some (.cells (encSl s) true)) := ⟨_, rfl⟩
    refine bnd_of (x := H2) ?_ ?_
    ·rw [st_agg, hH2]
     simp only [hp_get_new, if_true]
     rfl
    have hg2 : Gs 1 H2 y5 (((l.take k).filter needs).map encSl) := by
     refine hg.keep (fun j hj => ?_) (by rw [hH2]; simp)
     have h1 := hg.lt hj
     have h2 : j ≠ H.n := by omega
     rw [hH2]
     simp [h2]
    have hl2 : ldA true 1 H2 (.ptr H.n 0) = some (.agg (encSl s)) := by rw [hH2]; simp
    rw [hl2, bnd_some]
    refine callK_of (needs_ok s (hs s (List.mem_of_getElem? hsk)) _) ?_
    simp only [ifB_lit]
    cases hn : needs s with
    | true =>
     simp only [if_true]
     rw [hl2, bnd_some]
     have hlen : (((l.take k).filter needs).map encSl).length ≤ k := by
      rw [List.length_map]
      exact Nat.le_trans (List.length_filter_le _ _) (by rw [List.length_take]; omega)
     refine bnd_app1 (y := .agg (encSl s)) hg2 rfl rfl (one_Sl s) (by omega) (by omega) fun x' H' g' _ => J1 _ _ ?_
     rw [htk, List.filter_append, List.map_append]
     simpa [hn] using g'
    | false =>
     simp only [Bool.false_eq_true, if_false]
     refine J1 _ _ ?_
     rw [htk, List.filter_append, List.map_append]
     simpa [hn] using hg2
  exact L0 _ 0 _ _ rfl (Nat.zero_le _) (by simpa using Gs.nil)
 obtain ⟨r, H1, hg, hq⟩ := run
 exact hg.frzR (by simp [noIds, noId]) ((hQ _ _).1 hq |>.fz (noIds_map _ noId_Sl _)) H
end
def needL (l : List RL) : List Sl := (allSels l).filter needs
theorem needL_app (a b : List RL) : needL (a ++ b) = needL a ++ needL b := by unfold needL allSels; simp
structure Rl8 (l : List RL) : Prop where
 len : l.length ≤ 60
 sels : ∀ r ∈ l, r.sels.length ≤ 8
 parts : ∀ r ∈ l, ∀ s ∈ r.sels, s.length < 9000000000000000000
theorem needL_len {l : List RL} (h : ∀ r ∈ l, r.sels.length ≤ 8) : (needL l).length ≤ 8 * l.length := Nat.le_trans (List.length_filter_le _ _) (all_len h)
section
end
theorem rneeds_pt (p : Pt) : needsPt p = (decide ((0 : Int) < p.c.attrs.length) || (decide ((0 : Int) < p.c.pseudos.length) || (decide (p.comb = 3) || decide (p.comb = 4)))) := by
 unfold needsPt
 have e1 : decide ((0 : Int) < p.c.attrs.length) = decide (0 < p.c.attrs.length) := by rw [decide_eq_decide]; omega
 have e2 : decide ((0 : Int) < p.c.pseudos.length) = decide (0 < p.c.pseudos.length) := by rw [decide_eq_decide]; omega
 rw [e1, e2]
section
attribute [local irreducible] ref9_Needs.L0
theorem rneeds_ok (s : Sl) (hs : s.length < 9000000000000000000) (H : Hp) : Good Try.prog σ n_ref9_Needs [.agg (encSl s)] H (Bo (needs s)) H := by
 refine good_by (fun K hK => ref9_Needs.run ?_) (by simp [noIds, noId, noId_Sl]) rfl H
 simp only [boxK_agg]
 have L0 : ∀ (f k : Nat) (H : Hp), s.length - k = f → k ≤ s.length → 0 < H.n → H.get 0 = some (.cells (encSl s) true) → (∀ H', K (Bo ((s.drop k).any needsPt)) H') → ref9_Needs.L0 σ K (.ptr 0 0) (I (k : Int)) H := by
  intro f
  induction f with
  | zero =>
   intro k H hf hk hn hg hK
   have : k = s.length := by omega
   subst this
   have l0 : ldA false 1 H (.ptr 0 0) = some (.imm 6 (s.map encPt)) := by simp [hg, encSl]
   refine ref9_Needs.L0_step ?_
   simp only [sh_ptr, Nat.zero_add, bnd_some, l0, len_imm, List.length_map, b_lss, Int.lt_irrefl, decide_false, ifB_lit, Bool.false_eq_true, if_false]
   simpa using hK H
  | succ f ih =>
   intro k H hf hk hn hg hK
   have hlt : k < s.length := by omega
   have hlt' : (k : Int) < s.length := by omega
   obtain ⟨p, hp⟩ := get_lt hlt
   rw [drop_get hp, List.any_cons, rneeds_pt] at hK
   have l0 : ldA false 1 H (.ptr 0 0) = some (.imm 6 (s.map encPt)) := by simp [hg, encSl]
   have hix : ixaSl 6 (.imm 6 (s.map encPt)) (I (k : Int)) = some (.ip (encPt p)) := ix_map hp
   have l5 : ldA true 5 H (.ip ((encPt p).drop 1)) = some (.agg (encCp p.c)) := by rw [encPt_eq]; simp
   refine ref9_Needs.L0_step ?_
   simp only [sh_ptr, Nat.zero_add, bnd_some, l0, len_imm, List.length_map, b_lss, hlt', decide_true, ifB_lit, if_true, hix, sh_ip, l5, allocK_eq]
   obtain ⟨H2, hH2⟩ : ∃ H2, H2 = (H.new (.cells [.lit (.string ⟨#[]⟩), .lit (.slice none 0 0), .lit (.slice none 0 0), .lit (.slice none 0 0), .lit (.slice none 0 0)] true)).set H.n (some (.cells (encCp p.c) true)) := ⟨_, rfl⟩
   refine bnd_of (x := H2) ?_ ?_
   ·rw [st_agg, hH2]
    simp only [hp_get_new, if_true, stO_cells, len_encCp]
    rw [if_pos ⟨by decide, one_Cp _⟩, ov_Cp _ rfl]
   have h0 : (0 : Nat) ≠ H.n := by omega
   have hg2 : H2.get 0 = some (.cells (encSl s) true) := by rw [hH2]; simp [h0, hg]
   have l02 : ldA false 1 H2 (.ptr 0 0) = some (.imm 6 (s.map encPt)) := by simp [hg2, encSl]
   have lk : ldA false 1 H2 (.ip (encPt p)) = some (I p.comb) := by simp
   have la : ldA false 1 H2 (.ptr H.n 3) = some (.imm 3 (p.c.attrs.map encAt)) := by rw [hH2, ld_ptr, hp_get_set, if_pos rfl, ldO_cells, f_encCp3]
   have lp : ldA false 1 H2 (.ptr H.n 4) = some (.imm 4 (p.c.pseudos.map encPs)) := by rw [hH2, ld_ptr, hp_get_set, if_pos rfl, ldO_cells, f_encCp4]
   have n2 : H2.n = H.n + 1 := by rw [hH2]; rfl
   rw [l02]
   simp only [bnd_some, hix, sh_ip, List.drop_zero, lk, la, lp, len_imm, List.length_map, b_gtr, b_eql, ifB_lit, decide_eq_true_eq]
   split
   ·rename_i h; simp only [h, decide_true, Bool.true_or, Bool.or_true] at hK; exact hK H2
   rename_i q1
   split
   ·rename_i h; simp only [h, decide_true, Bool.true_or, Bool.or_true] at hK; exact hK H2
   rename_i q2
   split
   ·rename_i h; simp only [h, decide_true, Bool.true_or, Bool.or_true] at hK; exact hK H2
   rename_i q3
   split
   ·rename_i h; simp only [h, decide_true, Bool.true_or, Bool.or_true] at hK; exact hK H2
   rename_i q4
   rw [b_add, bnd_some, wr_succ (by omega)]
   exact ih (k + 1) H2 (by omega) (by omega) (by omega) hg2 (by simp only [q1, q2, q3, q4, decide_false, Bool.false_or] at hK; exact hK)
 exact L0 _ 0 _ rfl (Nat.zero_le _) (by simp) (by simp [Hp.empty]) hK
end
section
attribute [local irreducible] ref9_NeedList.L0 ref9_NeedList.L1 ref9_NeedList.J2
theorem NeedList_ok (l : List RL) (hl : Rl8 l) (H : Hp) : Good Try.prog σ n_ref9_NeedList [rls l] H (sls (needL l)) H := by
 have hlen := hl.len
 obtain ⟨Q, hQ⟩ : ∃ Q : AV → Hp → Prop, ∀ r H1, Q r H1 ↔ Gs 1 H1 r ((needL l).map encSl) := ⟨_, fun _ _ => Iff.rfl⟩
 have run : ∃ r H1, Good Try.prog σ n_ref9_NeedList [rls l] Hp.empty r H1 ∧ Q r H1 := by
  refine ref9_NeedList.run ?_
  have L0 : ∀ (f k : Nat) (H1 : Hp) (y3 y5 : AV), l.length - k = f → k ≤ l.length → Gs 1 H1 y3 ((needL (l.take k)).map encSl) → ref9_NeedList.L0 σ Q (rls l) y3 (I (k : Int)) y5 H1 := by
   intro f
   induction f with
   | zero =>
    intro k H1 y3 y5 hf hk hg
    have : k = l.length := by omega
    subst this
    rw [List.take_length] at hg
    refine ref9_NeedList.L0_step ?_
    simp only [len_rls, b_lss, bnd_some, Int.lt_irrefl, decide_false, ifB_lit, Bool.false_eq_true, if_false]
    exact (hQ _ _).2 hg
   | succ f ih =>
    intro k H1 y3 y5 hf hk hg
    have hlt : k < l.length := by omega
    have hlt' : (k : Int) < l.length := by omega
    obtain ⟨r, hr⟩ := get_lt hlt
    have hrm := List.mem_of_getElem? hr
    have hix : ixaSl 2 (rls l) (I (k : Int)) = some (.ip (encRL r)) := ix_map hr
    have htk : l.take (k + 1) = l.take k ++ [r] := by rw [List.take_add_one, hr]; rfl
    have h8 := hl.sels r hrm
    have hnl := needL_len (l := l.take k) fun r hr => hl.sels r (List.mem_of_mem_take hr)
    rw [List.length_take] at hnl
    refine ref9_NeedList.L0_step ?_
    simp only [len_rls, b_lss, bnd_some, hlt', decide_true, ifB_lit, if_true]
    have L1 : ∀ (g i : Nat) (H : Hp) (y3 : AV), r.sels.length - i = g → i ≤ r.sels.length → Gs 1 H y3 ((needL (l.take k) ++ (r.sels.take i).filter needs).map encSl) → ref9_NeedList.L1 σ Q (rls l) y3 (I (k : Int)) (I (i : Int)) H := by
     intro g
     induction g with
     | zero =>
      intro i H y3 hg' hi hgs
      have : i = r.sels.length := by omega
      subst this
      rw [List.take_length] at hgs
      have lr : ldA false 1 H (.ip (encRL r)) = some (sls r.sels) := rfl
      refine ref9_NeedList.L1_step ?_
      simp only [hix, bnd_some, sh_ip, List.drop_zero, lr, len_sls, b_lss, Int.lt_irrefl, decide_false, ifB_lit, Bool.false_eq_true, if_false, b_add]
      rw [wr_succ (by omega)]
      refine ih (k + 1) H y3 _ (by omega) (by omega) ?_
      rw [htk, needL_app]
      have : needL [r] = r.sels.filter needs := by simp [needL, allSels]
      rw [this]
      exact hgs
     | succ g ihg =>
      intro i H y3 hg' hi hgs
      have hil : i < r.sels.length := by omega
      have hil' : (i : Int) < r.sels.length := by omega
      obtain ⟨s, hs⟩ := get_lt hil
      have hsm := List.mem_of_getElem? hs
      have lr : ∀ H : Hp, ldA false 1 H (.ip (encRL r)) = some (sls r.sels) := fun _ => rfl
      have his : ixaSl 1 (sls r.sels) (I (i : Int)) = some (.ip (encSl s)) := ix_map hs
      have hti : r.sels.take (i + 1) = r.sels.take i ++ [s] := by rw [List.take_add_one, hs]; rfl
      have J2 : ∀ (H : Hp) (y3 : AV), Gs 1 H y3 ((needL (l.take k) ++ (r.sels.take (i + 1)).filter needs).map encSl) → ref9_NeedList.J2 σ Q (rls l) y3 (I (k : Int)) (I (i : Int)) H := by
       intro H y3 hgs
       refine ref9_NeedList.J2_step ?_
       rw [b_add, bnd_some, wr_succ (by omega)]
       exact ihg (i + 1) H y3 (by omega) (by omega) hgs
      refine ref9_NeedList.L1_step ?_
      simp only [hix, bnd_some, sh_ip, List.drop_zero, lr, len_sls, b_lss, hil', decide_true, ifB_lit, if_true, his, ld_ip, ldL_sl, f_encRL0]
      refine callK_of (rneeds_ok s (hl.parts r hrm s hsm) _) ?_
      simp only [ifB_lit]
      cases hn : needs s with
      | true =>
       simp only [if_true]
       have hfl := List.length_filter_le needs (r.sels.take i)
       rw [List.length_take] at hfl
       refine bnd_app1 (y := .agg (encSl s)) hgs rfl rfl (one_Sl s) (by rw [List.length_map, List.length_append]; omega) (by rw [List.length_map, List.length_append]; omega) fun x' H' g' _ => J2 _ _ ?_
       rw [hti, List.filter_append, ← List.append_assoc, List.map_append]
       simpa [hn] using g'
      | false =>
       simp only [Bool.false_eq_true, if_false]
       refine J2 _ _ ?_
       rw [hti, List.filter_append]
       simpa [hn] using hgs
    exact L1 _ 0 _ _ rfl (Nat.zero_le _) (by simpa using hg)
  exact L0 _ 0 _ _ _ rfl (Nat.zero_le _) (by simpa [needL, allSels] using Gs.nil)
 obtain ⟨r, H1, hg, hq⟩ := run
 exact hg.frzR (by simp [noIds, noId]) ((hQ _ _).1 hq |>.fz (noIds_map _ noId_Sl _)) H
end
end Go.Proofs.Ytaoegkmfgfefgaa.Ev
namespace Go.Proofs.Ytaoegkmfgfefgaa.Ev
set_option linter.unusedVariables false
set_option linter.unusedSimpArgs false
variable {σ : Sig}
section
end
section
end
section
end
end Go.Proofs.Ytaoegkmfgfefgaa.Ev
namespace Go.Proofs.Ytaoegkmfgfefgaa.Ev
open Go.RowKit
set_option linter.unusedVariables false
set_option linter.unusedSimpArgs false
set_option maxRecDepth 100000
variable {σ : Sig}
theorem NdSm.low {n : Nd} (h : NdSm n) : SmN (lowN n) := by
 have r : reachBytes = 140737488351232 := rfl
 refine ⟨by have := h.classes; show n.classes.length ≤ _; omega, by have := h.attrs; show (n.attrs.map lowPr).length ≤ _; rw [List.length_map]; omega, fun p hp => ?_⟩
 obtain ⟨q, hq, rfl⟩ := List.mem_map.1 hp
 have := (h.at' q hq).2
 show q.2.data.size < _
 omega
theorem TreeOk.smN {L : List Nd} {d : List Nat} (h : TreeOk L d) : ∀ e, e < L.length → SmN (lowN (ndAt L e)) := by
 intro e he
 refine (h.sm _ ?_).low
 unfold ndAt
 rw [List.getD_eq_getElem?_getD, List.getElem?_eq_getElem he]
 exact List.getElem_mem _
theorem TreeOk.mc {L : List Nd} {d : List Nat} (h : TreeOk L d) (hC : HasC σ) : McT σ L d := ⟨hC, h.hB, by have := h.len; omega, h.smN⟩
section
end
def sigM : Sig := ⟨fun _ => 0, fun _ => false, fun _ => ⟨#[]⟩, some gMax⟩
theorem sigM_g : sigM.g = some gMax := rfl
end Go.Proofs.Ytaoegkmfgfefgaa.Ev
namespace Go.Proofs.Ytaoegkmfgfefgaa.Ev
open Go.RowKit
set_option linter.unusedVariables false
set_option linter.unusedSimpArgs false
set_option maxRecDepth 100000
variable {σ : Sig}
theorem Fit12.rl8 {l : List RL} (h : Fit12 l) : Rl8 l := by
 refine ⟨by have := h.len; omega, h.sels, fun r hr s hs => ?_⟩
 have := (h.fit r hr s hs s (by simp)).1
 omega
theorem Nest.all {f : Nat} {l : List Sl} (hf : 0 < f) (h : ∀ s ∈ l, Nest f [s]) : Nest f l := by
 cases f with
 | zero => omega
 | succ f => exact fun s hs => h s hs s (by simp)
theorem needL_mem {l : List RL} {s : Sl} (h : s ∈ needL l) : ∃ r ∈ l, s ∈ r.sels := by
 unfold needL at h
 obtain ⟨r, hr, hs⟩ := List.mem_flatMap.1 (List.mem_filter.1 h).1
 exact ⟨r, hr, hs⟩
end Go.Proofs.Ytaoegkmfgfefgaa.Ev
namespace Go.Proofs.Ytaoegkmfgfefgaa.Ev
set_option linter.unusedVariables false
set_option linter.unusedSimpArgs false
variable {σ : Sig}
def encB (b : Bool) : List AV := [Bo b]
def bools (l : List Bool) : AV := .imm 1 (l.map encB)
@[simp] theorem noId_bools (l : List Bool) : noId (bools l) = true := by unfold bools; simp only [noId]; exact noIds_map _ (fun _ => rfl) l
@[simp] theorem len_bools (l : List Bool) : lenSl (bools l) = some (.lit (.int .i64 l.length)) := by simp [bools]
section
attribute [local irreducible] slices_Equal_string_string.L0 slices_Equal_bool_bool.L0 ref9_SameBits.L0
theorem EqStr_ok (a b : List ByteArray) (ha : a.length ≤ reachBytes) (H : Hp) : Good Try.prog σ n_slices_Equal_string_string [strs a, strs b] H (Bo (decide (a = b))) H := by
 refine good_by (fun K hK => slices_Equal_string_string.run ?_) (by simp [noIds]) rfl H
 simp only [len_strs, bnd_some, b_neq, ifB_lit]
 by_cases hl : a.length = b.length
 ·have hl' : (a.length : Int) = b.length := by omega
  simp only [hl', decide_true, Bool.not_true, Bool.false_eq_true, if_false]
  have L0 : ∀ (f k : Nat) (H : Hp), a.length - k = f → k ≤ a.length → (∀ H, K (Bo (eqFrom a b k)) H) → slices_Equal_string_string.L0 σ K (strs a) (strs b) (I (b.length : Int)) (I (k : Int)) H := by
   intro f
   induction f with
   | zero =>
    intro k H hf hk hK
    have : k = a.length := by omega
    subst this
    refine slices_Equal_string_string.L0_step ?_
    have hn : ¬ ((a.length : Int) < (b.length : Int)) := by omega
    simp only [bnd_some, b_lss, hn, decide_false, ifB_lit, Bool.false_eq_true, if_false]
    rw [eqFrom_end hl] at hK
    exact hK H
   | succ f ih =>
    intro k H hf hk hK
    have hlt : k < a.length := by omega
    have hlt' : (k : Int) < b.length := by omega
    obtain ⟨x, hx⟩ := get_lt hlt
    obtain ⟨y, hy⟩ := get_lt (l := b) (k := k) (by omega)
    rw [eqFrom_step hx hy] at hK
    have ix : ixaSl 1 (strs a) (I (k : Int)) = some (.ip [Sx x]) := ix_map hx
    have iy : ixaSl 1 (strs b) (I (k : Int)) = some (.ip [Sx y]) := ix_map hy
    refine slices_Equal_string_string.L0_step ?_
    simp only [bnd_some, b_lss, hlt', decide_true, ifB_lit, if_true, ix, iy, ld_ip, ldL_one, b_sneq]
    by_cases hxy : x = y
    ·simp only [hxy, decide_true, Bool.not_true, Bool.false_eq_true, if_false, b_add, bnd_some]
     rw [wr_succL hlt ha (by decide)]
     exact ih (k + 1) H (by omega) (by omega) (by simpa [hxy] using hK)
    ·simp only [hxy, decide_false, Bool.not_false, if_true]
     simpa [hxy] using hK H
  exact L0 _ 0 _ rfl (Nat.zero_le _) hK
 ·have hl' : ¬ (a.length : Int) = b.length := by omega
  simp only [hl', decide_false, Bool.not_false, if_true]
  rw [eqFrom_len hl] at hK
  exact hK _
theorem bxor (x y : Bool) : (x == y) = decide (x = y) := by cases x <;> cases y <;> rfl
theorem EqBits_ok (a b : List Bool) (ha : a.length ≤ reachBytes) (H : Hp) : Good Try.prog σ n_slices_Equal_bool_bool [bools a, bools b] H (Bo (decide (a = b))) H := by
 refine good_by (fun K hK => slices_Equal_bool_bool.run ?_) (by simp [noIds]) rfl H
 simp only [len_bools, bnd_some, b_neq, ifB_lit]
 by_cases hl : a.length = b.length
 ·have hl' : (a.length : Int) = b.length := by omega
  simp only [hl', decide_true, Bool.not_true, Bool.false_eq_true, if_false]
  have L0 : ∀ (f k : Nat) (H : Hp), a.length - k = f → k ≤ a.length → (∀ H, K (Bo (eqFrom a b k)) H) → slices_Equal_bool_bool.L0 σ K (bools a) (bools b) (I (b.length : Int)) (I (k : Int)) H := by
   intro f
   induction f with
   | zero =>
    intro k H hf hk hK
    have : k = a.length := by omega
    subst this
    refine slices_Equal_bool_bool.L0_step ?_
    have hn : ¬ ((a.length : Int) < (b.length : Int)) := by omega
    simp only [bnd_some, b_lss, hn, decide_false, ifB_lit, Bool.false_eq_true, if_false]
    rw [eqFrom_end hl] at hK
    exact hK H
   | succ f ih =>
    intro k H hf hk hK
    have hlt : k < a.length := by omega
    have hlt' : (k : Int) < b.length := by omega
    obtain ⟨x, hx⟩ := get_lt hlt
    obtain ⟨y, hy⟩ := get_lt (l := b) (k := k) (by omega)
    rw [eqFrom_step hx hy] at hK
    have ix : ixaSl 1 (bools a) (I (k : Int)) = some (.ip [Bo x]) := ix_map hx
    have iy : ixaSl 1 (bools b) (I (k : Int)) = some (.ip [Bo y]) := ix_map hy
    refine slices_Equal_bool_bool.L0_step ?_
    simp only [bnd_some, b_lss, hlt', decide_true, ifB_lit, if_true, ix, iy, ld_ip, ldL_one, e_boolN, bxor]
    by_cases hxy : x = y
    ·simp only [hxy, decide_true, Bool.not_true, Bool.false_eq_true, if_false, b_add, bnd_some]
     rw [wr_succL hlt ha (by decide)]
     exact ih (k + 1) H (by omega) (by omega) (by simpa [hxy] using hK)
    ·simp only [hxy, decide_false, Bool.not_false, if_true]
     simpa [hxy] using hK H
  exact L0 _ 0 _ rfl (Nat.zero_le _) hK
 ·have hl' : ¬ (a.length : Int) = b.length := by omega
  simp only [hl', decide_false, Bool.not_false, if_true]
  rw [eqFrom_len hl] at hK
  exact hK _
theorem SameBits_ok (a b : List Bool) (ha : a.length ≤ reachBytes) (H : Hp) : Good Try.prog σ n_ref9_SameBits [bools a, bools b] H (Bo (decide (a = b))) H := by
 refine good_by (fun K hK => ref9_SameBits.run ?_) (by simp [noIds]) rfl H
 simp only [len_bools, bnd_some, b_neq, ifB_lit]
 by_cases hl : a.length = b.length
 ·have hl' : (a.length : Int) = b.length := by omega
  simp only [hl', decide_true, Bool.not_true, Bool.false_eq_true, if_false]
  have L0 : ∀ (f k : Nat) (H : Hp), a.length - k = f → k ≤ a.length → (∀ H, K (Bo (eqFrom a b k)) H) → ref9_SameBits.L0 σ K (bools a) (bools b) (I (k : Int)) H := by
   intro f
   induction f with
   | zero =>
    intro k H hf hk hK
    have : k = a.length := by omega
    subst this
    refine ref9_SameBits.L0_step ?_
    simp only [len_bools, bnd_some, b_lss, Int.lt_irrefl, decide_false, ifB_lit, Bool.false_eq_true, if_false]
    rw [eqFrom_end hl] at hK
    exact hK H
   | succ f ih =>
    intro k H hf hk hK
    have hlt : k < a.length := by omega
    have hlt' : (k : Int) < a.length := by omega
    obtain ⟨x, hx⟩ := get_lt hlt
    obtain ⟨y, hy⟩ := get_lt (l := b) (k := k) (by omega)
    rw [eqFrom_step hx hy] at hK
    have ix : ixaSl 1 (bools a) (I (k : Int)) = some (.ip [Bo x]) := ix_map hx
    have iy : ixaSl 1 (bools b) (I (k : Int)) = some (.ip [Bo y]) := ix_map hy
    refine ref9_SameBits.L0_step ?_
    simp only [len_bools, bnd_some, b_lss, hlt', decide_true, ifB_lit, if_true, ix, iy, ld_ip, ldL_one, e_boolN, bxor]
    by_cases hxy : x = y
    ·simp only [hxy, decide_true, Bool.not_true, Bool.false_eq_true, if_false, b_add, bnd_some]
     rw [wr_succL hlt ha (by decide)]
     exact ih (k + 1) H (by omega) (by omega) (by simpa [hxy] using hK)
    ·simp only [hxy, decide_false, Bool.not_false, if_true]
     simpa [hxy] using hK H
  exact L0 _ 0 _ rfl (Nat.zero_le _) hK
 ·have hl' : ¬ (a.length : Int) = b.length := by omega
  simp only [hl', decide_false, Bool.not_false, if_true]
  rw [eqFrom_len hl] at hK
  exact hK _
end
def bitsB (L : List Nd) (l : List Sl) (e : Int) : List Bool := l.map fun s => selB L 11 s e
structure LsOk (l : List Sl) : Prop where
 len : l.length ≤ 100000
 ok : ∀ s ∈ l, SelOk 11 [s] ∧ TxL 11 [s]
section
attribute [local irreducible] reval_Bits.L0
theorem Bits_ok {L : List Nd} {d : List Nat} (M : McT σ L d) {l : List Sl} (hl : LsOk l) (e : Int) (H : Hp) : Good Try.prog σ n_reval_Bits [domT L d, I e, sls l] H (bools (bitsB L l e)) H := by
 have hll := hl.len
 obtain ⟨Q, hQ⟩ : ∃ Q : AV → Hp → Prop, ∀ r H1, Q r H1 ↔ Fz H1 r (bools (bitsB L l e)) := ⟨_, fun _ _ => Iff.rfl⟩
 have run : ∃ r H1, Good Try.prog σ n_reval_Bits [domT L d, I e, sls l] Hp.empty r H1 ∧ Q r H1 := by
  refine reval_Bits.run ?_
  have e3 : mkSlR [.bool false] 1 1 Hp.empty (I (l.length : Int)) (I (l.length : Int)) = some (.sl 0 0 1 l.length (some l.length), Hp.empty.new (.cells (zrow [.bool false] (l.length * 1)) true)) := by
   have a : (0 : Int) ≤ l.length := by omega
   have b : l.length ≤ 9223372036854775807 := by omega
   have c : l.length ≤ 281474976710656 := by omega
   simp [mkSlR, intA, bleN, b, c]
   rfl
  simp only [len_sls, bnd_some, e3]
  have L0 : ∀ (f k : Nat) (H1 : Hp) (cs : List AV), l.length - k = f → k ≤ l.length → 0 < H1.n → H1.get 0 = some (.cells cs true) → cs.length = l.length → (∀ i s, i < k → l[i]? = some s → cs[i]? = some (Bo (selB L 11 s e))) → reval_Bits.L0 σ Q (domT L d) (I e) (.sl 0 0 1 l.length (some l.length)) (sls l) (I (l.length : Int)) (I (k : Int)) H1 := by
   intro f
   induction f with
   | zero =>
    intro k H1 cs hf hk hn hg hcl hc
    have : k = l.length := by omega
    subst this
    refine reval_Bits.L0_step ?_
    simp only [b_lss, bnd_some, Int.lt_irrefl, decide_false, ifB_lit, Bool.false_eq_true, if_false]
    rw [hQ]
    have hcs : cs = (bitsB L l e).map Bo := by
     apply List.ext_getElem?
     intro i
     by_cases hi : i < l.length
     ·obtain ⟨s, hs⟩ := get_lt hi
      rw [hc i s hi hs]
      simp [bitsB, hs]
     ·rw [List.getElem?_eq_none (by omega), List.getElem?_eq_none (by simp [bitsB]; omega)]
    have := Fz.cells1 (n := l.length) (cap := some l.length) hg (by rw [hcs]; clear hcs hc; induction bitsB L l e with
     | nil => rfl
     | cons a r ih => simp [noIds, noId]; exact ih) hcl
    rw [hcs, List.map_map] at this
    exact this
   | succ f ih =>
    intro k H1 cs hf hk hn hg hcl hc
    have hlt : k < l.length := by omega
    have hlt' : (k : Int) < l.length := by omega
    obtain ⟨s, hs⟩ := get_lt hlt
    have hsm := List.mem_of_getElem? hs
    have hix : ixaSl 1 (sls l) (I (k : Int)) = some (.ip (encSl s)) := ix_map hs
    refine reval_Bits.L0_step ?_
    simp only [b_lss, bnd_some, hlt', decide_true, ifB_lit, if_true, hix, ld_ip, ldL_sl, allocK_eq]
    obtain ⟨H2, hH2⟩ : ∃ H2, H2 = (H1.new (.cells [.lit (.slice none 0 0)] true)).set H1.n (some (.cells (encSl s) true)) := ⟨_, rfl⟩
    refine bnd_of (x := H2) ?_ ?_
    ·rw [st_agg, hH2]
     simp only [hp_get_new, if_true]
     rfl
    have hl2 : ldA true 1 H2 (.ptr H1.n 0) = some (.agg (encSl s)) := by rw [hH2]; simp
    have h0 : (0 : Nat) ≠ H1.n := by omega
    have hg2 : H2.get 0 = some (.cells cs true) := by rw [hH2]; simp [h0, hg]
    have n2 : H2.n = H1.n + 1 := by rw [hH2]; rfl
    rw [hl2, bnd_some]
    obtain ⟨S, X⟩ := hl.ok s hsm
    refine callK_of (Sel_ok M S e _) ?_
    have hixa : ixaSl 1 (.sl 0 0 1 l.length (some l.length)) (I (k : Int)) = some (.ptr 0 k) := by
     have i0 : (0 : Int) ≤ (k : Int) := by omega
     simp only [ixaSl, intA, hlt', i0, decide_true, Bool.and_self, cond_true, Int.toNat_natCast, Nat.zero_add, Nat.mul_one]
    have hst : stA 1 H2 (.ptr 0 k) (Bo (selB L 11 s e)) = some (H2.set 0 (some (.cells (cs.set k (Bo (selB L 11 s e))) true))) := by
     rw [st_bool, hg2, stO_cells]
     have : k + [Bo (selB L 11 s e)].length ≤ cs.length := by simp; omega
     rw [if_pos ⟨this, rfl⟩, ov_set _ _ _ (by omega)]
    rw [hixa, bnd_some, hst, bnd_some, b_add, bnd_some, wr_succ (by omega)]
    refine ih (k + 1) _ (cs.set k (Bo (selB L 11 s e))) (by omega) (by omega) (by simp; omega) (by simp) (by simp [hcl]) fun i s' hi hs' => ?_
    by_cases hik : i = k
    ·subst hik
     rw [hs] at hs'
     cases hs'
     simp [hcl, hlt]
    ·rw [List.getElem?_set_ne (by omega)]
     exact hc i s' (by omega) hs'
  exact L0 _ 0 _ _ rfl (Nat.zero_le _) (by simp) (by simp [Hp.empty]; rfl) (by simp [zrow]) (fun i s hi => by omega)
 obtain ⟨r, H1, hg, hq⟩ := run
 exact hg.frzR (by simp [noIds, noId, noId_domT]) ((hQ _ _).1 hq) H
end
theorem Node_ok (L : List Nd) (d : List Nat) (hN : L.length ≤ 4096) {e : Nat} (he : e < L.length) (hw : NdWf (lowN (ndAt L e))) (H : Hp) : Good Try.prog σ n_dom_Tree_Node [domT L d, I (e : Int)] H (.agg (encNd (lowN (ndAt L e)))) H := by
 obtain ⟨n, hn⟩ : ∃ n, n = lowN (ndAt L e) := ⟨_, rfl⟩
 obtain ⟨Q, hQ⟩ : ∃ Q : AV → Hp → Prop, ∀ r H1, Q r H1 ↔ Fz H1 r (.agg (encNd (lowN (ndAt L e)))) := ⟨_, fun _ _ => Iff.rfl⟩
 have run : ∃ r H1, Good Try.prog σ n_dom_Tree_Node [domT L d, I (e : Int)] Hp.empty r H1 ∧ Q r H1 := by
  refine dom_Tree_Node.run ?_
  rw [allocK_eq]
  obtain ⟨H0, hH0⟩ : ∃ H0, H0 = Hp.empty.new (.cells [I 0, Sx emp, Sx emp, .lit (.slice none 0 0), .lit (.slice none 0 0)] true) := ⟨_, rfl⟩
  have g0 : H0.get 0 = some (.cells [I 0, Sx emp, Sx emp, .lit (.slice none 0 0), .lit (.slice none 0 0)] true) := by rw [hH0]; rfl
  have n0 : H0.n = 1 := by rw [hH0]; rfl
  have e0 : Hp.empty.n = 0 := rfl
  have hH0' : Hp.empty.new (.cells [I 0, .lit (.string ⟨#[]⟩), .lit (.string ⟨#[]⟩), .lit (.slice none 0 0), .lit (.slice none 0 0)] true) = H0 := hH0.symm
  rw [hH0', e0]
  refine callK_of (at_ok L d hN he _) ?_
  have hp : partR true 0 5 (.agg (elE L d e)) = some (.agg (encNd (lowN (ndAt L e)))) := rfl
  rw [hp, bnd_some]
  refine copied_sp (lowN (ndAt L e)) hw (fun he' H' hn' hs => ?_) (fun he' H' id hn' hs hid hid' hg => ?_)
  ·have g0' : H'.get 0 = some (.cells [I 0, Sx emp, Sx emp, .lit (.slice none 0 0), .lit (.slice none 0 0)] true) := by rw [hs 0 (by omega)]; exact g0
   refine bnd_of (x := H'.set 0 (some (.cells (encNd (lowN (ndAt L e))) true))) ?_ ?_
   ·rw [st_agg, g0']; rfl
   refine bnd_of (x := .agg (encNd (lowN (ndAt L e)))) ?_ ?_
   ·simp only [ld_ptr, hp_get_set, if_true, ldO_cells, List.drop_zero, ldL_nd]
   ·rw [hQ]; exact .refl (by simp [noId, noId_Nd])
  ·have g0' : H'.get 0 = some (.cells [I 0, Sx emp, Sx emp, .lit (.slice none 0 0), .lit (.slice none 0 0)] true) := by rw [hs 0 (by omega)]; exact g0
   rw [← hn] at hg ⊢
   refine bnd_of (x := H'.set 0 (some (.cells [I n.parent, Sx n.tag, Sx n.id, strs n.classes, .sl id 0 2 n.attrs.length none] true))) ?_ ?_
   ·rw [st_agg, g0']; rfl
   refine bnd_of (x := .agg [I n.parent, Sx n.tag, Sx n.id, strs n.classes, .sl id 0 2 n.attrs.length none]) ?_ ?_
   ·simp only [ld_ptr, hp_get_set, if_true, ldO_cells, List.drop_zero]; rfl
   ·rw [hQ, ← hn]
    have hne : id ≠ 0 := by omega
    have hg' : (H'.set 0 (some (.cells [I n.parent, Sx n.tag, Sx n.id, strs n.classes, .sl id 0 2 n.attrs.length none] true))).get id = some (.cells (n.attrs.map encPr).flatten false) := by rw [hp_get_set, if_neg hne]; exact hg
    have hr : Fz (H'.set 0 (some (.cells [I n.parent, Sx n.tag, Sx n.id, strs n.classes, .sl id 0 2 n.attrs.length none] true))) (.sl id 0 2 (n.attrs.map encPr).length none) (.imm 2 (n.attrs.map encPr)) := by
     refine .rows hg' attrs_len ?_ (noIds_map _ (fun _ => rfl) _)
     rw [List.drop_zero, ← flatten_len (sz := 2) attrs_len]
     exact List.take_length
    rw [List.length_map] at hr
    exact Fz.aggL (.cons (.refl rfl) (.cons (.refl rfl) (.cons (.refl rfl) (.cons (.refl (noId_strs _)) (.cons hr .nil)))))
 obtain ⟨r, H1, hg, hq⟩ := run
 exact hg.frzR (by simp [noIds, noId, noId_domT]) ((hQ _ _).1 hq) H
def parI (L : List Nd) (a : Int) : Int := if 0 ≤ a ∧ a < L.length then par L a.toNat else -1
theorem ParentI_ok (L : List Nd) (d : List Nat) (hN : L.length ≤ 4096) (a : Int) (H : Hp) : Good Try.prog σ n_dom_Tree_Parent [domT L d, I a] H (I (parI L a)) H := by
 by_cases h : 0 ≤ a ∧ a < L.length
 ·obtain ⟨k, rfl⟩ : ∃ k : Nat, a = k := ⟨a.toNat, by omega⟩
  have := Parent_ok (σ := σ) L d hN (e := k) (by omega) H
  unfold parI
  rw [if_pos h, Int.toNat_natCast]
  exact this
 ·refine good_by (fun K hK => dom_Tree_Parent.run ?_) (by simp [noIds, noId, noId_domT]) rfl H
  unfold parI at hK
  rw [if_neg h] at hK
  have hl : ldA false 1 Hp.empty (domT L d) = some (.imm 9 ((List.range L.length).map (elE L d))) := rfl
  have hn : nilR (domT L d) = some (domT L d) := rfl
  have hs : shiftA (domT L d) 0 = some (domT L d) := rfl
  simp only [b_lss, bnd_some, ifB_lit, decide_eq_true_eq, hn, hs, hl, len_imm, List.length_map, List.length_range, b_geq]
  split
  ·exact hK _
  ·rename_i h0
   rw [if_pos (by omega)]
   exact hK _
end Go.Proofs.Ytaoegkmfgfefgaa.Ev
namespace Go.Proofs.Ytaoegkmfgfefgaa.Ev
open Go.RowKit
set_option linter.unusedVariables false
set_option linter.unusedSimpArgs false
set_option maxRecDepth 100000
variable {σ : Sig}
def ndI (L : List Nd) (e : Int) : Nd := lowN (ndAt L e.toNat)
def shI (L : List Nd) (l : List Sl) (a b : Int) : Bool :=
 decide (0 ≤ parI L a) && (decide (parI L a = parI L b) && (decide ((ndI L a).tag = (ndI L b).tag) && (decide ((ndI L a).id = (ndI L b).id) && (decide ((ndI L a).classes = (ndI L b).classes) && decide (bitsB L l a = bitsB L l b)))))
theorem parI_in {L : List Nd} {a : Int} (h : 0 ≤ parI L a) : 0 ≤ a ∧ a < L.length := by
 unfold parI at h
 split at h
 ·assumption
 ·omega
theorem bits_len (L : List Nd) (l : List Sl) (e : Int) : (bitsB L l e).length = l.length := by simp [bitsB]
theorem May_ok {L : List Nd} {d : List Nat} (hT : TreeOk L d) (hC : HasC σ) (hW : ∀ e, e < L.length → NdWf (lowN (ndAt L e))) {l : List Sl} (hl : LsOk l) (a b : Int) (H : Hp) : Good Try.prog σ n_share_May [domT L d, I a, I b, sls l] H (Bo (shI L l a b)) H := by
 have M := hT.mc hC
 have hl40 := hT.len
 have hN : L.length ≤ 4096 := by omega
 refine good_by (fun K hK => share_May.run ?_) (by simp [noIds, noId, noId_domT]) rfl H
 have e0 : eqPtrR .eql (domT L d) (.lit (.pointer none)) = some (Bo false) := rfl
 simp only [e0, bnd_some, ifB_lit, Bool.false_eq_true, if_false]
 refine callK_of (ParentI_ok L d hN a _) ?_
 unfold shI at hK
 simp only [b_lss, bnd_some, ifB_lit, decide_eq_true_eq]
 split
 ·rename_i h
  have : ¬ (0 ≤ parI L a) := by omega
  simpa [this] using hK _
 rename_i h
 have hpa : 0 ≤ parI L a := by omega
 refine callK_of (ParentI_ok L d hN a _) (callK_of (ParentI_ok L d hN b _) ?_)
 simp only [b_neq, bnd_some, ifB_lit]
 by_cases hpe : parI L a = parI L b
 ·have hina := parI_in hpa
  have hinb := parI_in (L := L) (a := b) (by omega)
  obtain ⟨na, rfl⟩ : ∃ k : Nat, a = k := ⟨a.toNat, by omega⟩
  obtain ⟨nb, rfl⟩ : ∃ k : Nat, b = k := ⟨b.toNat, by omega⟩
  have la : na < L.length := by omega
  have lb : nb < L.length := by omega
  simp only [hpe, decide_true, Bool.not_true, Bool.false_eq_true, if_false]
  refine callK_of (Node_ok L d hN la (hW na la) _) (callK_of (Node_ok L d hN lb (hW nb lb) _) ?_)
  rw [allocK_eq, allocK_eq]
  have i1 : ndI L (na : Int) = lowN (ndAt L na) := rfl
  have i2 : ndI L (nb : Int) = lowN (ndAt L nb) := rfl
  rw [i1, i2] at hK
  generalize hna : lowN (ndAt L na) = x at hK ⊢
  generalize hnb : lowN (ndAt L nb) = y at hK ⊢
  have e1 : Hp.empty.n = 0 := rfl
  have e2 : (Hp.empty.new (.cells [I 0, .lit (.string ⟨#[]⟩), .lit (.string ⟨#[]⟩), .lit (.slice none 0 0), .lit (.slice none 0 0)] true)).n = 1 := rfl
  rw [e1, e2]
  obtain ⟨H1, hH1⟩ : ∃ H1, H1 = (((Hp.empty.new (.cells [I 0, .lit (.string ⟨#[]⟩), .lit (.string ⟨#[]⟩), .lit (.slice none 0 0), .lit (.slice none 0 0)] true)).new (.cells [I 0, .lit (.string ⟨#[]⟩), .lit (.string ⟨#[]⟩), .lit (.slice none 0 0), .lit (.slice none 0 0)] true)).set 0 (some (.cells (encNd x) true))) := ⟨_, rfl⟩
  refine bnd_of (x := H1) (by rw [hH1]; rfl) ?_
  obtain ⟨H2, hH2⟩ : ∃ H2, H2 = H1.set 1 (some (.cells (encNd y) true)) := ⟨_, rfl⟩
  refine bnd_of (x := H2) (by rw [hH2, hH1]; rfl) ?_
  have g0 : H2.get 0 = some (.cells (encNd x) true) := by rw [hH2, hH1]; simp
  have g1 : H2.get 1 = some (.cells (encNd y) true) := by rw [hH2]; simp
  clear hH2 hH1
  have ld : ∀ (j : Nat) (x : Nd), H2.get j = some (.cells (encNd x) true) → ldA false 1 H2 (.ptr j 1) = some (Sx x.tag) ∧ ldA false 1 H2 (.ptr j 2) = some (Sx x.id) ∧ ldA false 1 H2 (.ptr j 3) = some (strs x.classes) := by
   intro j x h
   simp only [ld_ptr, h, ldO_cells]
   exact ⟨rfl, rfl, rfl⟩
  obtain ⟨a2, a3, a4⟩ := ld 0 x g0
  obtain ⟨c2, c3, c4⟩ := ld 1 y g1
  have hcl : x.classes.length ≤ reachBytes := by rw [← hna]; exact (M.sm na la).classes
  have hbl : (bitsB L l (na : Int)).length ≤ reachBytes := by rw [bits_len]; have := hl.len; have r : reachBytes = 140737488351232 := rfl; omega
  simp only [hpe, decide_true, Bool.true_and] at hK
  have hpb : 0 ≤ parI L (nb : Int) := by omega
  simp only [hpb, decide_true, Bool.true_and] at hK
  simp only [sh_ptr, Nat.zero_add, bnd_some, a2, a3, a4, c2, c3, c4, b_seql, ifB_lit, decide_eq_true_eq]
  split
  ·rename_i h2
   split
   ·rename_i h3
    refine callK_of (EqStr_ok _ _ hcl _) ?_
    simp only [ifB_lit, decide_eq_true_eq]
    split
    ·rename_i h4
     refine callK_of (Bits_ok M hl (na : Int) _) (callK_of (Bits_ok M hl (nb : Int) _) (callK_of (EqBits_ok _ _ hbl _) ?_))
     simpa [h2, h3, h4] using hK _
    ·rename_i h4
     simpa [h2, h3, h4] using hK _
   ·rename_i h3
    simpa [h2, h3] using hK _
  ·rename_i h2
   simpa [h2] using hK _
 ·simp only [hpe, decide_false, Bool.not_false, if_true]
  simpa [hpe] using hK _
def alL2 : List Nd := [⟨-1, emp, emp, [], []⟩, ⟨0, ⟨#[108, 105]⟩, emp, [], []⟩, ⟨0, ⟨#[108, 105]⟩, emp, [], []⟩, ⟨0, ⟨#[98]⟩, emp, [], []⟩]
theorem alB2 : Built alL2 alL2.length [0, 1, 1, 1] := by
 have h1 : Built alL2 1 [0] := Built.first (by decide) rfl
 have h2 : Built alL2 2 [0, 1] := h1.next (p := 0) (x := 0) (by decide) (by decide) rfl (by decide) rfl (by decide)
 have h3 : Built alL2 3 [0, 1, 1] := h2.next (p := 0) (x := 0) (by decide) (by decide) rfl (by decide) rfl (by decide)
 exact h3.next (p := 0) (x := 0) (by decide) (by decide) rfl (by decide) rfl (by decide)
theorem alW2 : ∀ n ∈ alL2, NdWf n ∧ NdSm n := by
 intro n hn
 simp only [alL2, List.mem_cons, List.not_mem_nil, or_false] at hn
 rcases hn with rfl | rfl | rfl | rfl <;> exact ⟨⟨by unfold i64; decide, by decide, by decide, by decide, (by intro p hp; cases hp)⟩, by decide, by decide, by decide, by decide, (by intro s hs; cases hs), by intro p hp; cases hp⟩
theorem lowB_size (s : ByteArray) : (lowB s).data.size = s.data.size := by simp [lowB]
theorem NdWf.low {n : Nd} (h : NdWf n) : NdWf (lowN n) := by
 refine ⟨h.parent, ?_, h.classes, ?_, fun p hp => ?_⟩
 ·show (lowB n.tag).data.size ≤ _
  rw [lowB_size]; exact h.tag
 ·show (n.attrs.map lowPr).length * 32 ≤ _
  rw [List.length_map]; exact h.attrs
 ·obtain ⟨q, hq, rfl⟩ := List.mem_map.1 hp
  show (lowB q.1).data.size ≤ _
  rw [lowB_size]; exact h.names q hq
theorem wf_at {L : List Nd} (hW : ∀ n ∈ L, NdWf n) : ∀ e, e < L.length → NdWf (lowN (ndAt L e)) := by
 intro e he
 refine (hW _ ?_).low
 unfold ndAt
 rw [List.getD_eq_getElem?_getD, List.getElem?_eq_getElem he]
 exact List.getElem_mem _
theorem alive22 (hC : HasC σ) (H : Hp) : Good Try.prog σ n_law22_alive [] H (Bo true) H := by
 refine good_by (fun K hK => law22_alive.run ?_) rfl rfl H
 iterate 5 refine bnd_of rfl ?_
 refine callK_of (Good.drop (fun H => domNew_ok alB2 (fun n hn => (alW2 n hn).1) (by decide) H) (.cons (frzS_ok skNds _ _ (by kernel_rfl)) .nil)) ?_
 simp only [x_tup, List.getElem?_cons_zero, List.getElem?_cons_succ, bnd_some]
 have hT : TreeOk alL2 [0, 1, 1, 1] := ⟨by decide, alB2, fun n hn => (alW2 n hn).2⟩
 have hl : LsOk [] := ⟨by decide, fun s h => by cases h⟩
 have hw := wf_at fun n hn => (alW2 n hn).1
 have m1 : shI alL2 [] 1 2 = true := by kernel_rfl
 have m2 : shI alL2 [] 1 3 = false := by kernel_rfl
 refine callK_of ((May_ok hT hC hw hl 1 2 Hp.empty).frzA (.cons (.refl (noId_domT _ _)) (.cons (.refl rfl) (.cons (.refl rfl) (.cons .nil .nil)))) rfl) ?_
 simp only [m1, ifB_lit, if_true]
 refine callK_of ((May_ok hT hC hw hl 1 3 Hp.empty).frzA (.cons (.refl (noId_domT _ _)) (.cons (.refl rfl) (.cons (.refl rfl) (.cons .nil .nil)))) rfl) ?_
 simp only [m2, u_not, Bool.not_false, bnd_some]
 exact hK _
end Go.Proofs.Ytaoegkmfgfefgaa.Ev
namespace Go.Proofs.Ytaoegkmfgfefgaa.Ev
open Go.RowKit
set_option linter.unusedVariables false
set_option linter.unusedSimpArgs false
set_option maxRecDepth 100000
variable {σ : Sig}
theorem need_ls {m : List RL} (hm : rlsWf m) (hf : Fit12 m) (hb : bkLL (m.map encRL) ≤ NB) : LsOk (needL m) := by
 have h := rules_ok hm hf hb
 refine ⟨?_, fun s hs => ?_⟩
 ·have := needL_len hf.rl8.sels
  have := hf.len
  omega
 ·obtain ⟨r, hr, hs⟩ := needL_mem hs
  exact (h r hr s hs).2.2
section
end
end Go.Proofs.Ytaoegkmfgfefgaa.Ev
namespace Go.Proofs.Ytaoegkmfgfefgaa.Ev
set_option linter.unusedVariables false
set_option linter.unusedSimpArgs false
variable {σ : Sig}
structure W3 where
 a : Int
 b : Int
 c : Int
def W3.cells (s : W3) : List AV := [I s.a, I s.b, I s.c]
def W3.Bd (M : Int) (s : W3) : Prop := (0 ≤ s.a ∧ s.a ≤ M) ∧ (0 ≤ s.b ∧ s.b ≤ M) ∧ 0 ≤ s.c ∧ s.c ≤ M
def lst (n : Int) : Int := if 255 < n then 255 else n
def weightW (s : W3) : Int := (lst s.a * 256 + lst s.b) * 256 + lst s.c
def addW (s : W3) (w : Int) : W3 := ⟨s.a + w / 256 / 256 % 256, s.b + w / 256 % 256, s.c + w % 256⟩
def topW (g : Sl → Int) (l : List Sl) (m : Int) : Int := l.foldl (fun m x => if m < g x then g x else m) m
def psW (g : Sl → Int) (last : Bool) (s : W3) (p : Ps) : W3 := if p.kind ≠ 7 ∧ p.kind ≠ 8 then ⟨s.a, s.b + 1, s.c⟩ else if last = true then s else addW s (topW g p.list 0)
def lensW (s : W3) (c : Cp) : W3 := ⟨s.a + c.ids.length, s.b + (c.classes.length + c.attrs.length), if c.tag ≠ ⟨#[]⟩ then s.c + 1 else s.c⟩
def cpW (g : Sl → Int) (last : Bool) (s : W3) (c : Cp) : W3 := c.pseudos.foldl (psW g last) (lensW s c)
def slW (g : Sl → Int) (last : Bool) (x : Sl) : Int := weightW (x.foldl (fun s p => cpW g last s p.c) ⟨0, 0, 0⟩)
def ofW : Nat → Sl → Int
 | 0, x => slW (fun _ => 0) true x
 | d + 1, x => slW (ofW d) false x
theorem lst_le (n : Int) (h : 0 ≤ n) : 0 ≤ lst n ∧ lst n ≤ 255 := by unfold lst; split <;> omega
theorem weightW_le {s : W3} {M : Int} (h : s.Bd M) : 0 ≤ weightW s ∧ weightW s ≤ 16777215 := by
 obtain ⟨⟨a0, _⟩, ⟨b0, _⟩, c0, _⟩ := h
 have := lst_le _ a0
 have := lst_le _ b0
 have := lst_le _ c0
 unfold weightW
 omega
theorem addW_bd {s : W3} {M w : Int} (h : s.Bd M) (h0 : 0 ≤ w) : (addW s w).Bd (M + 255) := by
 obtain ⟨⟨a0, a1⟩, ⟨b0, b1⟩, c0, c1⟩ := h
 unfold addW W3.Bd
 simp only
 omega
theorem topW_le {g : Sl → Int} : ∀ (l : List Sl) (m : Int), 0 ≤ m → m ≤ 16777215 → (∀ x ∈ l, 0 ≤ g x ∧ g x ≤ 16777215) → 0 ≤ topW g l m ∧ topW g l m ≤ 16777215
 | [], m, h0, h1, _ => ⟨h0, h1⟩
 | x :: r, m, h0, h1, h => by
  have := h x (by simp)
  show 0 ≤ topW g r (if m < g x then g x else m) ∧ _
  refine topW_le r _ ?_ ?_ fun y hy => h y (by simp [hy])
  ·split <;> omega
  ·split <;> omega
def WideC (c : Cp) : Prop := c.ids.length ≤ 400 ∧ c.classes.length ≤ 400 ∧ c.attrs.length ≤ 400 ∧ c.pseudos.length ≤ 5
theorem FitC.wide {c : Cp} (h : FitC c) : WideC c := ⟨by have := h.1; omega, by have := h.2.1; omega, by have := h.2.2.1; omega, h.2.2.2⟩
end Go.Proofs.Ytaoegkmfgfefgaa.Ev
namespace Go.Proofs.Ytaoegkmfgfefgaa.Ev
set_option linter.unusedVariables false
set_option linter.unusedSimpArgs false
variable {σ : Sig}
theorem shr_i {n : Int} (k : Nat) (h : 0 ≤ n) (hk : k ≤ 63) : binR .shr (I n) (.lit (.int .u64 k)) = some (I (n / ((2 ^ k : Nat) : Int))) := by
 have : min (k : Int).toNat (IntKind.bits .i64) = k := by simp [IntKind.bits]; omega
 have h2 : (2 : Int) ^ k = ((2 ^ k : Nat) : Int) := by simp
 have h3 : ¬ (k : Int) < 0 := by omega
 have h4 : n.fdiv ((2 : Int) ^ k) = n / ((2 ^ k : Nat) : Int) := by
  rw [h2]
  generalize 2 ^ k = q
  rw [Int.fdiv_eq_ediv_of_nonneg _ (by omega)]
 simp only [binR, lit?, sbin, h3, decide_false, cond_false, this, h4]
theorem shr16 {n : Int} (h : 0 ≤ n) : binR .shr (I n) (.lit (.int .u64 16)) = some (I (n / 65536)) := shr_i 16 h (by decide)
theorem shr8 {n : Int} (h : 0 ≤ n) : binR .shr (I n) (.lit (.int .u64 8)) = some (I (n / 256)) := shr_i 8 h (by decide)
theorem shl_i {n : Int} (k : Nat) (hk : k ≤ 16) (h : 0 ≤ n) (h1 : n ≤ 255) : binR .shl (I n) (.lit (.int .u64 k)) = some (I (n * ((2 ^ k : Nat) : Int))) := by
 have : min (k : Int).toNat (IntKind.bits .i64) = k := by simp [IntKind.bits]; omega
 have h2 : (2 : Int) ^ k = ((2 ^ k : Nat) : Int) := by simp
 have h3 : ¬ (k : Int) < 0 := by omega
 have h5 : (2 ^ k : Nat) ≤ 65536 := by
  have : (2 ^ k : Nat) ≤ 2 ^ 16 := Nat.pow_le_pow_right (by decide) hk
  simpa using this
 have h8 : wr .i64 (n * ((2 ^ k : Nat) : Int)) = n * ((2 ^ k : Nat) : Int) := by
  revert h5
  generalize 2 ^ k = q
  intro h5
  have h6 : n * (q : Int) ≤ 255 * 65536 := Int.mul_le_mul h1 (by omega) (by omega) (by omega)
  have h7 : 0 ≤ n * (q : Int) := Int.mul_nonneg h (by omega)
  exact wr64 (by omega) (by omega)
 simp only [binR, lit?, sbin, h3, decide_false, cond_false, this, h2, h8]
theorem shl16 {n : Int} (h : 0 ≤ n) (h1 : n ≤ 255) : binR .shl (I n) (.lit (.int .u64 16)) = some (I (n * 65536)) := shl_i 16 (by decide) h h1
theorem shl8 {n : Int} (h : 0 ≤ n) (h1 : n ≤ 255) : binR .shl (I n) (.lit (.int .u64 8)) = some (I (n * 256)) := shl_i 8 (by decide) h h1
theorem and255i {n : Int} (h : 0 ≤ n) (hn : n < 9223372036854775808) : binR .and (I n) (I 255) = some (I (n % 256)) := by
 obtain ⟨m, rfl⟩ : ∃ m : Nat, n = m := ⟨n.toNat, by omega⟩
 have h1 : (BitVec.ofInt 64 (m : Int) &&& BitVec.ofInt 64 255).toNat = m % 256 := by
  rw [BitVec.toNat_and]
  have e1 : (BitVec.ofInt 64 (m : Int)).toNat = m := by
   rw [BitVec.toNat_ofInt]
   omega
  have e2 : (BitVec.ofInt 64 255).toNat = 255 := by decide
  rw [e1, e2]
  exact Nat.and_two_pow_sub_one_eq_mod m 8
 rw [b_and]
 have : IntKind.bits .i64 = 64 := rfl
 rw [this, h1, wr64 (by omega) (by omega)]
 rfl
theorem cut_ok (n : Int) (H : Hp) : Good Try.prog σ n_ref9_cut [I n] H (I (lst n)) H := by
 refine good_pure (ref9_cut.run ?_) rfl rfl H
 simp only [b_gtr, bnd_some, ifB_lit]
 unfold lst
 by_cases h : (255 : Int) < n <;> simp [h]
theorem ixW (k : Nat) (h : k < 3) : ixaArr 3 1 (.ptr 1 0) (.lit (.int .i64 (k : Int))) = some (.ptr 1 k) := by rw [ixArrN h]; simp
theorem ixW0 : ixaArr 3 1 (.ptr 1 0) (I 0) = some (.ptr 1 0) := ixW 0 (by decide)
theorem ixW1 : ixaArr 3 1 (.ptr 1 0) (I 1) = some (.ptr 1 1) := ixW 1 (by decide)
theorem ixW2 : ixaArr 3 1 (.ptr 1 0) (I 2) = some (.ptr 1 2) := ixW 2 (by decide)
structure W1 (H : Hp) (s : W3) (H' : Hp) : Prop where
 n : H'.n = H.n
 g : H'.get 1 = some (.cells s.cells true)
 o : ∀ j, j ≠ 1 → H'.get j = H.get j
theorem W1.trans {H H1 H2 : Hp} {s s' : W3} (h : W1 H s H1) (h' : W1 H1 s' H2) : W1 H s' H2 := ⟨h'.n.trans h.n, h'.g, fun j hj => (h'.o j hj).trans (h.o j hj)⟩
theorem setW0 {H : Hp} {s : W3} (h : H.get 1 = some (.cells s.cells true)) (n : Int) {J : Hp → Prop} (k : ∀ H', W1 H ⟨n, s.b, s.c⟩ H' → J H') : bnd (stA 1 H (.ptr 1 0) (I n)) J := by
 rw [st_one h rfl rfl rfl (by simp [W3.cells]), bnd_some]
 exact k _ ⟨rfl, by simp [W3.cells], fun j hj => by simp [hj]⟩
theorem setW1 {H : Hp} {s : W3} (h : H.get 1 = some (.cells s.cells true)) (n : Int) {J : Hp → Prop} (k : ∀ H', W1 H ⟨s.a, n, s.c⟩ H' → J H') : bnd (stA 1 H (.ptr 1 1) (I n)) J := by
 rw [st_one h rfl rfl rfl (by simp [W3.cells]), bnd_some]
 exact k _ ⟨rfl, by simp [W3.cells], fun j hj => by simp [hj]⟩
theorem setW2 {H : Hp} {s : W3} (h : H.get 1 = some (.cells s.cells true)) (n : Int) {J : Hp → Prop} (k : ∀ H', W1 H ⟨s.a, s.b, n⟩ H' → J H') : bnd (stA 1 H (.ptr 1 2) (I n)) J := by
 rw [st_one h rfl rfl rfl (by simp [W3.cells]), bnd_some]
 exact k _ ⟨rfl, by simp [W3.cells], fun j hj => by simp [hj]⟩
theorem ldW0 {H : Hp} {s : W3} (h : H.get 1 = some (.cells s.cells true)) : ldA false 1 H (.ptr 1 0) = some (I s.a) := by rw [ld_ptr, h]; rfl
theorem ldW1 {H : Hp} {s : W3} (h : H.get 1 = some (.cells s.cells true)) : ldA false 1 H (.ptr 1 1) = some (I s.b) := by rw [ld_ptr, h]; rfl
theorem ldW2 {H : Hp} {s : W3} (h : H.get 1 = some (.cells s.cells true)) : ldA false 1 H (.ptr 1 2) = some (I s.c) := by rw [ld_ptr, h]; rfl
theorem addChain {H : Hp} {s : W3} {M w : Int} (h : H.get 1 = some (.cells s.cells true)) (hb : s.Bd M) (hM : M ≤ 1000000000) (h0 : 0 ≤ w) (h1 : w ≤ 16777215) {J : Hp → Prop} (k : ∀ H', W1 H (addW s w) H' → J H') :
  bnd (ixaArr 3 1 (.ptr 1 0) (I 0)) fun x33 => bnd (ldA false 1 H x33) fun x34 => bnd (binR .shr (I w) (.lit (.int .u64 16))) fun x35 => bnd (binR .add x34 x35) fun x36 => bnd (ixaArr 3 1 (.ptr 1 0) (I 0)) fun x37 => bnd (stA 1 H x37 x36) fun H38 => bnd (ixaArr 3 1 (.ptr 1 0) (I 1)) fun x39 => bnd (ldA false 1 H38 x39) fun x40 => bnd (binR .shr (I w) (.lit (.int .u64 8))) fun x41 => bnd (binR .and x41 (I 255)) fun x42 => bnd (binR .add x40 x42) fun x43 => bnd (ixaArr 3 1 (.ptr 1 0) (I 1)) fun x44 => bnd (stA 1 H38 x44 x43) fun H45 => bnd (ixaArr 3 1 (.ptr 1 0) (I 2)) fun x46 => bnd (ldA false 1 H45 x46) fun x47 => bnd (binR .and (I w) (I 255)) fun x48 => bnd (binR .add x47 x48) fun x49 => bnd (ixaArr 3 1 (.ptr 1 0) (I 2)) fun x50 => bnd (stA 1 H45 x50 x49) fun H51 => J H51 := by
 obtain ⟨⟨a0, a1⟩, ⟨b0, b1⟩, c0, c1⟩ := hb
 simp only [ixW0, ixW1, ixW2, bnd_some, ldW0 h, shr16 h0, shr8 h0, b_add, and255i (n := w) h0 (by omega), and255i (n := w / 256) (by omega) (by omega)]
 rw [wr64 (by omega) (by omega)]
 refine setW0 h _ fun H1 w1 => ?_
 simp only [ldW1 w1.g, bnd_some, b_add]
 rw [wr64 (by omega) (by omega)]
 refine setW1 w1.g _ fun H2 w2 => ?_
 simp only [ldW2 w2.g, bnd_some, b_add]
 rw [wr64 (by omega) (by omega)]
 refine setW2 w2.g _ fun H3 w3 => k H3 ?_
 have e : addW s w = ⟨s.a + w / 65536, s.b + w / 256 % 256, s.c + w % 256⟩ := by
  unfold addW
  have : w / 256 / 256 % 256 = w / 65536 := by omega
  rw [this]
 rw [e]
 exact (w1.trans w2).trans w3
end Go.Proofs.Ytaoegkmfgfefgaa.Ev
namespace Go.Proofs.Ytaoegkmfgfefgaa.Ev
set_option linter.unusedVariables false
set_option linter.unusedSimpArgs false
variable {σ : Sig}
structure RI (x : Sl) (s : W3) (H : Hp) : Prop where
 g0 : H.get 0 = some (.cells (encSl x) true)
 g1 : H.get 1 = some (.cells s.cells true)
 n : 2 ≤ H.n
theorem RI.step {x : Sl} {s s' : W3} {H H' : Hp} (h : RI x s H) (w : W1 H s' H') : RI x s' H' := ⟨(w.o 0 (by decide)).trans h.g0, w.g, by rw [w.n]; exact h.n⟩
theorem RI.new {x : Sl} {s : W3} {H : Hp} (h : RI x s H) (b : Blk) (o : Option Blk) : RI x s ((H.new b).set H.n o) := by
 have := h.n
 have e0 : (0 : Nat) ≠ H.n := by omega
 have e1 : (1 : Nat) ≠ H.n := by omega
 refine ⟨?_, ?_, ?_⟩
 ·simp [e0, h.g0]
 ·simp [e1, h.g1]
 ·show 2 ≤ H.n + 1
  omega
theorem W3.Bd.mono {M N : Int} {s : W3} (h : s.Bd M) (hl : M ≤ N) : s.Bd N := by
 obtain ⟨⟨a0, a1⟩, ⟨b0, b1⟩, c0, c1⟩ := h
 exact ⟨⟨a0, by omega⟩, ⟨b0, by omega⟩, c0, by omega⟩
theorem addW_0 (s : W3) : addW s 0 = s := by
 unfold addW
 simp
theorem lensW_bd {s : W3} {M : Int} (hs : s.Bd M) {c : Cp} (hfit : WideC c) : (lensW s c).Bd (M + 900) := by
 obtain ⟨⟨a0, a1⟩, ⟨b0, b1⟩, c0, c1⟩ := hs
 obtain ⟨f1, f2, f3, f4⟩ := hfit
 unfold lensW W3.Bd
 simp only
 refine ⟨by omega, by omega, ?_⟩
 split <;> omega
section
attribute [local irreducible] ref9_weight.L0 ref9_weight.J1 ref9_weight.L2 ref9_weight.J3 ref9_weight.L4 ref9_weight.J5
theorem rw_step {d : Nat} (hd : d ≤ 8) {g : Sl → Int} {P : Sl → Prop} (hg : d < 8 → ∀ x, P x → (∀ H, Good Try.prog σ n_ref9_weight [.agg (encSl x), I ((d + 1 : Nat) : Int)] H (I (g x)) H) ∧ 0 ≤ g x ∧ g x ≤ 16777215)
  (x : Sl) (hw : slWf Lmax x) (h60 : x.length ≤ 400) (hfit : ∀ p ∈ x, WideC p.c) (hP : d < 8 → ∀ p ∈ x, ∀ q ∈ p.c.pseudos, ∀ y ∈ q.list, P y) :
  (∀ H, Good Try.prog σ n_ref9_weight [.agg (encSl x), I (d : Int)] H (I (slW g (decide (d = 8)) x)) H) ∧ 0 ≤ slW g (decide (d = 8)) x ∧ slW g (decide (d = 8)) x ≤ 16777215 := by
 obtain ⟨F, hF⟩ : ∃ F : Nat → W3, ∀ k, F k = (x.take k).foldl (fun s p => cpW g (decide (d = 8)) s p.c) ⟨0, 0, 0⟩ := ⟨_, fun _ => rfl⟩
 obtain ⟨K, hK⟩ : ∃ K : AV → Hp → Prop, ∀ r H, K r H ↔ r = I (slW g (decide (d = 8)) x) ∧ 0 ≤ slW g (decide (d = 8)) x ∧ slW g (decide (d = 8)) x ≤ 16777215 := ⟨_, fun _ _ => Iff.rfl⟩
 have l0 : ∀ {s : W3} {H : Hp}, RI x s H → ldA false 1 H (.ptr 0 0) = some (.imm 6 (x.map encPt)) := fun h => by rw [ld_ptr, h.g0]; rfl
 have L0 : ∀ (n k : Nat) (H : Hp) (y7 y8 y9 y10 y11 : AV), x.length - k = n → k ≤ x.length → (F k).Bd (3000 * k) → RI x (F k) H →
   ref9_weight.L0 σ K (I (d : Int)) (.ptr 0 0) (.ptr 1 0) (I (k : Int)) y7 y8 y9 y10 y11 H := by
  intro n
  induction n with
  | zero =>
   intro k H y7 y8 y9 y10 y11 hn hk hb hI
   have e : k = x.length := by omega
   subst e
   refine ref9_weight.L0_step ?_
   have hW := weightW_le hb
   obtain ⟨⟨a0, a1⟩, ⟨b0, b1⟩, c0, c1⟩ := hb
   have q0 := lst_le _ a0
   have q1 := lst_le _ b0
   have q2 := lst_le _ c0
   simp only [sh_ptr, Nat.zero_add, bnd_some, l0 hI, len_imm, List.length_map, b_lss, Int.lt_irrefl, decide_false, ifB_lit, Bool.false_eq_true, if_false, ixW0, ixW1, ixW2, ldW0 hI.g1]
   refine callK_of (cut_ok _ _) ?_
   simp only [shl16 q0.1 q0.2, bnd_some, ldW1 hI.g1, kp_ptr, true_and]
   refine callK_of (cut_ok _ _) ?_
   simp only [shl8 q1.1 q1.2, bnd_some, ldW2 hI.g1, kp_ptr, true_and, b_add]
   refine callK_of (cut_ok _ _) ?_
   simp only [b_add, bnd_some]
   rw [wr64 (n := lst (F x.length).a * 65536 + lst (F x.length).b * 256) (by omega) (by omega), wr64 (by omega) (by omega)]
   have e2 : weightW (F x.length) = slW g (decide (d = 8)) x := by rw [hF, List.take_length]; rfl
   have e3 : lst (F x.length).a * 65536 + lst (F x.length).b * 256 + lst (F x.length).c = weightW (F x.length) := by unfold weightW; omega
   rw [e3, e2]
   rw [e2] at hW
   exact (hK _ _).2 ⟨rfl, hW⟩
  | succ n ih =>
   intro k H y7 y8 y9 y10 y11 hn hk hb hI
   have hklt : k < x.length := by omega
   have hklt' : (k : Int) < x.length := by omega
   obtain ⟨p, hp⟩ := get_lt hklt
   have hmem := List.mem_of_getElem? hp
   have hpw := (Pt.wf_iff.1 (hw.2 p hmem)).2
   have hfp := hfit p hmem
   have hix : ixaSl 6 (.imm 6 (x.map encPt)) (I (k : Int)) = some (.ip (encPt p)) := ix_map hp
   have l5 : ∀ H : Hp, ldA true 5 H (.ip ((encPt p).drop 1)) = some (.agg (encCp p.c)) := fun H => by rw [encPt_eq]; simp
   have hls := lensW_bd hb hfp
   have hFk : F (k + 1) = cpW g (decide (d = 8)) (F k) p.c := by
    rw [hF, hF, List.take_add_one, hp]
    simp only [Option.toList_some, List.foldl_append, List.foldl_cons, List.foldl_nil]
   have hps5 : p.c.pseudos.length ≤ 5 := hfp.2.2.2
   have L2 : ∀ (m j : Nat) (H : Hp) (s : W3) (c : Nat) (y9 y10 y11 : AV), p.c.pseudos.length - j = m → j ≤ p.c.pseudos.length → s = (p.c.pseudos.take j).foldl (psW g (decide (d = 8))) (lensW (F k) p.c) → s.Bd (3000 * k + 900 + 255 * j) → RI x s H →
     2 ≤ c → c < H.n → H.get c = some (.cells (encCp p.c) true) → ref9_weight.L2 σ K (I (d : Int)) (.ptr 0 0) (.ptr 1 0) (I (k : Int)) (.ptr c 0) (I (j : Int)) y9 y10 y11 H := by
    intro m
    induction m with
    | zero =>
     intro j H s c y9 y10 y11 hm hj hs hb hI hc2 hcn hgc
     have e : j = p.c.pseudos.length := by omega
     subst e
     have lp : ldA false 1 H (.ptr c 4) = some (.imm 4 (p.c.pseudos.map encPs)) := by rw [ld_ptr, hgc, ldO_cells, f_encCp4]
     refine ref9_weight.L2_step ?_
     simp only [sh_ptr, Nat.zero_add, bnd_some, lp, len_imm, List.length_map, b_lss, Int.lt_irrefl, decide_false, ifB_lit, Bool.false_eq_true, if_false, b_add]
     rw [wr_succ (by omega)]
     have e2 : s = F (k + 1) := by rw [hFk, hs, List.take_length]; rfl
     subst e2
     exact ih (k + 1) H _ _ _ _ _ (by omega) (by omega) (hb.mono (by omega)) hI
    | succ m ihm =>
     intro j H s c y9 y10 y11 hm hj hs hb hI hc2 hcn hgc
     have hjlt : j < p.c.pseudos.length := by omega
     have hjlt' : (j : Int) < p.c.pseudos.length := by omega
     obtain ⟨q, hq⟩ := get_lt hjlt
     have hqm := List.mem_of_getElem? hq
     have hqw := (Ps.wf_iff.1 (hpw.ps q hqm)).2.2.2
     have lp : ldA false 1 H (.ptr c 4) = some (.imm 4 (p.c.pseudos.map encPs)) := by rw [ld_ptr, hgc, ldO_cells, f_encCp4]
     have hiq : ixaSl 4 (.imm 4 (p.c.pseudos.map encPs)) (I (j : Int)) = some (.ip (encPs q)) := ix_map hq
     have l4 : ldA true 4 H (.ip (encPs q)) = some (.agg (encPs q)) := by rw [encPs_eq]; rfl
     have hfold : (p.c.pseudos.take (j + 1)).foldl (psW g (decide (d = 8))) (lensW (F k) p.c) = psW g (decide (d = 8)) s q := by
      rw [List.take_add_one, hq]
      simp only [Option.toList_some, List.foldl_append, List.foldl_cons, List.foldl_nil]
      rw [← hs]
     have next : ∀ (H2 : Hp) (s2 : W3) (y9 y10 y11 : AV), s2 = psW g (decide (d = 8)) s q → s2.Bd (3000 * k + 900 + 255 * j + 255) → RI x s2 H2 → c < H2.n → H2.get c = some (.cells (encCp p.c) true) →
       ref9_weight.J3 σ K (I (d : Int)) (.ptr 0 0) (.ptr 1 0) (I (k : Int)) (.ptr c 0) (I (j : Int)) y9 y10 y11 H2 := by
      intro H2 s2 y9 y10 y11 e1 e2 e3 e4 e5
      refine ref9_weight.J3_step ?_
      rw [b_add, bnd_some, wr_succ (by omega)]
      exact ihm (j + 1) H2 s2 c _ _ _ (by omega) (by omega) (by rw [hfold]; exact e1) (e2.mono (by omega)) e3 hc2 e4 e5
     have hs0 := hb
     refine ref9_weight.L2_step ?_
     simp only [sh_ptr, Nat.zero_add, bnd_some, lp, len_imm, List.length_map, b_lss, hjlt', decide_true, ifB_lit, if_true, hiq, l4, allocK_eq]
     obtain ⟨H2, hH2⟩ : ∃ H2, H2 = (H.new (.cells [I 0, I 0, I 0, .lit (.slice none 0 0)] true)).set H.n (some (.cells (encPs q) true)) := ⟨_, rfl⟩
     refine bnd_of (x := H2) ?_ ?_
     ·rw [st_agg, hH2]
      simp only [hp_get_new, if_true, stO_cells, len_encPs]
      rw [if_pos ⟨by decide, one_Ps _⟩, ov_Ps _ rfl]
     have hI2 : RI x s H2 := by rw [hH2]; exact hI.new _ _
     have hcH : c ≠ H.n := by omega
     have hgc2 : H2.get c = some (.cells (encCp p.c) true) := by rw [hH2]; simp [hcH, hgc]
     have n2 : H2.n = H.n + 1 := by rw [hH2]; rfl
     have gq : H2.get H.n = some (.cells (encPs q) true) := by rw [hH2]; simp
     have lk : ldA false 1 H2 (.ptr H.n 0) = some (I q.kind) := by rw [ld_ptr, gq, ldO_cells, List.drop_zero, f_encPs0]
     have b2 : 2 ≤ H.n := hI.n
     clear hH2
     have ll : ∀ H' : Hp, H'.get H.n = some (.cells (encPs q) true) → ldA false 1 H' (.ptr H.n 3) = some (.imm 1 (q.list.map encSl)) := fun H' h => by rw [ld_ptr, h, ldO_cells, f_encPs3]
     have endL : q.kind = 7 ∨ q.kind = 8 → ∀ (H3 : Hp) (w : Int) (y11 : AV), w = (if d = 8 then 0 else topW g q.list 0) → 0 ≤ w → w ≤ 16777215 → RI x s H3 → H3.n = H2.n → (∀ j, H3.get j = H2.get j) → ∀ H4, W1 H3 (addW s w) H4 →
       ref9_weight.J3 σ K (I (d : Int)) (.ptr 0 0) (.ptr 1 0) (I (k : Int)) (.ptr c 0) (I (j : Int)) (.ptr H.n 0) (I w) y11 H4 := by
      intro h78 H3 w y11 hw h0 h1 hI3 n3 s3 H4 w4
      refine next H4 (addW s w) _ _ _ ?_ (addW_bd hs0 h0) (hI3.step w4) (by rw [w4.n]; omega) (by rw [w4.o c (by omega), s3]; exact hgc2)
      unfold psW
      rw [if_neg (by omega), hw]
      by_cases h8 : d = 8
      ·simp [h8, addW_0]
      ·simp [h8]
     have toL4 : q.kind = 7 ∨ q.kind = 8 → ref9_weight.L4 σ K (I (d : Int)) (.ptr 0 0) (.ptr 1 0) (I (k : Int)) (.ptr c 0) (I (j : Int)) (.ptr H.n 0) (I 0) (I 0) H2 := by
      intro h78
      have hEnd := endL h78
      by_cases h8 : d = 8
      ·have fin := hEnd H2 0 (I 0) (by rw [if_pos h8]) (by decide) (by decide) hI2 rfl (fun _ => rfl)
       have nlt : ¬ ((d : Int) < 8) := by omega
       refine ref9_weight.L4_step ?_
       simp only [sh_ptr, Nat.zero_add, bnd_some, ll _ gq, len_imm, List.length_map, b_lss, nlt, decide_false, ifB_lit, Bool.false_eq_true, if_false]
       by_cases hz : (0 : Int) < q.list.length
       ·simp only [hz, decide_true, if_true]
        exact addChain (M := 1000000000) hI2.g1 (hs0.mono (by omega)) (by omega) (by decide) (by decide) fin
       ·simp only [hz, decide_false, Bool.false_eq_true, if_false]
        exact addChain (M := 1000000000) hI2.g1 (hs0.mono (by omega)) (by omega) (by decide) (by decide) fin
      ·have hd8 : d < 8 := by omega
       have hd8' : (d : Int) < 8 := by omega
       have hPq := hP hd8 p hmem q hqm
       have L4 : ∀ (m4 i : Nat) (m : Int), q.list.length - i = m4 → i ≤ q.list.length → m = topW g (q.list.take i) 0 → ref9_weight.L4 σ K (I (d : Int)) (.ptr 0 0) (.ptr 1 0) (I (k : Int)) (.ptr c 0) (I (j : Int)) (.ptr H.n 0) (I m) (I (i : Int)) H2 := by
        intro m4
        induction m4 with
        | zero =>
         intro i m hm4 hi hm
         have e : i = q.list.length := by omega
         subst e
         rw [List.take_length] at hm
         have hmb := topW_le (g := g) q.list 0 (by omega) (by omega) fun y hy => (hg hd8 y (hPq y hy)).2
         rw [← hm] at hmb
         have fin := hEnd H2 m (I (q.list.length : Int)) (by rw [if_neg h8]; exact hm) hmb.1 hmb.2 hI2 rfl (fun _ => rfl)
         refine ref9_weight.L4_step ?_
         simp only [sh_ptr, Nat.zero_add, bnd_some, ll _ gq, len_imm, List.length_map, b_lss, Int.lt_irrefl, decide_false, ifB_lit, Bool.false_eq_true, if_false]
         exact addChain (M := 1000000000) hI2.g1 (hs0.mono (by omega)) (by omega) hmb.1 hmb.2 fin
        | succ m4 ih4 =>
         intro i m hm4 hi hm
         have hil : i < q.list.length := by omega
         have hil' : (i : Int) < q.list.length := by omega
         obtain ⟨y, hy⟩ := get_lt hil
         obtain ⟨hgy, _, _⟩ := hg hd8 y (hPq y (List.mem_of_getElem? hy))
         have hiy : ixaSl 1 (.imm 1 (q.list.map encSl)) (I (i : Int)) = some (.ip (encSl y)) := ix_map hy
         have htop : topW g (q.list.take (i + 1)) 0 = if m < g y then g y else m := by
          rw [List.take_add_one, hy, hm]
          simp only [topW, Option.toList_some, List.foldl_append, List.foldl_cons, List.foldl_nil]
          rfl
         have J5 : ∀ m', m' = topW g (q.list.take (i + 1)) 0 → ref9_weight.J5 σ K (I (d : Int)) (.ptr 0 0) (.ptr 1 0) (I (k : Int)) (.ptr c 0) (I (j : Int)) (.ptr H.n 0) (I m') (I (i : Int)) H2 := by
          intro m' hm'
          refine ref9_weight.J5_step ?_
          rw [b_add, bnd_some, wr_succL hil hqw.1]
          exact ih4 (i + 1) m' (by omega) (by omega) hm'
         refine ref9_weight.L4_step ?_
         simp only [sh_ptr, Nat.zero_add, bnd_some, ll _ gq, len_imm, List.length_map, b_lss, hil', hd8', decide_true, ifB_lit, if_true, hiy, ld_ip, ldL_sl, b_add]
         rw [wr_succ (by omega)]
         refine callK_of (hgy _) ?_
         simp only [b_gtr, bnd_some, ifB_lit]
         by_cases hlt : m < g y
         ·simp only [hlt, decide_true, if_true]
          exact J5 _ (by rw [htop, if_pos hlt])
         ·simp only [hlt, decide_false, Bool.false_eq_true, if_false]
          exact J5 _ (by rw [htop, if_neg hlt])
       exact L4 _ 0 0 rfl (Nat.zero_le _) rfl
     simp only [lk, bnd_some, b_neq, ifB_lit]
     by_cases h7 : q.kind = 7
     ·simp only [h7, decide_true, Bool.not_true, Bool.false_eq_true, if_false]
      exact toL4 (.inl h7)
     by_cases h8 : q.kind = 8
     ·simp only [h8, decide_true, Bool.not_true, Bool.false_eq_true, if_false]
      have := toL4 (.inr h8)
      split <;> exact this
     simp only [h7, h8, decide_false, Bool.not_false, if_true, ixW1, bnd_some, ldW1 hI2.g1, b_add]
     obtain ⟨⟨a0, a1⟩, ⟨b0, b1⟩, c0, c1⟩ := hb
     rw [wr64 (by omega) (by omega)]
     refine setW1 hI2.g1 _ fun H4 w4 => ?_
     refine next H4 ⟨s.a, s.b + 1, s.c⟩ _ _ _ ?_ ⟨⟨a0, by simp only; omega⟩, ⟨by simp only; omega, by simp only; omega⟩, c0, by simp only; omega⟩ (hI2.step w4) (by rw [w4.n]; omega) (by rw [w4.o c (by omega)]; exact hgc2)
     unfold psW
     rw [if_pos ⟨h7, h8⟩]
   refine ref9_weight.L0_step ?_
   simp only [sh_ptr, Nat.zero_add, bnd_some, l0 hI, len_imm, List.length_map, b_lss, hklt', decide_true, ifB_lit, if_true, hix, sh_ip, l5, allocK_eq]
   obtain ⟨H2, hH2⟩ : ∃ H2, H2 = (H.new (.cells [.lit (.string ⟨#[]⟩), .lit (.slice none 0 0), .lit (.slice none 0 0), .lit (.slice none 0 0), .lit (.slice none 0 0)] true)).set H.n (some (.cells (encCp p.c) true)) := ⟨_, rfl⟩
   refine bnd_of (x := H2) ?_ ?_
   ·rw [st_agg, hH2]
    simp only [hp_get_new, if_true, stO_cells, len_encCp]
    rw [if_pos ⟨by decide, one_Cp _⟩, ov_Cp _ rfl]
   have hI2 : RI x (F k) H2 := by rw [hH2]; exact hI.new _ _
   have n2 : H2.n = H.n + 1 := by rw [hH2]; rfl
   have gc : H2.get H.n = some (.cells (encCp p.c) true) := by rw [hH2]; simp
   have b2 : 2 ≤ H.n := hI.n
   clear hH2
   obtain ⟨f1, f2, f3, f4⟩ := hfp
   have hb' := hb
   obtain ⟨⟨a0, a1⟩, ⟨b0, b1⟩, c0, c1⟩ := hb
   have g1 : ∀ H' : Hp, H'.get H.n = some (.cells (encCp p.c) true) → ldA false 1 H' (.ptr H.n 1) = some (strs p.c.ids) := fun H' h => by rw [ld_ptr, h, ldO_cells, f_encCp1']
   have g2 : ∀ H' : Hp, H'.get H.n = some (.cells (encCp p.c) true) → ldA false 1 H' (.ptr H.n 2) = some (strs p.c.classes) := fun H' h => by rw [ld_ptr, h, ldO_cells, f_encCp2]
   have g3 : ∀ H' : Hp, H'.get H.n = some (.cells (encCp p.c) true) → ldA false 1 H' (.ptr H.n 3) = some (.imm 3 (p.c.attrs.map encAt)) := fun H' h => by rw [ld_ptr, h, ldO_cells, f_encCp3]
   have g0 : ∀ H' : Hp, H'.get H.n = some (.cells (encCp p.c) true) → ldA false 1 H' (.ptr H.n 0) = some (Sx p.c.tag) := fun H' h => by rw [ld_ptr, h, ldO_cells, List.drop_zero, f_encCp0]
   simp only [ixW0, ixW1, ixW2, bnd_some, ldW0 hI2.g1, g1 _ gc, len_strs, b_add]
   rw [wr64 (by omega) (by omega)]
   refine setW0 hI2.g1 _ fun H3 w3 => ?_
   have gc3 := (w3.o H.n (by omega)).trans gc
   simp only [ldW1 w3.g, bnd_some, g2 _ gc3, g3 _ gc3, len_strs, len_imm, List.length_map, b_add]
   rw [wr64 (n := (F k).b + p.c.classes.length) (by omega) (by omega), wr64 (by omega) (by omega)]
   refine setW1 w3.g _ fun H4 w4 => ?_
   have gc4 := (w4.o H.n (by omega)).trans gc3
   have n4 : H4.n = H.n + 1 := by rw [w4.n, w3.n, n2]
   have hI4 := (hI2.step w3).step w4
   have goL : ∀ H5 s5, s5 = lensW (F k) p.c → RI x s5 H5 → H5.n = H.n + 1 → H5.get H.n = some (.cells (encCp p.c) true) → ∀ y8 y9 y10 y11, ref9_weight.J1 σ K (I (d : Int)) (.ptr 0 0) (.ptr 1 0) (I (k : Int)) (.ptr H.n 0) y8 y9 y10 y11 H5 := by
    intro H5 s5 es hI5 n5 gc5 y8 y9 y10 y11
    refine ref9_weight.J1_step ?_
    exact L2 _ 0 H5 s5 H.n _ _ _ rfl (Nat.zero_le _) (by rw [es]; rfl) (by rw [es]; exact hls.mono (by omega)) hI5 b2 (by omega) gc5
   simp only [g0 _ gc4, bnd_some, b_sneq, ifB_lit, ldW2 w4.g, b_add]
   by_cases ht : p.c.tag = ⟨#[]⟩
   ·simp only [ht, decide_true, Bool.not_true, Bool.false_eq_true, if_false]
    refine goL H4 _ ?_ hI4 n4 gc4 _ _ _ _
    unfold lensW
    rw [if_neg (by simpa using ht)]
    simp only [Int.add_assoc]
   ·simp only [ht, decide_false, Bool.not_false, if_true]
    rw [wr64 (by omega) (by omega)]
    refine setW2 w4.g _ fun H5 w5 => ?_
    refine goL H5 _ ?_ (hI4.step w5) (by rw [w5.n, n4]) ((w5.o H.n (by omega)).trans gc4) _ _ _ _
    unfold lensW
    rw [if_pos ht]
    simp only [Int.add_assoc]
 have run : ∃ r H1, Good Try.prog σ n_ref9_weight [.agg (encSl x), I (d : Int)] Hp.empty r H1 ∧ K r H1 := by
  refine ref9_weight.run ?_
  simp only [boxK_agg, allocK_eq]
  have hF0 : F 0 = ⟨0, 0, 0⟩ := by rw [hF]; rfl
  refine L0 _ 0 _ _ _ _ _ _ rfl (Nat.zero_le _) (by rw [hF0]; exact ⟨⟨by decide, by decide⟩, ⟨by decide, by decide⟩, by decide, by decide⟩) ?_
  rw [hF0]
  exact ⟨by simp [Hp.empty], by simp [Hp.empty]; rfl, Nat.le_refl 2⟩
 obtain ⟨r, H1, hg', hh⟩ := run
 obtain ⟨rfl, hb⟩ := (hK _ _).1 hh
 exact ⟨fun H => hg'.over (by simp [noIds, noId, noId_Sl]) rfl H, hb⟩
end
theorem rw_ok : ∀ (e : Nat) (d : Nat), d + e = 8 → ∀ (f : Nat) (x : Sl), e ≤ f → slWf Lmax x → FitS f x → (∀ H, Good Try.prog σ n_ref9_weight [.agg (encSl x), I (d : Int)] H (I (ofW e x)) H) ∧ 0 ≤ ofW e x ∧ ofW e x ≤ 16777215
 | 0, d, hd, f, x, hf, hw, hfit => by
  have hd8 : d = 8 := by omega
  subst hd8
  exact rw_step (P := fun _ => False) (by decide) (g := fun _ => 0) (fun h => absurd h (by decide)) x hw (by have := hfit.1; omega) (fun p hp => (hfit.2 p hp).1.wide) (fun h => absurd h (by decide))
 | e + 1, d, hd, f, x, hf, hw, hfit => by
  have h := rw_step (σ := σ) (d := d) (P := fun y => slWf Lmax y ∧ FitS (f - 1) y) (by omega) (g := ofW e) (fun _ y hy => rw_ok e (d + 1) (by omega) (f - 1) y (by omega) hy.1 hy.2) x hw (by have := hfit.1; omega) (fun p hp => (hfit.2 p hp).1.wide) (fun _ p hp q hq y hy => by
   have hpw := (Pt.wf_iff.1 (hw.2 p hp)).2
   have hqw := (Ps.wf_iff.1 (hpw.ps q hq)).2.2.2
   refine ⟨hqw.2 y hy, ?_⟩
   have := (hfit.2 p hp).2 q hq
   obtain ⟨f', rfl⟩ : ∃ f', f = f' + 1 := ⟨f - 1, by omega⟩
   exact this y hy)
  have e8 : decide (d = 8) = false := decide_eq_false (by omega)
  rw [e8] at h
  exact h
theorem Weight_ok {f : Nat} {x : Sl} (hf : 8 ≤ f) (hw : slWf Lmax x) (hfit : FitS f x) (H : Hp) : Good Try.prog σ n_ref9_Weight [.agg (encSl x)] H (I (ofW 8 x)) H := by
 refine good_pure (ref9_Weight.run ?_) (by simp [noIds, noId, noId_Sl]) rfl H
 simp only [boxK_agg]
 have l1 : ldA true 1 (Hp.empty.new (.cells (encSl x) true)) (.ptr Hp.empty.n 0) = some (.agg (encSl x)) := by simp [Hp.empty]
 rw [l1, bnd_some]
 exact callK_of ((rw_ok 8 0 rfl f x hf hw hfit).1 _) rfl
end Go.Proofs.Ytaoegkmfgfefgaa.Ev
namespace Go.Proofs.Ytaoegkmfgfefgaa.Ev
set_option linter.unusedVariables false
set_option linter.unusedSimpArgs false
variable {σ : Sig}
structure WsOk (l : List Sl) : Prop where
 len : l.length ≤ 2000000
 ok : ∀ s ∈ l, SelOk 11 [s] ∧ TxL 11 [s]
 wf : ∀ s ∈ l, slWf Lmax s
 fit : ∀ s ∈ l, FitS 10 s
theorem ofW_le {s : Sl} (hw : slWf Lmax s) (hf : FitS 10 s) : 0 ≤ ofW 8 s ∧ ofW 8 s ≤ 16777215 := (rw_ok (σ := ⟨fun _ => 0, fun _ => false, fun _ => ⟨#[]⟩, none⟩) 8 0 rfl 10 s (by decide) hw hf).2
def bestW (L : List Nd) (e : Int) : List Sl → Int × Bool → Int × Bool
 | [], a => a
 | s :: r, a => bestW L e r (if selB L 11 s e then (if a.1 < ofW 8 s then ofW 8 s else a.1, true) else a)
section
attribute [local irreducible] ref9_Tree_Best.L0 ref9_Tree_Best.J1 ref9_Tree_Best.J2
theorem rBest_ok {L : List Nd} {d : List Nat} (M : McT σ L d) {l : List Sl} (hl : WsOk l) (e : Int) (H : Hp) :
  Good Try.prog σ n_ref9_Tree_Best [refT L d, I e, sls l] H (.tup [I (bestW L e l (0, false)).1, Bo (bestW L e l (0, false)).2]) H := by
 refine good_by (fun K hK => ref9_Tree_Best.run ?_) (by simp [noIds, noId, noId_refT]) rfl H
 have hll := hl.len
 have L0 : ∀ (f k : Nat) (H : Hp) (a : Int × Bool), l.length - k = f → k ≤ l.length → (a.2 = false → a.1 = 0) → bestW L e (l.drop k) a = bestW L e l (0, false) → ref9_Tree_Best.L0 σ K (refT L d) (I e) (sls l) (I a.1) (Bo a.2) (I (k : Int)) H := by
  intro f
  induction f with
  | zero =>
   intro k H a hf hk hz ha
   have : k = l.length := by omega
   subst this
   rw [List.drop_length] at ha
   refine ref9_Tree_Best.L0_step ?_
   simp only [len_sls, b_lss, bnd_some, Int.lt_irrefl, decide_false, ifB_lit, Bool.false_eq_true, if_false]
   rw [← ha] at hK
   exact hK _
  | succ f ih =>
   intro k H a hf hk hz ha
   have hlt : k < l.length := by omega
   have hlt' : (k : Int) < l.length := by omega
   obtain ⟨s, hs⟩ := get_lt hlt
   have hsm := List.mem_of_getElem? hs
   have hix : ixaSl 1 (sls l) (I (k : Int)) = some (.ip (encSl s)) := ix_map hs
   rw [drop_get hs, bestW] at ha
   have J2 : ∀ (H : Hp) (a : Int × Bool), (a.2 = false → a.1 = 0) → bestW L e (l.drop (k + 1)) a = bestW L e l (0, false) → ref9_Tree_Best.J2 σ K (refT L d) (I e) (sls l) (I a.1) (Bo a.2) (I (k : Int)) H := by
    intro H a hz ha
    refine ref9_Tree_Best.J2_step ?_
    rw [b_add, bnd_some, wr_succ (by omega)]
    exact ih (k + 1) H a (by omega) (by omega) hz ha
   have J1 : ∀ (H : Hp) (n : Int) (y9 : AV), bestW L e (l.drop (k + 1)) (n, true) = bestW L e l (0, false) → ref9_Tree_Best.J1 σ K (refT L d) (I e) (sls l) (I n) y9 (I (k : Int)) H := by
    intro H n y9 ha
    refine ref9_Tree_Best.J1_step ?_
    exact J2 H (n, true) (fun h => by cases h) ha
   obtain ⟨S, X⟩ := hl.ok s hsm
   have hw := ofW_le (hl.wf s hsm) (hl.fit s hsm)
   refine ref9_Tree_Best.L0_step ?_
   simp only [len_sls, b_lss, bnd_some, hlt', decide_true, ifB_lit, if_true, hix, ld_ip, ldL_sl]
   refine callK_of (rTopSel_ok M S X e _) ?_
   simp only [ifB_lit]
   cases hsel : selB L 11 s e with
   | false =>
    rw [hsel] at ha
    simp only [Bool.false_eq_true, if_false] at ha ⊢
    exact J2 _ a hz ha
   | true =>
    rw [hsel] at ha
    simp only [if_true] at ha ⊢
    refine callK_of (Weight_ok (f := 10) (by decide) (hl.wf s hsm) (hl.fit s hsm) _) ?_
    simp only [u_not, bnd_some, ifB_lit]
    cases h2 : a.2 with
    | false =>
     have h1 := hz h2
     have : (if a.1 < ofW 8 s then ofW 8 s else a.1) = ofW 8 s := by split <;> omega
     rw [this] at ha
     simp only [Bool.not_false, if_true]
     exact J1 _ _ _ ha
    | true =>
     simp only [Bool.not_true, Bool.false_eq_true, if_false, b_gtr, bnd_some, ifB_lit]
     by_cases hlt : a.1 < ofW 8 s
     ·rw [if_pos hlt] at ha
      simp only [hlt, decide_true, if_true]
      exact J1 _ _ _ ha
     ·rw [if_neg hlt] at ha
      simp only [hlt, decide_false, Bool.false_eq_true, if_false]
      exact J1 _ _ _ ha
 exact L0 _ 0 _ (0, false) rfl (Nat.zero_le _) (fun _ => rfl) rfl
end
end Go.Proofs.Ytaoegkmfgfefgaa.Ev
namespace Go.Proofs.Ytaoegkmfgfefgaa.Ev
set_option linter.unusedVariables false
set_option linter.unusedSimpArgs false
variable {σ : Sig}
structure Wn where
 o : List Int
 w : List Int
 t : List Bool
structure Wn.Ok (s : Wn) : Prop where
 o : s.o.length = 16
 w : s.w.length = 8
 t : s.t.length = 8
def setW (w : Int) (s : Wn) (q : ST) : Wn :=
 if q.prop < 0 ∨ 8 ≤ q.prop then s
 else if s.t.getD q.prop.toNat false = true ∧ (if q.imp then w + 1073741824 else w) < s.w.getD q.prop.toNat 0 then s
 else ⟨(s.o.set (q.prop.toNat * 2) q.kind).set (q.prop.toNat * 2 + 1) q.n, s.w.set q.prop.toNat (if q.imp then w + 1073741824 else w), s.t.set q.prop.toNat true⟩
def ruleW (L : List Nd) (e : Int) (s : Wn) (r : RL) : Wn := if (bestW L e r.sels (0, false)).2 then r.sets.foldl (setW (bestW L e r.sels (0, false)).1) s else s
def wn0 : Wn := ⟨List.replicate 16 0, List.replicate 8 0, List.replicate 8 false⟩
def winW (L : List Nd) (e : Int) (m : List RL) : Wn := m.foldl (ruleW L e) wn0
theorem setW_ok {w : Int} {s : Wn} {q : ST} (h : s.Ok) : (setW w s q).Ok := by
 unfold setW
 generalize (if q.imp = true then w + 1073741824 else w) = x
 split
 ·exact h
 split
 ·exact h
 ·exact ⟨by simp [h.o], by simp [h.w], by simp [h.t]⟩
theorem ov_two : ∀ (cs : List AV) (i : Nat) (x y : AV), i + 1 < cs.length → overlay cs i [x, y] = (cs.set i x).set (i + 1) y := by
 intro cs i x y h
 unfold overlay
 apply List.ext_getElem?
 intro j
 simp only [List.getElem?_append, List.length_take, List.length_append, List.getElem?_take, List.getElem?_drop, List.getElem?_set, List.length_set, List.length_cons, List.length_nil]
 have hm : min i cs.length = i := by omega
 rw [hm]
 by_cases h1 : j < i
 ·have : j < i + (0 + 1 + 1) := by omega
  have e1 : i + 1 ≠ j := by omega
  have e2 : i ≠ j := by omega
  simp [h1, this, e1, e2]
 ·by_cases h2 : j = i
  ·subst h2
   have : j < cs.length := by omega
   simp [this]
  ·by_cases h3 : j = i + 1
   ·subst h3
    have e1 : ¬ i + 1 < i := by omega
    simp [h, e1]
   ·have e1 : ¬ j < i + (0 + 1 + 1) := by omega
    have e2 : i + 1 ≠ j := by omega
    have e3 : i ≠ j := by omega
    simp [e1, e2, e3]
    congr 1
    omega
structure WI (s : Wn) (H : Hp) : Prop where
 g0 : H.get 0 = some (.cells (List.replicate 16 (I 0)) true)
 g1 : H.get 1 = some (.cells (s.o.map I) true)
 g2 : H.get 2 = some (.cells (s.w.map I) true)
 g3 : H.get 3 = some (.cells (s.t.map Bo) true)
 n : 4 ≤ H.n
theorem WI.new {s : Wn} {H : Hp} (h : WI s H) (b : Blk) (o : Option Blk) : WI s ((H.new b).set H.n o) := by
 have := h.n
 have e0 : (0 : Nat) ≠ H.n := by omega
 have e1 : (1 : Nat) ≠ H.n := by omega
 have e2 : (2 : Nat) ≠ H.n := by omega
 have e3 : (3 : Nat) ≠ H.n := by omega
 refine ⟨?_, ?_, ?_, ?_, ?_⟩
 ·simp [e0, h.g0]
 ·simp [e1, h.g1]
 ·simp [e2, h.g2]
 ·simp [e3, h.g3]
 ·show 4 ≤ H.n + 1
  omega
theorem map_set_I (l : List Int) (i : Nat) (x : Int) : (l.map I).set i (I x) = (l.set i x).map I := by rw [List.map_set]
section
attribute [local irreducible] ref9_Tree_Winners.L0 ref9_Tree_Winners.J1 ref9_Tree_Winners.L2 ref9_Tree_Winners.J3 ref9_Tree_Winners.J4
theorem Winners_ok {L : List Nd} {d : List Nat} (M : McT σ L d) {m : List RL} (hm : ∀ r ∈ m, WsOk r.sels ∧ r.sets.length ≤ 30) (hlen : m.length ≤ 30) (e : Int) (H : Hp) :
  Good Try.prog σ n_ref9_Tree_Winners [refT L d, I e, rls m] H (.agg ((winW L e m).o.map I)) H := by
 have hno : noId (.agg ((winW L e m).o.map I)) = true := by
  simp only [noId]
  generalize (winW L e m).o = o
  induction o with
  | nil => rfl
  | cons a r ih => simp only [List.map_cons, noIds, noId, Bool.true_and]; exact ih
 refine good_byI (fun K hK => ref9_Tree_Winners.run ?_) (by simp [noIds, noId, noId_refT]) hno H
 simp only [allocK_eq]
 obtain ⟨F, hF⟩ : ∃ F : Nat → Wn, ∀ k, F k = (m.take k).foldl (ruleW L e) wn0 := ⟨_, fun _ => rfl⟩
 have L0 : ∀ (f k : Nat) (H : Hp) (y11 y13 y14 y15 : AV), m.length - k = f → k ≤ m.length → (F k).Ok → WI (F k) H → ref9_Tree_Winners.L0 σ K (refT L d) (I e) (rls m) (.ptr 0 0) (.ptr 1 0) (.ptr 2 0) (.ptr 3 0) (I (k : Int)) y11 y13 y14 y15 H := by
  intro f
  induction f with
  | zero =>
   intro k H y11 y13 y14 y15 hf hk hok hI
   have : k = m.length := by omega
   subst this
   have eF : F m.length = winW L e m := by rw [hF, List.take_length]; rfl
   rw [eF] at hok hI
   have l1 : ldA true 16 H (.ptr 1 0) = some (.agg ((winW L e m).o.map I)) := by
    rw [ld_ptr, hI.g1, ldO_cells, List.drop_zero]
    exact ldL_all (by simp [hok.o])
   refine ref9_Tree_Winners.L0_step ?_
   simp only [len_rls, b_lss, bnd_some, Int.lt_irrefl, decide_false, ifB_lit, Bool.false_eq_true, if_false, l1]
   have hone : ((winW L e m).o.map I).all AV.one = true := by
    rw [List.all_eq_true]
    intro x hx
    obtain ⟨n, _, rfl⟩ := List.mem_map.1 hx
    rfl
   refine bnd_of (x := H.set 0 (some (.cells ((winW L e m).o.map I) true))) ?_ ?_
   ·rw [st_agg, if_pos (by simp [hok.o]), hI.g0, stO_cells, if_pos ⟨by simp [hok.o], hone⟩, overlay_all (by simp [hok.o])]
   have l2 : ldA true 16 (H.set 0 (some (.cells ((winW L e m).o.map I) true))) (.ptr 0 0) = some (.agg ((winW L e m).o.map I)) := by
    rw [ld_ptr, hp_get_set, if_pos rfl, ldO_cells, List.drop_zero]
    exact ldL_all (by simp [hok.o])
   rw [l2, bnd_some]
   exact hK _
  | succ f ih =>
   intro k H y11 y13 y14 y15 hf hk hok hI
   have hlt : k < m.length := by omega
   have hlt' : (k : Int) < m.length := by omega
   obtain ⟨r, hr⟩ := get_lt hlt
   have hrm := List.mem_of_getElem? hr
   obtain ⟨hws, h30⟩ := hm r hrm
   have hix : ixaSl 2 (rls m) (I (k : Int)) = some (.ip (encRL r)) := ix_map hr
   have lr : ∀ H : Hp, ldA false 1 H (.ip (encRL r)) = some (sls r.sels) := fun _ => rfl
   have ls : ∀ H : Hp, ldA false 1 H (.ip ((encRL r).drop 1)) = some (.imm 4 (r.sets.map encST)) := fun _ => rfl
   have hFk : F (k + 1) = ruleW L e (F k) r := by
    rw [hF, hF, List.take_add_one, hr]
    simp only [Option.toList_some, List.foldl_append, List.foldl_cons, List.foldl_nil]
   have J1 : ∀ (H : Hp) (y11 y13 y14 y15 : AV), (F (k + 1)).Ok → WI (F (k + 1)) H → ref9_Tree_Winners.J1 σ K (refT L d) (I e) (rls m) (.ptr 0 0) (.ptr 1 0) (.ptr 2 0) (.ptr 3 0) (I (k : Int)) y11 y13 y14 y15 H := by
    intro H y11 y13 y14 y15 h1 h2
    refine ref9_Tree_Winners.J1_step ?_
    rw [b_add, bnd_some, wr_succ (by omega)]
    exact ih (k + 1) H _ _ _ _ (by omega) (by omega) h1 h2
   refine ref9_Tree_Winners.L0_step ?_
   simp only [len_rls, b_lss, bnd_some, hlt', decide_true, ifB_lit, if_true, hix, sh_ip, List.drop_zero, lr]
   refine callK_of (rBest_ok M hws e _) ?_
   obtain ⟨bw, hbw⟩ : ∃ bw, bw = bestW L e r.sels (0, false) := ⟨_, rfl⟩
   rw [← hbw]
   simp only [x_tup, List.getElem?_cons_zero, List.getElem?_cons_succ, bnd_some, u_not, ifB_lit]
   cases hb2 : bw.2 with
   | false =>
    simp only [Bool.not_false, if_true]
    have : F (k + 1) = F k := by rw [hFk]; unfold ruleW; rw [← hbw, hb2]; rfl
    refine J1 H _ _ _ _ ?_ ?_ <;> rw [this]
    ·exact hok
    ·exact hI
   | true =>
    simp only [Bool.not_true, Bool.false_eq_true, if_false]
    have hFk2 : F (k + 1) = r.sets.foldl (setW bw.1) (F k) := by rw [hFk]; unfold ruleW; rw [← hbw, hb2]; rfl
    have hbnd : 0 ≤ bw.1 ∧ bw.1 ≤ 16777215 := by
     have : ∀ (l : List Sl) (a : Int × Bool), (∀ s ∈ l, slWf Lmax s ∧ FitS 10 s) → 0 ≤ a.1 ∧ a.1 ≤ 16777215 → 0 ≤ (bestW L e l a).1 ∧ (bestW L e l a).1 ≤ 16777215 := by
      intro l
      induction l with
      | nil => intro a _ h; exact h
      | cons s l ih =>
       intro a hl h
       rw [bestW]
       refine ih _ (fun s' hs => hl s' (by simp [hs])) ?_
       have := ofW_le (hl s (by simp)).1 (hl s (by simp)).2
       split
       ·simp only
        split <;> omega
       ·exact h
     rw [hbw]
     exact this _ _ (fun s hs => ⟨hws.wf s hs, hws.fit s hs⟩) ⟨by decide, by decide⟩
    have L2 : ∀ (g i : Nat) (H : Hp) (s : Wn) (y14 y15 : AV), r.sets.length - i = g → i ≤ r.sets.length → s = (r.sets.take i).foldl (setW bw.1) (F k) → s.Ok → WI s H → ref9_Tree_Winners.L2 σ K (refT L d) (I e) (rls m) (.ptr 0 0) (.ptr 1 0) (.ptr 2 0) (.ptr 3 0) (I (k : Int)) (I bw.1) (I (i : Int)) y14 y15 H := by
     intro g
     induction g with
     | zero =>
      intro i H s y14 y15 hg hi hs hok hI
      have : i = r.sets.length := by omega
      subst this
      rw [List.take_length, ← hFk2] at hs
      subst hs
      refine ref9_Tree_Winners.L2_step ?_
      simp only [hix, bnd_some, sh_ip, ls, len_imm, List.length_map, b_lss, Int.lt_irrefl, decide_false, ifB_lit, Bool.false_eq_true, if_false]
      exact J1 H _ _ _ _ hok hI
     | succ g ihg =>
      intro i H s y14 y15 hg hi hs hok hI
      have hil : i < r.sets.length := by omega
      have hil' : (i : Int) < r.sets.length := by omega
      obtain ⟨q, hq⟩ := get_lt hil
      have hiq : ixaSl 4 (.imm 4 (r.sets.map encST)) (I (i : Int)) = some (.ip (encST q)) := ix_map hq
      have l4 : ∀ H : Hp, ldA true 4 H (.ip (encST q)) = some (.agg (encST q)) := fun _ => rfl
      have hst : (r.sets.take (i + 1)).foldl (setW bw.1) (F k) = setW bw.1 s q := by
       rw [List.take_add_one, hq]
       simp only [Option.toList_some, List.foldl_append, List.foldl_cons, List.foldl_nil]
       rw [← hs]
      have J4 : ∀ (H : Hp) (y14 y15 : AV), WI (setW bw.1 s q) H → ref9_Tree_Winners.J4 σ K (refT L d) (I e) (rls m) (.ptr 0 0) (.ptr 1 0) (.ptr 2 0) (.ptr 3 0) (I (k : Int)) (I bw.1) (I (i : Int)) y14 y15 H := by
       intro H y14 y15 h2
       refine ref9_Tree_Winners.J4_step ?_
       rw [b_add, bnd_some, wr_succ (by omega)]
       exact ihg (i + 1) H _ _ _ (by omega) (by omega) hst.symm (setW_ok hok) h2
      refine ref9_Tree_Winners.L2_step ?_
      simp only [hix, bnd_some, sh_ip, ls, len_imm, List.length_map, b_lss, hil', decide_true, ifB_lit, if_true, hiq, l4, allocK_eq]
      obtain ⟨H2, hH2⟩ : ∃ H2, H2 = (H.new (.cells [I 0, I 0, I 0, .lit (.bool false)] true)).set H.n (some (.cells (encST q) true)) := ⟨_, rfl⟩
      refine bnd_of (x := H2) ?_ ?_
      ·rw [st_agg, hH2]
       simp only [hp_get_new, if_true]
       rfl
      have hI2 : WI s H2 := by rw [hH2]; exact hI.new _ _
      have n2 : H2.n = H.n + 1 := by rw [hH2]; rfl
      have gq : H2.get H.n = some (.cells (encST q) true) := by rw [hH2]; simp
      have b4 : 4 ≤ H.n := hI.n
      clear hH2
      have p3 : ldA false 1 H2 (.ptr H.n 3) = some (Bo q.imp) := by rw [ld_ptr, gq, ldO_cells, f_encST3]
      have p0 : ∀ H' : Hp, H'.get H.n = some (.cells (encST q) true) → ldA false 1 H' (.ptr H.n 0) = some (I q.prop) := fun H' h => by rw [ld_ptr, h, ldO_cells, List.drop_zero, f_encST0]
      have pv : ∀ H' : Hp, H'.get H.n = some (.cells (encST q) true) → ldA true 2 H' (.ptr H.n 1) = some (.agg [I q.kind, I q.n]) := fun H' h => by rw [ld_ptr, h]; rfl
      have J3 : ∀ x : Int, x = (if q.imp then bw.1 + 1073741824 else bw.1) → ref9_Tree_Winners.J3 σ K (refT L d) (I e) (rls m) (.ptr 0 0) (.ptr 1 0) (.ptr 2 0) (.ptr 3 0) (I (k : Int)) (I bw.1) (I (i : Int)) (.ptr H.n 0) (I x) H2 := by
       intro x hx
       refine ref9_Tree_Winners.J3_step ?_
       simp only [sh_ptr, Nat.zero_add, bnd_some, p0 _ gq, b_lss, ifB_lit, b_geq]
       by_cases h1 : q.prop < 0
       ·simp only [h1, decide_true, if_true]
        exact J4 _ _ _ (by unfold setW; rw [if_pos (.inl h1)]; exact hI2)
       simp only [h1, decide_false, Bool.false_eq_true, if_false]
       by_cases h2 : 8 ≤ q.prop
       ·simp only [h2, decide_true, if_true]
        exact J4 _ _ _ (by unfold setW; rw [if_pos (.inr h2)]; exact hI2)
       simp only [h2, decide_false, Bool.false_eq_true, if_false]
       obtain ⟨p, hp⟩ : ∃ p : Nat, q.prop = p := ⟨q.prop.toNat, by omega⟩
       have hp8 : p < 8 := by omega
       have hpt : q.prop.toNat = p := by omega
       have i9 : ixaArr 8 1 (.ptr 3 0) (.lit (.int .i64 (p : Int))) = some (.ptr 3 p) := by rw [ixArrN hp8]; simp
       have i8 : ixaArr 8 1 (.ptr 2 0) (.lit (.int .i64 (p : Int))) = some (.ptr 2 p) := by rw [ixArrN hp8]; simp
       have i7 : ixaArr 8 2 (.ptr 1 0) (.lit (.int .i64 (p : Int))) = some (.ptr 1 (p * 2)) := by rw [ixArrN hp8]; simp
       have t3 : ldA false 1 H2 (.ptr 3 p) = some (Bo (s.t.getD p false)) := by
        rw [ld_ptr, hI2.g3, ldO_cells]
        have hl : p < s.t.length := by rw [hok.t]; exact hp8
        rw [← List.map_drop, List.drop_eq_getElem_cons hl, List.map_cons, List.getD_eq_getElem?_getD, List.getElem?_eq_getElem hl]
        rfl
       have t2 : ldA false 1 H2 (.ptr 2 p) = some (I (s.w.getD p 0)) := by
        rw [ld_ptr, hI2.g2, ldO_cells]
        have hl : p < s.w.length := by rw [hok.w]; exact hp8
        rw [← List.map_drop, List.drop_eq_getElem_cons hl, List.map_cons, List.getD_eq_getElem?_getD, List.getElem?_eq_getElem hl]
        rfl
       have go : ¬ (s.t.getD p false = true ∧ x < s.w.getD p 0) → ∀ y14 y15 : AV,
         bnd (stA 2 H2 (.ptr 1 (p * 2)) (.agg [I q.kind, I q.n])) fun H21 => bnd (ldA false 1 H21 (.ptr H.n 0)) fun x23 => bnd (ixaArr 8 1 (.ptr 2 0) x23) fun x24 => bnd (stA 1 H21 x24 (I x)) fun H25 => bnd (ldA false 1 H25 (.ptr H.n 0)) fun x27 => bnd (ixaArr 8 1 (.ptr 3 0) x27) fun x28 => bnd (stA 1 H25 x28 (Bo true)) fun H29 => ref9_Tree_Winners.J4 σ K (refT L d) (I e) (rls m) (.ptr 0 0) (.ptr 1 0) (.ptr 2 0) (.ptr 3 0) (I (k : Int)) (I bw.1) (I (i : Int)) y14 y15 H29 := by
        intro hno y14 y15
        have hol : p * 2 + 1 < (s.o.map I).length := by rw [List.length_map, hok.o]; omega
        refine bnd_of (x := H2.set 1 (some (.cells (((s.o.set (p * 2) q.kind).set (p * 2 + 1) q.n).map I) true))) ?_ ?_
        ·rw [st_agg, if_pos (by rfl), hI2.g1, stO_cells, if_pos ⟨by simp only [List.length_cons, List.length_nil]; omega, rfl⟩, ov_two _ _ _ _ hol, map_set_I, map_set_I]
        have n1 : H.n ≠ 1 := by omega
        have nn2 : H.n ≠ 2 := by omega
        have ga := gq
        have gA : (H2.set 1 (some (.cells (((s.o.set (p * 2) q.kind).set (p * 2 + 1) q.n).map I) true))).get H.n = some (.cells (encST q) true) := by simp [n1, gq]
        rw [p0 _ gA, bnd_some, hp, i8, bnd_some]
        have gB : (H2.set 1 (some (.cells (((s.o.set (p * 2) q.kind).set (p * 2 + 1) q.n).map I) true))).get 2 = some (.cells (s.w.map I) true) := by simp [hI2.g2]
        rw [st_one gB rfl rfl rfl (by rw [List.length_map, hok.w]; exact hp8), bnd_some, map_set_I]
        obtain ⟨HB, hHB⟩ : ∃ HB, HB = (H2.set 1 (some (.cells (((s.o.set (p * 2) q.kind).set (p * 2 + 1) q.n).map I) true))).set 2 (some (.cells ((s.w.set p x).map I) true)) := ⟨_, rfl⟩
        rw [← hHB]
        have gC : HB.get H.n = some (.cells (encST q) true) := by rw [hHB, hp_get_set, if_neg nn2]; exact gA
        rw [p0 _ gC, bnd_some, hp, i9, bnd_some]
        have gD : HB.get 3 = some (.cells (s.t.map Bo) true) := by rw [hHB]; simp [hI2.g3]
        rw [st_one gD rfl rfl rfl (by rw [List.length_map, hok.t]; exact hp8), bnd_some]
        refine J4 _ _ _ ?_
        have hset : setW bw.1 s q = ⟨(s.o.set (p * 2) q.kind).set (p * 2 + 1) q.n, s.w.set p x, s.t.set p true⟩ := by
         unfold setW
         rw [if_neg (by omega), hpt, ← hx, if_neg hno]
        rw [hset]
        refine ⟨?_, ?_, ?_, ?_, ?_⟩
        ·rw [hp_get_set, if_neg (by decide), hHB]; simp [hI2.g0]
        ·rw [hp_get_set, if_neg (by decide), hHB]; simp
        ·rw [hp_get_set, if_neg (by decide), hHB]; simp
        ·rw [hp_get_set, if_pos rfl, List.map_set]
        ·show 4 ≤ HB.n
         rw [hHB]
         exact hI2.n
       rw [hp]
       simp only [i9, i8, i7, t3, t2, bnd_some, ifB_lit, p0 _ gq, pv _ gq, b_lss]
       cases ht : s.t.getD p false with
       | false =>
        simp only [Bool.false_eq_true, if_false]
        have hg := go (by rw [ht]; simp) (.ptr H.n 0) (I x)
        exact hg
       | true =>
        simp only [if_true]
        by_cases hlt : x < s.w.getD p 0
        ·simp only [hlt, decide_true, if_true]
         refine J4 _ _ _ ?_
         have hset : setW bw.1 s q = s := by
          unfold setW
          rw [if_neg (by omega), hpt, ← hx, if_pos ⟨ht, hlt⟩]
         rw [hset]
         exact hI2
        ·simp only [hlt, decide_false, Bool.false_eq_true, if_false]
         exact go (by rw [ht]; simpa using hlt) (.ptr H.n 0) (I x)
      simp only [sh_ptr, Nat.zero_add, bnd_some, p3, ifB_lit]
      cases hi' : q.imp with
      | true =>
       simp only [if_true, b_add, bnd_some]
       rw [wr64 (by omega) (by omega)]
       exact J3 _ (by rw [hi']; rfl)
      | false =>
       simp only [Bool.false_eq_true, if_false]
       exact J3 _ (by rw [hi']; rfl)
    exact L2 _ 0 H (F k) _ _ rfl (Nat.zero_le _) rfl hok hI
 have hF0 : F 0 = wn0 := by rw [hF]; rfl
 refine L0 _ 0 _ _ _ _ _ rfl (Nat.zero_le _) ?_ ?_
 ·rw [hF0]; exact ⟨rfl, rfl, rfl⟩
 ·rw [hF0]
  refine ⟨?_, ?_, ?_, ?_, ?_⟩
  ·simp [Hp.empty]
  ·simp [Hp.empty, wn0]
  ·simp [Hp.empty, wn0]
  ·simp [Hp.empty, wn0]
  ·exact Nat.le_refl 4
end
end Go.Proofs.Ytaoegkmfgfefgaa.Ev
namespace Go.Proofs.Ytaoegkmfgfefgaa.Ev
open Go.RowKit
set_option linter.unusedVariables false
set_option linter.unusedSimpArgs false
set_option maxRecDepth 100000
variable {σ : Sig}
theorem bestW_congr {L : List Nd} {a b : Int} : ∀ {l : List Sl} {x : Int × Bool}, (∀ s ∈ l, selB L 11 s a = selB L 11 s b) → bestW L a l x = bestW L b l x
 | [], _, _ => rfl
 | s :: r, x, h => by
  rw [bestW, bestW, h s (by simp)]
  exact bestW_congr fun s hs => h s (by simp [hs])
theorem foldl_rule {L : List Nd} {a b : Int} : ∀ {m : List RL} {s : Wn}, (∀ r ∈ m, ∀ s ∈ r.sels, selB L 11 s a = selB L 11 s b) → m.foldl (ruleW L a) s = m.foldl (ruleW L b) s
 | [], _, _ => rfl
 | r :: m, s, h => by
  have e : ruleW L a s r = ruleW L b s r := by unfold ruleW; rw [bestW_congr (h r (by simp))]
  rw [List.foldl_cons, List.foldl_cons, e]
  exact foldl_rule fun r hr => h r (by simp [hr])
theorem winW_congr {L : List Nd} {a b : Int} {m : List RL} (h : ∀ r ∈ m, ∀ s ∈ r.sels, selB L 11 s a = selB L 11 s b) : winW L a m = winW L b m := foldl_rule h
theorem eq16 {o : List Int} (h : o.length = 16) : eqAggR (List.replicate 16 (.int .i64)) .neq (.agg (o.map I)) (.agg (o.map I)) = some (Bo false) := by
 match o, h with
 | [a0, a1, a2, a3, a4, a5, a6, a7, a8, a9, a10, a11, a12, a13, a14, a15], _ => simp [eqAggR, isAggA, AV.cells, eqC, tfB, List.replicate]
theorem foldl_ok {L : List Nd} {e : Int} : ∀ {m : List RL} {s : Wn}, s.Ok → (m.foldl (ruleW L e) s).Ok
 | [], s, h => h
 | r :: m, s, h => by
  rw [List.foldl_cons]
  refine foldl_ok ?_
  unfold ruleW
  split
  ·have : ∀ (q : List ST) (s : Wn), s.Ok → (q.foldl (setW (bestW L e r.sels (0, false)).1) s).Ok := by
    intro q
    induction q with
    | nil => intro s h; exact h
    | cons x q ih => intro s h; exact ih _ (setW_ok h)
   exact this _ _ h
  ·exact h
theorem winW_len (L : List Nd) (e : Int) (m : List RL) : (winW L e m).o.length = 16 := (foldl_ok (s := wn0) ⟨rfl, rfl, rfl⟩).o
theorem share_sel {L : List Nd} {d : List Nat} (hB : Built L L.length d) {m : List RL} (hS : ∀ r ∈ m, ∀ s ∈ r.sels, SelOk 11 [s]) {a b : Nat} (h : shI L (needL m) (a : Int) (b : Int) = true) : ∀ r ∈ m, ∀ s ∈ r.sels, selB L 11 s (a : Int) = selB L 11 s (b : Int) := by
 unfold shI at h
 simp only [Bool.and_eq_true, decide_eq_true_eq] at h
 obtain ⟨h1, h2, h3, h4, h5, h6⟩ := h
 obtain ⟨_, a1⟩ := parI_in h1
 obtain ⟨_, b1⟩ := parI_in (by rw [← h2]; exact h1)
 have ha : a < L.length := by omega
 have hb : b < L.length := by omega
 have pa : parI L (a : Int) = par L a := by unfold parI; rw [if_pos ⟨by omega, a1⟩]; rfl
 have pb : parI L (b : Int) = par L b := by unfold parI; rw [if_pos ⟨by omega, b1⟩]; rfl
 have hal : Alike L a b := ⟨by rw [← pa, ← pb]; exact h2, h3, h4, h5⟩
 intro r hr s hs
 cases hn : needs s with
 | false => exact alike_sel hB ha hb hal (hS r hr s hs) hn
 | true =>
  have hmem : s ∈ needL m := by
   unfold needL
   exact List.mem_filter.2 ⟨List.mem_flatMap.2 ⟨r, hr, hs⟩, hn⟩
  unfold bitsB at h6
  exact List.map_inj_left.1 h6 s hmem
section
attribute [local irreducible] law22_ShareSame.L0 law22_ShareSame.L1
theorem ShareSame_good (hC : HasC σ) {L : List Nd} (hW : ∀ n ∈ L, NdWf n) {m : List RL} (hm : rlsWf m) (hb : bkLL (m.map encRL) ≤ NB) : ∃ Hf, Good Try.prog σ n_law22_ShareSame [nds L, rls m] Hp.empty (Bo true) Hf := by
 refine ⟨Hp.empty, good_by (fun K hK => law22_ShareSame.run (callK_of (alive22 hC _) ?_)) (by simp [noIds]) rfl _⟩
 obtain ⟨much, hd, hfit⟩ := Dear12_ok (σ := σ) m hm
 refine callK_of (hd _) ?_
 rcases trees_ok (σ := σ) L hW with hg | ⟨d, hT, hg⟩
 ·refine callK_of (hg _) ?_
  simp only [x_tup, List.getElem?_cons_zero, List.getElem?_cons_succ, bnd_some, u_not, ifB_lit, Bool.not_true, Bool.not_false, Bool.false_eq_true, if_true, if_false]
  cases much <;> simp only [Bool.false_eq_true, if_true, if_false] <;> exact hK _
 refine callK_of (hg _) ?_
 simp only [x_tup, List.getElem?_cons_zero, List.getElem?_cons_succ, bnd_some, u_not, ifB_lit, Bool.not_true, Bool.not_false, Bool.false_eq_true, if_true, if_false]
 cases hmu : much with
 | true => simp only [if_true]; exact hK _
 | false =>
 simp only [Bool.false_eq_true, if_false]
 have hF := hfit hmu
 have hl := need_ls hm hF hb
 have hw := wf_at hW
 have M := hT.mc hC
 have hrs := rules_ok hm hF hb
 have hws : ∀ r ∈ m, WsOk r.sels ∧ r.sets.length ≤ 30 := fun r hr => ⟨⟨by have := hF.sels r hr; omega, fun s hs => (hrs r hr s hs).2.2, fun s hs => (hrs r hr s hs).1, fun s hs => hF.fit r hr s hs s (by simp)⟩, hF.sets r hr⟩
 refine callK_of (NeedList_ok m hF.rl8 _) ?_
 have hl40 := hT.len
 have L0 : ∀ (f i : Nat) (H : Hp) (y12 : AV), L.length - i = f → i ≤ L.length → law22_ShareSame.L0 σ K (nds L) (rls m) (domT L d) (refT L d) (sls (needL m)) (I (i : Int)) y12 H := by
  intro f
  induction f with
  | zero =>
   intro i H y12 hf hi
   have : i = L.length := by omega
   subst this
   refine law22_ShareSame.L0_step ?_
   simp only [len_nds, bnd_some, b_lss, Int.lt_irrefl, decide_false, ifB_lit, Bool.false_eq_true, if_false]
   exact hK _
  | succ f ih =>
   intro i H y12 hf hi
   have hlt : (i : Int) < (L.length : Int) := by omega
   refine law22_ShareSame.L0_step ?_
   simp only [len_nds, bnd_some, b_lss, hlt, decide_true, ifB_lit, if_true]
   have L1 : ∀ (g j : Nat) (H : Hp), i - j = g → j ≤ i → law22_ShareSame.L1 σ K (nds L) (rls m) (domT L d) (refT L d) (sls (needL m)) (I (i : Int)) (I (j : Int)) H := by
    intro g
    induction g with
    | zero =>
     intro j H hg' hj
     have : j = i := by omega
     subst this
     refine law22_ShareSame.L1_step ?_
     simp only [bnd_some, b_lss, Int.lt_irrefl, decide_false, ifB_lit, Bool.false_eq_true, if_false, b_add]
     rw [wr_succ (by omega)]
     exact ih (j + 1) H _ (by omega) (by omega)
    | succ g ihg =>
     intro j H hg' hj
     have hlt : (j : Int) < (i : Int) := by omega
     have nxt : ∀ H, law22_ShareSame.L1 σ K (nds L) (rls m) (domT L d) (refT L d) (sls (needL m)) (I (i : Int)) (I ((j + 1 : Nat) : Int)) H := fun H => ihg (j + 1) H (by omega) (by omega)
     refine law22_ShareSame.L1_step ?_
     simp only [bnd_some, b_lss, hlt, decide_true, ifB_lit, if_true, b_add]
     rw [wr_succ (by omega)]
     refine callK_of (May_ok hT hC hw hl _ _ _) ?_
     simp only [ifB_lit]
     cases h1 : shI L (needL m) (i : Int) (j : Int) with
     | false => simp only [Bool.false_eq_true, if_false]; exact nxt _
     | true =>
      simp only [if_true]
      refine callK_of (Winners_ok M hws hF.len _ _) (callK_of (Winners_ok M hws hF.len _ _) ?_)
      rw [winW_congr (share_sel hT.hB (fun r hr s hs => (hrs r hr s hs).2.2.1) h1), eq16 (winW_len _ _ _)]
      simp only [bnd_some, ifB_lit, Bool.false_eq_true, if_false]
      exact nxt _
   exact L1 _ 0 H rfl (Nat.zero_le _)
 exact L0 _ 0 _ _ rfl (Nat.zero_le _)
end
theorem ShareSame_walk {H : Type} {enc : TypeId × Value → H} (W : World) (hsh : W.ShapedOpen Try.prog) {v0 v1 : Value} {r : Reach} {b0 base : Nat} {spare : Nat → Bool} {held : Bool} {d0 d1 : DataW H} {p0 p1 : List MemPlace}
  (e0 : Value.okWide Try.prog W r b0 T_sl_api_Node v0) (h0 : DataW.Trod enc Try.prog W base spare held T_sl_api_Node v0 d0 p0) (w0 : ∀ n ∈ d0.weights Try.prog T_sl_api_Node, n ≤ reachBytes)
  (e1 : Value.okWide Try.prog W r b0 T_sl_api_Rule v1) (h1 : DataW.Trod enc Try.prog W base spare held T_sl_api_Rule v1 d1 p1) (w1 : ∀ n ∈ d1.weights Try.prog T_sl_api_Rule, n ≤ reachBytes)
  (hk : bulkDs [d0, d1] ≤ 1048576) :
  Calls Try.prog n_law22_ShareSame #[v0, v1] W fun e W' => e = .returned (.bool true) ∧ Below W.heap.size W W' := by
 obtain ⟨x0, r0, s0⟩ := read_arg (P := Try.prog) (ti := tiT.get) (S := readR) (t := T_sl_api_Node) (σ := sigM) tiT_ok readR_closed (inB_mem (by kernel_rfl)) e0 h0 w0
 obtain ⟨x1, r1, s1, k1⟩ := read_argB (P := Try.prog) (ti := tiT.get) (S := readR) (t := T_sl_api_Rule) (σ := sigM) tiT_ok readR_closed (inB_mem (by kernel_rfl)) e1 h1 w1
 obtain ⟨a, rfl, ha, _⟩ := v_nodes s0
 obtain ⟨b, rfl, hb⟩ := v_rules s1
 simp only [bulkDs] at hk
 rw [bk_rls] at k1
 obtain ⟨Hf, hg⟩ := ShareSame_good (hasC sigM_g) ha hb (by show _ ≤ 1048576; omega)
 exact law_of_good (relL2 r0 r1) hg (gMax_ok W hsh sigM_g)
end Go.Proofs.Ytaoegkmfgfefgaa.Ev

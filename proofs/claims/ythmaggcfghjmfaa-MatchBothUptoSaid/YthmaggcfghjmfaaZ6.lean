/- The walks, part 6: the evaluator, the functions, the laws. Conditions: none. -/
import Derived.Shelf.LaysM
import Derived.Shelf.Strings.Search1
import Derived.Shelf.Strings.Search2
import Derived.Shelf.Strings.Search3
import Derived.Shelf.Strings.Shaped
import Derived.Test.YthmaggcfghjmfaaZ5
namespace Go.Proofs.Ythmaggcfghjmfaa.Ev
open Go.Shelf Go.Proofs
def laysM144_ren : Ren :=
{
  f := fun x =>
    match x with
    | 144 => 124
    | 143 => 128
    | 219 => 131
    | 217 => 132
    | 225 => 133
    | 224 => 134
    | 267 => 135
    | 266 => 136
    | 314 => 137
    | n => n,
  t := fun x =>
    match x with
    | 9 => 9
    | 4 => 4
    | 3 => 3
    | 5 => 5
    | 46 => 142
    | 146 => 163
    | 51 => 162
    | n => n,
  g := fun x =>
    match x with
    | 1 => 0
    | n => n }
theorem laysM144 : LaysM.n144 Try.prog laysM144_ren :=
{ mixed := by kernel_rfl, f143 := Eq.trans Try.func128 (congrArg some (Eq.refl (Body.n143 laysM144_ren))),
  f144 := Eq.trans Try.func124 (congrArg some (Eq.refl (Body.n144 laysM144_ren))),
  f217 := Eq.trans Try.func132 (congrArg some (Eq.refl (Body.n217 laysM144_ren))),
  f219 := Eq.trans Try.func131 (congrArg some (Eq.refl (Body.n219 laysM144_ren))),
  f224 := Eq.trans Try.func134 (congrArg some (Eq.refl (Body.n224 laysM144_ren))),
  f225 := Eq.trans Try.func133 (congrArg some (Eq.refl (Body.n225 laysM144_ren))),
  f266 := Eq.trans Try.func136 (congrArg some (Eq.refl (Body.n266 laysM144_ren))),
  f267 := Eq.trans Try.func135 (congrArg some (Eq.refl (Body.n267 laysM144_ren))),
  f314 := Eq.trans Try.func137 (congrArg some (Eq.refl (Body.n314 laysM144_ren))), t3 := Try.underlying3,
  a3 := Try.isAgg3, z3 := Try.sizeOf3, v3 := Try.zeroValue3, t4 := Try.underlying4, a4 := Try.isAgg4, z4 := Try.sizeOf4,
  v4 := Try.zeroValue4, t5 := Try.underlying5, a5 := Try.isAgg5, z5 := Try.sizeOf5, v5 := Try.zeroValue5,
  t9 := Try.underlying9, a9 := Try.isAgg9, z9 := Try.sizeOf9, v9 := Try.zeroValue9, t46 := Try.underlying142,
  a46 := Try.isAgg142, z46 := Try.sizeOf142, v46 := Try.zeroValue142, t51 := Try.underlying162, a51 := Try.isAgg162,
  z51 := Try.sizeOf162, v51 := Try.zeroValue162, t146 := Try.underlying163, a146 := Try.isAgg163, z146 := Try.sizeOf163,
  v146 := Try.zeroValue163, g1 := by kernel_rfl,
  i3 := by kernel_rfl, i4 := by kernel_rfl,
  i5 := by kernel_rfl,
  i9 := by kernel_rfl,
  i46 := by kernel_rfl,
  i51 := by kernel_rfl,
  i146 := by kernel_rfl,
  m1 := by kernel_rfl,
  s1_3 := fun w h => Go.Proofs.cell_of_shapedOpen_int h (zero := #[Go.Value.int Go.IntKind.i64 0]) (t := 3) (of_decide_eq_true (by kernel_rfl)) (by kernel_rfl) rfl (by kernel_rfl) (by kernel_rfl) Try.underlying3 }
def gMax : Nat := laysM144_ren.g 1
theorem hasC {σ : Sig} (hg : σ.g = some gMax) : HasC σ := by
  intro s t H hs
  refine ⟨⟨_, Try.func124, by kernel_rfl, by kernel_rfl⟩, fun B w0 E w vs hσ hst hx => ?_⟩
  obtain ⟨_, m, hm⟩ := hst.glNow gMax (by rw [hσ]; exact hg)
  have hl := hx.len
  obtain ⟨v0, v1, rfl⟩ : ∃ v0 v1, vs = #[v0, v1] := by
    obtain ⟨l⟩ := vs
    match l, hl with
    | [a, b], _ => exact ⟨a, b, rfl⟩
  have r0 := hx.at_ 0 _ v0 rfl (by simp)
  have r1 := hx.at_ 1 _ v1 rfl (by simp)
  cases r0
  cases r1
  refine (Any.strings_Contains (ρ := laysM144_ren) { laysM144 with } s t m w hs hm).mono fun e w' he => ?_
  obtain ⟨rfl, rfl⟩ := he
  exact ⟨E, _, rfl, .refl E, hst, .lit _⟩
theorem gMax_ok (W : World) (h : W.ShapedOpen Try.prog) {σ : Sig} (hg : σ.g = some gMax) : ∀ g, σ.g = some g → ∃ m : Int, W.cell? ⟨g, 0, none⟩ = some (.int .i64 m) := by
  intro g hg'
  rw [hg] at hg'
  cases hg'
  exact laysM144.s1_3 W h
end Go.Proofs.Ythmaggcfghjmfaa.Ev
namespace Go.Proofs.Ythmaggcfghjmfaa.Ev
set_option linter.unusedVariables false
set_option linter.unusedSimpArgs false
set_option maxRecDepth 100000
variable {σ : Sig}
def alL : List Nd := [⟨-1, emp, emp, [], []⟩, ⟨0, emp, emp, [], []⟩, ⟨0, emp, emp, [], []⟩, ⟨0, emp, emp, [], []⟩]
def alS : Sl := [⟨0, .mk emp [] [] [] [.mk 6 2 1 []]⟩]
theorem alB : Built alL alL.length [0, 1, 1, 1] := by
  have h1 : Built alL 1 [0] := Built.first (by decide) rfl
  have h2 : Built alL 2 [0, 1] := h1.next (p := 0) (x := 0) (by decide) (by decide) rfl (by decide) rfl (by decide)
  have h3 : Built alL 3 [0, 1, 1] := h2.next (p := 0) (x := 0) (by decide) (by decide) rfl (by decide) rfl (by decide)
  exact h3.next (p := 0) (x := 0) (by decide) (by decide) rfl (by decide) rfl (by decide)
theorem alW : ∀ n ∈ alL, NdWf n := by
  intro n hn
  simp only [alL, List.mem_cons, List.not_mem_nil, or_false] at hn
  rcases hn with rfl | rfl | rfl | rfl <;> exact ⟨by unfold i64; decide, by decide, by decide, by decide, by intro p hp; cases hp⟩
theorem alSm : ∀ e, e < alL.length → SmN (lowN (ndAt alL e)) := by
  intro e he
  have : e = 0 ∨ e = 1 ∨ e = 2 ∨ e = 3 := by simp [alL] at he; omega
  rcases this with rfl | rfl | rfl | rfl <;> exact ⟨by decide, by decide, by intro p hp; cases hp⟩
theorem alM (hC : HasC σ) : McT σ alL [0, 1, 1, 1] := ⟨hC, alB, by decide, alSm⟩
theorem alSO : SelOk 2 [alS] := by
  refine ⟨⟨by decide, fun s hs => ?_⟩, ⟨by decide, fun s hs => ?_⟩, fun s hs p hp q hq => ?_, by decide, by decide⟩
  · rw [List.mem_singleton.1 hs]
    refine ⟨by decide, fun p hp => ?_⟩
    rw [List.mem_singleton.1 hp, Pt.wf_iff]
    refine ⟨by unfold i64; decide, by decide, ⟨by decide, fun s h => by cases h⟩, ⟨by decide, fun s h => by cases h⟩, by decide, (fun s h => by cases h), by decide, fun q hq => ?_⟩
    rw [List.mem_singleton.1 hq, Ps.wf_iff]
    exact ⟨by unfold i64; decide, by unfold i64; decide, by unfold i64; decide, by decide, fun s h => by cases h⟩
  · rw [List.mem_singleton.1 hs]
    refine ⟨by decide, fun p hp => ?_⟩
    rw [List.mem_singleton.1 hp]
    refine ⟨⟨by decide, by decide, by decide, (fun s h => by cases h), by decide⟩, by decide, fun q hq => ?_⟩
    rw [List.mem_singleton.1 hq]
    exact ⟨⟨by unfold i64; decide, by unfold i64; decide⟩, by decide, fun s h => by cases h⟩
  · rw [List.mem_singleton.1 hs] at hp
    rw [List.mem_singleton.1 hp] at hq
    rw [List.mem_singleton.1 hq]
    exact fun s h => by cases h
theorem al1 : selB alL 2 alS 1 = true := by kernel_rfl
theorem al2 : selB alL 2 alS 2 = false := by kernel_rfl
theorem al3 : selB alL 2 alS 3 = true := by kernel_rfl
theorem alive10 (hC : HasC σ) (H : Hp) : Good Try.prog σ n_law10_alive [] H (Bo true) H := by
  refine good_by (fun K hK => law10_alive.run ?_) rfl rfl H
  iterate 5 refine bnd_of rfl ?_
  refine callK_of (Good.drop (fun H => domNew_ok alB alW (by decide) H) (.cons (frzS_ok skNds _ _ (by kernel_rfl)) .nil)) ?_
  simp only [x_tup, List.getElem?_cons_zero, List.getElem?_cons_succ, bnd_some]
  iterate 6 refine bnd_of rfl ?_
  simp only [allocK_eq]
  refine bnd_of rfl ?_
  refine bnd_of rfl ?_
  refine callK_of ((Sel_ok (alM hC) alSO 1 Hp.empty).frzA (.cons (.refl (noId_domT _ _)) (.cons (.refl rfl) (.cons (frzS_ok (skS 1) _ _ (by kernel_rfl)) .nil))) rfl) ?_
  simp only [al1, ifB_lit, if_true]
  refine bnd_of rfl ?_
  refine callK_of ((Sel_ok (alM hC) alSO 2 Hp.empty).frzA (.cons (.refl (noId_domT _ _)) (.cons (.refl rfl) (.cons (frzS_ok (skS 1) _ _ (by kernel_rfl)) .nil))) rfl) ?_
  simp only [al2, u_not, bnd_some, ifB_lit, if_true, Bool.not_false]
  refine bnd_of rfl ?_
  refine callK_of ((Sel_ok (alM hC) alSO 3 Hp.empty).frzA (.cons (.refl (noId_domT _ _)) (.cons (.refl rfl) (.cons (frzS_ok (skS 1) _ _ (by kernel_rfl)) .nil))) rfl) ?_
  rw [al3]
  exact hK _
end Go.Proofs.Ythmaggcfghjmfaa.Ev
namespace Go.Proofs.Ythmaggcfghjmfaa.Ev
set_option linter.unusedVariables false
set_option linter.unusedSimpArgs false
variable {σ : Sig}
def bigS (s : ByteArray) : Bool := decide (60 < (s.data.size : Int))
def bigP (p : ByteArray × ByteArray) : Bool := bigS p.1 || decide (100 < (p.2.data.size : Int))
def bigN (n : Nd) : Bool := decide (8 < (n.classes.length : Int)) || (decide (8 < (n.attrs.length : Int)) || (bigS n.tag || (bigS n.id || (n.classes.any bigS || n.attrs.any bigP))))
def bigT (L : List Nd) : Bool := if 40 < L.length then (if L.length ≤ 4096 then true else decide (4100 < L.length)) else decide (4100 < L.length)
def bigR (L : List Nd) (m : Nat) : Bool := ((L.drop m).take (100 - m)).any bigN || bigT L
structure NdSm (n : Nd) : Prop where
  classes : n.classes.length ≤ 8
  attrs : n.attrs.length ≤ 8
  tag : n.tag.data.size ≤ 60
  id : n.id.data.size ≤ 60
  cl : ∀ s ∈ n.classes, s.data.size ≤ 60
  at' : ∀ p ∈ n.attrs, p.1.data.size ≤ 60 ∧ p.2.data.size ≤ 100
theorem NdSm.of {n : Nd} (h : bigN n = false) : NdSm n := by
  unfold bigN bigP bigS at h
  simp only [Bool.or_eq_false_iff, decide_eq_false_iff_not, List.any_eq_false, Bool.or_eq_true, decide_eq_true_eq, not_or] at h
  obtain ⟨h1, h2, h3, h4, h5, h6⟩ := h
  exact ⟨by omega, by omega, by omega, by omega, fun s hs => by have := h5 s hs; omega, fun p hp => by have := h6 p hp; omega⟩
theorem bigR_step {L : List Nd} {m : Nat} {n : Nd} (h : L[m]? = some n) (hm : m < 100) : bigR L m = (bigN n || bigR L (m + 1)) := by
  unfold bigR
  obtain ⟨j, hj⟩ : ∃ j, 100 - m = j + 1 := ⟨99 - m, by omega⟩
  rw [drop_get h, hj, List.take_succ_cons, List.any_cons, Bool.or_assoc, show 100 - (m + 1) = j by omega]
section
attribute [local irreducible] law9_Big.L0 law9_Big.L1 law9_Big.L2
theorem big_L2 {L : List Nd} {m : Nat} {n : Nd} (hn : L[m]? = some n) (hm : m < 100) {K : AV → Hp → Prop} {y4 : AV} (hl : n.attrs.length ≤ 8)
    (h0 : ∀ H y4 y5, (∀ H, K (Bo (bigR L (m + 1))) H) → law9_Big.L0 σ K (nds L) (I ((m + 1 : Nat) : Int)) y4 y5 H) : ∀ (f k : Nat) (H : Hp), n.attrs.length - k = f → k ≤ n.attrs.length → (∀ H, K (Bo ((n.attrs.drop k).any bigP || bigR L (m + 1))) H) →
    law9_Big.L2 σ K (nds L) (I (m : Int)) y4 (I (k : Int)) H := by
  have hix : ixaSl 5 (nds L) (I (m : Int)) = some (.ip (encNd n)) := ix_map hn
  intro f
  induction f with
  | zero =>
    intro k H hf hk hK
    have : k = n.attrs.length := by omega
    subst this
    refine law9_Big.L2_step ?_
    have hw : wr .i64 ((m : Int) + 1) = ((m + 1 : Nat) : Int) := wr_succ (by omega)
    simp only [hix, bnd_some, sh_ip, ld_ip, f_encNd4, len_imm, List.length_map, b_lss, Int.lt_irrefl, decide_false, ifB_lit, Bool.false_eq_true, if_false, b_add, hw]
    refine h0 _ _ _ ?_
    simpa using hK
  | succ f ih =>
    intro k H hf hk hK
    have hlt : k < n.attrs.length := by omega
    obtain ⟨p, hp⟩ := get_lt hlt
    rw [drop_get hp, List.any_cons] at hK
    have hlt' : (k : Int) < n.attrs.length := by omega
    have hixp : ixaSl 2 (.imm 2 (n.attrs.map encPr)) (I (k : Int)) = some (.ip (encPr p)) := ix_map hp
    have hw : wr .i64 ((k : Int) + 1) = ((k + 1 : Nat) : Int) := wr_succ (by omega)
    refine law9_Big.L2_step ?_
    simp only [hix, bnd_some, sh_ip, ld_ip, f_encNd4, len_imm, List.length_map, b_lss, hlt', decide_true, ifB_lit, if_true, hixp, List.drop_zero, f_encPr0, f_encPr1', len_str, b_gtr, decide_eq_true_eq, b_add, hw]
    split
    · rename_i h
      have : bigP p = true := by unfold bigP bigS; rw [decide_eq_true h, Bool.true_or]
      rw [this] at hK
      simpa using hK H
    rename_i h1
    split
    · rename_i h
      have : bigP p = true := by unfold bigP; rw [decide_eq_true h, Bool.or_true]
      rw [this] at hK
      simpa using hK H
    · rename_i h
      have : bigP p = false := by unfold bigP bigS; rw [decide_eq_false h, decide_eq_false h1]; rfl
      rw [this] at hK
      exact ih (k + 1) H (by omega) (by omega) (by simpa using hK)
theorem big_L1 {L : List Nd} {m : Nat} {n : Nd} (hn : L[m]? = some n) (hm : m < 100) {K : AV → Hp → Prop} {y5 : AV} (hl : n.attrs.length ≤ 8) (hl2 : n.classes.length ≤ 8)
    (h0 : ∀ H y4 y5, (∀ H, K (Bo (bigR L (m + 1))) H) → law9_Big.L0 σ K (nds L) (I ((m + 1 : Nat) : Int)) y4 y5 H) : ∀ (f k : Nat) (H : Hp), n.classes.length - k = f → k ≤ n.classes.length → (∀ H, K (Bo ((n.classes.drop k).any bigS || (n.attrs.any bigP || bigR L (m + 1)))) H) →
    law9_Big.L1 σ K (nds L) (I (m : Int)) (I (k : Int)) y5 H := by
  have hix : ixaSl 5 (nds L) (I (m : Int)) = some (.ip (encNd n)) := ix_map hn
  intro f
  induction f with
  | zero =>
    intro k H hf hk hK
    have : k = n.classes.length := by omega
    subst this
    refine law9_Big.L1_step ?_
    simp only [hix, bnd_some, sh_ip, ld_ip, f_encNd3, len_strs, b_lss, Int.lt_irrefl, decide_false, ifB_lit, Bool.false_eq_true, if_false]
    exact big_L2 hn hm hl h0 _ 0 H rfl (Nat.zero_le _) (by simpa using hK)
  | succ f ih =>
    intro k H hf hk hK
    have hlt : k < n.classes.length := by omega
    obtain ⟨p, hp⟩ := get_lt hlt
    rw [drop_get hp, List.any_cons] at hK
    have hlt' : (k : Int) < n.classes.length := by omega
    have hixp : ixaSl 1 (strs n.classes) (I (k : Int)) = some (.ip [Sx p]) := ix_map hp
    have lx : ∀ H, ldA false 1 H (.ip [Sx p]) = some (Sx p) := fun _ => rfl
    have hw : wr .i64 ((k : Int) + 1) = ((k + 1 : Nat) : Int) := wr_succ (by omega)
    refine law9_Big.L1_step ?_
    simp only [hix, bnd_some, sh_ip, ld_ip, f_encNd3, len_strs, b_lss, hlt', decide_true, ifB_lit, if_true, hixp, ldL_one, len_str, b_gtr, decide_eq_true_eq, b_add, hw]
    split
    · rename_i h
      have : bigS p = true := decide_eq_true h
      rw [this] at hK
      simpa using hK H
    · rename_i h
      have : bigS p = false := decide_eq_false h
      rw [this] at hK
      exact ih (k + 1) H (by omega) (by omega) (by simpa using hK)
theorem big_end {L : List Nd} {K : AV → Hp → Prop} {H : Hp} (hK : ∀ H, K (Bo (bigT L)) H) : bnd (lenSl (nds L)) fun x24 => bnd (binR .gtr x24 (I 40)) fun x25 => ifB x25 (bnd (lenSl (nds L)) fun x26 => bnd (binR .leq x26 (I 4096)) fun x27 => ifB x27 (K (Bo true) H) (bnd (lenSl (nds L)) fun x28 => bnd (binR .gtr x28 (I 4100)) fun x29 => K x29 H)) (bnd (lenSl (nds L)) fun x30 => bnd (binR .gtr x30 (I 4100)) fun x31 => K x31 H) := by
  simp only [len_nds, bnd_some, b_gtr, b_leq, ifB_lit, decide_eq_true_eq]
  have e : decide ((4100 : Int) < (L.length : Int)) = decide (4100 < L.length) := by rw [decide_eq_decide]; omega
  rw [e]
  unfold bigT at hK
  by_cases h1 : 40 < L.length
  · have h1' : (40 : Int) < (L.length : Int) := by omega
    rw [if_pos h1] at hK
    rw [if_pos h1']
    by_cases h2 : L.length ≤ 4096
    · have h2' : (L.length : Int) ≤ 4096 := by omega
      rw [if_pos h2] at hK
      rw [if_pos h2']
      exact hK H
    · have h2' : ¬ (L.length : Int) ≤ 4096 := by omega
      rw [if_neg h2] at hK
      rw [if_neg h2']
      exact hK H
  · have h1' : ¬ (40 : Int) < (L.length : Int) := by omega
    rw [if_neg h1] at hK
    rw [if_neg h1']
    exact hK H
theorem Big_ok (L : List Nd) (H : Hp) : Good Try.prog σ n_law9_Big [nds L] H (Bo (bigR L 0)) H := by
  refine good_by (fun K hK => law9_Big.run ?_) (by simp [noIds, noId]) rfl H
  have L0 : ∀ (f m : Nat) (H : Hp) (y4 y5 : AV), 100 - m = f → m ≤ L.length → m ≤ 100 → (∀ H, K (Bo (bigR L m)) H) → law9_Big.L0 σ K (nds L) (I (m : Int)) y4 y5 H := by
    intro f
    induction f with
    | zero =>
      intro m H y4 y5 hf hm hm2 hK
      obtain rfl : m = 100 := by omega
      have hK : ∀ H, K (Bo (bigT L)) H := by simpa [bigR] using hK
      refine law9_Big.L0_step ?_
      have e0 : ¬ (((100 : Nat) : Int) < 100) := by decide
      by_cases h : ((100 : Nat) : Int) < L.length
      · simp only [len_nds, bnd_some, b_lss, h, decide_true, ifB_lit, if_true, e0, decide_false, Bool.false_eq_true, if_false]
        have hE := big_end (H := H) hK
        simp only [len_nds, bnd_some, b_gtr, b_leq] at hE ⊢
        exact hE
      · simp only [len_nds, bnd_some, b_lss, h, decide_false, ifB_lit, Bool.false_eq_true, if_false]
        have hE := big_end (H := H) hK
        simp only [len_nds, bnd_some, b_gtr, b_leq] at hE ⊢
        exact hE
    | succ f ih =>
      intro m H y4 y5 hf hm hm2 hK
      refine law9_Big.L0_step ?_
      have e0 : ((m : Nat) : Int) < 100 := by omega
      by_cases h : m < L.length
      · have h' : (m : Int) < L.length := by omega
        obtain ⟨n, hn⟩ := get_lt h
        rw [bigR_step hn (by omega)] at hK
        have hix : ixaSl 5 (nds L) (I (m : Int)) = some (.ip (encNd n)) := ix_map hn
        simp only [len_nds, bnd_some, b_lss, h', decide_true, ifB_lit, if_true, e0, hix, sh_ip, ld_ip, f_encNd3, f_encNd4, f_encNd1', f_encNd2, len_strs, len_imm, List.length_map, len_str, b_gtr, decide_eq_true_eq]
        unfold bigN at hK
        split
        · rename_i h1; simp only [h1, decide_true, Bool.true_or] at hK; exact hK H
        rename_i h1
        split
        · rename_i h2; simp only [h2, decide_true, Bool.true_or, Bool.or_true] at hK; exact hK H
        rename_i h2
        split
        · rename_i h3
          have : bigS n.tag = true := decide_eq_true h3
          simp only [this, Bool.true_or, Bool.or_true] at hK; exact hK H
        rename_i h3
        split
        · rename_i h4
          have : bigS n.id = true := decide_eq_true h4
          simp only [this, Bool.true_or, Bool.or_true] at hK; exact hK H
        rename_i h4
        have t3 : bigS n.tag = false := decide_eq_false h3
        have t4 : bigS n.id = false := decide_eq_false h4
        simp only [h1, h2, t3, t4, decide_false, Bool.false_or, Bool.or_assoc] at hK
        exact big_L1 hn (by omega) (by omega) (by omega) (fun H y4 y5 hK' => ih (m + 1) H y4 y5 (by omega) (by omega) (by omega) hK') _ 0 H rfl (Nat.zero_le _) (by simpa using hK)
      · have h' : ¬ (m : Int) < L.length := by omega
        have : m = L.length := by omega
        subst this
        have hK : ∀ H, K (Bo (bigT L)) H := by simpa [bigR] using hK
        simp only [len_nds, bnd_some, b_lss, h', decide_false, ifB_lit, Bool.false_eq_true, if_false]
        have hE := big_end (H := H) hK
        simp only [len_nds, bnd_some, b_gtr, b_leq] at hE ⊢
        exact hE
  exact L0 _ 0 _ _ _ rfl (Nat.zero_le _) (by decide) hK
end
theorem good_byI {P : Program} {σ : Sig} {f : Nat} {xs : List AV} {r : AV} (h : ∀ K : AV → Hp → Prop, (∀ H, K r H) → ∃ r' H1, Good P σ f xs Hp.empty r' H1 ∧ K r' H1) (hx : noIds xs = true) (hr : noId r = true) (H : Hp) : Good P σ f xs H r H := by
  obtain ⟨r', H1, hg, e⟩ := h (fun r' _ => r' = r) (fun _ => rfl)
  subst e
  exact hg.frzR hx (.refl hr) H
structure TreeOk (L : List Nd) (d : List Nat) : Prop where
  len : L.length ≤ 40
  hB : Built L L.length d
  sm : ∀ n ∈ L, NdSm n
theorem trees_ok (L : List Nd) (hW : ∀ n ∈ L, NdWf n) : (∀ H, Good Try.prog σ n_law10_trees [nds L] H (.tup [.lit (.pointer none), .lit (.pointer none), Bo false]) H) ∨
    (∃ d, TreeOk L d ∧ ∀ H, Good Try.prog σ n_law10_trees [nds L] H (.tup [domT L d, refT L d, Bo true]) H) := by
  rcases refNew_ok (σ := σ) L hW with ⟨_, e, he, hg⟩ | ⟨d, hN, hB, hg⟩
  · refine .inl fun H => good_by (fun K hK => law10_trees.run (callK_of (Big_ok L _) (callK_of (hg _) ?_))) (by simp [noIds, noId]) rfl H
    simp only [x_tup, List.getElem?_cons_zero, List.getElem?_cons_succ, bnd_some, ifB_lit, b_neq, he, decide_false, Bool.not_false, if_true]
    cases bigR L 0 <;> simp only [Bool.false_eq_true, if_true, if_false] <;> exact hK _
  · cases hb : bigR L 0 with
    | true =>
      refine .inl fun H => good_by (fun K hK => law10_trees.run (callK_of (Big_ok L _) (callK_of (hg _) ?_))) (by simp [noIds, noId]) rfl H
      simp only [x_tup, List.getElem?_cons_zero, List.getElem?_cons_succ, bnd_some, hb, ifB_lit, if_true]
      exact hK _
    | false =>
      have hT : TreeOk L d := by
        unfold bigR bigT at hb
        simp only [Bool.or_eq_false_iff, List.drop_zero] at hb
        have hl : L.length ≤ 40 := by
          have h2 := hb.2
          by_cases h : 40 < L.length
          · rw [if_pos h, if_pos hN] at h2; cases h2
          · omega
        refine ⟨hl, hB, fun n hn => NdSm.of ?_⟩
        have := List.any_eq_false.1 hb.1 n (by rw [List.take_of_length_le (by omega)]; exact hn)
        simpa using this
      refine .inr ⟨d, hT, fun H => good_byI (fun K hK => law10_trees.run (callK_of (Big_ok L _) (callK_of (hg _) ?_))) (by simp [noIds, noId]) ?_ H⟩
      · simp only [x_tup, List.getElem?_cons_zero, List.getElem?_cons_succ, bnd_some, hb, ifB_lit, b_neq, decide_true, Bool.not_true, Bool.false_eq_true, if_false]
        refine callK_of (domNew_ok hB hW hN _) ?_
        simp only [x_tup, List.getElem?_cons_zero, List.getElem?_cons_succ, bnd_some]
        exact hK _
      · simp [noId, noIds, noId_domT, noId_refT]
end Go.Proofs.Ythmaggcfghjmfaa.Ev
namespace Go.Proofs.Ythmaggcfghjmfaa.Ev
set_option linter.unusedVariables false
set_option linter.unusedSimpArgs false
theorem rows_map {α : Type} {f : α → List AV} {P : α → Prop} : ∀ {rows : List (List AV)}, (∀ row ∈ rows, ∃ x, row = f x ∧ P x) → ∃ l : List α, rows = l.map f ∧ ∀ x ∈ l, P x
  | [], _ => ⟨[], rfl, fun x hx => by cases hx⟩
  | r :: rs, h => by
    obtain ⟨x, hx, px⟩ := h r (by simp)
    obtain ⟨l, hl, pl⟩ := rows_map (rows := rs) fun row hr => h row (by simp [hr])
    refine ⟨x :: l, by rw [hx, hl]; rfl, fun y hy => ?_⟩
    rcases List.mem_cons.1 hy with rfl | hy
    · exact px
    · exact pl y hy
theorem d_int {ts : List Nat} {zs : List AV} (h : Sh tiT.get (T_int :: ts) zs) : ∃ n ys, zs = I n :: ys ∧ i64 n ∧ Sh tiT.get ts ys := by
  obtain ⟨i, hi, hd, _⟩ := T_int_is
  obtain ⟨n, ys, e, hw, hs⟩ := sh_int hi hd h
  refine ⟨n, ys, e, ?_, hs⟩
  simp [Lit.wf, IntKind.min, IntKind.max, IntKind.signed, IntKind.bits] at hw
  unfold i64
  omega
theorem d_str {ts : List Nat} {zs : List AV} (h : Sh tiT.get (T_string :: ts) zs) : ∃ s ys, zs = Sx s :: ys ∧ s.data.size ≤ Lmax ∧ Sh tiT.get ts ys := by
  obtain ⟨i, hi, hd, _⟩ := T_string_is
  obtain ⟨s, ys, e, hw, hs⟩ := sh_str hi hd h
  exact ⟨s, ys, e, Nat.le_trans hw (by decide), hs⟩
theorem d_slice {t e sz : Nat} (hT : ∃ i, tiT.get t = some i ∧ i.d = .slice e ∧ i.size = 1) (hE : ∃ i, tiT.get e = some i ∧ i.size = sz) {ts : List Nat} {zs : List AV} (h : Sh tiT.get (t :: ts) zs) :
    ∃ rows ys, zs = .imm sz rows :: ys ∧ (∀ row ∈ rows, Sh tiT.get [e] row) ∧ rows.length ≤ Lmax ∧ Sh tiT.get ts ys := by
  obtain ⟨i, hi, hd, _⟩ := hT
  obtain ⟨j', hj', hs'⟩ := hE
  rcases sh_slice hi hd h with ⟨ys, _, _⟩ | ⟨j, rows, ys, hj, e, hr, hl, hm, _, hs⟩
  · cases h with
    | sl h' hd' he hc hl hm hb hs => rw [hi] at h'; cases h'; rw [hd] at hd'; cases hd'; rw [hj'] at he; cases he; exact ⟨_, _, by rw [hs'], hc, hm, hs⟩
    | _ => simp_all
  · rw [hj'] at hj
    cases hj
    rw [hs'] at e
    exact ⟨rows, ys, e, hr, hm, hs⟩
theorem d_struct {t : Nat} {fs : List (Nat × Nat)} {sz : Nat} (hT : ∃ i, tiT.get t = some i ∧ i.d = .struct fs ∧ i.size = sz) {ts : List Nat} {zs : List AV} (h : Sh tiT.get (t :: ts) zs) : Sh tiT.get (fs.map (·.2) ++ ts) zs := by
  obtain ⟨i, hi, hd, _⟩ := hT
  exact sh_struct hi hd h
theorem sz_of {t sz : Nat} {d : TD} (h : ∃ i, tiT.get t = some i ∧ i.d = d ∧ i.size = sz) : ∃ i, tiT.get t = some i ∧ i.size = sz := by
  obtain ⟨i, a, _, b⟩ := h
  exact ⟨i, a, b⟩
theorem d_strs {ts : List Nat} {zs : List AV} (h : Sh tiT.get (T_sl_string :: ts) zs) : ∃ l ys, zs = strs l :: ys ∧ strsWf Lmax l ∧ Sh tiT.get ts ys := by
  obtain ⟨rows, ys, e, hr, hm, hs⟩ := d_slice T_sl_string_is (sz_of T_string_is) h
  obtain ⟨l, hl, hp⟩ := rows_map (f := fun s => [Sx s]) (P := fun s => s.data.size ≤ Lmax) fun row hrow => by
    obtain ⟨s, ys, e, hw, hs⟩ := d_str (hr row hrow)
    rw [sh_nil hs] at e
    exact ⟨s, e, hw⟩
  exact ⟨l, ys, by rw [e, hl]; rfl, ⟨by rw [hl] at hm; simpa using hm, hp⟩, hs⟩
theorem d_attrs {ts : List Nat} {zs : List AV} (h : Sh tiT.get (T_sl_api_Attr :: ts) zs) : ∃ (l : List At) (ys : List AV), zs = .imm 3 (l.map encAt) :: ys ∧ (l.length ≤ Lmax ∧ ∀ x ∈ l, x.name.data.size ≤ Lmax ∧ i64 x.op ∧ x.text.data.size ≤ Lmax) ∧ Sh tiT.get ts ys := by
  obtain ⟨rows, ys, e, hr, hm, hs⟩ := d_slice T_sl_api_Attr_is (sz_of T_api_Attr_is) h
  obtain ⟨l, hl, hp⟩ := rows_map (f := encAt) (P := fun x => x.name.data.size ≤ Lmax ∧ i64 x.op ∧ x.text.data.size ≤ Lmax) fun row hrow => by
    have h1 := d_struct T_api_Attr_is (hr row hrow)
    obtain ⟨a, y1, e1, w1, h2⟩ := d_str h1
    obtain ⟨b, y2, e2, w2, h3⟩ := d_int h2
    obtain ⟨c, y3, e3, w3, h4⟩ := d_str h3
    rw [sh_nil h4] at e3
    exact ⟨⟨a, b, c⟩, by rw [e1, e2, e3]; rfl, w1, w2, w3⟩
  exact ⟨l, ys, by rw [e, hl], ⟨by rw [hl] at hm; simpa using hm, hp⟩, hs⟩
theorem d_parts : ∀ (n : Nat) {ts : List Nat} {zs : List AV}, SizeOf.sizeOf zs ≤ n → Sh tiT.get (T_sl_api_Part :: ts) zs → ∃ (l : List Pt) (ys : List AV), zs = .imm 6 (l.map encPt) :: ys ∧ (l.length ≤ Lmax ∧ ∀ p ∈ l, Pt.wf Lmax p) ∧ Sh tiT.get ts ys
  | 0, ts, zs, hn, h => by cases zs <;> simp at hn
  | n + 1, ts, zs, hn, h => by
    obtain ⟨rows, ys, e, hr, hm, hs⟩ := d_slice T_sl_api_Part_is (sz_of T_api_Part_is) h
    obtain ⟨l, hl, hp⟩ := rows_map (f := encPt) (P := fun p => Pt.wf Lmax p) fun row hrow => by
      have hsz : SizeOf.sizeOf row < n := by
        have h1 : SizeOf.sizeOf row < SizeOf.sizeOf rows := List.sizeOf_lt_of_mem hrow
        rw [e] at hn
        simp only [List.cons.sizeOf_spec, AV.imm.sizeOf_spec] at hn
        omega
      obtain ⟨k, y1, e1, w1, h1⟩ := d_int (d_struct T_api_Part_is (hr row hrow))
      have h1 := d_struct T_api_Compound_is h1
      obtain ⟨t, y2, e2, w2, h2⟩ := d_str h1
      obtain ⟨i, y3, e3, w3, h3⟩ := d_strs h2
      obtain ⟨c, y4, e4, w4, h4⟩ := d_strs h3
      obtain ⟨a, y5, e5, w5, h5⟩ := d_attrs h4
      obtain ⟨prows, y6, e6, hpr, hpm, h6⟩ := d_slice T_sl_api_Pseudo_is (sz_of T_api_Pseudo_is) h5
      rw [sh_nil h6] at e6
      subst e6 e5 e4 e3 e2 e1
      obtain ⟨ps, hps, hpp⟩ := rows_map (f := encPs) (P := fun p => Ps.wf Lmax p) fun prow hprow => by
        have hsz2 : SizeOf.sizeOf prow < n := by
          have h1 : SizeOf.sizeOf prow < SizeOf.sizeOf prows := List.sizeOf_lt_of_mem hprow
          simp only [List.cons.sizeOf_spec, AV.imm.sizeOf_spec] at hsz
          omega
        have g1 := d_struct T_api_Pseudo_is (hpr prow hprow)
        obtain ⟨k, y1, e1, w1, g2⟩ := d_int g1
        obtain ⟨a, y2, e2, w2, g3⟩ := d_int g2
        obtain ⟨b, y3, e3, w3, g4⟩ := d_int g3
        obtain ⟨srows, y4, e4, hsr, hsm, g5⟩ := d_slice T_sl_api_Selector_is (sz_of T_api_Selector_is) g4
        rw [sh_nil g5] at e4
        subst e4 e3 e2 e1
        obtain ⟨ss, hss, hsp⟩ := rows_map (f := encSl) (P := slWf Lmax) fun srow hsrow => by
          have hsz3 : SizeOf.sizeOf srow < n := by
            have h1 : SizeOf.sizeOf srow < SizeOf.sizeOf srows := List.sizeOf_lt_of_mem hsrow
            simp only [List.cons.sizeOf_spec, AV.imm.sizeOf_spec] at hsz2
            omega
          obtain ⟨l, y1, e1, w1, q1⟩ := d_parts n (by omega) (d_struct T_api_Selector_is (hsr srow hsrow))
          rw [sh_nil q1] at e1
          exact ⟨l, e1, w1.1, w1.2⟩
        refine ⟨.mk k a b ss, by rw [encPs_eq, hss]; rfl, ?_⟩
        rw [Ps.wf_iff]
        exact ⟨w1, w2, w3, by rw [hss, List.length_map] at hsm; exact hsm, hsp⟩
      refine ⟨.mk k (.mk t i c a ps), by rw [encPt_eq, encCp_eq, hps]; rfl, ?_⟩
      rw [Pt.wf_iff]
      exact ⟨w1, w2, w3, w4, w5.1, w5.2, by rw [hps, List.length_map] at hpm; exact hpm, hpp⟩
    exact ⟨l, ys, by rw [e, hl], ⟨by rw [hl] at hm; simpa using hm, hp⟩, hs⟩
def readB : List Nat := [T_int, T_string, T_bool, T_sl_string, T_sl_api_Attr, T_api_Attr, T_sl_api_Part, T_api_Part, T_api_Compound, T_sl_api_Pseudo, T_api_Pseudo, T_sl_api_Selector, T_api_Selector, T_sl_api_Node, T_api_Node, T_sl_api_Pair, T_api_Pair]
theorem readB_closed : closedB tiT.get readB = true := by kernel_rfl
end Go.Proofs.Ythmaggcfghjmfaa.Ev
namespace Go.Proofs.Ythmaggcfghjmfaa.Ev
theorem v_agg {t sz : Nat} {fs : List (Nat × Nat)} (hT : ∃ i, tiT.get t = some i ∧ i.d = .struct fs ∧ i.size = sz) {x : AV} (h : ShV tiT.get t x) : ∃ ys, x = .agg ys ∧ Sh tiT.get [t] ys := by
  obtain ⟨i, hi, hd, _⟩ := hT
  exact shV_agg hi (by rw [hd]; rfl) h
theorem v_one {t sz : Nat} {d : TD} (hT : ∃ i, tiT.get t = some i ∧ i.d = d ∧ i.size = sz) (ha : d.agg = false) {x : AV} (h : ShV tiT.get t x) : Sh tiT.get [t] [x] := by
  obtain ⟨i, hi, hd, _⟩ := hT
  unfold ShV at h
  rw [hi] at h
  simp only [hd, ha] at h
  exact h
end Go.Proofs.Ythmaggcfghjmfaa.Ev
namespace Go.Proofs.Ythmaggcfghjmfaa.Ev
theorem d_strR {ts : List Nat} {zs : List AV} (h : Sh tiT.get (T_string :: ts) zs) : ∃ s ys, zs = Sx s :: ys ∧ s.data.size ≤ reachBytes ∧ Sh tiT.get ts ys := by
  obtain ⟨i, hi, hd, _⟩ := T_string_is
  obtain ⟨s, ys, e, hw, hs⟩ := sh_str hi hd h
  exact ⟨s, ys, e, hw, hs⟩
theorem d_sliceB {t e sz B : Nat} (hT : ∃ i, tiT.get t = some i ∧ i.d = .slice e ∧ i.size = 1) (hE : ∃ i, tiT.get e = some i ∧ i.size = sz) (hB : (tiT.get e).map (·.bytes) = some B) {ts : List Nat} {zs : List AV} (h : Sh tiT.get (t :: ts) zs) :
    ∃ rows ys, zs = .imm sz rows :: ys ∧ (∀ row ∈ rows, Sh tiT.get [e] row) ∧ rows.length * B ≤ reachBytes ∧ Sh tiT.get ts ys := by
  obtain ⟨i, hi, hd, _⟩ := hT
  obtain ⟨j', hj', hs'⟩ := hE
  rw [hj'] at hB
  simp only [Option.map_some, Option.some.injEq] at hB
  cases h with
  | sl h' hd' he hc hl hm hb hs => rw [hi] at h'; cases h'; rw [hd] at hd'; cases hd'; rw [hj'] at he; cases he; exact ⟨_, _, by rw [hs'], hc, by rw [← hB]; exact hb, hs⟩
  | _ => simp_all
theorem d_strsR {ts : List Nat} {zs : List AV} (h : Sh tiT.get (T_sl_string :: ts) zs) : ∃ l ys, zs = strs l :: ys ∧ l.length * 16 ≤ reachBytes ∧ Sh tiT.get ts ys := by
  obtain ⟨rows, ys, e, hr, hm, hs⟩ := d_sliceB T_sl_string_is (sz_of T_string_is) (B := 16) (by kernel_rfl) h
  obtain ⟨l, hl, hp⟩ := rows_map (f := fun s => [Sx s]) (P := fun s => True) fun row hrow => by
    obtain ⟨s, ys, e, hw, hs⟩ := d_str (hr row hrow)
    rw [sh_nil hs] at e
    exact ⟨s, e, trivial⟩
  exact ⟨l, ys, by rw [e, hl]; rfl, by rw [hl] at hm; simpa using hm, hs⟩
theorem d_pairs {ts : List Nat} {zs : List AV} (h : Sh tiT.get (T_sl_api_Pair :: ts) zs) : ∃ (l : List (ByteArray × ByteArray)) (ys : List AV), zs = .imm 2 (l.map encPr) :: ys ∧ (l.length * 32 ≤ reachBytes ∧ ∀ x ∈ l, x.1.data.size ≤ reachBytes) ∧ Sh tiT.get ts ys := by
  obtain ⟨rows, ys, e, hr, hm, hs⟩ := d_sliceB T_sl_api_Pair_is (sz_of T_api_Pair_is) (B := 32) (by kernel_rfl) h
  obtain ⟨l, hl, hp⟩ := rows_map (f := encPr) (P := fun x => x.1.data.size ≤ reachBytes) fun row hrow => by
    obtain ⟨a, y1, e1, w1, h2⟩ := d_strR (d_struct T_api_Pair_is (hr row hrow))
    obtain ⟨b, y2, e2, w2, h3⟩ := d_strR h2
    rw [sh_nil h3] at e2
    exact ⟨⟨a, b⟩, by rw [e1, e2]; rfl, w1⟩
  exact ⟨l, ys, by rw [e, hl], ⟨by rw [hl] at hm; simpa using hm, hp⟩, hs⟩
theorem d_nodes {ts : List Nat} {zs : List AV} (h : Sh tiT.get (T_sl_api_Node :: ts) zs) : ∃ (l : List Nd) (ys : List AV), zs = nds l :: ys ∧ (∀ x ∈ l, NdWf x) ∧ l.length ≤ Lmax ∧ Sh tiT.get ts ys := by
  obtain ⟨rows, ys, e, hr, hm, hs⟩ := d_slice T_sl_api_Node_is (sz_of T_api_Node_is) h
  obtain ⟨l, hl, hp⟩ := rows_map (f := encNd) (P := NdWf) fun row hrow => by
    obtain ⟨p, y1, e1, w1, h2⟩ := d_int (d_struct T_api_Node_is (hr row hrow))
    obtain ⟨t, y2, e2, w2, h3⟩ := d_strR h2
    obtain ⟨i, y3, e3, w3, h4⟩ := d_strR h3
    obtain ⟨c, y4, e4, w4, h5⟩ := d_strsR h4
    obtain ⟨a, y5, e5, w5, h6⟩ := d_pairs h5
    rw [sh_nil h6] at e5
    exact ⟨⟨p, t, i, c, a⟩, by rw [e1, e2, e3, e4, e5]; rfl, w1, w2, w4, w5.1, w5.2⟩
  exact ⟨l, ys, by rw [e, hl]; rfl, hp, by rw [hl] at hm; simpa using hm, hs⟩
theorem v_nodes {x : AV} (h : ShV tiT.get T_sl_api_Node x) : ∃ l, x = nds l ∧ (∀ n ∈ l, NdWf n) ∧ l.length ≤ Lmax := by
  obtain ⟨l, ys, e, w, hl, hn⟩ := d_nodes (v_one T_sl_api_Node_is rfl h)
  cases e
  exact ⟨l, rfl, w, hl⟩
theorem v_cp {x : AV} (h : ShV tiT.get T_api_Compound x) : ∃ c : Cp, x = .agg (encCp c) ∧ CpWf Lmax c := by
  obtain ⟨ys, e, hs⟩ := v_agg T_api_Compound_is h
  have h1 := d_struct T_api_Compound_is hs
  have h2 : Sh tiT.get [T_sl_api_Part] [.imm 6 [I 0 :: ys]] := by
    obtain ⟨i, hi, hd, _⟩ := T_sl_api_Part_is
    obtain ⟨j, hj, hdj, hsz⟩ := T_api_Part_is
    have hB : (tiT.get T_api_Part).map (·.bytes) = some 120 := by kernel_rfl
    rw [hj] at hB
    simp only [Option.map_some, Option.some.injEq] at hB
    have hlen : ys.length = 5 := by
      obtain ⟨t, y2, e2, w2, h2⟩ := d_str h1
      obtain ⟨i, y3, e3, w3, h3⟩ := d_strs h2
      obtain ⟨c, y4, e4, w4, h4⟩ := d_strs h3
      obtain ⟨a, y5, e5, w5, h5⟩ := d_attrs h4
      obtain ⟨prows, y6, e6, hpr, hpm, h6⟩ := d_slice T_sl_api_Pseudo_is (sz_of T_api_Pseudo_is) h5
      rw [sh_nil h6] at e6
      rw [e2, e3, e4, e5, e6]; rfl
    have hr : Sh tiT.get [T_api_Part] (I 0 :: ys) := by
      refine .struct hj hdj ?_
      obtain ⟨k, hk, hdk, _⟩ := T_int_is
      exact .int hk hdk (by decide) hs
    have := Sh.sl (ys := []) hi hd hj (rows := [I 0 :: ys]) (fun row hr' => by rw [List.mem_singleton.1 hr']; exact hr) (fun row hr' => by rw [List.mem_singleton.1 hr', hsz]; simp [hlen]) (by show 1 ≤ maxLen; decide) (by rw [hB]; show 1 * 120 ≤ reachBytes; decide) .nil
    rw [hsz] at this
    exact this
  obtain ⟨l, zs, e2, w, hn⟩ := d_parts _ (Nat.le_refl _) h2
  simp only [List.cons.injEq, AV.imm.injEq, true_and] at e2
  match l, e2.1, w with
  | [p], e3, w =>
    have hw := (Pt.wf_iff.1 (w.2 p (by simp))).2
    rw [List.map_cons, List.map_nil, encPt_eq] at e3
    simp only [List.cons.injEq, and_true] at e3
    exact ⟨p.c, by rw [e, e3.2], hw⟩
  | [], e3, w => simp at e3
  | _ :: _ :: _, e3, w => simp at e3
end Go.Proofs.Ythmaggcfghjmfaa.Ev
namespace Go.Proofs.Ythmaggcfghjmfaa.Ev
set_option linter.unusedVariables false
set_option linter.unusedSimpArgs false
variable {σ : Sig} {L : List Nd} {d : List Nat}
def TxL : Nat → List Sl → Prop
  | 0, _ => False
  | f + 1, l => ∀ s ∈ l, ∀ p ∈ s, (∀ a ∈ p.c.attrs, a.text.data.size < 4294967281) ∧ ∀ q ∈ p.c.pseudos, TxL f q.list
theorem TxL.one {f : Nat} {l : List Sl} (h : TxL f l) {s : Sl} (hs : s ∈ l) : TxL f [s] := by
  cases f with
  | zero => exact h
  | succ f => exact fun s' hs' => by rw [List.mem_singleton.1 hs']; exact h s hs
theorem RcOk.of {c : Cp} (h : CpOk c) (ht : ∀ a ∈ c.attrs, a.text.data.size < 4294967281) : RcOk c := ⟨h.ids, h.classes, h.attrs, h.ps, ht⟩
theorem frB_AA {f : Nat} {s : Sl} (hn : Nest f [s]) (hf : f ≤ 12) (e : Nat) : AA L [s] e = frB L s e := by
  rw [← AA_eq hn hf]
  simp [anyS, frB]
theorem mayF_one {f : Nat} {s : Sl} {dp : Nat} : mayF (f + 1) [s] dp = mayS (mayF f) dp s := by simp [mayF]
end Go.Proofs.Ythmaggcfghjmfaa.Ev
namespace Go.Proofs.Ythmaggcfghjmfaa.Ev
set_option linter.unusedVariables false
set_option linter.unusedSimpArgs false
theorem sum_bk {α : Type} {f : α → List AV} {g : α → Nat} : ∀ {l : List α}, (∀ x ∈ l, g x ≤ bkL (f x)) → (l.map g).sum ≤ bkLL (l.map f)
  | [], _ => by simp [bkLL]
  | x :: r, h => by
    have h1 := h x (by simp)
    have h2 := sum_bk (f := f) (g := g) (l := r) fun y hy => h y (by simp [hy])
    simp only [List.map_cons, List.sum_cons, bkLL]
    omega
theorem len_bk {α : Type} {f : α → List AV} {l : List α} (h : ∀ x ∈ l, 1 ≤ bkL (f x)) : l.length ≤ bkLL (l.map f) := by
  have h1 := sum_bk (f := f) (g := fun _ => 1) (l := l) h
  have h2 : ∀ l : List α, (l.map fun _ => 1).sum = l.length := by
    intro l
    induction l with
    | nil => rfl
    | cons a r ih => simp only [List.map_cons, List.sum_cons, List.length_cons, ih]; omega
  rw [h2] at h1
  exact h1
theorem mem_bk {α : Type} {f : α → List AV} {l : List α} {x : α} (h : x ∈ l) : bkL (f x) ≤ bkLL (l.map f) := bkLL_mem (List.mem_map_of_mem h)
theorem bk_S (s : ByteArray) : bk (Sx s) = s.data.size + 1 := by simp [bk]
theorem bk_I (n : Int) : bk (I n) = 1 := by simp [bk]
theorem bk_imm (sz : Nat) (rows : List (List AV)) : bk (.imm sz rows) = bkLL rows + 1 := by simp [bk]
theorem bk_strs (l : List ByteArray) : bk (strs l) = bkLL (l.map fun s => [Sx s]) + 1 := by unfold strs; rw [bk_imm]
theorem bk_cp (c : Cp) : bkL (encCp c) = (c.tag.data.size + 1) + ((bkLL (c.ids.map fun s => [Sx s]) + 1) + ((bkLL (c.classes.map fun s => [Sx s]) + 1) + ((bkLL (c.attrs.map encAt) + 1) + (bkLL (c.pseudos.map encPs) + 1)))) := by
  rw [encCp_eq]
  simp only [bkL, bk_S, bk_strs, bk_imm, Nat.add_zero]
theorem bk_pt (p : Pt) : bkL (encPt p) = 1 + bkL (encCp p.c) := by rw [encPt_eq]; simp only [bkL, bk_I]
theorem bk_ps (q : Ps) : bkL (encPs q) = 1 + (1 + (1 + (bkLL (q.list.map encSl) + 1))) := by rw [encPs_eq]; simp only [bkL, bk_I, bk_imm, Nat.add_zero]
theorem bk_sl (s : Sl) : bkL (encSl s) = bkLL (s.map encPt) + 1 := by unfold encSl; simp only [bkL, bk_imm, Nat.add_zero]
theorem bk_at (a : At) : bkL (encAt a) = (a.name.data.size + 1) + (1 + (a.text.data.size + 1)) := by unfold encAt; simp only [bkL, bk_S, bk_I, Nat.add_zero]
structure PtB (f : Nat) (p : Pt) : Prop where
  c : CpOk p.c
  ps : p.c.pseudos.length ≤ NB
  q : ∀ q ∈ p.c.pseudos, (i64 q.a ∧ i64 q.b) ∧ SlsOk f q.list
  tx : ∀ a ∈ p.c.attrs, a.text.data.size < 4294967281
  tq : ∀ q ∈ p.c.pseudos, TxL f q.list
  cnt : (p.c.pseudos.map fun q => cntF f q.list).sum + 6 ≤ bkL (encPt p)
theorem pt_bulk {f : Nat} (ih : ∀ l, slsWf Lmax l → FitL f l → bkLL (l.map encSl) ≤ NB → SlsOk f l ∧ TxL f l ∧ cntF f l ≤ bkLL (l.map encSl)) {p : Pt} (hw : CpWf Lmax p.c) (hf : FitP f p) (hb : bkL (encCp p.c) ≤ NB) : PtB f p := by
  have hN : NB = 1048576 := rfl
  have r : reachBytes = 140737488351232 := rfl
  rw [bk_cp, hN] at hb
  have l1 : p.c.ids.length ≤ bkLL (p.c.ids.map fun s => [Sx s]) := len_bk fun s _ => by simp only [bkL, bk_S]; omega
  have l2 : p.c.classes.length ≤ bkLL (p.c.classes.map fun s => [Sx s]) := len_bk fun s _ => by simp only [bkL, bk_S]; omega
  have l3 : p.c.attrs.length ≤ bkLL (p.c.attrs.map encAt) := len_bk fun s _ => by rw [bk_at]; omega
  have l4 : p.c.pseudos.length ≤ bkLL (p.c.pseudos.map encPs) := len_bk fun s _ => by rw [bk_ps]; omega
  have ht : ∀ a ∈ p.c.attrs, a.text.data.size ≤ 1048576 := fun a ha => by
    have h1 := mem_bk (f := encAt) ha
    rw [bk_at] at h1
    omega
  have hq : ∀ q ∈ p.c.pseudos, SlsOk f q.list ∧ TxL f q.list ∧ cntF f q.list ≤ bkLL (q.list.map encSl) := fun q hq => by
    have h1 := mem_bk (f := encPs) hq
    rw [bk_ps] at h1
    exact ih q.list (Ps.wf_iff.1 (hw.ps q hq)).2.2.2 (hf.2 q hq) (by rw [hN]; omega)
  refine ⟨⟨by omega, by omega, by omega, fun a ha => ⟨by have := ht a ha; omega⟩, by omega⟩, by omega, fun q h => ⟨⟨(Ps.wf_iff.1 (hw.ps q h)).2.1, (Ps.wf_iff.1 (hw.ps q h)).2.2.1⟩, (hq q h).1⟩, fun a ha => by have := ht a ha; omega, fun q h => (hq q h).2.1, ?_⟩
  have h5 : (p.c.pseudos.map fun q => cntF f q.list).sum ≤ bkLL (p.c.pseudos.map encPs) := sum_bk fun q h => by
    have := (hq q h).2.2
    rw [bk_ps]; omega
  rw [bk_pt, bk_cp]
  omega
theorem sls_bulk : ∀ (f : Nat) (l : List Sl), slsWf Lmax l → FitL f l → bkLL (l.map encSl) ≤ NB → SlsOk f l ∧ TxL f l ∧ cntF f l ≤ bkLL (l.map encSl)
  | 0, l, _, h, _ => h.elim
  | f + 1, l, hw, hf, hb => by
    have hN : NB = 1048576 := rfl
    have hl : l.length ≤ bkLL (l.map encSl) := len_bk fun s _ => by rw [bk_sl]; omega
    have hs : ∀ s ∈ l, s.length ≤ NB ∧ ∀ p ∈ s, PtB f p := fun s h => by
      have h1 := mem_bk (f := encSl) h
      rw [bk_sl] at h1
      have h2 : s.length ≤ bkLL (s.map encPt) := len_bk fun p _ => by rw [bk_pt]; omega
      refine ⟨by omega, fun p hp => ?_⟩
      have h3 := mem_bk (f := encPt) hp
      rw [bk_pt] at h3
      exact pt_bulk (sls_bulk f) (Pt.wf_iff.1 ((hw.2 s h).2 p hp)).2 ((hf s h).2 p hp) (by omega)
    refine ⟨⟨by omega, fun s h => ⟨(hs s h).1, fun p hp => ⟨((hs s h).2 p hp).c, ((hs s h).2 p hp).ps, ((hs s h).2 p hp).q⟩⟩⟩, fun s h p hp => ⟨((hs s h).2 p hp).tx, ((hs s h).2 p hp).tq⟩, ?_⟩
    rw [cntF]
    refine sum_bk fun s h => ?_
    rw [bk_sl]
    have : (s.map fun p => (p.c.pseudos.map fun q => cntF f q.list).sum).sum ≤ bkLL (s.map encPt) := sum_bk fun p hp => by
      have := ((hs s h).2 p hp).cnt
      omega
    omega
theorem part_bulk {s : Sl} (hw : slsWf Lmax [s]) (hf : FitL 11 [s]) (hl : s.length ≤ 10) (hb : (s.map fun p => bkL (encCp p.c)).sum ≤ NB) : SelOk 11 [s] ∧ TxL 11 [s] := by
  have hN : NB = 1048576 := rfl
  have hm : ∀ (s : Sl) (p : Pt), p ∈ s → bkL (encCp p.c) ≤ (s.map fun p => bkL (encCp p.c)).sum := by
    intro s p
    induction s with
    | nil => intro h; cases h
    | cons a r ih =>
      intro h
      simp only [List.map_cons, List.sum_cons]
      rcases List.mem_cons.1 h with rfl | h
      · omega
      · have := ih h; omega
  have hs : ∀ p ∈ s, PtB 10 p := fun p hp => pt_bulk (sls_bulk 10) (Pt.wf_iff.1 ((hw.2 s (by simp)).2 p hp)).2 ((hf s (by simp)).2 p hp) (Nat.le_trans (hm s p hp) hb)
  refine ⟨⟨hw, ⟨by show 1 ≤ NB; decide, fun s' h => ?_⟩, hf.nest, by decide, ?_⟩, fun s' h p hp => ?_⟩
  · rw [List.mem_singleton.1 h]
    exact ⟨by omega, fun p hp => ⟨(hs p hp).c, (hs p hp).ps, (hs p hp).q⟩⟩
  · have : ∀ (s : Sl), (∀ p ∈ s, PtB 10 p) → (s.map fun p => (p.c.pseudos.map fun q => cntF 10 q.list).sum).sum + 5 * s.length ≤ (s.map fun p => bkL (encCp p.c)).sum := by
      intro s
      induction s with
      | nil => intro _; simp
      | cons a r ih =>
        intro h
        have h1 := (h a (by simp)).cnt
        have h2 := ih fun p hp => h p (by simp [hp])
        rw [bk_pt] at h1
        simp only [List.map_cons, List.sum_cons, List.length_cons]
        omega
    have h1 := this s hs
    rw [cntF]
    simp only [List.map_cons, List.map_nil, List.sum_cons, List.sum_nil]
    by_cases h0 : s.length = 0
    · have : s = [] := List.length_eq_zero_iff.1 h0
      subst this
      simp; rw [hN]; omega
    · omega
  · rw [List.mem_singleton.1 h] at hp
    exact ⟨(hs p hp).tx, (hs p hp).tq⟩
end Go.Proofs.Ythmaggcfghjmfaa.Ev
namespace Go.Proofs.Ythmaggcfghjmfaa.Ev
set_option linter.unusedVariables false
set_option linter.unusedSimpArgs false
set_option maxRecDepth 100000
variable {σ : Sig}
abbrev nilS : AV := .lit (.slice none 0 0)
theorem NdSm.low {n : Nd} (h : NdSm n) : SmN (lowN n) := by
  have r : reachBytes = 140737488351232 := rfl
  refine ⟨by have := h.classes; show n.classes.length ≤ _; omega, by have := h.attrs; show (n.attrs.map lowPr).length ≤ _; rw [List.length_map]; omega, fun p hp => ?_⟩
  obtain ⟨q, hq, rfl⟩ := List.mem_map.1 hp
  have := (h.at' q hq).2
  show q.2.data.size < _
  omega
theorem TreeOk.smN {L : List Nd} {d : List Nat} (h : TreeOk L d) : ∀ e, e < L.length → SmN (lowN (ndAt L e)) := by
  intro e he
  refine (h.sm _ ?_).low
  unfold ndAt
  rw [List.getD_eq_getElem?_getD, List.getElem?_eq_getElem he]
  exact List.getElem_mem _
theorem TreeOk.mc {L : List Nd} {d : List Nat} (h : TreeOk L d) (hC : HasC σ) : McT σ L d := ⟨hC, h.hB, by have := h.len; omega, h.smN⟩
section
end
end Go.Proofs.Ythmaggcfghjmfaa.Ev
namespace Go.Proofs.Ythmaggcfghjmfaa.Ev
open Go.RowKit
def sigM : Sig := ⟨fun _ => 0, fun _ => false, fun _ => ⟨#[]⟩, some gMax⟩
theorem sigM_g : sigM.g = some gMax := rfl
end Go.Proofs.Ythmaggcfghjmfaa.Ev
namespace Go.Proofs.Ythmaggcfghjmfaa.Ev
open Go.RowKit
set_option linter.unusedVariables false
set_option linter.unusedSimpArgs false
set_option maxRecDepth 100000
variable {σ : Sig}
section
end
end Go.Proofs.Ythmaggcfghjmfaa.Ev
namespace Go.Proofs.Ythmaggcfghjmfaa.Ev
open Go.RowKit
set_option linter.unusedVariables false
set_option linter.unusedSimpArgs false
set_option maxRecDepth 100000
variable {σ : Sig}
def tagJ (a b : ByteArray) : ByteArray := ⟨a.data ++ b.data⟩
def cpJ (a b : Cp) : Cp := .mk (tagJ a.tag b.tag) (a.ids ++ b.ids) (a.classes ++ b.classes) (a.attrs ++ b.attrs) (a.pseudos ++ b.pseudos)
theorem b_saddJ (a b : ByteArray) (h : a.data.size + b.data.size ≤ 9223372036854775807) : binR .add (.lit (.string a)) (.lit (.string b)) = some (.lit (.string ⟨a.data ++ b.data⟩)) := by
  have h' : a.size + b.size ≤ 9223372036854775807 := h
  simp [binR, lit?, sbin, bleN, h']
theorem tagJ_l {a b : ByteArray} (h : b = emp) : tagJ a b = a := by subst h; unfold tagJ emp; simp
theorem tagJ_r {a b : ByteArray} (h : a = emp) : tagJ a b = b := by subst h; unfold tagJ emp; simp
theorem plainJ {n : Nd} {a b : Cp} (h : a.tag = emp ∨ b.tag = emp) : plainB n (cpJ a b) = (plainB n a && plainB n b) := by
  have ht : tagB n (cpJ a b) = (tagB n a && tagB n b) := by
    unfold tagB
    rcases h with h | h
    · rw [show (cpJ a b).tag = b.tag from tagJ_r h, h]; simp
    · rw [show (cpJ a b).tag = a.tag from tagJ_l h, h]; simp
  have h1 : (cpJ a b).ids = a.ids ++ b.ids := rfl
  have h2 : (cpJ a b).classes = a.classes ++ b.classes := rfl
  have h3 : (cpJ a b).attrs = a.attrs ++ b.attrs := rfl
  unfold plainB
  rw [ht, h1, h2, h3, List.all_append, List.all_append, List.all_append]
  cases tagB n a <;> cases tagB n b <;> cases (a.ids.all (idB n)) <;> cases (b.ids.all (idB n)) <;> cases (a.classes.all (hasB n.classes)) <;> cases (b.classes.all (hasB n.classes)) <;> simp
theorem compJ {any : List Sl → Nat → Bool} {L : List Nd} {e : Nat} {a b : Cp} (h : a.tag = emp ∨ b.tag = emp) : compB any L e (cpJ a b) = (compB any L e a && compB any L e b) := by
  unfold compB
  rw [plainJ h, show (cpJ a b).pseudos = a.pseudos ++ b.pseudos from rfl, List.all_append]
  cases plainB (lowN (ndAt L e)) a <;> cases plainB (lowN (ndAt L e)) b <;> cases (a.pseudos.all (pseudoB any L e)) <;> simp
theorem mayJ {g : List Sl → Nat → Bool} {dp : Nat} {a b : Cp} : mayC g dp (cpJ a b) = (mayC g dp a && mayC g dp b) := by
  unfold mayC
  rw [show (cpJ a b).pseudos = a.pseudos ++ b.pseudos from rfl, List.all_append]
theorem cpB_may {L : List Nd} {f : Nat} {c : Cp} (S : SelOk (f + 1) [[⟨0, c⟩]]) (hm : mayC (mayF f) 8 c = true) {e : Nat} (he : e < L.length) : cpB L (f + 1) c (e : Int) = compB (AA L) L e c := by
  unfold cpB selB mayAny
  have i1 : (0 : Int) ≤ (e : Int) := by omega
  have i2 : (e : Int) < (L.length : Int) := by omega
  have hms : mayS (mayF f) 8 [⟨0, c⟩] = mayC (mayF f) 8 c := by simp [mayS, Pt.c]
  simp only [i1, i2, decide_true, Bool.and_self, Bool.true_and, Int.toNat_natCast, List.any_cons, List.any_nil, Bool.or_false, mayF_one, hms, hm]
  rw [frB_AA S.nest S.hf]
  rfl
theorem bk_strs_len (l : List ByteArray) : l.length ≤ bkLL (l.map fun s => [Sx s]) := len_bk fun s _ => by simp only [bkL, bk_S]; omega
theorem cp_len (c : Cp) : c.tag.data.size + c.ids.length + c.classes.length + c.attrs.length + c.pseudos.length + 5 ≤ bkL (encCp c) := by
  rw [bk_cp]
  have h1 := bk_strs_len c.ids
  have h2 := bk_strs_len c.classes
  have h3 : c.attrs.length ≤ bkLL (c.attrs.map encAt) := len_bk fun s _ => by rw [bk_at]; omega
  have h4 : c.pseudos.length ≤ bkLL (c.pseudos.map encPs) := len_bk fun s _ => by rw [bk_ps]; omega
  omega
theorem wfJ {a b : Cp} (ha : CpWf Lmax a) (hb : CpWf Lmax b) (hk : bkL (encCp a) + bkL (encCp b) ≤ NB) : CpWf Lmax (cpJ a b) := by
  have hN : NB = 1048576 := rfl
  have hL : Lmax = 9223372036854775807 := rfl
  have h1 := cp_len a
  have h2 := cp_len b
  refine ⟨?_, ⟨?_, fun s hs => ?_⟩, ⟨?_, fun s hs => ?_⟩, ?_, fun x hx => ?_, ?_, fun q hq => ?_⟩
  · show (a.tag.data ++ b.tag.data).size ≤ _
    rw [Array.size_append]; omega
  · show (a.ids ++ b.ids).length ≤ _
    rw [List.length_append]; omega
  · rcases List.mem_append.1 hs with h | h
    · exact ha.ids.2 s h
    · exact hb.ids.2 s h
  · show (a.classes ++ b.classes).length ≤ _
    rw [List.length_append]; omega
  · rcases List.mem_append.1 hs with h | h
    · exact ha.classes.2 s h
    · exact hb.classes.2 s h
  · show (a.attrs ++ b.attrs).length ≤ _
    rw [List.length_append]; omega
  · rcases List.mem_append.1 hx with h | h
    · exact ha.attrs x h
    · exact hb.attrs x h
  · show (a.pseudos ++ b.pseudos).length ≤ _
    rw [List.length_append]; omega
  · rcases List.mem_append.1 hq with h | h
    · exact ha.ps q h
    · exact hb.ps q h
theorem slsWf_cp {c : Cp} (h : CpWf Lmax c) : slsWf Lmax [[⟨0, c⟩]] := ⟨by show 1 ≤ Lmax; decide, fun s' h' => by
    rw [List.mem_singleton.1 h']
    refine ⟨by show 1 ≤ Lmax; decide, fun p hp => ?_⟩
    rw [List.mem_singleton.1 hp, Pt.wf_iff]
    exact ⟨by show i64 0; unfold i64; decide, h⟩⟩
theorem selJ {a b : Cp} (ha : CpWf Lmax a) (hb : CpWf Lmax b) (hk : bkL (encCp a) + bkL (encCp b) ≤ NB) (fa : FitP 10 ⟨0, a⟩) (fb : FitP 10 ⟨0, b⟩) : SelOk 11 [[⟨0, cpJ a b⟩]] := by
  have hN : NB = 1048576 := rfl
  have r : reachBytes = 140737488351232 := rfl
  have Pa := pt_bulk (sls_bulk 10) (p := ⟨0, a⟩) ha fa (by show bkL (encCp a) ≤ NB; omega)
  have Pb := pt_bulk (sls_bulk 10) (p := ⟨0, b⟩) hb fb (by show bkL (encCp b) ≤ NB; omega)
  have h1 := cp_len a
  have h2 := cp_len b
  have ca := Pa.cnt
  have cb := Pb.cnt
  rw [bk_pt] at ca cb
  refine ⟨slsWf_cp (wfJ ha hb hk), ⟨by show 1 ≤ NB; decide, fun s hs => ?_⟩, fun s hs p hp q hq => ?_, by decide, ?_⟩
  · rw [List.mem_singleton.1 hs]
    refine ⟨by show 1 ≤ NB; decide, fun p hp => ?_⟩
    rw [List.mem_singleton.1 hp]
    refine ⟨⟨?_, ?_, ?_, fun x hx => ?_, ?_⟩, ?_, fun q hq => ?_⟩
    · show (a.ids ++ b.ids).length ≤ _; rw [List.length_append]; omega
    · show (a.classes ++ b.classes).length ≤ _; rw [List.length_append]; omega
    · show (a.attrs ++ b.attrs).length ≤ _; rw [List.length_append]; omega
    · rcases List.mem_append.1 hx with h | h
      · exact Pa.c.texts x h
      · exact Pb.c.texts x h
    · show (a.pseudos ++ b.pseudos).length ≤ _; rw [List.length_append]; omega
    · show (a.pseudos ++ b.pseudos).length ≤ _; rw [List.length_append]; omega
    · rcases List.mem_append.1 hq with h | h
      · exact Pa.q q h
      · exact Pb.q q h
  · rw [List.mem_singleton.1 hs] at hp
    rw [List.mem_singleton.1 hp] at hq
    rcases List.mem_append.1 hq with h | h
    · exact (fa.2 q h).nest
    · exact (fb.2 q h).nest
  · rw [cntF]
    simp only [List.map_cons, List.map_nil, List.sum_cons, List.sum_nil]
    show 1 + (((a.pseudos ++ b.pseudos).map fun q => cntF 10 q.list).sum + 0) + 0 ≤ NB
    rw [List.map_append, List.sum_append]
    have ca' : (a.pseudos.map fun q => cntF 10 q.list).sum + 6 ≤ 1 + bkL (encCp a) := ca
    have cb' : (b.pseudos.map fun q => cntF 10 q.list).sum + 6 ≤ 1 + bkL (encCp b) := cb
    omega
theorem selOne {a : Cp} (ha : CpWf Lmax a) (hk : bkL (encCp a) ≤ NB) (fa : FitP 10 ⟨0, a⟩) : SelOk 11 [[⟨0, a⟩]] := by
  refine (part_bulk (slsWf_cp ha) (fun s hs => ?_) (by show 1 ≤ 10; decide) (by show bkL (encCp a) + 0 ≤ NB; omega)).1
  rw [List.mem_singleton.1 hs]
  exact ⟨by show 1 ≤ 60; decide, fun p hp => by rw [List.mem_singleton.1 hp]; exact fa⟩
theorem join_fld {sz bytes : Nat} {H : Hp} {p q c k : Nat} {v w cs : List AV} {ra rb : List (List AV)} (hv : H.get p = some (.cells v true)) (hw : H.get q = some (.cells w true)) (hc : H.get c = some (.cells cs true)) (hpq : p < H.n ∧ q < H.n ∧ c < H.n) (hne : p ≠ c ∧ q ≠ c)
    (hvk : v.drop k = .imm sz ra :: v.drop (k + 1)) (hwk : w.drop k = .imm sz rb :: w.drop (k + 1)) (hk : k < cs.length) (ha : ∀ r ∈ ra, r.length = sz) (hb : ∀ r ∈ rb, r.length = sz) (oa : ra.flatten.all AV.one = true) (ob : rb.flatten.all AV.one = true)
    (hby : (ra.length + rb.length) * bytes ≤ 140737488355328) (hn : ra.length + rb.length ≤ 4611686018427387904) {K : Hp → Prop}
    (h : ∀ H' x, H'.get p = some (.cells v true) → H'.get q = some (.cells w true) → H'.get c = some (.cells (cs.set k x) true) → H.n ≤ H'.n → Gs sz H' x (ra ++ rb) → ¬ own x p → ¬ own x q → ¬ own x c → (∀ j, j < H.n → j ≠ c → H'.get j = H.get j) → (∀ j, own x j → H.n ≤ j) → K H') :
    bnd (shiftA (.ptr p 0) k) fun x44 => bnd (ldA false 1 H x44) fun x45 => bnd (appR false sz bytes H (.lit (.slice none 0 0)) x45) fun p46 => bnd (shiftA (.ptr q 0) k) fun x47 => kpK (x47, some 1) H p46.2 (bnd (ldA false 1 p46.2 x47) fun x48 => bnd (appR false sz bytes p46.2 p46.1 x48) fun p49 => bnd (shiftA (.ptr c 0) k) fun x50 => bnd (stA 1 p49.2 x50 p49.1) K) := by
  have l1 : ldA false 1 H (.ptr p k) = some (.imm sz ra) := by rw [ld_ptr, hv, ldO_cells, hvk, ldL_one]
  simp only [sh_ptr, Nat.zero_add, bnd_some, l1]
  refine bnd_app (rows := []) .nil rfl src_imm ha oa (by simpa using Nat.le_trans (Nat.mul_le_mul_right _ (Nat.le_add_right _ _)) hby) (by simp; omega) fun x1 H1 g1 f1 => ?_
  have no : ∀ j, ¬ own (AV.lit (.slice none 0 0)) j := fun j h => h
  have gq : H1.get q = H.get q := f1.same q hpq.2.1 (no q)
  rw [kp_ptr, gq]
  refine ⟨rfl, ?_⟩
  have l2 : ldA false 1 H1 (.ptr q k) = some (.imm sz rb) := by rw [ld_ptr, gq, hw, ldO_cells, hwk, ldL_one]
  rw [l2, bnd_some]
  rw [List.nil_append] at g1
  refine bnd_app g1 rfl src_imm hb ob hby hn fun x2 H2 g2 f2 => ?_
  have up1 := f1.grow
  have up2 := f2.grow
  have o1 : ∀ j, own x1 j → H.n ≤ j := fun j hj => by rcases f1.mine j hj with h | h; exact absurd h (no j); exact h.1
  have o2 : ∀ j, own x2 j → H.n ≤ j := fun j hj => by rcases f2.mine j hj with h | h; exact o1 j h; omega
  have same : ∀ j, j < H.n → H2.get j = H.get j := fun j hj => by
    rw [f2.same j (by omega) (fun h => by have := o1 j h; omega), f1.same j hj (no j)]
  have gc2 : H2.get c = some (.cells cs true) := by rw [same c hpq.2.2]; exact hc
  rw [g2.st gc2 hk, bnd_some]
  refine h _ x2 ?_ ?_ ?_ ?_ ?_ ?_ ?_ ?_ ?_ o2
  · rw [hp_get_set, if_neg hne.1, same p hpq.1]; exact hv
  · rw [hp_get_set, if_neg hne.2, same q hpq.2.1]; exact hw
  · simp
  · simp; omega
  · exact g2.keep (fun j hj => by have := o2 j hj; have : j ≠ c := by omega
                                  simp [this]) (by simp)
  · exact fun h => by have := o2 p h; omega
  · exact fun h => by have := o2 q h; omega
  · exact fun h => by have := o2 c h; omega
  · intro j hj hne'
    rw [hp_get_set, if_neg hne', same j hj]
section
attribute [local irreducible] law10_MatchBoth.L0
theorem both_mid {L : List Nd} {d : List Nat} (hT : TreeOk L d) (hC : HasC σ) {a b : Cp} (ha : CpWf Lmax a) (hb : CpWf Lmax b) (hk : bkL (encCp a) + bkL (encCp b) ≤ NB) (fa : FitP 10 ⟨0, a⟩) (fb : FitP 10 ⟨0, b⟩) (htag : a.tag = emp ∨ b.tag = emp)
    {K : AV → Hp → Prop} (hK : ∀ H, K (Bo true) H) {H : Hp} (hp : H.get 0 = some (.cells (encCp a) true)) (hq : H.get 1 = some (.cells (encCp b) true)) (hn : 2 ≤ H.n) :
    bnd (ldA true 5 H (.ptr 0 0)) fun x29 => callK Try.prog σ n_ref9_Deep [x29, (I 0)] H fun x30 H31 => ifB x30 (K (Bo true) H31) (bnd (ldA true 5 H31 (.ptr 1 0)) fun x32 => callK Try.prog σ n_ref9_Deep [x32, (I 0)] H31 fun x33 H34 => ifB x33 (K (Bo true) H34) (bnd (shiftA (.ptr 0 0) 0) fun x35 => bnd (ldA false 1 H34 x35) fun x36 => bnd (shiftA (.ptr 1 0) 0) fun x37 => bnd (ldA false 1 H34 x37) fun x38 => bnd (binR .add x36 x38) fun x39 => bnd (bldR [.lit (.string ⟨#[]⟩), .lit (.slice none 0 0), .lit (.slice none 0 0), .lit (.slice none 0 0), .lit (.slice none 0 0)] [(0, 1, x39)]) fun l40 => allocK [.lit (.string ⟨#[]⟩), .lit (.slice none 0 0), .lit (.slice none 0 0), .lit (.slice none 0 0), .lit (.slice none 0 0)] H34 fun x41 H42 => bnd (stA 5 H42 x41 (.agg l40)) fun H43 => bnd (shiftA (.ptr 0 0) 1) fun x44 => bnd (ldA false 1 H43 x44) fun x45 => bnd (appR false 1 16 H43 (.lit (.slice none 0 0)) x45) fun p46 => bnd (shiftA (.ptr 1 0) 1) fun x47 => kpK (x47, some 1) H43 p46.2 (bnd (ldA false 1 p46.2 x47) fun x48 => bnd (appR false 1 16 p46.2 p46.1 x48) fun p49 => bnd (shiftA x41 1) fun x50 => bnd (stA 1 p49.2 x50 p49.1) fun H51 => bnd (shiftA (.ptr 0 0) 2) fun x52 => bnd (ldA false 1 H51 x52) fun x53 => bnd (appR false 1 16 H51 (.lit (.slice none 0 0)) x53) fun p54 => bnd (shiftA (.ptr 1 0) 2) fun x55 => kpK (x55, some 1) H51 p54.2 (bnd (ldA false 1 p54.2 x55) fun x56 => bnd (appR false 1 16 p54.2 p54.1 x56) fun p57 => bnd (shiftA x41 2) fun x58 => bnd (stA 1 p57.2 x58 p57.1) fun H59 => bnd (shiftA (.ptr 0 0) 3) fun x60 => bnd (ldA false 1 H59 x60) fun x61 => bnd (appR false 3 40 H59 (.lit (.slice none 0 0)) x61) fun p62 => bnd (shiftA (.ptr 1 0) 3) fun x63 => kpK (x63, some 1) H59 p62.2 (bnd (ldA false 1 p62.2 x63) fun x64 => bnd (appR false 3 40 p62.2 p62.1 x64) fun p65 => bnd (shiftA x41 3) fun x66 => bnd (stA 1 p65.2 x66 p65.1) fun H67 => bnd (shiftA (.ptr 0 0) 4) fun x68 => bnd (ldA false 1 H67 x68) fun x69 => bnd (appR false 4 48 H67 (.lit (.slice none 0 0)) x69) fun p70 => bnd (shiftA (.ptr 1 0) 4) fun x71 => kpK (x71, some 1) H67 p70.2 (bnd (ldA false 1 p70.2 x71) fun x72 => bnd (appR false 4 48 p70.2 p70.1 x72) fun p73 => bnd (shiftA x41 4) fun x74 => bnd (stA 1 p73.2 x74 p73.1) fun H75 => law10_MatchBoth.L0 σ K (nds L) (.ptr 0 0) (.ptr 1 0) (domT L d) x41 (I 0) H75)))))) := by
  have hN : NB = 1048576 := rfl
  have h1 := cp_len a
  have h2 := cp_len b
  have l5 : ∀ (H : Hp) (j : Nat) (c : Cp), H.get j = some (.cells (encCp c) true) → ldA true 5 H (.ptr j 0) = some (.agg (encCp c)) := fun H j c h => by simp [h]
  have M := hT.mc hC
  rw [l5 _ _ _ hp, bnd_some]
  refine callK_of (dc_ok 10 a 0 _ ha (fun q h => (fa.2 q h).nest) (by decide)) ?_
  simp only [ifB_lit, Nat.sub_zero]
  cases hma : mayC (mayF 10) 8 a with
  | false => simp only [Bool.not_false, if_true]; exact hK _
  | true =>
  simp only [Bool.not_true, Bool.false_eq_true, if_false]
  rw [l5 _ _ _ hq, bnd_some]
  refine callK_of (dc_ok 10 b 0 _ hb (fun q h => (fb.2 q h).nest) (by decide)) ?_
  simp only [ifB_lit, Nat.sub_zero]
  cases hmb : mayC (mayF 10) 8 b with
  | false => simp only [Bool.not_false, if_true]; exact hK _
  | true =>
  simp only [Bool.not_true, Bool.false_eq_true, if_false]
  have t1 : ldA false 1 H (.ptr 0 0) = some (Sx a.tag) := by simp [hp]
  have t2 : ldA false 1 H (.ptr 1 0) = some (Sx b.tag) := by simp [hq]
  have hta : binR .add (Sx a.tag) (Sx b.tag) = some (Sx (tagJ a.tag b.tag)) := b_saddJ _ _ (by omega)
  have e1 : shiftA (.ptr 0 0) 0 = some (.ptr 0 0) := rfl
  have e2 : shiftA (.ptr 1 0) 0 = some (.ptr 1 0) := rfl
  rw [e1, bnd_some, t1, bnd_some, e2, bnd_some, t2, bnd_some, hta, bnd_some]
  refine bnd_of (x := [Sx (tagJ a.tag b.tag), nilS, nilS, nilS, nilS]) rfl ?_
  rw [allocK_eq]
  obtain ⟨c, hc⟩ : ∃ c, c = H.n := ⟨_, rfl⟩
  refine bnd_of (x := (H.new (.cells [Sx emp, nilS, nilS, nilS, nilS] true)).set H.n (some (.cells [Sx (tagJ a.tag b.tag), nilS, nilS, nilS, nilS] true))) ?_ ?_
  · rw [st_agg]
    simp only [hp_get_new, if_true]
    rfl
  have n0 : (0 : Nat) ≠ c := by omega
  have n1 : (1 : Nat) ≠ c := by omega
  obtain ⟨H1, hH1⟩ : ∃ H1, H1 = (H.new (.cells [Sx emp, nilS, nilS, nilS, nilS] true)).set H.n (some (.cells [Sx (tagJ a.tag b.tag), nilS, nilS, nilS, nilS] true)) := ⟨_, rfl⟩
  have p1 : H1.get 0 = some (.cells (encCp a) true) := by rw [hH1, ← hc]; simp [n0, ← hc, hp]
  have q1 : H1.get 1 = some (.cells (encCp b) true) := by rw [hH1, ← hc]; simp [n1, ← hc, hq]
  have c1 : H1.get c = some (.cells [Sx (tagJ a.tag b.tag), nilS, nilS, nilS, nilS] true) := by rw [hH1, ← hc]; simp
  have m1 : H1.n = c + 1 := by rw [hH1, hc]; rfl
  rw [← hH1, ← hc]
  clear hH1
  have da : encCp a = [Sx a.tag, strs a.ids, strs a.classes, .imm 3 (a.attrs.map encAt), .imm 4 (a.pseudos.map encPs)] := encCp_eq a
  have db : encCp b = [Sx b.tag, strs b.ids, strs b.classes, .imm 3 (b.attrs.map encAt), .imm 4 (b.pseudos.map encPs)] := encCp_eq b
  have sr : ∀ l : List ByteArray, ∀ r ∈ (l.map fun s => [Sx s]), r.length = 1 := fun l r h => by obtain ⟨s, _, rfl⟩ := List.mem_map.1 h; rfl
  have so : ∀ l : List ByteArray, (l.map fun s => [Sx s]).flatten.all AV.one = true := fun l => by
    rw [List.all_eq_true]; intro x hx
    obtain ⟨r, hr, hx⟩ := List.mem_flatten.1 hx
    obtain ⟨s, _, rfl⟩ := List.mem_map.1 hr
    rw [List.mem_singleton.1 hx]; rfl
  refine join_fld (p := 0) (q := 1) (c := c) (k := 1) (ra := a.ids.map fun s => [Sx s]) (rb := b.ids.map fun s => [Sx s]) p1 q1 c1 (by omega) ⟨n0, n1⟩ (by rw [da]; rfl) (by rw [db]; rfl) (by show 1 < 5; decide) (sr _) (sr _) (so _) (so _) (by simp only [List.length_map]; omega) (by simp only [List.length_map]; omega)
    fun H2 x2 p2 q2 c2 up2 g2 _ _ o2 same2 w2 => ?_
  refine join_fld (p := 0) (q := 1) (c := c) (k := 2) (ra := a.classes.map fun s => [Sx s]) (rb := b.classes.map fun s => [Sx s]) p2 q2 c2 (by omega) ⟨n0, n1⟩ (by rw [da]; rfl) (by rw [db]; rfl) (by show 2 < 5; decide) (sr _) (sr _) (so _) (so _) (by simp only [List.length_map]; omega) (by simp only [List.length_map]; omega)
    fun H3 x3 p3 q3 c3 up3 g3 _ _ o3 same3 w3 => ?_
  refine join_fld (p := 0) (q := 1) (c := c) (k := 3) (ra := a.attrs.map encAt) (rb := b.attrs.map encAt) p3 q3 c3 (by omega) ⟨n0, n1⟩ (by rw [da]; rfl) (by rw [db]; rfl) (by show 3 < 5; decide) (fun r h => by obtain ⟨s, _, rfl⟩ := List.mem_map.1 h; rfl) (fun r h => by obtain ⟨s, _, rfl⟩ := List.mem_map.1 h; rfl)
    (by rw [List.all_eq_true]; intro x hx; obtain ⟨r, hr, hx⟩ := List.mem_flatten.1 hx; obtain ⟨s, _, rfl⟩ := List.mem_map.1 hr; exact List.all_eq_true.1 (one_At s) x hx)
    (by rw [List.all_eq_true]; intro x hx; obtain ⟨r, hr, hx⟩ := List.mem_flatten.1 hx; obtain ⟨s, _, rfl⟩ := List.mem_map.1 hr; exact List.all_eq_true.1 (one_At s) x hx)
    (by simp only [List.length_map]; omega) (by simp only [List.length_map]; omega)
    fun H4 x4 p4 q4 c4 up4 g4 _ _ o4 same4 w4 => ?_
  refine join_fld (p := 0) (q := 1) (c := c) (k := 4) (ra := a.pseudos.map encPs) (rb := b.pseudos.map encPs) p4 q4 c4 (by omega) ⟨n0, n1⟩ (by rw [da]; rfl) (by rw [db]; rfl) (by show 4 < 5; decide) (fun r h => by obtain ⟨s, _, rfl⟩ := List.mem_map.1 h; exact len_encPs s) (fun r h => by obtain ⟨s, _, rfl⟩ := List.mem_map.1 h; exact len_encPs s)
    (by rw [List.all_eq_true]; intro x hx; obtain ⟨r, hr, hx⟩ := List.mem_flatten.1 hx; obtain ⟨s, _, rfl⟩ := List.mem_map.1 hr; exact List.all_eq_true.1 (one_Ps s) x hx)
    (by rw [List.all_eq_true]; intro x hx; obtain ⟨r, hr, hx⟩ := List.mem_flatten.1 hx; obtain ⟨s, _, rfl⟩ := List.mem_map.1 hr; exact List.all_eq_true.1 (one_Ps s) x hx)
    (by simp only [List.length_map]; omega) (by simp only [List.length_map]; omega)
    fun H5 x5 p5 q5 c5 up5 g5 _ _ o5 same5 w5 => ?_
  have k4 : Gs 3 H5 x4 _ := g4.keep (fun j hj => same5 j (g4.lt hj) fun h => o4 (h ▸ hj)) up5
  have k3 : Gs 1 H5 x3 _ := (g3.keep (fun j hj => same4 j (g3.lt hj) fun h => o3 (h ▸ hj)) up4).keep (fun j hj => same5 j (by have := g3.lt hj; omega) fun h => o3 (h ▸ hj)) up5
  have k2 : Gs 1 H5 x2 _ := ((g2.keep (fun j hj => same3 j (g2.lt hj) fun h => o2 (h ▸ hj)) up3).keep (fun j hj => same4 j (by have := g2.lt hj; omega) fun h => o2 (h ▸ hj)) up4).keep (fun j hj => same5 j (by have := g2.lt hj; omega) fun h => o2 (h ▸ hj)) up5
  have hcs : ((([Sx (tagJ a.tag b.tag), nilS, nilS, nilS, nilS].set 1 x2).set 2 x3).set 3 x4).set 4 x5 = [Sx (tagJ a.tag b.tag), x2, x3, x4, x5] := rfl
  rw [hcs] at c5
  have nidS : ∀ l : List ByteArray, noIdss (l.map fun s => [Sx s]) = true := fun l => noIds_map _ (fun _ => rfl) l
  have f2 := k2.fz (by rw [← List.map_append]; exact nidS _)
  have f3 := k3.fz (by rw [← List.map_append]; exact nidS _)
  have f4 := k4.fz (by rw [← List.map_append]; exact noIds_map _ noId_At _)
  have f5 := g5.fz (by rw [← List.map_append]; exact noIds_map _ noId_Ps _)
  have fz : Fz H5 (.agg [Sx (tagJ a.tag b.tag), x2, x3, x4, x5]) (.agg (encCp (cpJ a b))) := by
    rw [encCp_eq]
    unfold strs
    show Fz H5 _ (.agg [Sx (tagJ a.tag b.tag), .imm 1 ((a.ids ++ b.ids).map fun s => [Sx s]), .imm 1 ((a.classes ++ b.classes).map fun s => [Sx s]), .imm 3 ((a.attrs ++ b.attrs).map encAt), .imm 4 ((a.pseudos ++ b.pseudos).map encPs)])
    rw [List.map_append, List.map_append, List.map_append, List.map_append]
    exact Fz.aggL (.cons (.refl rfl) (.cons f2 (.cons f3 (.cons f4 (.cons f5 .nil)))))
  have SJ := selJ ha hb hk fa fb
  have Sa := selOne ha (by omega) fa
  have Sb := selOne hb (by omega) fb
  have hl40 := hT.len
  have L0 : ∀ (f e : Nat), L.length - e = f → e ≤ L.length → law10_MatchBoth.L0 σ K (nds L) (.ptr 0 0) (.ptr 1 0) (domT L d) (.ptr c 0) (I (e : Int)) H5 := by
    intro f
    induction f with
    | zero =>
      intro e hf he
      have : e = L.length := by omega
      subst this
      refine law10_MatchBoth.L0_step ?_
      simp only [len_nds, bnd_some, b_lss, Int.lt_irrefl, decide_false, ifB_lit, Bool.false_eq_true, if_false]
      exact hK _
    | succ f ih =>
      intro e hf he
      have hlt : e < L.length := by omega
      have hlt' : (e : Int) < L.length := by omega
      have lc : ldA true 5 H5 (.ptr c 0) = some (.agg [Sx (tagJ a.tag b.tag), x2, x3, x4, x5]) := by rw [ld_ptr, c5]; rfl
      refine law10_MatchBoth.L0_step ?_
      simp only [len_nds, bnd_some, b_lss, hlt', decide_true, ifB_lit, if_true, lc]
      refine callK_of ((Cp_ok M SJ (e : Int) Hp.empty).frzA (.cons (.refl (noId_domT _ _)) (.cons (.refl rfl) (.cons fz .nil))) rfl) ?_
      rw [kp_ptr]
      refine ⟨rfl, ?_⟩
      rw [l5 _ _ _ p5, bnd_some]
      refine callK_of (Cp_ok M Sa (e : Int) _) ?_
      rw [cpB_may SJ (by rw [mayJ, hma, hmb]; rfl) hlt, cpB_may Sa hma hlt, compJ htag]
      simp only [ifB_lit]
      cases hca : compB (AA L) L e a with
      | false =>
        simp only [Bool.false_and, Bool.false_eq_true, if_false, e_boolN, BEq.rfl, Bool.not_true, bnd_some, ifB_lit, b_add]
        rw [wr_succ (by omega)]
        exact ih (e + 1) (by omega) (by omega)
      | true =>
        simp only [if_true]
        rw [l5 _ _ _ q5, bnd_some]
        refine callK_of (Cp_ok M Sb (e : Int) _) ?_
        rw [cpB_may Sb hmb hlt]
        simp only [Bool.true_and, e_boolN, BEq.rfl, Bool.not_true, bnd_some, ifB_lit, Bool.false_eq_true, if_false, b_add]
        rw [wr_succ (by omega)]
        exact ih (e + 1) (by omega) (by omega)
  exact L0 _ 0 rfl (Nat.zero_le _)
theorem MatchBoth_good (hC : HasC σ) {L : List Nd} (hW : ∀ n ∈ L, NdWf n) {a b : Cp} (ha : CpWf Lmax a) (hb : CpWf Lmax b) (hk : bkL (encCp a) + bkL (encCp b) ≤ NB) : ∃ Hf, Good Try.prog σ n_law10_MatchBoth [nds L, .agg (encCp a), .agg (encCp b)] Hp.empty (Bo true) Hf := by
  refine ⟨Hp.empty, good_by (fun K hK => law10_MatchBoth.run ?_) (by simp [noIds, noId, noId_Cp]) rfl _⟩
  simp only [boxK_agg]
  obtain ⟨H0, hH0⟩ : ∃ H0, H0 = (Hp.empty.new (.cells (encCp a) true)).new (.cells (encCp b) true) := ⟨_, rfl⟩
  have g0 : H0.get 0 = some (.cells (encCp a) true) := by rw [hH0]; rfl
  have g1 : H0.get 1 = some (.cells (encCp b) true) := by rw [hH0]; simp [Hp.empty]
  have n0 : H0.n = 2 := by rw [hH0]; rfl
  have e0 : Hp.empty.n = 0 := rfl
  have e1 : (Hp.empty.new (.cells (encCp a) true)).n = 1 := rfl
  rw [← hH0, e0, e1]
  clear hH0
  refine callK_of (alive10 hC _) ?_
  have l5 : ∀ (H : Hp) (j : Nat) (c : Cp), H.get j = some (.cells (encCp c) true) → ldA true 5 H (.ptr j 0) = some (.agg (encCp c)) := fun H j c h => by simp [h]
  rw [l5 _ _ _ g0, bnd_some]
  have hbl : ∀ c : Cp, bldR [I 0, Sx ⟨#[]⟩, .lit (.slice none 0 0), .lit (.slice none 0 0), .lit (.slice none 0 0), .lit (.slice none 0 0)] [(1, 5, .agg (encCp c))] = some (encPt ⟨0, c⟩) := fun c => by
    simp only [bldR, cells_agg, len_encCp, beqN, decide_true, isAny_agg, Bool.not_false, Bool.and_true, bleN]
    rw [show encPt ⟨0, c⟩ = I 0 :: encCp c from rfl, encCp_eq]; simp [overlay]
  have hb1 := hbl a
  rw [hb1, bnd_some, l5 _ _ _ g1, bnd_some]
  have hb2 := hbl b
  rw [hb2, bnd_some]
  have hz : zrow [.int .i64 0, .string ⟨#[]⟩, .slice none 0 0, .slice none 0 0, .slice none 0 0, .slice none 0 0] (2 * 6) = [I 0, Sx emp, nilS, nilS, nilS, nilS, I 0, Sx emp, nilS, nilS, nilS, nilS] := rfl
  have hb3 : bldSlR [.int .i64 0, .string ⟨#[]⟩, .slice none 0 0, .slice none 0 0, .slice none 0 0, .slice none 0 0] 6 2 H0 [(0, 6, .agg (encPt ⟨0, a⟩)), (6, 6, .agg (encPt ⟨0, b⟩))] = some (.sl H0.n 0 6 2 (some 2), H0.new (.cells (encPt ⟨0, a⟩ ++ encPt ⟨0, b⟩) true)) := by
    have : bldR (zrow [.int .i64 0, .string ⟨#[]⟩, .slice none 0 0, .slice none 0 0, .slice none 0 0, .slice none 0 0] (2 * 6)) [(0, 6, .agg (encPt ⟨0, a⟩)), (6, 6, .agg (encPt ⟨0, b⟩))] = some (encPt ⟨0, a⟩ ++ encPt ⟨0, b⟩) := by
      rw [hz, encPt_eq, encPt_eq, encCp_eq, encCp_eq]
      rfl
    unfold bldSlR
    rw [this]
    simp [beqN]
  rw [hb3, bnd_some]
  refine bnd_of (x := [.sl H0.n 0 6 2 (some 2)]) rfl ?_
  refine bnd_of (x := (.sl (H0.n + 1) 0 1 1 (some 1), (H0.new (.cells (encPt ⟨0, a⟩ ++ encPt ⟨0, b⟩) true)).new (.cells [.sl H0.n 0 6 2 (some 2)] true))) rfl ?_
  have hws : slsWf Lmax [[⟨0, a⟩, ⟨0, b⟩]] := ⟨by show 1 ≤ Lmax; decide, fun s' h => by
    rw [List.mem_singleton.1 h]
    refine ⟨by show 2 ≤ Lmax; decide, fun p hp => ?_⟩
    simp only [List.mem_cons, List.not_mem_nil, or_false] at hp
    rw [Pt.wf_iff]
    rcases hp with rfl | rfl
    · exact ⟨by show i64 0; unfold i64; decide, ha⟩
    · exact ⟨by show i64 0; unfold i64; decide, hb⟩⟩
  obtain ⟨much, hdear, hfit⟩ := Dear_ok (σ := σ) [[⟨0, a⟩, ⟨0, b⟩]] hws
  obtain ⟨H1, hH1⟩ : ∃ H1, H1 = (H0.new (.cells (encPt ⟨0, a⟩ ++ encPt ⟨0, b⟩) true)).new (.cells [.sl H0.n 0 6 2 (some 2)] true) := ⟨_, rfl⟩
  have ne1 : H0.n ≠ H0.n + 1 := by omega
  have i0 : H1.get H0.n = some (.cells ([encPt ⟨0, a⟩, encPt ⟨0, b⟩].flatten) true) := by rw [hH1]; simp [ne1]
  have i1 : H1.get (H0.n + 1) = some (.cells [.sl H0.n 0 6 2 (some 2)] true) := by rw [hH1]; simp
  have j0 : H1.get 0 = some (.cells (encCp a) true) := by rw [hH1]; simp [n0, g0]
  have j1 : H1.get 1 = some (.cells (encCp b) true) := by rw [hH1]; simp [n0, g1]
  have m1 : H1.n = 4 := by rw [hH1]; simp [n0]
  have fz : Fz H1 (.sl (H0.n + 1) 0 1 1 (some 1)) (sls [[⟨0, a⟩, ⟨0, b⟩]]) := by
    have f0 : Fz H1 (.sl H0.n 0 6 2 (some 2)) (.imm 6 [encPt ⟨0, a⟩, encPt ⟨0, b⟩]) := .rows (rows := [encPt ⟨0, a⟩, encPt ⟨0, b⟩]) i0 (by simp) (by simp only [List.drop_zero]; exact List.take_of_length_le (by simp)) (by simp [noIdss, noId_Pt])
    exact .sl1 i1 (.cons f0 .nil) rfl
  rw [← hH1]
  clear hH1
  refine callK_of ((hdear Hp.empty).frzA (.cons fz .nil) rfl) ?_
  rcases trees_ok (σ := σ) L hW with hg | ⟨d, hT, hg⟩
  · refine callK_of (hg _) ?_
    simp only [x_tup, List.getElem?_cons_zero, List.getElem?_cons_succ, bnd_some, u_not, ifB_lit, Bool.not_true, Bool.not_false, Bool.false_eq_true, if_true, if_false]
    cases much <;> simp only [Bool.false_eq_true, if_true, if_false] <;> exact hK _
  refine callK_of (hg _) ?_
  have s0 : shiftA (.ptr 0 0) 0 = some (.ptr 0 0) := rfl
  have s1 : shiftA (.ptr 1 0) 0 = some (.ptr 1 0) := rfl
  have t0 : ldA false 1 H1 (.ptr 0 0) = some (Sx a.tag) := by simp [j0]
  have t1 : ldA false 1 H1 (.ptr 1 0) = some (Sx b.tag) := by simp [j1]
  rw [s0, s1]
  simp only [x_tup, List.getElem?_cons_zero, List.getElem?_cons_succ, bnd_some, u_not, ifB_lit, Bool.not_true, Bool.not_false, Bool.false_eq_true, if_true, if_false]
  cases hm : much with
  | true => simp only [if_true]; exact hK _
  | false =>
  have hF := hfit hm [⟨0, a⟩, ⟨0, b⟩] (by simp)
  have fa : FitP 10 ⟨0, a⟩ := hF.2 ⟨0, a⟩ (by simp)
  have fb : FitP 10 ⟨0, b⟩ := hF.2 ⟨0, b⟩ (by simp)
  rw [t0, t1]
  simp only [bnd_some, b_sneq, ifB_lit, Bool.false_eq_true, if_false]
  by_cases hta : a.tag = ⟨#[]⟩
  · have := both_mid hT hC ha hb hk fa fb (.inl hta) hK j0 j1 (by omega)
    simp only [hta, decide_true, Bool.not_true, Bool.false_eq_true, if_false]
    exact this
  · by_cases htb : b.tag = ⟨#[]⟩
    · have := both_mid hT hC ha hb hk fa fb (.inr htb) hK j0 j1 (by omega)
      simp only [hta, htb, decide_true, decide_false, Bool.not_true, Bool.not_false, Bool.false_eq_true, if_true, if_false]
      exact this
    · simp only [hta, htb, decide_false, Bool.not_false, if_true]
      exact hK _
end
theorem MatchBoth_walk {H : Type} {enc : TypeId × Value → H} (W : World) (hsh : W.ShapedOpen Try.prog) {v0 v1 v2 : Value} {r : Reach} {b0 base : Nat} {spare : Nat → Bool} {held : Bool} {d0 d1 d2 : DataW H} {p0 p1 p2 : List MemPlace}
    (e0 : Value.okWide Try.prog W r b0 T_sl_api_Node v0) (h0 : DataW.Trod enc Try.prog W base spare held T_sl_api_Node v0 d0 p0) (w0 : ∀ n ∈ d0.weights Try.prog T_sl_api_Node, n ≤ reachBytes)
    (e1 : Value.okWide Try.prog W r b0 T_api_Compound v1) (h1 : DataW.Trod enc Try.prog W base spare held T_api_Compound v1 d1 p1) (w1 : ∀ n ∈ d1.weights Try.prog T_api_Compound, n ≤ reachBytes)
    (e2 : Value.okWide Try.prog W r b0 T_api_Compound v2) (h2 : DataW.Trod enc Try.prog W base spare held T_api_Compound v2 d2 p2) (w2 : ∀ n ∈ d2.weights Try.prog T_api_Compound, n ≤ reachBytes)
    (hk : bulkDs [d0, d1, d2] ≤ 1048576) :
    Calls Try.prog n_law10_MatchBoth #[v0, v1, v2] W fun e W' => e = .returned (.bool true) ∧ Below W.heap.size W W' := by
  obtain ⟨x0, r0, s0⟩ := read_arg (P := Try.prog) (ti := tiT.get) (S := readB) (t := T_sl_api_Node) (σ := sigM) tiT_ok readB_closed (inB_mem (by kernel_rfl)) e0 h0 w0
  obtain ⟨x1, r1, s1, k1⟩ := read_argB (P := Try.prog) (ti := tiT.get) (S := readB) (t := T_api_Compound) (σ := sigM) tiT_ok readB_closed (inB_mem (by kernel_rfl)) e1 h1 w1
  obtain ⟨x2, r2, s2, k2⟩ := read_argB (P := Try.prog) (ti := tiT.get) (S := readB) (t := T_api_Compound) (σ := sigM) tiT_ok readB_closed (inB_mem (by kernel_rfl)) e2 h2 w2
  obtain ⟨a, rfl, ha, _⟩ := v_nodes s0
  obtain ⟨c, rfl, hc⟩ := v_cp s1
  obtain ⟨c', rfl, hc'⟩ := v_cp s2
  simp only [bulkDs] at hk
  simp only [bk] at k1 k2
  obtain ⟨Hf, hg⟩ := MatchBoth_good (hasC sigM_g) ha hc hc' (by show _ ≤ 1048576; omega)
  exact law_of_good (relL3 r0 r1 r2) hg (gMax_ok W hsh sigM_g)
end Go.Proofs.Ythmaggcfghjmfaa.Ev

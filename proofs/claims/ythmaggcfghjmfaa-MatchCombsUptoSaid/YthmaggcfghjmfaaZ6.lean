/- The walks, part 6: the evaluator, the functions, the laws. Conditions: none. -/
import Derived.Shelf.LaysM
import Derived.Shelf.Strings.Search1
import Derived.Shelf.Strings.Search2
import Derived.Shelf.Strings.Search3
import Derived.Shelf.Strings.Shaped
import Derived.Test.YthmaggcfghjmfaaZ5
namespace Go.Proofs.Ythmaggcfghjmfaa.Ev
open Go.Shelf Go.Proofs
def laysM144_ren : Ren :=
{
  f := fun x =>
    match x with
    | 144 => 124
    | 143 => 128
    | 219 => 131
    | 217 => 132
    | 225 => 133
    | 224 => 134
    | 267 => 135
    | 266 => 136
    | 314 => 137
    | n => n,
  t := fun x =>
    match x with
    | 9 => 9
    | 4 => 4
    | 3 => 3
    | 5 => 5
    | 46 => 142
    | 146 => 163
    | 51 => 162
    | n => n,
  g := fun x =>
    match x with
    | 1 => 0
    | n => n }
theorem laysM144 : LaysM.n144 Try.prog laysM144_ren :=
{ mixed := by kernel_rfl, f143 := Eq.trans Try.func128 (congrArg some (Eq.refl (Body.n143 laysM144_ren))),
  f144 := Eq.trans Try.func124 (congrArg some (Eq.refl (Body.n144 laysM144_ren))),
  f217 := Eq.trans Try.func132 (congrArg some (Eq.refl (Body.n217 laysM144_ren))),
  f219 := Eq.trans Try.func131 (congrArg some (Eq.refl (Body.n219 laysM144_ren))),
  f224 := Eq.trans Try.func134 (congrArg some (Eq.refl (Body.n224 laysM144_ren))),
  f225 := Eq.trans Try.func133 (congrArg some (Eq.refl (Body.n225 laysM144_ren))),
  f266 := Eq.trans Try.func136 (congrArg some (Eq.refl (Body.n266 laysM144_ren))),
  f267 := Eq.trans Try.func135 (congrArg some (Eq.refl (Body.n267 laysM144_ren))),
  f314 := Eq.trans Try.func137 (congrArg some (Eq.refl (Body.n314 laysM144_ren))), t3 := Try.underlying3,
  a3 := Try.isAgg3, z3 := Try.sizeOf3, v3 := Try.zeroValue3, t4 := Try.underlying4, a4 := Try.isAgg4, z4 := Try.sizeOf4,
  v4 := Try.zeroValue4, t5 := Try.underlying5, a5 := Try.isAgg5, z5 := Try.sizeOf5, v5 := Try.zeroValue5,
  t9 := Try.underlying9, a9 := Try.isAgg9, z9 := Try.sizeOf9, v9 := Try.zeroValue9, t46 := Try.underlying142,
  a46 := Try.isAgg142, z46 := Try.sizeOf142, v46 := Try.zeroValue142, t51 := Try.underlying162, a51 := Try.isAgg162,
  z51 := Try.sizeOf162, v51 := Try.zeroValue162, t146 := Try.underlying163, a146 := Try.isAgg163, z146 := Try.sizeOf163,
  v146 := Try.zeroValue163, g1 := by kernel_rfl,
  i3 := by kernel_rfl, i4 := by kernel_rfl,
  i5 := by kernel_rfl,
  i9 := by kernel_rfl,
  i46 := by kernel_rfl,
  i51 := by kernel_rfl,
  i146 := by kernel_rfl,
  m1 := by kernel_rfl,
  s1_3 := fun w h => Go.Proofs.cell_of_shapedOpen_int h (zero := #[Go.Value.int Go.IntKind.i64 0]) (t := 3) (of_decide_eq_true (by kernel_rfl)) (by kernel_rfl) rfl (by kernel_rfl) (by kernel_rfl) Try.underlying3 }
def gMax : Nat := laysM144_ren.g 1
theorem hasC {σ : Sig} (hg : σ.g = some gMax) : HasC σ := by
  intro s t H hs
  refine ⟨⟨_, Try.func124, by kernel_rfl, by kernel_rfl⟩, fun B w0 E w vs hσ hst hx => ?_⟩
  obtain ⟨_, m, hm⟩ := hst.glNow gMax (by rw [hσ]; exact hg)
  have hl := hx.len
  obtain ⟨v0, v1, rfl⟩ : ∃ v0 v1, vs = #[v0, v1] := by
    obtain ⟨l⟩ := vs
    match l, hl with
    | [a, b], _ => exact ⟨a, b, rfl⟩
  have r0 := hx.at_ 0 _ v0 rfl (by simp)
  have r1 := hx.at_ 1 _ v1 rfl (by simp)
  cases r0
  cases r1
  refine (Any.strings_Contains (ρ := laysM144_ren) { laysM144 with } s t m w hs hm).mono fun e w' he => ?_
  obtain ⟨rfl, rfl⟩ := he
  exact ⟨E, _, rfl, .refl E, hst, .lit _⟩
theorem gMax_ok (W : World) (h : W.ShapedOpen Try.prog) {σ : Sig} (hg : σ.g = some gMax) : ∀ g, σ.g = some g → ∃ m : Int, W.cell? ⟨g, 0, none⟩ = some (.int .i64 m) := by
  intro g hg'
  rw [hg] at hg'
  cases hg'
  exact laysM144.s1_3 W h
end Go.Proofs.Ythmaggcfghjmfaa.Ev
namespace Go.Proofs.Ythmaggcfghjmfaa.Ev
set_option linter.unusedVariables false
set_option linter.unusedSimpArgs false
set_option maxRecDepth 100000
variable {σ : Sig}
def alL : List Nd := [⟨-1, emp, emp, [], []⟩, ⟨0, emp, emp, [], []⟩, ⟨0, emp, emp, [], []⟩, ⟨0, emp, emp, [], []⟩]
def alS : Sl := [⟨0, .mk emp [] [] [] [.mk 6 2 1 []]⟩]
theorem alB : Built alL alL.length [0, 1, 1, 1] := by
  have h1 : Built alL 1 [0] := Built.first (by decide) rfl
  have h2 : Built alL 2 [0, 1] := h1.next (p := 0) (x := 0) (by decide) (by decide) rfl (by decide) rfl (by decide)
  have h3 : Built alL 3 [0, 1, 1] := h2.next (p := 0) (x := 0) (by decide) (by decide) rfl (by decide) rfl (by decide)
  exact h3.next (p := 0) (x := 0) (by decide) (by decide) rfl (by decide) rfl (by decide)
theorem alW : ∀ n ∈ alL, NdWf n := by
  intro n hn
  simp only [alL, List.mem_cons, List.not_mem_nil, or_false] at hn
  rcases hn with rfl | rfl | rfl | rfl <;> exact ⟨by unfold i64; decide, by decide, by decide, by decide, by intro p hp; cases hp⟩
theorem alSm : ∀ e, e < alL.length → SmN (lowN (ndAt alL e)) := by
  intro e he
  have : e = 0 ∨ e = 1 ∨ e = 2 ∨ e = 3 := by simp [alL] at he; omega
  rcases this with rfl | rfl | rfl | rfl <;> exact ⟨by decide, by decide, by intro p hp; cases hp⟩
theorem alM (hC : HasC σ) : McT σ alL [0, 1, 1, 1] := ⟨hC, alB, by decide, alSm⟩
theorem alSO : SelOk 2 [alS] := by
  refine ⟨⟨by decide, fun s hs => ?_⟩, ⟨by decide, fun s hs => ?_⟩, fun s hs p hp q hq => ?_, by decide, by decide⟩
  · rw [List.mem_singleton.1 hs]
    refine ⟨by decide, fun p hp => ?_⟩
    rw [List.mem_singleton.1 hp, Pt.wf_iff]
    refine ⟨by unfold i64; decide, by decide, ⟨by decide, fun s h => by cases h⟩, ⟨by decide, fun s h => by cases h⟩, by decide, (fun s h => by cases h), by decide, fun q hq => ?_⟩
    rw [List.mem_singleton.1 hq, Ps.wf_iff]
    exact ⟨by unfold i64; decide, by unfold i64; decide, by unfold i64; decide, by decide, fun s h => by cases h⟩
  · rw [List.mem_singleton.1 hs]
    refine ⟨by decide, fun p hp => ?_⟩
    rw [List.mem_singleton.1 hp]
    refine ⟨⟨by decide, by decide, by decide, (fun s h => by cases h), by decide⟩, by decide, fun q hq => ?_⟩
    rw [List.mem_singleton.1 hq]
    exact ⟨⟨by unfold i64; decide, by unfold i64; decide⟩, by decide, fun s h => by cases h⟩
  · rw [List.mem_singleton.1 hs] at hp
    rw [List.mem_singleton.1 hp] at hq
    rw [List.mem_singleton.1 hq]
    exact fun s h => by cases h
theorem al1 : selB alL 2 alS 1 = true := by kernel_rfl
theorem al2 : selB alL 2 alS 2 = false := by kernel_rfl
theorem al3 : selB alL 2 alS 3 = true := by kernel_rfl
theorem alive10 (hC : HasC σ) (H : Hp) : Good Try.prog σ n_law10_alive [] H (Bo true) H := by
  refine good_by (fun K hK => law10_alive.run ?_) rfl rfl H
  iterate 5 refine bnd_of rfl ?_
  refine callK_of (Good.drop (fun H => domNew_ok alB alW (by decide) H) (.cons (frzS_ok skNds _ _ (by kernel_rfl)) .nil)) ?_
  simp only [x_tup, List.getElem?_cons_zero, List.getElem?_cons_succ, bnd_some]
  iterate 6 refine bnd_of rfl ?_
  simp only [allocK_eq]
  refine bnd_of rfl ?_
  refine bnd_of rfl ?_
  refine callK_of ((Sel_ok (alM hC) alSO 1 Hp.empty).frzA (.cons (.refl (noId_domT _ _)) (.cons (.refl rfl) (.cons (frzS_ok (skS 1) _ _ (by kernel_rfl)) .nil))) rfl) ?_
  simp only [al1, ifB_lit, if_true]
  refine bnd_of rfl ?_
  refine callK_of ((Sel_ok (alM hC) alSO 2 Hp.empty).frzA (.cons (.refl (noId_domT _ _)) (.cons (.refl rfl) (.cons (frzS_ok (skS 1) _ _ (by kernel_rfl)) .nil))) rfl) ?_
  simp only [al2, u_not, bnd_some, ifB_lit, if_true, Bool.not_false]
  refine bnd_of rfl ?_
  refine callK_of ((Sel_ok (alM hC) alSO 3 Hp.empty).frzA (.cons (.refl (noId_domT _ _)) (.cons (.refl rfl) (.cons (frzS_ok (skS 1) _ _ (by kernel_rfl)) .nil))) rfl) ?_
  rw [al3]
  exact hK _
end Go.Proofs.Ythmaggcfghjmfaa.Ev
namespace Go.Proofs.Ythmaggcfghjmfaa.Ev
set_option linter.unusedVariables false
set_option linter.unusedSimpArgs false
variable {σ : Sig}
def bigS (s : ByteArray) : Bool := decide (60 < (s.data.size : Int))
def bigP (p : ByteArray × ByteArray) : Bool := bigS p.1 || decide (100 < (p.2.data.size : Int))
def bigN (n : Nd) : Bool := decide (8 < (n.classes.length : Int)) || (decide (8 < (n.attrs.length : Int)) || (bigS n.tag || (bigS n.id || (n.classes.any bigS || n.attrs.any bigP))))
def bigT (L : List Nd) : Bool := if 40 < L.length then (if L.length ≤ 4096 then true else decide (4100 < L.length)) else decide (4100 < L.length)
def bigR (L : List Nd) (m : Nat) : Bool := ((L.drop m).take (100 - m)).any bigN || bigT L
structure NdSm (n : Nd) : Prop where
  classes : n.classes.length ≤ 8
  attrs : n.attrs.length ≤ 8
  tag : n.tag.data.size ≤ 60
  id : n.id.data.size ≤ 60
  cl : ∀ s ∈ n.classes, s.data.size ≤ 60
  at' : ∀ p ∈ n.attrs, p.1.data.size ≤ 60 ∧ p.2.data.size ≤ 100
theorem NdSm.of {n : Nd} (h : bigN n = false) : NdSm n := by
  unfold bigN bigP bigS at h
  simp only [Bool.or_eq_false_iff, decide_eq_false_iff_not, List.any_eq_false, Bool.or_eq_true, decide_eq_true_eq, not_or] at h
  obtain ⟨h1, h2, h3, h4, h5, h6⟩ := h
  exact ⟨by omega, by omega, by omega, by omega, fun s hs => by have := h5 s hs; omega, fun p hp => by have := h6 p hp; omega⟩
theorem bigR_step {L : List Nd} {m : Nat} {n : Nd} (h : L[m]? = some n) (hm : m < 100) : bigR L m = (bigN n || bigR L (m + 1)) := by
  unfold bigR
  obtain ⟨j, hj⟩ : ∃ j, 100 - m = j + 1 := ⟨99 - m, by omega⟩
  rw [drop_get h, hj, List.take_succ_cons, List.any_cons, Bool.or_assoc, show 100 - (m + 1) = j by omega]
section
attribute [local irreducible] law9_Big.L0 law9_Big.L1 law9_Big.L2
theorem big_L2 {L : List Nd} {m : Nat} {n : Nd} (hn : L[m]? = some n) (hm : m < 100) {K : AV → Hp → Prop} {y4 : AV} (hl : n.attrs.length ≤ 8)
    (h0 : ∀ H y4 y5, (∀ H, K (Bo (bigR L (m + 1))) H) → law9_Big.L0 σ K (nds L) (I ((m + 1 : Nat) : Int)) y4 y5 H) : ∀ (f k : Nat) (H : Hp), n.attrs.length - k = f → k ≤ n.attrs.length → (∀ H, K (Bo ((n.attrs.drop k).any bigP || bigR L (m + 1))) H) →
    law9_Big.L2 σ K (nds L) (I (m : Int)) y4 (I (k : Int)) H := by
  have hix : ixaSl 5 (nds L) (I (m : Int)) = some (.ip (encNd n)) := ix_map hn
  intro f
  induction f with
  | zero =>
    intro k H hf hk hK
    have : k = n.attrs.length := by omega
    subst this
    refine law9_Big.L2_step ?_
    have hw : wr .i64 ((m : Int) + 1) = ((m + 1 : Nat) : Int) := wr_succ (by omega)
    simp only [hix, bnd_some, sh_ip, ld_ip, f_encNd4, len_imm, List.length_map, b_lss, Int.lt_irrefl, decide_false, ifB_lit, Bool.false_eq_true, if_false, b_add, hw]
    refine h0 _ _ _ ?_
    simpa using hK
  | succ f ih =>
    intro k H hf hk hK
    have hlt : k < n.attrs.length := by omega
    obtain ⟨p, hp⟩ := get_lt hlt
    rw [drop_get hp, List.any_cons] at hK
    have hlt' : (k : Int) < n.attrs.length := by omega
    have hixp : ixaSl 2 (.imm 2 (n.attrs.map encPr)) (I (k : Int)) = some (.ip (encPr p)) := ix_map hp
    have hw : wr .i64 ((k : Int) + 1) = ((k + 1 : Nat) : Int) := wr_succ (by omega)
    refine law9_Big.L2_step ?_
    simp only [hix, bnd_some, sh_ip, ld_ip, f_encNd4, len_imm, List.length_map, b_lss, hlt', decide_true, ifB_lit, if_true, hixp, List.drop_zero, f_encPr0, f_encPr1', len_str, b_gtr, decide_eq_true_eq, b_add, hw]
    split
    · rename_i h
      have : bigP p = true := by unfold bigP bigS; rw [decide_eq_true h, Bool.true_or]
      rw [this] at hK
      simpa using hK H
    rename_i h1
    split
    · rename_i h
      have : bigP p = true := by unfold bigP; rw [decide_eq_true h, Bool.or_true]
      rw [this] at hK
      simpa using hK H
    · rename_i h
      have : bigP p = false := by unfold bigP bigS; rw [decide_eq_false h, decide_eq_false h1]; rfl
      rw [this] at hK
      exact ih (k + 1) H (by omega) (by omega) (by simpa using hK)
theorem big_L1 {L : List Nd} {m : Nat} {n : Nd} (hn : L[m]? = some n) (hm : m < 100) {K : AV → Hp → Prop} {y5 : AV} (hl : n.attrs.length ≤ 8) (hl2 : n.classes.length ≤ 8)
    (h0 : ∀ H y4 y5, (∀ H, K (Bo (bigR L (m + 1))) H) → law9_Big.L0 σ K (nds L) (I ((m + 1 : Nat) : Int)) y4 y5 H) : ∀ (f k : Nat) (H : Hp), n.classes.length - k = f → k ≤ n.classes.length → (∀ H, K (Bo ((n.classes.drop k).any bigS || (n.attrs.any bigP || bigR L (m + 1)))) H) →
    law9_Big.L1 σ K (nds L) (I (m : Int)) (I (k : Int)) y5 H := by
  have hix : ixaSl 5 (nds L) (I (m : Int)) = some (.ip (encNd n)) := ix_map hn
  intro f
  induction f with
  | zero =>
    intro k H hf hk hK
    have : k = n.classes.length := by omega
    subst this
    refine law9_Big.L1_step ?_
    simp only [hix, bnd_some, sh_ip, ld_ip, f_encNd3, len_strs, b_lss, Int.lt_irrefl, decide_false, ifB_lit, Bool.false_eq_true, if_false]
    exact big_L2 hn hm hl h0 _ 0 H rfl (Nat.zero_le _) (by simpa using hK)
  | succ f ih =>
    intro k H hf hk hK
    have hlt : k < n.classes.length := by omega
    obtain ⟨p, hp⟩ := get_lt hlt
    rw [drop_get hp, List.any_cons] at hK
    have hlt' : (k : Int) < n.classes.length := by omega
    have hixp : ixaSl 1 (strs n.classes) (I (k : Int)) = some (.ip [Sx p]) := ix_map hp
    have lx : ∀ H, ldA false 1 H (.ip [Sx p]) = some (Sx p) := fun _ => rfl
    have hw : wr .i64 ((k : Int) + 1) = ((k + 1 : Nat) : Int) := wr_succ (by omega)
    refine law9_Big.L1_step ?_
    simp only [hix, bnd_some, sh_ip, ld_ip, f_encNd3, len_strs, b_lss, hlt', decide_true, ifB_lit, if_true, hixp, ldL_one, len_str, b_gtr, decide_eq_true_eq, b_add, hw]
    split
    · rename_i h
      have : bigS p = true := decide_eq_true h
      rw [this] at hK
      simpa using hK H
    · rename_i h
      have : bigS p = false := decide_eq_false h
      rw [this] at hK
      exact ih (k + 1) H (by omega) (by omega) (by simpa using hK)
theorem big_end {L : List Nd} {K : AV → Hp → Prop} {H : Hp} (hK : ∀ H, K (Bo (bigT L)) H) : bnd (lenSl (nds L)) fun x24 => bnd (binR .gtr x24 (I 40)) fun x25 => ifB x25 (bnd (lenSl (nds L)) fun x26 => bnd (binR .leq x26 (I 4096)) fun x27 => ifB x27 (K (Bo true) H) (bnd (lenSl (nds L)) fun x28 => bnd (binR .gtr x28 (I 4100)) fun x29 => K x29 H)) (bnd (lenSl (nds L)) fun x30 => bnd (binR .gtr x30 (I 4100)) fun x31 => K x31 H) := by
  simp only [len_nds, bnd_some, b_gtr, b_leq, ifB_lit, decide_eq_true_eq]
  have e : decide ((4100 : Int) < (L.length : Int)) = decide (4100 < L.length) := by rw [decide_eq_decide]; omega
  rw [e]
  unfold bigT at hK
  by_cases h1 : 40 < L.length
  · have h1' : (40 : Int) < (L.length : Int) := by omega
    rw [if_pos h1] at hK
    rw [if_pos h1']
    by_cases h2 : L.length ≤ 4096
    · have h2' : (L.length : Int) ≤ 4096 := by omega
      rw [if_pos h2] at hK
      rw [if_pos h2']
      exact hK H
    · have h2' : ¬ (L.length : Int) ≤ 4096 := by omega
      rw [if_neg h2] at hK
      rw [if_neg h2']
      exact hK H
  · have h1' : ¬ (40 : Int) < (L.length : Int) := by omega
    rw [if_neg h1] at hK
    rw [if_neg h1']
    exact hK H
theorem Big_ok (L : List Nd) (H : Hp) : Good Try.prog σ n_law9_Big [nds L] H (Bo (bigR L 0)) H := by
  refine good_by (fun K hK => law9_Big.run ?_) (by simp [noIds, noId]) rfl H
  have L0 : ∀ (f m : Nat) (H : Hp) (y4 y5 : AV), 100 - m = f → m ≤ L.length → m ≤ 100 → (∀ H, K (Bo (bigR L m)) H) → law9_Big.L0 σ K (nds L) (I (m : Int)) y4 y5 H := by
    intro f
    induction f with
    | zero =>
      intro m H y4 y5 hf hm hm2 hK
      obtain rfl : m = 100 := by omega
      have hK : ∀ H, K (Bo (bigT L)) H := by simpa [bigR] using hK
      refine law9_Big.L0_step ?_
      have e0 : ¬ (((100 : Nat) : Int) < 100) := by decide
      by_cases h : ((100 : Nat) : Int) < L.length
      · simp only [len_nds, bnd_some, b_lss, h, decide_true, ifB_lit, if_true, e0, decide_false, Bool.false_eq_true, if_false]
        have hE := big_end (H := H) hK
        simp only [len_nds, bnd_some, b_gtr, b_leq] at hE ⊢
        exact hE
      · simp only [len_nds, bnd_some, b_lss, h, decide_false, ifB_lit, Bool.false_eq_true, if_false]
        have hE := big_end (H := H) hK
        simp only [len_nds, bnd_some, b_gtr, b_leq] at hE ⊢
        exact hE
    | succ f ih =>
      intro m H y4 y5 hf hm hm2 hK
      refine law9_Big.L0_step ?_
      have e0 : ((m : Nat) : Int) < 100 := by omega
      by_cases h : m < L.length
      · have h' : (m : Int) < L.length := by omega
        obtain ⟨n, hn⟩ := get_lt h
        rw [bigR_step hn (by omega)] at hK
        have hix : ixaSl 5 (nds L) (I (m : Int)) = some (.ip (encNd n)) := ix_map hn
        simp only [len_nds, bnd_some, b_lss, h', decide_true, ifB_lit, if_true, e0, hix, sh_ip, ld_ip, f_encNd3, f_encNd4, f_encNd1', f_encNd2, len_strs, len_imm, List.length_map, len_str, b_gtr, decide_eq_true_eq]
        unfold bigN at hK
        split
        · rename_i h1; simp only [h1, decide_true, Bool.true_or] at hK; exact hK H
        rename_i h1
        split
        · rename_i h2; simp only [h2, decide_true, Bool.true_or, Bool.or_true] at hK; exact hK H
        rename_i h2
        split
        · rename_i h3
          have : bigS n.tag = true := decide_eq_true h3
          simp only [this, Bool.true_or, Bool.or_true] at hK; exact hK H
        rename_i h3
        split
        · rename_i h4
          have : bigS n.id = true := decide_eq_true h4
          simp only [this, Bool.true_or, Bool.or_true] at hK; exact hK H
        rename_i h4
        have t3 : bigS n.tag = false := decide_eq_false h3
        have t4 : bigS n.id = false := decide_eq_false h4
        simp only [h1, h2, t3, t4, decide_false, Bool.false_or, Bool.or_assoc] at hK
        exact big_L1 hn (by omega) (by omega) (by omega) (fun H y4 y5 hK' => ih (m + 1) H y4 y5 (by omega) (by omega) (by omega) hK') _ 0 H rfl (Nat.zero_le _) (by simpa using hK)
      · have h' : ¬ (m : Int) < L.length := by omega
        have : m = L.length := by omega
        subst this
        have hK : ∀ H, K (Bo (bigT L)) H := by simpa [bigR] using hK
        simp only [len_nds, bnd_some, b_lss, h', decide_false, ifB_lit, Bool.false_eq_true, if_false]
        have hE := big_end (H := H) hK
        simp only [len_nds, bnd_some, b_gtr, b_leq] at hE ⊢
        exact hE
  exact L0 _ 0 _ _ _ rfl (Nat.zero_le _) (by decide) hK
end
theorem good_byI {P : Program} {σ : Sig} {f : Nat} {xs : List AV} {r : AV} (h : ∀ K : AV → Hp → Prop, (∀ H, K r H) → ∃ r' H1, Good P σ f xs Hp.empty r' H1 ∧ K r' H1) (hx : noIds xs = true) (hr : noId r = true) (H : Hp) : Good P σ f xs H r H := by
  obtain ⟨r', H1, hg, e⟩ := h (fun r' _ => r' = r) (fun _ => rfl)
  subst e
  exact hg.frzR hx (.refl hr) H
structure TreeOk (L : List Nd) (d : List Nat) : Prop where
  len : L.length ≤ 40
  hB : Built L L.length d
  sm : ∀ n ∈ L, NdSm n
theorem trees_ok (L : List Nd) (hW : ∀ n ∈ L, NdWf n) : (∀ H, Good Try.prog σ n_law10_trees [nds L] H (.tup [.lit (.pointer none), .lit (.pointer none), Bo false]) H) ∨
    (∃ d, TreeOk L d ∧ ∀ H, Good Try.prog σ n_law10_trees [nds L] H (.tup [domT L d, refT L d, Bo true]) H) := by
  rcases refNew_ok (σ := σ) L hW with ⟨_, e, he, hg⟩ | ⟨d, hN, hB, hg⟩
  · refine .inl fun H => good_by (fun K hK => law10_trees.run (callK_of (Big_ok L _) (callK_of (hg _) ?_))) (by simp [noIds, noId]) rfl H
    simp only [x_tup, List.getElem?_cons_zero, List.getElem?_cons_succ, bnd_some, ifB_lit, b_neq, he, decide_false, Bool.not_false, if_true]
    cases bigR L 0 <;> simp only [Bool.false_eq_true, if_true, if_false] <;> exact hK _
  · cases hb : bigR L 0 with
    | true =>
      refine .inl fun H => good_by (fun K hK => law10_trees.run (callK_of (Big_ok L _) (callK_of (hg _) ?_))) (by simp [noIds, noId]) rfl H
      simp only [x_tup, List.getElem?_cons_zero, List.getElem?_cons_succ, bnd_some, hb, ifB_lit, if_true]
      exact hK _
    | false =>
      have hT : TreeOk L d := by
        unfold bigR bigT at hb
        simp only [Bool.or_eq_false_iff, List.drop_zero] at hb
        have hl : L.length ≤ 40 := by
          have h2 := hb.2
          by_cases h : 40 < L.length
          · rw [if_pos h, if_pos hN] at h2; cases h2
          · omega
        refine ⟨hl, hB, fun n hn => NdSm.of ?_⟩
        have := List.any_eq_false.1 hb.1 n (by rw [List.take_of_length_le (by omega)]; exact hn)
        simpa using this
      refine .inr ⟨d, hT, fun H => good_byI (fun K hK => law10_trees.run (callK_of (Big_ok L _) (callK_of (hg _) ?_))) (by simp [noIds, noId]) ?_ H⟩
      · simp only [x_tup, List.getElem?_cons_zero, List.getElem?_cons_succ, bnd_some, hb, ifB_lit, b_neq, decide_true, Bool.not_true, Bool.false_eq_true, if_false]
        refine callK_of (domNew_ok hB hW hN _) ?_
        simp only [x_tup, List.getElem?_cons_zero, List.getElem?_cons_succ, bnd_some]
        exact hK _
      · simp [noId, noIds, noId_domT, noId_refT]
end Go.Proofs.Ythmaggcfghjmfaa.Ev
namespace Go.Proofs.Ythmaggcfghjmfaa.Ev
set_option linter.unusedVariables false
set_option linter.unusedSimpArgs false
theorem rows_map {α : Type} {f : α → List AV} {P : α → Prop} : ∀ {rows : List (List AV)}, (∀ row ∈ rows, ∃ x, row = f x ∧ P x) → ∃ l : List α, rows = l.map f ∧ ∀ x ∈ l, P x
  | [], _ => ⟨[], rfl, fun x hx => by cases hx⟩
  | r :: rs, h => by
    obtain ⟨x, hx, px⟩ := h r (by simp)
    obtain ⟨l, hl, pl⟩ := rows_map (rows := rs) fun row hr => h row (by simp [hr])
    refine ⟨x :: l, by rw [hx, hl]; rfl, fun y hy => ?_⟩
    rcases List.mem_cons.1 hy with rfl | hy
    · exact px
    · exact pl y hy
theorem d_int {ts : List Nat} {zs : List AV} (h : Sh tiT.get (T_int :: ts) zs) : ∃ n ys, zs = I n :: ys ∧ i64 n ∧ Sh tiT.get ts ys := by
  obtain ⟨i, hi, hd, _⟩ := T_int_is
  obtain ⟨n, ys, e, hw, hs⟩ := sh_int hi hd h
  refine ⟨n, ys, e, ?_, hs⟩
  simp [Lit.wf, IntKind.min, IntKind.max, IntKind.signed, IntKind.bits] at hw
  unfold i64
  omega
theorem d_str {ts : List Nat} {zs : List AV} (h : Sh tiT.get (T_string :: ts) zs) : ∃ s ys, zs = Sx s :: ys ∧ s.data.size ≤ Lmax ∧ Sh tiT.get ts ys := by
  obtain ⟨i, hi, hd, _⟩ := T_string_is
  obtain ⟨s, ys, e, hw, hs⟩ := sh_str hi hd h
  exact ⟨s, ys, e, Nat.le_trans hw (by decide), hs⟩
theorem d_slice {t e sz : Nat} (hT : ∃ i, tiT.get t = some i ∧ i.d = .slice e ∧ i.size = 1) (hE : ∃ i, tiT.get e = some i ∧ i.size = sz) {ts : List Nat} {zs : List AV} (h : Sh tiT.get (t :: ts) zs) :
    ∃ rows ys, zs = .imm sz rows :: ys ∧ (∀ row ∈ rows, Sh tiT.get [e] row) ∧ rows.length ≤ Lmax ∧ Sh tiT.get ts ys := by
  obtain ⟨i, hi, hd, _⟩ := hT
  obtain ⟨j', hj', hs'⟩ := hE
  rcases sh_slice hi hd h with ⟨ys, _, _⟩ | ⟨j, rows, ys, hj, e, hr, hl, hm, _, hs⟩
  · cases h with
    | sl h' hd' he hc hl hm hb hs => rw [hi] at h'; cases h'; rw [hd] at hd'; cases hd'; rw [hj'] at he; cases he; exact ⟨_, _, by rw [hs'], hc, hm, hs⟩
    | _ => simp_all
  · rw [hj'] at hj
    cases hj
    rw [hs'] at e
    exact ⟨rows, ys, e, hr, hm, hs⟩
theorem d_struct {t : Nat} {fs : List (Nat × Nat)} {sz : Nat} (hT : ∃ i, tiT.get t = some i ∧ i.d = .struct fs ∧ i.size = sz) {ts : List Nat} {zs : List AV} (h : Sh tiT.get (t :: ts) zs) : Sh tiT.get (fs.map (·.2) ++ ts) zs := by
  obtain ⟨i, hi, hd, _⟩ := hT
  exact sh_struct hi hd h
theorem sz_of {t sz : Nat} {d : TD} (h : ∃ i, tiT.get t = some i ∧ i.d = d ∧ i.size = sz) : ∃ i, tiT.get t = some i ∧ i.size = sz := by
  obtain ⟨i, a, _, b⟩ := h
  exact ⟨i, a, b⟩
theorem d_strs {ts : List Nat} {zs : List AV} (h : Sh tiT.get (T_sl_string :: ts) zs) : ∃ l ys, zs = strs l :: ys ∧ strsWf Lmax l ∧ Sh tiT.get ts ys := by
  obtain ⟨rows, ys, e, hr, hm, hs⟩ := d_slice T_sl_string_is (sz_of T_string_is) h
  obtain ⟨l, hl, hp⟩ := rows_map (f := fun s => [Sx s]) (P := fun s => s.data.size ≤ Lmax) fun row hrow => by
    obtain ⟨s, ys, e, hw, hs⟩ := d_str (hr row hrow)
    rw [sh_nil hs] at e
    exact ⟨s, e, hw⟩
  exact ⟨l, ys, by rw [e, hl]; rfl, ⟨by rw [hl] at hm; simpa using hm, hp⟩, hs⟩
theorem d_attrs {ts : List Nat} {zs : List AV} (h : Sh tiT.get (T_sl_api_Attr :: ts) zs) : ∃ (l : List At) (ys : List AV), zs = .imm 3 (l.map encAt) :: ys ∧ (l.length ≤ Lmax ∧ ∀ x ∈ l, x.name.data.size ≤ Lmax ∧ i64 x.op ∧ x.text.data.size ≤ Lmax) ∧ Sh tiT.get ts ys := by
  obtain ⟨rows, ys, e, hr, hm, hs⟩ := d_slice T_sl_api_Attr_is (sz_of T_api_Attr_is) h
  obtain ⟨l, hl, hp⟩ := rows_map (f := encAt) (P := fun x => x.name.data.size ≤ Lmax ∧ i64 x.op ∧ x.text.data.size ≤ Lmax) fun row hrow => by
    have h1 := d_struct T_api_Attr_is (hr row hrow)
    obtain ⟨a, y1, e1, w1, h2⟩ := d_str h1
    obtain ⟨b, y2, e2, w2, h3⟩ := d_int h2
    obtain ⟨c, y3, e3, w3, h4⟩ := d_str h3
    rw [sh_nil h4] at e3
    exact ⟨⟨a, b, c⟩, by rw [e1, e2, e3]; rfl, w1, w2, w3⟩
  exact ⟨l, ys, by rw [e, hl], ⟨by rw [hl] at hm; simpa using hm, hp⟩, hs⟩
theorem d_parts : ∀ (n : Nat) {ts : List Nat} {zs : List AV}, SizeOf.sizeOf zs ≤ n → Sh tiT.get (T_sl_api_Part :: ts) zs → ∃ (l : List Pt) (ys : List AV), zs = .imm 6 (l.map encPt) :: ys ∧ (l.length ≤ Lmax ∧ ∀ p ∈ l, Pt.wf Lmax p) ∧ Sh tiT.get ts ys
  | 0, ts, zs, hn, h => by cases zs <;> simp at hn
  | n + 1, ts, zs, hn, h => by
    obtain ⟨rows, ys, e, hr, hm, hs⟩ := d_slice T_sl_api_Part_is (sz_of T_api_Part_is) h
    obtain ⟨l, hl, hp⟩ := rows_map (f := encPt) (P := fun p => Pt.wf Lmax p) fun row hrow => by
      have hsz : SizeOf.sizeOf row < n := by
        have h1 : SizeOf.sizeOf row < SizeOf.sizeOf rows := List.sizeOf_lt_of_mem hrow
        rw [e] at hn
        simp only [List.cons.sizeOf_spec, AV.imm.sizeOf_spec] at hn
        omega
      obtain ⟨k, y1, e1, w1, h1⟩ := d_int (d_struct T_api_Part_is (hr row hrow))
      have h1 := d_struct T_api_Compound_is h1
      obtain ⟨t, y2, e2, w2, h2⟩ := d_str h1
      obtain ⟨i, y3, e3, w3, h3⟩ := d_strs h2
      obtain ⟨c, y4, e4, w4, h4⟩ := d_strs h3
      obtain ⟨a, y5, e5, w5, h5⟩ := d_attrs h4
      obtain ⟨prows, y6, e6, hpr, hpm, h6⟩ := d_slice T_sl_api_Pseudo_is (sz_of T_api_Pseudo_is) h5
      rw [sh_nil h6] at e6
      subst e6 e5 e4 e3 e2 e1
      obtain ⟨ps, hps, hpp⟩ := rows_map (f := encPs) (P := fun p => Ps.wf Lmax p) fun prow hprow => by
        have hsz2 : SizeOf.sizeOf prow < n := by
          have h1 : SizeOf.sizeOf prow < SizeOf.sizeOf prows := List.sizeOf_lt_of_mem hprow
          simp only [List.cons.sizeOf_spec, AV.imm.sizeOf_spec] at hsz
          omega
        have g1 := d_struct T_api_Pseudo_is (hpr prow hprow)
        obtain ⟨k, y1, e1, w1, g2⟩ := d_int g1
        obtain ⟨a, y2, e2, w2, g3⟩ := d_int g2
        obtain ⟨b, y3, e3, w3, g4⟩ := d_int g3
        obtain ⟨srows, y4, e4, hsr, hsm, g5⟩ := d_slice T_sl_api_Selector_is (sz_of T_api_Selector_is) g4
        rw [sh_nil g5] at e4
        subst e4 e3 e2 e1
        obtain ⟨ss, hss, hsp⟩ := rows_map (f := encSl) (P := slWf Lmax) fun srow hsrow => by
          have hsz3 : SizeOf.sizeOf srow < n := by
            have h1 : SizeOf.sizeOf srow < SizeOf.sizeOf srows := List.sizeOf_lt_of_mem hsrow
            simp only [List.cons.sizeOf_spec, AV.imm.sizeOf_spec] at hsz2
            omega
          obtain ⟨l, y1, e1, w1, q1⟩ := d_parts n (by omega) (d_struct T_api_Selector_is (hsr srow hsrow))
          rw [sh_nil q1] at e1
          exact ⟨l, e1, w1.1, w1.2⟩
        refine ⟨.mk k a b ss, by rw [encPs_eq, hss]; rfl, ?_⟩
        rw [Ps.wf_iff]
        exact ⟨w1, w2, w3, by rw [hss, List.length_map] at hsm; exact hsm, hsp⟩
      refine ⟨.mk k (.mk t i c a ps), by rw [encPt_eq, encCp_eq, hps]; rfl, ?_⟩
      rw [Pt.wf_iff]
      exact ⟨w1, w2, w3, w4, w5.1, w5.2, by rw [hps, List.length_map] at hpm; exact hpm, hpp⟩
    exact ⟨l, ys, by rw [e, hl], ⟨by rw [hl] at hm; simpa using hm, hp⟩, hs⟩
def readB : List Nat := [T_int, T_string, T_bool, T_sl_string, T_sl_api_Attr, T_api_Attr, T_sl_api_Part, T_api_Part, T_api_Compound, T_sl_api_Pseudo, T_api_Pseudo, T_sl_api_Selector, T_api_Selector, T_sl_api_Node, T_api_Node, T_sl_api_Pair, T_api_Pair]
theorem readB_closed : closedB tiT.get readB = true := by kernel_rfl
end Go.Proofs.Ythmaggcfghjmfaa.Ev
namespace Go.Proofs.Ythmaggcfghjmfaa.Ev
theorem v_agg {t sz : Nat} {fs : List (Nat × Nat)} (hT : ∃ i, tiT.get t = some i ∧ i.d = .struct fs ∧ i.size = sz) {x : AV} (h : ShV tiT.get t x) : ∃ ys, x = .agg ys ∧ Sh tiT.get [t] ys := by
  obtain ⟨i, hi, hd, _⟩ := hT
  exact shV_agg hi (by rw [hd]; rfl) h
theorem v_one {t sz : Nat} {d : TD} (hT : ∃ i, tiT.get t = some i ∧ i.d = d ∧ i.size = sz) (ha : d.agg = false) {x : AV} (h : ShV tiT.get t x) : Sh tiT.get [t] [x] := by
  obtain ⟨i, hi, hd, _⟩ := hT
  unfold ShV at h
  rw [hi] at h
  simp only [hd, ha] at h
  exact h
theorem v_int {x : AV} (h : ShV tiT.get T_int x) : ∃ n, x = I n ∧ i64 n := by
  obtain ⟨n, ys, e, w, hn⟩ := d_int (v_one T_int_is rfl h)
  cases e
  exact ⟨n, rfl, w⟩
end Go.Proofs.Ythmaggcfghjmfaa.Ev
namespace Go.Proofs.Ythmaggcfghjmfaa.Ev
theorem d_strR {ts : List Nat} {zs : List AV} (h : Sh tiT.get (T_string :: ts) zs) : ∃ s ys, zs = Sx s :: ys ∧ s.data.size ≤ reachBytes ∧ Sh tiT.get ts ys := by
  obtain ⟨i, hi, hd, _⟩ := T_string_is
  obtain ⟨s, ys, e, hw, hs⟩ := sh_str hi hd h
  exact ⟨s, ys, e, hw, hs⟩
theorem d_sliceB {t e sz B : Nat} (hT : ∃ i, tiT.get t = some i ∧ i.d = .slice e ∧ i.size = 1) (hE : ∃ i, tiT.get e = some i ∧ i.size = sz) (hB : (tiT.get e).map (·.bytes) = some B) {ts : List Nat} {zs : List AV} (h : Sh tiT.get (t :: ts) zs) :
    ∃ rows ys, zs = .imm sz rows :: ys ∧ (∀ row ∈ rows, Sh tiT.get [e] row) ∧ rows.length * B ≤ reachBytes ∧ Sh tiT.get ts ys := by
  obtain ⟨i, hi, hd, _⟩ := hT
  obtain ⟨j', hj', hs'⟩ := hE
  rw [hj'] at hB
  simp only [Option.map_some, Option.some.injEq] at hB
  cases h with
  | sl h' hd' he hc hl hm hb hs => rw [hi] at h'; cases h'; rw [hd] at hd'; cases hd'; rw [hj'] at he; cases he; exact ⟨_, _, by rw [hs'], hc, by rw [← hB]; exact hb, hs⟩
  | _ => simp_all
theorem d_strsR {ts : List Nat} {zs : List AV} (h : Sh tiT.get (T_sl_string :: ts) zs) : ∃ l ys, zs = strs l :: ys ∧ l.length * 16 ≤ reachBytes ∧ Sh tiT.get ts ys := by
  obtain ⟨rows, ys, e, hr, hm, hs⟩ := d_sliceB T_sl_string_is (sz_of T_string_is) (B := 16) (by kernel_rfl) h
  obtain ⟨l, hl, hp⟩ := rows_map (f := fun s => [Sx s]) (P := fun s => True) fun row hrow => by
    obtain ⟨s, ys, e, hw, hs⟩ := d_str (hr row hrow)
    rw [sh_nil hs] at e
    exact ⟨s, e, trivial⟩
  exact ⟨l, ys, by rw [e, hl]; rfl, by rw [hl] at hm; simpa using hm, hs⟩
theorem d_pairs {ts : List Nat} {zs : List AV} (h : Sh tiT.get (T_sl_api_Pair :: ts) zs) : ∃ (l : List (ByteArray × ByteArray)) (ys : List AV), zs = .imm 2 (l.map encPr) :: ys ∧ (l.length * 32 ≤ reachBytes ∧ ∀ x ∈ l, x.1.data.size ≤ reachBytes) ∧ Sh tiT.get ts ys := by
  obtain ⟨rows, ys, e, hr, hm, hs⟩ := d_sliceB T_sl_api_Pair_is (sz_of T_api_Pair_is) (B := 32) (by kernel_rfl) h
  obtain ⟨l, hl, hp⟩ := rows_map (f := encPr) (P := fun x => x.1.data.size ≤ reachBytes) fun row hrow => by
    obtain ⟨a, y1, e1, w1, h2⟩ := d_strR (d_struct T_api_Pair_is (hr row hrow))
    obtain ⟨b, y2, e2, w2, h3⟩ := d_strR h2
    rw [sh_nil h3] at e2
    exact ⟨⟨a, b⟩, by rw [e1, e2]; rfl, w1⟩
  exact ⟨l, ys, by rw [e, hl], ⟨by rw [hl] at hm; simpa using hm, hp⟩, hs⟩
theorem d_nodes {ts : List Nat} {zs : List AV} (h : Sh tiT.get (T_sl_api_Node :: ts) zs) : ∃ (l : List Nd) (ys : List AV), zs = nds l :: ys ∧ (∀ x ∈ l, NdWf x) ∧ l.length ≤ Lmax ∧ Sh tiT.get ts ys := by
  obtain ⟨rows, ys, e, hr, hm, hs⟩ := d_slice T_sl_api_Node_is (sz_of T_api_Node_is) h
  obtain ⟨l, hl, hp⟩ := rows_map (f := encNd) (P := NdWf) fun row hrow => by
    obtain ⟨p, y1, e1, w1, h2⟩ := d_int (d_struct T_api_Node_is (hr row hrow))
    obtain ⟨t, y2, e2, w2, h3⟩ := d_strR h2
    obtain ⟨i, y3, e3, w3, h4⟩ := d_strR h3
    obtain ⟨c, y4, e4, w4, h5⟩ := d_strsR h4
    obtain ⟨a, y5, e5, w5, h6⟩ := d_pairs h5
    rw [sh_nil h6] at e5
    exact ⟨⟨p, t, i, c, a⟩, by rw [e1, e2, e3, e4, e5]; rfl, w1, w2, w4, w5.1, w5.2⟩
  exact ⟨l, ys, by rw [e, hl]; rfl, hp, by rw [hl] at hm; simpa using hm, hs⟩
theorem v_nodes {x : AV} (h : ShV tiT.get T_sl_api_Node x) : ∃ l, x = nds l ∧ (∀ n ∈ l, NdWf n) ∧ l.length ≤ Lmax := by
  obtain ⟨l, ys, e, w, hl, hn⟩ := d_nodes (v_one T_sl_api_Node_is rfl h)
  cases e
  exact ⟨l, rfl, w, hl⟩
theorem v_cp {x : AV} (h : ShV tiT.get T_api_Compound x) : ∃ c : Cp, x = .agg (encCp c) ∧ CpWf Lmax c := by
  obtain ⟨ys, e, hs⟩ := v_agg T_api_Compound_is h
  have h1 := d_struct T_api_Compound_is hs
  have h2 : Sh tiT.get [T_sl_api_Part] [.imm 6 [I 0 :: ys]] := by
    obtain ⟨i, hi, hd, _⟩ := T_sl_api_Part_is
    obtain ⟨j, hj, hdj, hsz⟩ := T_api_Part_is
    have hB : (tiT.get T_api_Part).map (·.bytes) = some 120 := by kernel_rfl
    rw [hj] at hB
    simp only [Option.map_some, Option.some.injEq] at hB
    have hlen : ys.length = 5 := by
      obtain ⟨t, y2, e2, w2, h2⟩ := d_str h1
      obtain ⟨i, y3, e3, w3, h3⟩ := d_strs h2
      obtain ⟨c, y4, e4, w4, h4⟩ := d_strs h3
      obtain ⟨a, y5, e5, w5, h5⟩ := d_attrs h4
      obtain ⟨prows, y6, e6, hpr, hpm, h6⟩ := d_slice T_sl_api_Pseudo_is (sz_of T_api_Pseudo_is) h5
      rw [sh_nil h6] at e6
      rw [e2, e3, e4, e5, e6]; rfl
    have hr : Sh tiT.get [T_api_Part] (I 0 :: ys) := by
      refine .struct hj hdj ?_
      obtain ⟨k, hk, hdk, _⟩ := T_int_is
      exact .int hk hdk (by decide) hs
    have := Sh.sl (ys := []) hi hd hj (rows := [I 0 :: ys]) (fun row hr' => by rw [List.mem_singleton.1 hr']; exact hr) (fun row hr' => by rw [List.mem_singleton.1 hr', hsz]; simp [hlen]) (by show 1 ≤ maxLen; decide) (by rw [hB]; show 1 * 120 ≤ reachBytes; decide) .nil
    rw [hsz] at this
    exact this
  obtain ⟨l, zs, e2, w, hn⟩ := d_parts _ (Nat.le_refl _) h2
  simp only [List.cons.injEq, AV.imm.injEq, true_and] at e2
  match l, e2.1, w with
  | [p], e3, w =>
    have hw := (Pt.wf_iff.1 (w.2 p (by simp))).2
    rw [List.map_cons, List.map_nil, encPt_eq] at e3
    simp only [List.cons.injEq, and_true] at e3
    exact ⟨p.c, by rw [e, e3.2], hw⟩
  | [], e3, w => simp at e3
  | _ :: _ :: _, e3, w => simp at e3
end Go.Proofs.Ythmaggcfghjmfaa.Ev
namespace Go.Proofs.Ythmaggcfghjmfaa.Ev
set_option linter.unusedVariables false
set_option linter.unusedSimpArgs false
variable {σ : Sig} {L : List Nd} {d : List Nat}
def TxL : Nat → List Sl → Prop
  | 0, _ => False
  | f + 1, l => ∀ s ∈ l, ∀ p ∈ s, (∀ a ∈ p.c.attrs, a.text.data.size < 4294967281) ∧ ∀ q ∈ p.c.pseudos, TxL f q.list
theorem TxL.one {f : Nat} {l : List Sl} (h : TxL f l) {s : Sl} (hs : s ∈ l) : TxL f [s] := by
  cases f with
  | zero => exact h
  | succ f => exact fun s' hs' => by rw [List.mem_singleton.1 hs']; exact h s hs
theorem RcOk.of {c : Cp} (h : CpOk c) (ht : ∀ a ∈ c.attrs, a.text.data.size < 4294967281) : RcOk c := ⟨h.ids, h.classes, h.attrs, h.ps, ht⟩
theorem frB_AA {f : Nat} {s : Sl} (hn : Nest f [s]) (hf : f ≤ 12) (e : Nat) : AA L [s] e = frB L s e := by
  rw [← AA_eq hn hf]
  simp [anyS, frB]
theorem mayF_one {f : Nat} {s : Sl} {dp : Nat} : mayF (f + 1) [s] dp = mayS (mayF f) dp s := by simp [mayF]
end Go.Proofs.Ythmaggcfghjmfaa.Ev
namespace Go.Proofs.Ythmaggcfghjmfaa.Ev
set_option linter.unusedVariables false
set_option linter.unusedSimpArgs false
theorem sum_bk {α : Type} {f : α → List AV} {g : α → Nat} : ∀ {l : List α}, (∀ x ∈ l, g x ≤ bkL (f x)) → (l.map g).sum ≤ bkLL (l.map f)
  | [], _ => by simp [bkLL]
  | x :: r, h => by
    have h1 := h x (by simp)
    have h2 := sum_bk (f := f) (g := g) (l := r) fun y hy => h y (by simp [hy])
    simp only [List.map_cons, List.sum_cons, bkLL]
    omega
theorem len_bk {α : Type} {f : α → List AV} {l : List α} (h : ∀ x ∈ l, 1 ≤ bkL (f x)) : l.length ≤ bkLL (l.map f) := by
  have h1 := sum_bk (f := f) (g := fun _ => 1) (l := l) h
  have h2 : ∀ l : List α, (l.map fun _ => 1).sum = l.length := by
    intro l
    induction l with
    | nil => rfl
    | cons a r ih => simp only [List.map_cons, List.sum_cons, List.length_cons, ih]; omega
  rw [h2] at h1
  exact h1
theorem mem_bk {α : Type} {f : α → List AV} {l : List α} {x : α} (h : x ∈ l) : bkL (f x) ≤ bkLL (l.map f) := bkLL_mem (List.mem_map_of_mem h)
theorem bk_S (s : ByteArray) : bk (Sx s) = s.data.size + 1 := by simp [bk]
theorem bk_I (n : Int) : bk (I n) = 1 := by simp [bk]
theorem bk_imm (sz : Nat) (rows : List (List AV)) : bk (.imm sz rows) = bkLL rows + 1 := by simp [bk]
theorem bk_strs (l : List ByteArray) : bk (strs l) = bkLL (l.map fun s => [Sx s]) + 1 := by unfold strs; rw [bk_imm]
theorem bk_cp (c : Cp) : bkL (encCp c) = (c.tag.data.size + 1) + ((bkLL (c.ids.map fun s => [Sx s]) + 1) + ((bkLL (c.classes.map fun s => [Sx s]) + 1) + ((bkLL (c.attrs.map encAt) + 1) + (bkLL (c.pseudos.map encPs) + 1)))) := by
  rw [encCp_eq]
  simp only [bkL, bk_S, bk_strs, bk_imm, Nat.add_zero]
theorem bk_pt (p : Pt) : bkL (encPt p) = 1 + bkL (encCp p.c) := by rw [encPt_eq]; simp only [bkL, bk_I]
theorem bk_ps (q : Ps) : bkL (encPs q) = 1 + (1 + (1 + (bkLL (q.list.map encSl) + 1))) := by rw [encPs_eq]; simp only [bkL, bk_I, bk_imm, Nat.add_zero]
theorem bk_sl (s : Sl) : bkL (encSl s) = bkLL (s.map encPt) + 1 := by unfold encSl; simp only [bkL, bk_imm, Nat.add_zero]
theorem bk_at (a : At) : bkL (encAt a) = (a.name.data.size + 1) + (1 + (a.text.data.size + 1)) := by unfold encAt; simp only [bkL, bk_S, bk_I, Nat.add_zero]
structure PtB (f : Nat) (p : Pt) : Prop where
  c : CpOk p.c
  ps : p.c.pseudos.length ≤ NB
  q : ∀ q ∈ p.c.pseudos, (i64 q.a ∧ i64 q.b) ∧ SlsOk f q.list
  tx : ∀ a ∈ p.c.attrs, a.text.data.size < 4294967281
  tq : ∀ q ∈ p.c.pseudos, TxL f q.list
  cnt : (p.c.pseudos.map fun q => cntF f q.list).sum + 6 ≤ bkL (encPt p)
theorem pt_bulk {f : Nat} (ih : ∀ l, slsWf Lmax l → FitL f l → bkLL (l.map encSl) ≤ NB → SlsOk f l ∧ TxL f l ∧ cntF f l ≤ bkLL (l.map encSl)) {p : Pt} (hw : CpWf Lmax p.c) (hf : FitP f p) (hb : bkL (encCp p.c) ≤ NB) : PtB f p := by
  have hN : NB = 1048576 := rfl
  have r : reachBytes = 140737488351232 := rfl
  rw [bk_cp, hN] at hb
  have l1 : p.c.ids.length ≤ bkLL (p.c.ids.map fun s => [Sx s]) := len_bk fun s _ => by simp only [bkL, bk_S]; omega
  have l2 : p.c.classes.length ≤ bkLL (p.c.classes.map fun s => [Sx s]) := len_bk fun s _ => by simp only [bkL, bk_S]; omega
  have l3 : p.c.attrs.length ≤ bkLL (p.c.attrs.map encAt) := len_bk fun s _ => by rw [bk_at]; omega
  have l4 : p.c.pseudos.length ≤ bkLL (p.c.pseudos.map encPs) := len_bk fun s _ => by rw [bk_ps]; omega
  have ht : ∀ a ∈ p.c.attrs, a.text.data.size ≤ 1048576 := fun a ha => by
    have h1 := mem_bk (f := encAt) ha
    rw [bk_at] at h1
    omega
  have hq : ∀ q ∈ p.c.pseudos, SlsOk f q.list ∧ TxL f q.list ∧ cntF f q.list ≤ bkLL (q.list.map encSl) := fun q hq => by
    have h1 := mem_bk (f := encPs) hq
    rw [bk_ps] at h1
    exact ih q.list (Ps.wf_iff.1 (hw.ps q hq)).2.2.2 (hf.2 q hq) (by rw [hN]; omega)
  refine ⟨⟨by omega, by omega, by omega, fun a ha => ⟨by have := ht a ha; omega⟩, by omega⟩, by omega, fun q h => ⟨⟨(Ps.wf_iff.1 (hw.ps q h)).2.1, (Ps.wf_iff.1 (hw.ps q h)).2.2.1⟩, (hq q h).1⟩, fun a ha => by have := ht a ha; omega, fun q h => (hq q h).2.1, ?_⟩
  have h5 : (p.c.pseudos.map fun q => cntF f q.list).sum ≤ bkLL (p.c.pseudos.map encPs) := sum_bk fun q h => by
    have := (hq q h).2.2
    rw [bk_ps]; omega
  rw [bk_pt, bk_cp]
  omega
theorem sls_bulk : ∀ (f : Nat) (l : List Sl), slsWf Lmax l → FitL f l → bkLL (l.map encSl) ≤ NB → SlsOk f l ∧ TxL f l ∧ cntF f l ≤ bkLL (l.map encSl)
  | 0, l, _, h, _ => h.elim
  | f + 1, l, hw, hf, hb => by
    have hN : NB = 1048576 := rfl
    have hl : l.length ≤ bkLL (l.map encSl) := len_bk fun s _ => by rw [bk_sl]; omega
    have hs : ∀ s ∈ l, s.length ≤ NB ∧ ∀ p ∈ s, PtB f p := fun s h => by
      have h1 := mem_bk (f := encSl) h
      rw [bk_sl] at h1
      have h2 : s.length ≤ bkLL (s.map encPt) := len_bk fun p _ => by rw [bk_pt]; omega
      refine ⟨by omega, fun p hp => ?_⟩
      have h3 := mem_bk (f := encPt) hp
      rw [bk_pt] at h3
      exact pt_bulk (sls_bulk f) (Pt.wf_iff.1 ((hw.2 s h).2 p hp)).2 ((hf s h).2 p hp) (by omega)
    refine ⟨⟨by omega, fun s h => ⟨(hs s h).1, fun p hp => ⟨((hs s h).2 p hp).c, ((hs s h).2 p hp).ps, ((hs s h).2 p hp).q⟩⟩⟩, fun s h p hp => ⟨((hs s h).2 p hp).tx, ((hs s h).2 p hp).tq⟩, ?_⟩
    rw [cntF]
    refine sum_bk fun s h => ?_
    rw [bk_sl]
    have : (s.map fun p => (p.c.pseudos.map fun q => cntF f q.list).sum).sum ≤ bkLL (s.map encPt) := sum_bk fun p hp => by
      have := ((hs s h).2 p hp).cnt
      omega
    omega
theorem part_bulk {s : Sl} (hw : slsWf Lmax [s]) (hf : FitL 11 [s]) (hl : s.length ≤ 10) (hb : (s.map fun p => bkL (encCp p.c)).sum ≤ NB) : SelOk 11 [s] ∧ TxL 11 [s] := by
  have hN : NB = 1048576 := rfl
  have hm : ∀ (s : Sl) (p : Pt), p ∈ s → bkL (encCp p.c) ≤ (s.map fun p => bkL (encCp p.c)).sum := by
    intro s p
    induction s with
    | nil => intro h; cases h
    | cons a r ih =>
      intro h
      simp only [List.map_cons, List.sum_cons]
      rcases List.mem_cons.1 h with rfl | h
      · omega
      · have := ih h; omega
  have hs : ∀ p ∈ s, PtB 10 p := fun p hp => pt_bulk (sls_bulk 10) (Pt.wf_iff.1 ((hw.2 s (by simp)).2 p hp)).2 ((hf s (by simp)).2 p hp) (Nat.le_trans (hm s p hp) hb)
  refine ⟨⟨hw, ⟨by show 1 ≤ NB; decide, fun s' h => ?_⟩, hf.nest, by decide, ?_⟩, fun s' h p hp => ?_⟩
  · rw [List.mem_singleton.1 h]
    exact ⟨by omega, fun p hp => ⟨(hs p hp).c, (hs p hp).ps, (hs p hp).q⟩⟩
  · have : ∀ (s : Sl), (∀ p ∈ s, PtB 10 p) → (s.map fun p => (p.c.pseudos.map fun q => cntF 10 q.list).sum).sum + 5 * s.length ≤ (s.map fun p => bkL (encCp p.c)).sum := by
      intro s
      induction s with
      | nil => intro _; simp
      | cons a r ih =>
        intro h
        have h1 := (h a (by simp)).cnt
        have h2 := ih fun p hp => h p (by simp [hp])
        rw [bk_pt] at h1
        simp only [List.map_cons, List.sum_cons, List.length_cons]
        omega
    have h1 := this s hs
    rw [cntF]
    simp only [List.map_cons, List.map_nil, List.sum_cons, List.sum_nil]
    by_cases h0 : s.length = 0
    · have : s = [] := List.length_eq_zero_iff.1 h0
      subst this
      simp; rw [hN]; omega
    · omega
  · rw [List.mem_singleton.1 h] at hp
    exact ⟨(hs p hp).tx, (hs p hp).tq⟩
end Go.Proofs.Ythmaggcfghjmfaa.Ev
namespace Go.Proofs.Ythmaggcfghjmfaa.Ev
set_option linter.unusedVariables false
set_option linter.unusedSimpArgs false
set_option maxRecDepth 100000
variable {σ : Sig}
abbrev nilS : AV := .lit (.slice none 0 0)
theorem NdSm.low {n : Nd} (h : NdSm n) : SmN (lowN n) := by
  have r : reachBytes = 140737488351232 := rfl
  refine ⟨by have := h.classes; show n.classes.length ≤ _; omega, by have := h.attrs; show (n.attrs.map lowPr).length ≤ _; rw [List.length_map]; omega, fun p hp => ?_⟩
  obtain ⟨q, hq, rfl⟩ := List.mem_map.1 hp
  have := (h.at' q hq).2
  show q.2.data.size < _
  omega
theorem TreeOk.smN {L : List Nd} {d : List Nat} (h : TreeOk L d) : ∀ e, e < L.length → SmN (lowN (ndAt L e)) := by
  intro e he
  refine (h.sm _ ?_).low
  unfold ndAt
  rw [List.getD_eq_getElem?_getD, List.getElem?_eq_getElem he]
  exact List.getElem_mem _
theorem TreeOk.mc {L : List Nd} {d : List Nat} (h : TreeOk L d) (hC : HasC σ) : McT σ L d := ⟨hC, h.hB, by have := h.len; omega, h.smN⟩
section
end
end Go.Proofs.Ythmaggcfghjmfaa.Ev
namespace Go.Proofs.Ythmaggcfghjmfaa.Ev
open Go.RowKit
def sigM : Sig := ⟨fun _ => 0, fun _ => false, fun _ => ⟨#[]⟩, some gMax⟩
theorem sigM_g : sigM.g = some gMax := rfl
end Go.Proofs.Ythmaggcfghjmfaa.Ev
namespace Go.Proofs.Ythmaggcfghjmfaa.Ev
open Go.RowKit
set_option linter.unusedVariables false
set_option linter.unusedSimpArgs false
set_option maxRecDepth 100000
variable {σ : Sig}
section
end
end Go.Proofs.Ythmaggcfghjmfaa.Ev
namespace Go.Proofs.Ythmaggcfghjmfaa.Ev
open Go.RowKit
set_option linter.unusedVariables false
set_option linter.unusedSimpArgs false
set_option maxRecDepth 100000
variable {σ : Sig}
theorem cpB_may {L : List Nd} {f : Nat} {c : Cp} (S : SelOk (f + 1) [[⟨0, c⟩]]) (hm : mayC (mayF f) 8 c = true) {e : Nat} (he : e < L.length) : cpB L (f + 1) c (e : Int) = compB (AA L) L e c := by
  unfold cpB selB mayAny
  have i1 : (0 : Int) ≤ (e : Int) := by omega
  have i2 : (e : Int) < (L.length : Int) := by omega
  have hms : mayS (mayF f) 8 [⟨0, c⟩] = mayC (mayF f) 8 c := by simp [mayS, Pt.c]
  simp only [i1, i2, decide_true, Bool.and_self, Bool.true_and, Int.toNat_natCast, List.any_cons, List.any_nil, Bool.or_false, mayF_one, hms, hm]
  rw [frB_AA S.nest S.hf]
  rfl
theorem slsWf_cp {c : Cp} (h : CpWf Lmax c) : slsWf Lmax [[⟨0, c⟩]] := ⟨by show 1 ≤ Lmax; decide, fun s' h' => by
    rw [List.mem_singleton.1 h']
    refine ⟨by show 1 ≤ Lmax; decide, fun p hp => ?_⟩
    rw [List.mem_singleton.1 hp, Pt.wf_iff]
    exact ⟨by show i64 0; unfold i64; decide, h⟩⟩
theorem selOne {a : Cp} (ha : CpWf Lmax a) (hk : bkL (encCp a) ≤ NB) (fa : FitP 10 ⟨0, a⟩) : SelOk 11 [[⟨0, a⟩]] := by
  refine (part_bulk (slsWf_cp ha) (fun s hs => ?_) (by show 1 ≤ 10; decide) (by show bkL (encCp a) + 0 ≤ NB; omega)).1
  rw [List.mem_singleton.1 hs]
  exact ⟨by show 1 ≤ 60; decide, fun p hp => by rw [List.mem_singleton.1 hp]; exact fa⟩
section
end
end Go.Proofs.Ythmaggcfghjmfaa.Ev
namespace Go.Proofs.Ythmaggcfghjmfaa.Ev
open Go.RowKit
set_option linter.unusedVariables false
set_option linter.unusedSimpArgs false
set_option maxRecDepth 100000
variable {σ : Sig}
def ancB (L : List Nd) : Nat → Int → Nat → Bool
  | 0, _, _ => false
  | f + 1, p, x => decide (0 ≤ p) && (decide (p = (x : Int)) || ancB L f (par L p.toNat) x)
def isB (L : List Nd) (k : Int) (e x : Nat) : Bool :=
  if k = 1 then ancB L (e + 1) (par L e) x else if k = 2 then decide (par L e = (x : Int)) else if k = 3 then decide (before L e = (x : Int))
  else if k = 4 then decide (0 < e) && (decide (0 < x) && (decide (x < e) && decide (par L e = par L x))) else false
theorem any_range {n : Nat} {P : Nat → Bool} : (List.range n).any P = true ↔ ∃ x, x < n ∧ P x = true := by
  rw [List.any_eq_true]
  constructor
  · rintro ⟨x, hx, h⟩; exact ⟨x, List.mem_range.1 hx, h⟩
  · rintro ⟨x, hx, h⟩; exact ⟨x, List.mem_range.2 hx, h⟩
theorem anc_ahead {L : List Nd} {d : List Nat} (hB : Built L L.length d) (g : Nat → Bool) : ∀ (f : Nat) (p : Int), (p = -1 ∨ ∃ q : Nat, p = q ∧ q < f ∧ q < L.length) →
    (decide (0 ≤ p) && (g p.toNat || aheadF g L 1 f p.toNat)) = (List.range L.length).any fun x => ancB L (f + 1) p x && g x := by
  intro f
  induction f with
  | zero =>
    intro p hp
    rcases hp with rfl | ⟨q, rfl, h, _⟩
    · rw [Bool.eq_iff_iff, any_range]
      simp [ancB]
    · omega
  | succ f ih =>
    intro p hp
    rcases hp with rfl | ⟨q, rfl, hq, hL⟩
    · rw [Bool.eq_iff_iff, any_range]
      simp [ancB]
    have e1 : standI L q 1 = par L q := by unfold standI; simp
    have e2 : farB 1 = true := rfl
    simp only [Int.natCast_nonneg, decide_true, Bool.true_and, Int.toNat_natCast]
    rw [aheadF, e1, e2, Bool.true_and]
    have hpb := par_bd hB hL
    rw [ih (par L q) (by
      rcases hpb with h | ⟨j, h, hj⟩
      · exact .inl h
      · exact .inr ⟨j, h, by omega, by omega⟩)]
    rw [Bool.eq_iff_iff, Bool.or_eq_true, any_range, any_range]
    constructor
    · rintro (h | ⟨x, hx, h⟩)
      · exact ⟨q, hL, by rw [ancB]; simp [h]⟩
      · refine ⟨x, hx, ?_⟩
        rw [ancB]
        simp only [Bool.and_eq_true] at h
        simp [h.1, h.2]
    · rintro ⟨x, hx, h⟩
      rw [ancB] at h
      simp only [Int.natCast_nonneg, decide_true, Bool.true_and, Int.toNat_natCast, Bool.and_eq_true, Bool.or_eq_true, decide_eq_true_eq] at h
      rcases h.1 with h1 | h1
      · have : q = x := by omega
        subst this
        exact .inl h.2
      · exact .inr ⟨x, hx, by simp [h1, h.2]⟩
theorem sibs_mem {L : List Nd} {e x : Nat} : x ∈ sibs L e ↔ x < e ∧ 0 < x ∧ par L x = par L e := by
  unfold sibs
  simp [List.mem_filter]
theorem sibs_split {L : List Nd} {e j : Nat} {l : List Nat} (h : sibs L e = l ++ [j]) : sibs L j = l ∧ par L j = par L e ∧ j < e := by
  have hj : j ∈ sibs L e := by rw [h]; simp
  obtain ⟨h1, h2, h3⟩ := sibs_mem.1 hj
  refine ⟨?_, h3, h1⟩
  have hr : List.range e = List.range (j + 1) ++ (List.range (e - (j + 1))).map (fun i => j + 1 + i) := by
    rw [← List.range_add]
    congr 1
    omega
  have key : sibs L e = sibs L j ++ [j] ++ ((List.range (e - (j + 1))).map (fun i => j + 1 + i)).filter (fun i => decide (0 < i) && decide (par L i = par L e)) := by
    unfold sibs
    rw [hr, List.filter_append, List.range_succ, List.filter_append]
    congr 1
    rw [h3]
    congr 1
    simp [h2, h3]
  rw [h] at key
  generalize hT : ((List.range (e - (j + 1))).map (fun i => j + 1 + i)).filter (fun i => decide (0 < i) && decide (par L i = par L e)) = T at key
  cases hTT : T.reverse with
  | nil =>
    have : T = [] := by simpa using hTT
    rw [this, List.append_nil] at key
    exact (List.append_inj' key rfl).1.symm
  | cons y r =>
    have hy : T = r.reverse ++ [y] := by have := congrArg List.reverse hTT; simpa using this
    rw [hy, ← List.append_assoc] at key
    have := (List.append_inj' key rfl).2
    simp only [List.cons.injEq, and_true] at this
    have hmem : y ∈ T := by rw [hy]; simp
    rw [← hT] at hmem
    have := (List.mem_filter.1 hmem).1
    obtain ⟨i, _, hi⟩ := List.mem_map.1 this
    omega
theorem after_ahead {L : List Nd} (g : Nat → Bool) : ∀ (f e : Nat), (sibs L e).length < f → aheadF g L 4 f e = (sibs L e).any g := by
  intro f
  induction f with
  | zero => intro e h; omega
  | succ f ih =>
    intro e h
    have e1 : standI L e 4 = before L e := by unfold standI; simp
    have e2 : farB 4 = true := rfl
    rw [aheadF, e1, e2, Bool.true_and]
    cases hr : (sibs L e).reverse with
    | nil =>
      have h0 : sibs L e = [] := by simpa using hr
      have : before L e = -1 := by unfold before lastI; rw [h0]; rfl
      rw [this, h0]; rfl
    | cons j r =>
      have hs : sibs L e = r.reverse ++ [j] := by have := congrArg List.reverse hr; simpa using this
      have hb : before L e = j := by unfold before lastI; rw [hs]; simp
      obtain ⟨h1, h2, h3⟩ := sibs_split hs
      rw [hb, hs]
      simp only [Int.natCast_nonneg, decide_true, Bool.true_and, Int.toNat_natCast]
      rw [ih j (by rw [h1]; rw [hs] at h; simp at h; simpa using h), h1, List.any_append]
      simp only [List.any_cons, List.any_nil, Bool.or_false]
      exact Bool.or_comm _ _
theorem ahead_is {L : List Nd} {d : List Nat} (hB : Built L L.length d) (g : Nat → Bool) (k : Int) {e : Nat} (he : e < L.length) : aheadF g L k (e + 1) e = (List.range L.length).any fun x => isB L k e x && g x := by
  by_cases h1 : k = 1
  · subst h1
    have e1 : standI L e 1 = par L e := by unfold standI; simp
    have e2 : farB 1 = true := rfl
    rw [aheadF, e1, e2, Bool.true_and]
    have hpb := par_bd hB he
    rw [anc_ahead hB g e (par L e) (by
      rcases hpb with h | ⟨j, h, hj⟩
      · exact .inl h
      · exact .inr ⟨j, h, by omega, by omega⟩)]
    rfl
  by_cases h2 : k = 2
  · subst h2
    have e1 : standI L e 2 = par L e := by unfold standI; simp
    have e2 : farB 2 = false := rfl
    rw [aheadF, e1, e2, Bool.false_and, Bool.or_false, Bool.eq_iff_iff, any_range]
    have hpb := par_bd hB he
    simp only [isB, show ¬ ((2 : Int) = 1) from by decide, if_false, if_true, Bool.and_eq_true, decide_eq_true_eq]
    constructor
    · rintro ⟨h, hg⟩
      exact ⟨(par L e).toNat, by rcases hpb with h' | ⟨j, h', hj⟩ <;> omega, by omega, hg⟩
    · rintro ⟨x, hx, h, hg⟩
      exact ⟨by omega, by rw [h, Int.toNat_natCast]; exact hg⟩
  by_cases h3 : k = 3
  · subst h3
    have e1 : standI L e 3 = before L e := by unfold standI; simp
    have e2 : farB 3 = false := rfl
    rw [aheadF, e1, e2, Bool.false_and, Bool.or_false, Bool.eq_iff_iff, any_range]
    have hpb := rbefore_bd (L := L) e
    simp only [isB, show ¬ ((3 : Int) = 1) from by decide, show ¬ ((3 : Int) = 2) from by decide, if_false, if_true, Bool.and_eq_true, decide_eq_true_eq]
    constructor
    · rintro ⟨h, hg⟩
      exact ⟨(before L e).toNat, by rcases hpb with h' | ⟨j, h', hj⟩ <;> omega, by omega, hg⟩
    · rintro ⟨x, hx, h, hg⟩
      exact ⟨by omega, by rw [h, Int.toNat_natCast]; exact hg⟩
  by_cases h4 : k = 4
  · subst h4
    have hsl := sibs_len L e
    rw [after_ahead g (e + 1) e (by omega), Bool.eq_iff_iff, any_range, List.any_eq_true]
    simp only [isB, show ¬ ((4 : Int) = 1) from by decide, show ¬ ((4 : Int) = 2) from by decide, show ¬ ((4 : Int) = 3) from by decide, if_false, if_true, Bool.and_eq_true, decide_eq_true_eq]
    constructor
    · rintro ⟨x, hx, hg⟩
      obtain ⟨a1, a2, a3⟩ := sibs_mem.1 hx
      exact ⟨x, by omega, ⟨by omega, a2, a1, a3.symm⟩, hg⟩
    · rintro ⟨x, hx, ⟨_, a2, a1, a3⟩, hg⟩
      exact ⟨x, sibs_mem.2 ⟨a1, a2, a3.symm⟩, hg⟩
  · have e1 : standI L e k = -1 := by unfold standI; rw [if_neg (by omega), if_neg (by omega)]
    rw [aheadF, e1, Bool.eq_iff_iff, any_range]
    simp [isB, h1, h2, h3, h4]
section
attribute [local irreducible] law10_MatchCombs.L0 law10_MatchCombs.L1 law10_MatchCombs.L2 law10_MatchCombs.J3
theorem MatchCombs_good (hC : HasC σ) {L : List Nd} (hW : ∀ n ∈ L, NdWf n) {a b : Cp} (ha : CpWf Lmax a) (hb : CpWf Lmax b) {k : Int} (hki : i64 k) (hk : bkL (encCp a) + bkL (encCp b) ≤ NB) : ∃ Hf, Good Try.prog σ n_law10_MatchCombs [nds L, .agg (encCp a), .agg (encCp b), I k] Hp.empty (Bo true) Hf := by
  have hN : NB = 1048576 := rfl
  refine ⟨Hp.empty, good_by (fun K hK => law10_MatchCombs.run ?_) (by simp [noIds, noId, noId_Cp]) rfl _⟩
  simp only [boxK_agg]
  obtain ⟨H0, hH0⟩ : ∃ H0, H0 = (Hp.empty.new (.cells (encCp a) true)).new (.cells (encCp b) true) := ⟨_, rfl⟩
  have g0 : H0.get 0 = some (.cells (encCp a) true) := by rw [hH0]; rfl
  have g1 : H0.get 1 = some (.cells (encCp b) true) := by rw [hH0]; simp [Hp.empty]
  have n0 : H0.n = 2 := by rw [hH0]; rfl
  have e0 : Hp.empty.n = 0 := rfl
  have e1 : (Hp.empty.new (.cells (encCp a) true)).n = 1 := rfl
  rw [← hH0, e0, e1]
  clear hH0
  refine callK_of (alive10 hC _) ?_
  have l5 : ∀ (H : Hp) (j : Nat) (c : Cp), H.get j = some (.cells (encCp c) true) → ldA true 5 H (.ptr j 0) = some (.agg (encCp c)) := fun H j c h => by simp [h]
  rw [l5 _ _ _ g0, bnd_some]
  have hb1 : bldR [I 0, Sx ⟨#[]⟩, .lit (.slice none 0 0), .lit (.slice none 0 0), .lit (.slice none 0 0), .lit (.slice none 0 0)] [(1, 5, .agg (encCp a))] = some (encPt ⟨0, a⟩) := by
    simp only [bldR, cells_agg, len_encCp, beqN, decide_true, isAny_agg, Bool.not_false, Bool.and_true, bleN]
    rw [show encPt ⟨0, a⟩ = I 0 :: encCp a from rfl, encCp_eq]; simp [overlay]
  rw [hb1, bnd_some, l5 _ _ _ g1, bnd_some]
  have hb2 : bldR [I 0, Sx ⟨#[]⟩, .lit (.slice none 0 0), .lit (.slice none 0 0), .lit (.slice none 0 0), .lit (.slice none 0 0)] [(0, 1, I k), (1, 5, .agg (encCp b))] = some (encPt ⟨k, b⟩) := by
    rw [show encPt ⟨k, b⟩ = I k :: encCp b from rfl, encCp_eq]; rfl
  rw [hb2, bnd_some]
  have hb3 : bldSlR [.int .i64 0, .string ⟨#[]⟩, .slice none 0 0, .slice none 0 0, .slice none 0 0, .slice none 0 0] 6 2 H0 [(0, 6, .agg (encPt ⟨0, a⟩)), (6, 6, .agg (encPt ⟨k, b⟩))] = some (.sl H0.n 0 6 2 (some 2), H0.new (.cells (encPt ⟨0, a⟩ ++ encPt ⟨k, b⟩) true)) := by
    have : bldR (zrow [.int .i64 0, .string ⟨#[]⟩, .slice none 0 0, .slice none 0 0, .slice none 0 0, .slice none 0 0] (2 * 6)) [(0, 6, .agg (encPt ⟨0, a⟩)), (6, 6, .agg (encPt ⟨k, b⟩))] = some (encPt ⟨0, a⟩ ++ encPt ⟨k, b⟩) := by
      rw [encPt_eq, encPt_eq, encCp_eq, encCp_eq]
      rfl
    unfold bldSlR
    rw [this]
    simp [beqN]
  rw [hb3, bnd_some]
  obtain ⟨s, hs⟩ : ∃ s : Sl, s = [⟨0, a⟩, ⟨k, b⟩] := ⟨_, rfl⟩
  refine bnd_of (x := [.sl H0.n 0 6 2 (some 2)]) rfl ?_
  rw [allocK_eq]
  obtain ⟨H1, hH1⟩ : ∃ H1, H1 = (((H0.new (.cells (encPt ⟨0, a⟩ ++ encPt ⟨k, b⟩) true)).new (.cells [nilS] true)).set (H0.n + 1) (some (.cells [.sl H0.n 0 6 2 (some 2)] true))) := ⟨_, rfl⟩
  refine bnd_of (x := H1) ?_ ?_
  · rw [st_agg, hH1]
    simp only [Hp.n_new, hp_get_new, if_true]
    rfl
  have m1 : H1.n = 4 := by rw [hH1]; simp [n0]
  have i2 : H1.get 2 = some (.cells ([encPt ⟨0, a⟩, encPt ⟨k, b⟩].flatten) true) := by rw [hH1]; simp [n0]
  have i3 : H1.get 3 = some (.cells [.sl 2 0 6 2 (some 2)] true) := by rw [hH1]; simp [n0]
  have i0 : H1.get 0 = some (.cells (encCp a) true) := by rw [hH1]; simp [n0, g0]
  have i1 : H1.get 1 = some (.cells (encCp b) true) := by rw [hH1]; simp [n0, g1]
  clear hH1
  have ep : (H0.new (.cells (encPt ⟨0, a⟩ ++ encPt ⟨k, b⟩) true)).n = 3 := by simp [n0]
  simp only [ep]
  have l1 : ∀ H : Hp, H.get 3 = some (.cells [.sl 2 0 6 2 (some 2)] true) → ldA true 1 H (.ptr 3 0) = some (.agg [.sl 2 0 6 2 (some 2)]) := fun H h => by rw [ld_ptr, h]; rfl
  rw [l1 _ i3, bnd_some]
  refine bnd_of (x := (.sl H1.n 0 1 1 (some 1), H1.new (.cells [.sl 2 0 6 2 (some 2)] true))) rfl ?_
  have hws : slsWf Lmax [s] := ⟨by show 1 ≤ Lmax; decide, fun s' h => by
    rw [List.mem_singleton.1 h, hs]
    refine ⟨by show 2 ≤ Lmax; decide, fun p hp => ?_⟩
    simp only [List.mem_cons, List.not_mem_nil, or_false] at hp
    rw [Pt.wf_iff]
    rcases hp with rfl | rfl
    · exact ⟨by show i64 0; unfold i64; decide, ha⟩
    · exact ⟨hki, hb⟩⟩
  obtain ⟨much, hdear, hfit⟩ := Dear_ok (σ := σ) [s] hws
  obtain ⟨H2, hH2⟩ : ∃ H2, H2 = H1.new (.cells [.sl 2 0 6 2 (some 2)] true) := ⟨_, rfl⟩
  have j2 : H2.get 2 = some (.cells ([encPt ⟨0, a⟩, encPt ⟨k, b⟩].flatten) true) := by rw [hH2]; simp [m1, i2]
  have j3 : H2.get 3 = some (.cells [.sl 2 0 6 2 (some 2)] true) := by rw [hH2]; simp [m1, i3]
  have j0 : H2.get 0 = some (.cells (encCp a) true) := by rw [hH2]; simp [m1, i0]
  have j1 : H2.get 1 = some (.cells (encCp b) true) := by rw [hH2]; simp [m1, i1]
  have j4 : H2.get H1.n = some (.cells [.sl 2 0 6 2 (some 2)] true) := by rw [hH2]; simp
  have fzs : Fz H2 (.sl 2 0 6 2 (some 2)) (.imm 6 (s.map encPt)) := by
    rw [hs]
    exact .rows (rows := [encPt ⟨0, a⟩, encPt ⟨k, b⟩]) j2 (by simp) (by simp only [List.drop_zero]; exact List.take_of_length_le (by simp)) (by simp [noIdss, noId_Pt])
  have fza : Fz H2 (.agg [.sl 2 0 6 2 (some 2)]) (.agg (encSl s)) := Fz.aggL (.cons fzs .nil)
  have fz : Fz H2 (.sl H1.n 0 1 1 (some 1)) (sls [s]) := .sl1 j4 (.cons fzs .nil) rfl
  rw [← hH2]
  clear hH2
  refine callK_of ((hdear Hp.empty).frzA (.cons fz .nil) rfl) ?_
  rcases trees_ok (σ := σ) L hW with hg | ⟨d, hT, hg⟩
  · refine callK_of (hg _) ?_
    simp only [x_tup, List.getElem?_cons_zero, List.getElem?_cons_succ, bnd_some, u_not, ifB_lit, Bool.not_true, Bool.not_false, Bool.false_eq_true, if_true, if_false]
    cases much <;> simp only [Bool.false_eq_true, if_true, if_false] <;> exact hK _
  refine callK_of (hg _) ?_
  simp only [x_tup, List.getElem?_cons_zero, List.getElem?_cons_succ, bnd_some, u_not, ifB_lit, Bool.not_true, Bool.not_false, Bool.false_eq_true, if_true, if_false]
  cases hm : much with
  | true => simp only [if_true]; exact hK _
  | false =>
  simp only [Bool.false_eq_true, if_false]
  have hF := hfit hm s (by simp)
  have fa : FitP 10 ⟨0, a⟩ := hF.2 ⟨0, a⟩ (by rw [hs]; simp)
  have fb : FitP 10 ⟨k, b⟩ := hF.2 ⟨k, b⟩ (by rw [hs]; simp)
  have fb0 : FitP 10 ⟨0, b⟩ := fb
  obtain ⟨S, X⟩ := part_bulk hws (hfit hm) (by rw [hs]; show 2 ≤ 10; decide) (by rw [hs]; show bkL (encCp a) + (bkL (encCp b) + 0) ≤ NB; omega)
  have Sa := selOne ha (by omega) fa
  have Sb := selOne hb (by omega) fb0
  rw [l1 _ j3, bnd_some]
  refine callK_of ((ds_ok 10 s 0 Hp.empty (hws.2 s (by simp)) (fun p hp q hq => S.nest s (by simp) p hp q hq) (by decide)).frzA (.cons fza (.cons (.refl rfl) .nil)) rfl) ?_
  simp only [ifB_lit, Nat.sub_zero]
  cases hms : mayS (mayF 10) 8 s with
  | false => simp only [Bool.not_false, if_true]; exact hK _
  | true =>
  simp only [Bool.not_true, Bool.false_eq_true, if_false]
  have hmab : mayC (mayF 10) 8 a = true ∧ mayC (mayF 10) 8 b = true := by
    rw [hs] at hms
    simp only [mayS, List.all_cons, List.all_nil, Bool.and_true, Bool.and_eq_true] at hms
    exact hms.2
  have M := hT.mc hC
  have hl40 := hT.len
  have hB := hT.hB
  have hN96 : L.length ≤ 4096 := by omega
  have hsel : ∀ e, e < L.length → selB L 11 s (e : Int) = ((List.range L.length).any (fun x => isB L k e x && compB (AA L) L x a) && compB (AA L) L e b) := by
    intro e he
    have q1 : (0 : Int) ≤ (e : Int) := by omega
    have q2 : (e : Int) < (L.length : Int) := by omega
    unfold selB mayAny
    simp only [q1, q2, decide_true, Bool.and_self, Bool.true_and, Int.toNat_natCast, List.any_cons, List.any_nil, Bool.or_false, mayF_one, hms]
    rw [frB_AA S.nest S.hf]
    have hfr : frB L s e = (compB (AA L) L e b && aheadF (frontB (AA L) L s 0) L k (e + 1) e) := by rw [hs]; rfl
    rw [hfr, ahead_is hB _ k he, Bool.and_comm]
    have : ∀ x, frontB (AA L) L s 0 x = compB (AA L) L x a := fun x => by rw [hs]; rfl
    simp only [this]
  -- the outer loop
  have L0 : ∀ (f e : Nat) (y16 y17 y18 y19 : AV), L.length - e = f → e ≤ L.length → law10_MatchCombs.L0 σ K (nds L) (I k) (.ptr 0 0) (.ptr 1 0) (.ptr 3 0) (domT L d) (refT L d) (I (e : Int)) y16 y17 y18 y19 H2 := by
    intro f
    induction f with
    | zero =>
      intro e y16 y17 y18 y19 hf he
      have : e = L.length := by omega
      subst this
      refine law10_MatchCombs.L0_step ?_
      simp only [len_nds, bnd_some, b_lss, Int.lt_irrefl, decide_false, ifB_lit, Bool.false_eq_true, if_false]
      exact hK _
    | succ f ih =>
      intro e y16 y17 y18 y19 hf he
      have hlt : e < L.length := by omega
      have hlt' : (e : Int) < L.length := by omega
      refine law10_MatchCombs.L0_step ?_
      simp only [len_nds, bnd_some, b_lss, hlt', decide_true, ifB_lit, if_true]
      have L1 : ∀ (g x : Nat) (y18 y19 : AV), L.length - x = g → x ≤ L.length → law10_MatchCombs.L1 σ K (nds L) (I k) (.ptr 0 0) (.ptr 1 0) (.ptr 3 0) (domT L d) (refT L d) (I (e : Int)) (Bo ((List.range x).any fun x => isB L k e x && compB (AA L) L x a)) (I (x : Int)) y18 y19 H2 := by
        intro g
        induction g with
        | zero =>
          intro x y18 y19 hg hx
          have : x = L.length := by omega
          subst this
          refine law10_MatchCombs.L1_step ?_
          simp only [len_nds, bnd_some, b_lss, Int.lt_irrefl, decide_false, ifB_lit, Bool.false_eq_true, if_false]
          rw [l1 _ j3, bnd_some]
          refine callK_of ((Sel_ok M S (e : Int) Hp.empty).frzA (.cons (.refl (noId_domT _ _)) (.cons (.refl rfl) (.cons fza .nil))) rfl) ?_
          rw [hsel e hlt]
          cases hah : (List.range L.length).any (fun x => isB L k e x && compB (AA L) L x a) with
          | true =>
            simp only [if_true, Bool.true_and]
            rw [l5 _ _ _ j1, bnd_some]
            refine callK_of (Cp_ok M Sb (e : Int) _) ?_
            rw [cpB_may Sb hmab.2 hlt]
            simp only [e_boolN, BEq.rfl, Bool.not_true, bnd_some, ifB_lit, Bool.false_eq_true, if_false, b_add]
            rw [wr_succ (by omega)]
            exact ih (e + 1) _ _ _ _ (by omega) (by omega)
          | false =>
            simp only [Bool.false_eq_true, if_false, Bool.false_and, e_boolN, BEq.rfl, Bool.not_true, bnd_some, ifB_lit, b_add]
            rw [wr_succ (by omega)]
            exact ih (e + 1) _ _ _ _ (by omega) (by omega)
        | succ g ihg =>
          intro x y18 y19 hg hx
          have hxl : x < L.length := by omega
          have hxl' : (x : Int) < L.length := by omega
          have hrs : ∀ P : Nat → Bool, (List.range (x + 1)).any P = ((List.range x).any P || P x) := fun P => by
            rw [List.range_succ, List.any_append]; simp
          have J3 : ∀ (y19 : AV), law10_MatchCombs.J3 σ K (nds L) (I k) (.ptr 0 0) (.ptr 1 0) (.ptr 3 0) (domT L d) (refT L d) (I (e : Int)) (Bo ((List.range x).any fun x => isB L k e x && compB (AA L) L x a)) (I (x : Int)) (Bo (isB L k e x)) y19 H2 := by
            intro y19
            have nxt := ihg (x + 1)
            rw [hrs] at nxt
            refine law10_MatchCombs.J3_step ?_
            cases hah : (List.range x).any (fun x => isB L k e x && compB (AA L) L x a) with
            | true =>
              rw [hah] at nxt
              simp only [ifB_lit, if_true, b_add, bnd_some]
              rw [wr_succ (by omega)]
              exact nxt _ _ (by omega) (by omega)
            | false =>
              rw [hah] at nxt
              simp only [ifB_lit, Bool.false_eq_true, if_false]
              cases his : isB L k e x with
              | true =>
                rw [his] at nxt
                simp only [if_true]
                rw [l5 _ _ _ j0, bnd_some]
                refine callK_of (Cp_ok M Sa (x : Int) _) ?_
                rw [cpB_may Sa hmab.1 hxl, b_add, bnd_some, wr_succ (by omega)]
                exact nxt _ _ (by omega) (by omega)
              | false =>
                rw [his] at nxt
                simp only [Bool.false_eq_true, if_false, b_add, bnd_some]
                rw [wr_succ (by omega)]
                exact nxt _ _ (by omega) (by omega)
          refine law10_MatchCombs.L1_step ?_
          simp only [len_nds, bnd_some, b_lss, hxl', decide_true, ifB_lit, if_true, b_eql, decide_eq_true_eq]
          split
          · rename_i h1
            have hanc : isB L k e x = ancB L (e + 1) (par L e) x := by unfold isB; rw [if_pos h1]
            rw [hanc] at J3
            refine callK_of (rParent_ok L d hlt _) ?_
            have hpb := par_bd hB hlt
            have L2 : ∀ (f : Nat) (p : Int) (c : Bool), (p = -1 ∨ ∃ q : Nat, p = q ∧ q < f ∧ q < L.length) → (c || ancB L (f + 1) p x) = ancB L (e + 1) (par L e) x → law10_MatchCombs.L2 σ K (nds L) (I k) (.ptr 0 0) (.ptr 1 0) (.ptr 3 0) (domT L d) (refT L d) (I (e : Int)) (Bo ((List.range x).any fun x => isB L k e x && compB (AA L) L x a)) (I (x : Int)) (Bo c) (I p) H2 := by
              intro f
              induction f with
              | zero =>
                intro p c hp hc
                obtain rfl : p = -1 := by rcases hp with h | ⟨q, _, h, _⟩ <;> omega
                refine law10_MatchCombs.L2_step ?_
                simp only [b_geq, bnd_some, show ¬ ((0 : Int) ≤ -1) from by decide, decide_false, ifB_lit, Bool.false_eq_true, if_false]
                have hc' : c = ancB L (e + 1) (par L e) x := by rw [← hc]; simp [ancB]
                rw [hc']
                exact J3 _
              | succ f ihf =>
                intro p c hp hc
                rcases hp with rfl | ⟨q, rfl, hq, hqL⟩
                · refine law10_MatchCombs.L2_step ?_
                  simp only [b_geq, bnd_some, show ¬ ((0 : Int) ≤ -1) from by decide, decide_false, ifB_lit, Bool.false_eq_true, if_false]
                  have hc' : c = ancB L (e + 1) (par L e) x := by rw [← hc]; simp [ancB]
                  rw [hc']
                  exact J3 _
                · refine law10_MatchCombs.L2_step ?_
                  simp only [b_geq, bnd_some, Int.natCast_nonneg, decide_true, ifB_lit, if_true]
                  have hqb := par_bd hB hqL
                  have hq' : par L q = -1 ∨ ∃ q' : Nat, par L q = q' ∧ q' < f ∧ q' < L.length := by
                    rcases hqb with h | ⟨j, h, hj⟩
                    · exact .inl h
                    · exact .inr ⟨j, h, by omega, by omega⟩
                  rw [ancB] at hc
                  simp only [Int.natCast_nonneg, decide_true, Bool.true_and, Int.toNat_natCast] at hc
                  cases hcc : c with
                  | true =>
                    simp only [if_true]
                    refine callK_of (rParent_ok L d hqL _) ?_
                    exact ihf (par L q) true hq' (by rw [← hc, hcc]; simp)
                  | false =>
                    simp only [Bool.false_eq_true, if_false, b_eql, bnd_some]
                    refine callK_of (rParent_ok L d hqL _) ?_
                    refine ihf (par L q) _ hq' ?_
                    rw [← hc, hcc, Bool.false_or]
            refine L2 e (par L e) false ?_ (by rw [Bool.false_or])
            rcases hpb with h | ⟨j, h, hj⟩
            · exact .inl h
            · exact .inr ⟨j, h, by omega, by omega⟩
          rename_i h1
          split
          · rename_i h2
            have : isB L k e x = decide (par L e = (x : Int)) := by unfold isB; rw [if_neg h1, if_pos h2]
            rw [this] at J3
            refine callK_of (rParent_ok L d hlt _) ?_
            rw [b_eql, bnd_some]
            exact J3 _
          rename_i h2
          split
          · rename_i h3
            have : isB L k e x = decide (before L e = (x : Int)) := by unfold isB; rw [if_neg h1, if_neg h2, if_pos h3]
            rw [this] at J3
            refine callK_of (rBefore_ok L d hN96 hlt _) ?_
            rw [b_eql, bnd_some]
            exact J3 _
          rename_i h3
          split
          · rename_i h4
            have : isB L k e x = (decide (0 < e) && (decide (0 < x) && (decide (x < e) && decide (par L e = par L x)))) := by unfold isB; rw [if_neg h1, if_neg h2, if_neg h3, if_pos h4]
            rw [this] at J3
            simp only [b_gtr, bnd_some, ifB_lit, decide_eq_true_eq]
            by_cases q1 : 0 < e
            · have q1' : (0 : Int) < e := by omega
              simp only [q1', if_true]
              by_cases q2 : 0 < x
              · have q2' : (0 : Int) < x := by omega
                simp only [q2', if_true, b_lss, bnd_some, ifB_lit, decide_eq_true_eq]
                by_cases q3 : x < e
                · have q3' : (x : Int) < e := by omega
                  simp only [q3', if_true]
                  refine callK_of (rParent_ok L d hlt _) ?_
                  refine callK_of (rParent_ok L d hxl _) ?_
                  rw [b_eql, bnd_some]
                  simpa [q1, q2, q3] using J3 y19
                · have q3' : ¬ (x : Int) < e := by omega
                  simp only [q3', if_false]
                  simpa [q1, q2, q3] using J3 y19
              · have q2' : ¬ (0 : Int) < x := by omega
                simp only [q2', if_false]
                simpa [q1, q2] using J3 y19
            · have q1' : ¬ (0 : Int) < e := by omega
              simp only [q1', if_false]
              simpa [q1] using J3 y19
          · rename_i h4
            have : isB L k e x = false := by unfold isB; rw [if_neg h1, if_neg h2, if_neg h3, if_neg h4]
            rw [this] at J3
            exact J3 _
      have := L1 L.length 0 y18 y19 rfl (Nat.zero_le _)
      exact this
  exact L0 _ 0 _ _ _ _ rfl (Nat.zero_le _)
end
theorem MatchCombs_walk {H : Type} {enc : TypeId × Value → H} (W : World) (hsh : W.ShapedOpen Try.prog) {v0 v1 v2 v3 : Value} {r : Reach} {b0 base : Nat} {spare : Nat → Bool} {held : Bool} {d0 d1 d2 d3 : DataW H} {p0 p1 p2 p3 : List MemPlace}
    (e0 : Value.okWide Try.prog W r b0 T_sl_api_Node v0) (h0 : DataW.Trod enc Try.prog W base spare held T_sl_api_Node v0 d0 p0) (w0 : ∀ n ∈ d0.weights Try.prog T_sl_api_Node, n ≤ reachBytes)
    (e1 : Value.okWide Try.prog W r b0 T_api_Compound v1) (h1 : DataW.Trod enc Try.prog W base spare held T_api_Compound v1 d1 p1) (w1 : ∀ n ∈ d1.weights Try.prog T_api_Compound, n ≤ reachBytes)
    (e2 : Value.okWide Try.prog W r b0 T_api_Compound v2) (h2 : DataW.Trod enc Try.prog W base spare held T_api_Compound v2 d2 p2) (w2 : ∀ n ∈ d2.weights Try.prog T_api_Compound, n ≤ reachBytes)
    (e3 : Value.okWide Try.prog W r b0 T_int v3) (h3 : DataW.Trod enc Try.prog W base spare held T_int v3 d3 p3) (w3 : ∀ n ∈ d3.weights Try.prog T_int, n ≤ reachBytes)
    (hk : bulkDs [d0, d1, d2, d3] ≤ 1048576) :
    Calls Try.prog n_law10_MatchCombs #[v0, v1, v2, v3] W fun e W' => e = .returned (.bool true) ∧ Below W.heap.size W W' := by
  obtain ⟨x0, r0, s0⟩ := read_arg (P := Try.prog) (ti := tiT.get) (S := readB) (t := T_sl_api_Node) (σ := sigM) tiT_ok readB_closed (inB_mem (by kernel_rfl)) e0 h0 w0
  obtain ⟨x1, r1, s1, k1⟩ := read_argB (P := Try.prog) (ti := tiT.get) (S := readB) (t := T_api_Compound) (σ := sigM) tiT_ok readB_closed (inB_mem (by kernel_rfl)) e1 h1 w1
  obtain ⟨x2, r2, s2, k2⟩ := read_argB (P := Try.prog) (ti := tiT.get) (S := readB) (t := T_api_Compound) (σ := sigM) tiT_ok readB_closed (inB_mem (by kernel_rfl)) e2 h2 w2
  obtain ⟨x3, r3, s3⟩ := read_arg (P := Try.prog) (ti := tiT.get) (S := readB) (t := T_int) (σ := sigM) tiT_ok readB_closed (inB_mem (by kernel_rfl)) e3 h3 w3
  obtain ⟨a, rfl, ha, _⟩ := v_nodes s0
  obtain ⟨c, rfl, hc⟩ := v_cp s1
  obtain ⟨c', rfl, hc'⟩ := v_cp s2
  obtain ⟨k, rfl, hki⟩ := v_int s3
  simp only [bulkDs] at hk
  simp only [bk] at k1 k2
  obtain ⟨Hf, hg⟩ := MatchCombs_good (hasC sigM_g) ha hc hc' hki (by show _ ≤ 1048576; omega)
  exact law_of_good (relL4 r0 r1 r2 r3) hg (gMax_ok W hsh sigM_g)
end Go.Proofs.Ythmaggcfghjmfaa.Ev

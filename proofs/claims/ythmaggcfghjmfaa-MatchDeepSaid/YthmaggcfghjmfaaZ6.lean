/- The walks, part 6: the evaluator, the functions, the laws. Conditions: none. -/
import Derived.Shelf.LaysM
import Derived.Shelf.Strings.Search1
import Derived.Shelf.Strings.Search2
import Derived.Shelf.Strings.Search3
import Derived.Shelf.Strings.Shaped
import Derived.Test.YthmaggcfghjmfaaZ5
namespace Go.Proofs.Ythmaggcfghjmfaa.Ev
open Go.Shelf Go.Proofs
def laysM144_ren : Ren :=
{
  f := fun x =>
    match x with
    | 144 => 124
    | 143 => 128
    | 219 => 131
    | 217 => 132
    | 225 => 133
    | 224 => 134
    | 267 => 135
    | 266 => 136
    | 314 => 137
    | n => n,
  t := fun x =>
    match x with
    | 9 => 9
    | 4 => 4
    | 3 => 3
    | 5 => 5
    | 46 => 142
    | 146 => 163
    | 51 => 162
    | n => n,
  g := fun x =>
    match x with
    | 1 => 0
    | n => n }
theorem laysM144 : LaysM.n144 Try.prog laysM144_ren :=
{ mixed := by kernel_rfl, f143 := Eq.trans Try.func128 (congrArg some (Eq.refl (Body.n143 laysM144_ren))),
  f144 := Eq.trans Try.func124 (congrArg some (Eq.refl (Body.n144 laysM144_ren))),
  f217 := Eq.trans Try.func132 (congrArg some (Eq.refl (Body.n217 laysM144_ren))),
  f219 := Eq.trans Try.func131 (congrArg some (Eq.refl (Body.n219 laysM144_ren))),
  f224 := Eq.trans Try.func134 (congrArg some (Eq.refl (Body.n224 laysM144_ren))),
  f225 := Eq.trans Try.func133 (congrArg some (Eq.refl (Body.n225 laysM144_ren))),
  f266 := Eq.trans Try.func136 (congrArg some (Eq.refl (Body.n266 laysM144_ren))),
  f267 := Eq.trans Try.func135 (congrArg some (Eq.refl (Body.n267 laysM144_ren))),
  f314 := Eq.trans Try.func137 (congrArg some (Eq.refl (Body.n314 laysM144_ren))), t3 := Try.underlying3,
  a3 := Try.isAgg3, z3 := Try.sizeOf3, v3 := Try.zeroValue3, t4 := Try.underlying4, a4 := Try.isAgg4, z4 := Try.sizeOf4,
  v4 := Try.zeroValue4, t5 := Try.underlying5, a5 := Try.isAgg5, z5 := Try.sizeOf5, v5 := Try.zeroValue5,
  t9 := Try.underlying9, a9 := Try.isAgg9, z9 := Try.sizeOf9, v9 := Try.zeroValue9, t46 := Try.underlying142,
  a46 := Try.isAgg142, z46 := Try.sizeOf142, v46 := Try.zeroValue142, t51 := Try.underlying162, a51 := Try.isAgg162,
  z51 := Try.sizeOf162, v51 := Try.zeroValue162, t146 := Try.underlying163, a146 := Try.isAgg163, z146 := Try.sizeOf163,
  v146 := Try.zeroValue163, g1 := by kernel_rfl,
  i3 := by kernel_rfl, i4 := by kernel_rfl,
  i5 := by kernel_rfl,
  i9 := by kernel_rfl,
  i46 := by kernel_rfl,
  i51 := by kernel_rfl,
  i146 := by kernel_rfl,
  m1 := by kernel_rfl,
  s1_3 := fun w h => Go.Proofs.cell_of_shapedOpen_int h (zero := #[Go.Value.int Go.IntKind.i64 0]) (t := 3) (of_decide_eq_true (by kernel_rfl)) (by kernel_rfl) rfl (by kernel_rfl) (by kernel_rfl) Try.underlying3 }
def gMax : Nat := laysM144_ren.g 1
theorem hasC {σ : Sig} (hg : σ.g = some gMax) : HasC σ := by
  intro s t H hs
  refine ⟨⟨_, Try.func124, by kernel_rfl, by kernel_rfl⟩, fun B w0 E w vs hσ hst hx => ?_⟩
  obtain ⟨_, m, hm⟩ := hst.glNow gMax (by rw [hσ]; exact hg)
  have hl := hx.len
  obtain ⟨v0, v1, rfl⟩ : ∃ v0 v1, vs = #[v0, v1] := by
    obtain ⟨l⟩ := vs
    match l, hl with
    | [a, b], _ => exact ⟨a, b, rfl⟩
  have r0 := hx.at_ 0 _ v0 rfl (by simp)
  have r1 := hx.at_ 1 _ v1 rfl (by simp)
  cases r0
  cases r1
  refine (Any.strings_Contains (ρ := laysM144_ren) { laysM144 with } s t m w hs hm).mono fun e w' he => ?_
  obtain ⟨rfl, rfl⟩ := he
  exact ⟨E, _, rfl, .refl E, hst, .lit _⟩
theorem gMax_ok (W : World) (h : W.ShapedOpen Try.prog) {σ : Sig} (hg : σ.g = some gMax) : ∀ g, σ.g = some g → ∃ m : Int, W.cell? ⟨g, 0, none⟩ = some (.int .i64 m) := by
  intro g hg'
  rw [hg] at hg'
  cases hg'
  exact laysM144.s1_3 W h
end Go.Proofs.Ythmaggcfghjmfaa.Ev
namespace Go.Proofs.Ythmaggcfghjmfaa.Ev
set_option linter.unusedVariables false
set_option linter.unusedSimpArgs false
set_option maxRecDepth 100000
variable {σ : Sig}
def alL : List Nd := [⟨-1, emp, emp, [], []⟩, ⟨0, emp, emp, [], []⟩, ⟨0, emp, emp, [], []⟩, ⟨0, emp, emp, [], []⟩]
def alS : Sl := [⟨0, .mk emp [] [] [] [.mk 6 2 1 []]⟩]
theorem alB : Built alL alL.length [0, 1, 1, 1] := by
  have h1 : Built alL 1 [0] := Built.first (by decide) rfl
  have h2 : Built alL 2 [0, 1] := h1.next (p := 0) (x := 0) (by decide) (by decide) rfl (by decide) rfl (by decide)
  have h3 : Built alL 3 [0, 1, 1] := h2.next (p := 0) (x := 0) (by decide) (by decide) rfl (by decide) rfl (by decide)
  exact h3.next (p := 0) (x := 0) (by decide) (by decide) rfl (by decide) rfl (by decide)
theorem alW : ∀ n ∈ alL, NdWf n := by
  intro n hn
  simp only [alL, List.mem_cons, List.not_mem_nil, or_false] at hn
  rcases hn with rfl | rfl | rfl | rfl <;> exact ⟨by unfold i64; decide, by decide, by decide, by decide, by intro p hp; cases hp⟩
theorem alSm : ∀ e, e < alL.length → SmN (lowN (ndAt alL e)) := by
  intro e he
  have : e = 0 ∨ e = 1 ∨ e = 2 ∨ e = 3 := by simp [alL] at he; omega
  rcases this with rfl | rfl | rfl | rfl <;> exact ⟨by decide, by decide, by intro p hp; cases hp⟩
theorem alM (hC : HasC σ) : McT σ alL [0, 1, 1, 1] := ⟨hC, alB, by decide, alSm⟩
theorem alSO : SelOk 2 [alS] := by
  refine ⟨⟨by decide, fun s hs => ?_⟩, ⟨by decide, fun s hs => ?_⟩, fun s hs p hp q hq => ?_, by decide, by decide⟩
  · rw [List.mem_singleton.1 hs]
    refine ⟨by decide, fun p hp => ?_⟩
    rw [List.mem_singleton.1 hp, Pt.wf_iff]
    refine ⟨by unfold i64; decide, by decide, ⟨by decide, fun s h => by cases h⟩, ⟨by decide, fun s h => by cases h⟩, by decide, (fun s h => by cases h), by decide, fun q hq => ?_⟩
    rw [List.mem_singleton.1 hq, Ps.wf_iff]
    exact ⟨by unfold i64; decide, by unfold i64; decide, by unfold i64; decide, by decide, fun s h => by cases h⟩
  · rw [List.mem_singleton.1 hs]
    refine ⟨by decide, fun p hp => ?_⟩
    rw [List.mem_singleton.1 hp]
    refine ⟨⟨by decide, by decide, by decide, (fun s h => by cases h), by decide⟩, by decide, fun q hq => ?_⟩
    rw [List.mem_singleton.1 hq]
    exact ⟨⟨by unfold i64; decide, by unfold i64; decide⟩, by decide, fun s h => by cases h⟩
  · rw [List.mem_singleton.1 hs] at hp
    rw [List.mem_singleton.1 hp] at hq
    rw [List.mem_singleton.1 hq]
    exact fun s h => by cases h
theorem al1 : selB alL 2 alS 1 = true := by kernel_rfl
theorem al2 : selB alL 2 alS 2 = false := by kernel_rfl
theorem al3 : selB alL 2 alS 3 = true := by kernel_rfl
theorem alive10 (hC : HasC σ) (H : Hp) : Good Try.prog σ n_law10_alive [] H (Bo true) H := by
  refine good_by (fun K hK => law10_alive.run ?_) rfl rfl H
  iterate 5 refine bnd_of rfl ?_
  refine callK_of (Good.drop (fun H => domNew_ok alB alW (by decide) H) (.cons (frzS_ok skNds _ _ (by kernel_rfl)) .nil)) ?_
  simp only [x_tup, List.getElem?_cons_zero, List.getElem?_cons_succ, bnd_some]
  iterate 6 refine bnd_of rfl ?_
  simp only [allocK_eq]
  refine bnd_of rfl ?_
  refine bnd_of rfl ?_
  refine callK_of ((Sel_ok (alM hC) alSO 1 Hp.empty).frzA (.cons (.refl (noId_domT _ _)) (.cons (.refl rfl) (.cons (frzS_ok (skS 1) _ _ (by kernel_rfl)) .nil))) rfl) ?_
  simp only [al1, ifB_lit, if_true]
  refine bnd_of rfl ?_
  refine callK_of ((Sel_ok (alM hC) alSO 2 Hp.empty).frzA (.cons (.refl (noId_domT _ _)) (.cons (.refl rfl) (.cons (frzS_ok (skS 1) _ _ (by kernel_rfl)) .nil))) rfl) ?_
  simp only [al2, u_not, bnd_some, ifB_lit, if_true, Bool.not_false]
  refine bnd_of rfl ?_
  refine callK_of ((Sel_ok (alM hC) alSO 3 Hp.empty).frzA (.cons (.refl (noId_domT _ _)) (.cons (.refl rfl) (.cons (frzS_ok (skS 1) _ _ (by kernel_rfl)) .nil))) rfl) ?_
  rw [al3]
  exact hK _
end Go.Proofs.Ythmaggcfghjmfaa.Ev
namespace Go.Proofs.Ythmaggcfghjmfaa.Ev
set_option linter.unusedVariables false
set_option linter.unusedSimpArgs false
variable {σ : Sig}
def bigS (s : ByteArray) : Bool := decide (60 < (s.data.size : Int))
def bigP (p : ByteArray × ByteArray) : Bool := bigS p.1 || decide (100 < (p.2.data.size : Int))
def bigN (n : Nd) : Bool := decide (8 < (n.classes.length : Int)) || (decide (8 < (n.attrs.length : Int)) || (bigS n.tag || (bigS n.id || (n.classes.any bigS || n.attrs.any bigP))))
def bigT (L : List Nd) : Bool := if 40 < L.length then (if L.length ≤ 4096 then true else decide (4100 < L.length)) else decide (4100 < L.length)
def bigR (L : List Nd) (m : Nat) : Bool := ((L.drop m).take (100 - m)).any bigN || bigT L
structure NdSm (n : Nd) : Prop where
  classes : n.classes.length ≤ 8
  attrs : n.attrs.length ≤ 8
  tag : n.tag.data.size ≤ 60
  id : n.id.data.size ≤ 60
  cl : ∀ s ∈ n.classes, s.data.size ≤ 60
  at' : ∀ p ∈ n.attrs, p.1.data.size ≤ 60 ∧ p.2.data.size ≤ 100
theorem NdSm.of {n : Nd} (h : bigN n = false) : NdSm n := by
  unfold bigN bigP bigS at h
  simp only [Bool.or_eq_false_iff, decide_eq_false_iff_not, List.any_eq_false, Bool.or_eq_true, decide_eq_true_eq, not_or] at h
  obtain ⟨h1, h2, h3, h4, h5, h6⟩ := h
  exact ⟨by omega, by omega, by omega, by omega, fun s hs => by have := h5 s hs; omega, fun p hp => by have := h6 p hp; omega⟩
theorem bigR_step {L : List Nd} {m : Nat} {n : Nd} (h : L[m]? = some n) (hm : m < 100) : bigR L m = (bigN n || bigR L (m + 1)) := by
  unfold bigR
  obtain ⟨j, hj⟩ : ∃ j, 100 - m = j + 1 := ⟨99 - m, by omega⟩
  rw [drop_get h, hj, List.take_succ_cons, List.any_cons, Bool.or_assoc, show 100 - (m + 1) = j by omega]
section
attribute [local irreducible] law9_Big.L0 law9_Big.L1 law9_Big.L2
theorem big_L2 {L : List Nd} {m : Nat} {n : Nd} (hn : L[m]? = some n) (hm : m < 100) {K : AV → Hp → Prop} {y4 : AV} (hl : n.attrs.length ≤ 8)
    (h0 : ∀ H y4 y5, (∀ H, K (Bo (bigR L (m + 1))) H) → law9_Big.L0 σ K (nds L) (I ((m + 1 : Nat) : Int)) y4 y5 H) : ∀ (f k : Nat) (H : Hp), n.attrs.length - k = f → k ≤ n.attrs.length → (∀ H, K (Bo ((n.attrs.drop k).any bigP || bigR L (m + 1))) H) →
    law9_Big.L2 σ K (nds L) (I (m : Int)) y4 (I (k : Int)) H := by
  have hix : ixaSl 5 (nds L) (I (m : Int)) = some (.ip (encNd n)) := ix_map hn
  intro f
  induction f with
  | zero =>
    intro k H hf hk hK
    have : k = n.attrs.length := by omega
    subst this
    refine law9_Big.L2_step ?_
    have hw : wr .i64 ((m : Int) + 1) = ((m + 1 : Nat) : Int) := wr_succ (by omega)
    simp only [hix, bnd_some, sh_ip, ld_ip, f_encNd4, len_imm, List.length_map, b_lss, Int.lt_irrefl, decide_false, ifB_lit, Bool.false_eq_true, if_false, b_add, hw]
    refine h0 _ _ _ ?_
    simpa using hK
  | succ f ih =>
    intro k H hf hk hK
    have hlt : k < n.attrs.length := by omega
    obtain ⟨p, hp⟩ := get_lt hlt
    rw [drop_get hp, List.any_cons] at hK
    have hlt' : (k : Int) < n.attrs.length := by omega
    have hixp : ixaSl 2 (.imm 2 (n.attrs.map encPr)) (I (k : Int)) = some (.ip (encPr p)) := ix_map hp
    have hw : wr .i64 ((k : Int) + 1) = ((k + 1 : Nat) : Int) := wr_succ (by omega)
    refine law9_Big.L2_step ?_
    simp only [hix, bnd_some, sh_ip, ld_ip, f_encNd4, len_imm, List.length_map, b_lss, hlt', decide_true, ifB_lit, if_true, hixp, List.drop_zero, f_encPr0, f_encPr1', len_str, b_gtr, decide_eq_true_eq, b_add, hw]
    split
    · rename_i h
      have : bigP p = true := by unfold bigP bigS; rw [decide_eq_true h, Bool.true_or]
      rw [this] at hK
      simpa using hK H
    rename_i h1
    split
    · rename_i h
      have : bigP p = true := by unfold bigP; rw [decide_eq_true h, Bool.or_true]
      rw [this] at hK
      simpa using hK H
    · rename_i h
      have : bigP p = false := by unfold bigP bigS; rw [decide_eq_false h, decide_eq_false h1]; rfl
      rw [this] at hK
      exact ih (k + 1) H (by omega) (by omega) (by simpa using hK)
theorem big_L1 {L : List Nd} {m : Nat} {n : Nd} (hn : L[m]? = some n) (hm : m < 100) {K : AV → Hp → Prop} {y5 : AV} (hl : n.attrs.length ≤ 8) (hl2 : n.classes.length ≤ 8)
    (h0 : ∀ H y4 y5, (∀ H, K (Bo (bigR L (m + 1))) H) → law9_Big.L0 σ K (nds L) (I ((m + 1 : Nat) : Int)) y4 y5 H) : ∀ (f k : Nat) (H : Hp), n.classes.length - k = f → k ≤ n.classes.length → (∀ H, K (Bo ((n.classes.drop k).any bigS || (n.attrs.any bigP || bigR L (m + 1)))) H) →
    law9_Big.L1 σ K (nds L) (I (m : Int)) (I (k : Int)) y5 H := by
  have hix : ixaSl 5 (nds L) (I (m : Int)) = some (.ip (encNd n)) := ix_map hn
  intro f
  induction f with
  | zero =>
    intro k H hf hk hK
    have : k = n.classes.length := by omega
    subst this
    refine law9_Big.L1_step ?_
    simp only [hix, bnd_some, sh_ip, ld_ip, f_encNd3, len_strs, b_lss, Int.lt_irrefl, decide_false, ifB_lit, Bool.false_eq_true, if_false]
    exact big_L2 hn hm hl h0 _ 0 H rfl (Nat.zero_le _) (by simpa using hK)
  | succ f ih =>
    intro k H hf hk hK
    have hlt : k < n.classes.length := by omega
    obtain ⟨p, hp⟩ := get_lt hlt
    rw [drop_get hp, List.any_cons] at hK
    have hlt' : (k : Int) < n.classes.length := by omega
    have hixp : ixaSl 1 (strs n.classes) (I (k : Int)) = some (.ip [Sx p]) := ix_map hp
    have lx : ∀ H, ldA false 1 H (.ip [Sx p]) = some (Sx p) := fun _ => rfl
    have hw : wr .i64 ((k : Int) + 1) = ((k + 1 : Nat) : Int) := wr_succ (by omega)
    refine law9_Big.L1_step ?_
    simp only [hix, bnd_some, sh_ip, ld_ip, f_encNd3, len_strs, b_lss, hlt', decide_true, ifB_lit, if_true, hixp, ldL_one, len_str, b_gtr, decide_eq_true_eq, b_add, hw]
    split
    · rename_i h
      have : bigS p = true := decide_eq_true h
      rw [this] at hK
      simpa using hK H
    · rename_i h
      have : bigS p = false := decide_eq_false h
      rw [this] at hK
      exact ih (k + 1) H (by omega) (by omega) (by simpa using hK)
theorem big_end {L : List Nd} {K : AV → Hp → Prop} {H : Hp} (hK : ∀ H, K (Bo (bigT L)) H) : bnd (lenSl (nds L)) fun x24 => bnd (binR .gtr x24 (I 40)) fun x25 => ifB x25 (bnd (lenSl (nds L)) fun x26 => bnd (binR .leq x26 (I 4096)) fun x27 => ifB x27 (K (Bo true) H) (bnd (lenSl (nds L)) fun x28 => bnd (binR .gtr x28 (I 4100)) fun x29 => K x29 H)) (bnd (lenSl (nds L)) fun x30 => bnd (binR .gtr x30 (I 4100)) fun x31 => K x31 H) := by
  simp only [len_nds, bnd_some, b_gtr, b_leq, ifB_lit, decide_eq_true_eq]
  have e : decide ((4100 : Int) < (L.length : Int)) = decide (4100 < L.length) := by rw [decide_eq_decide]; omega
  rw [e]
  unfold bigT at hK
  by_cases h1 : 40 < L.length
  · have h1' : (40 : Int) < (L.length : Int) := by omega
    rw [if_pos h1] at hK
    rw [if_pos h1']
    by_cases h2 : L.length ≤ 4096
    · have h2' : (L.length : Int) ≤ 4096 := by omega
      rw [if_pos h2] at hK
      rw [if_pos h2']
      exact hK H
    · have h2' : ¬ (L.length : Int) ≤ 4096 := by omega
      rw [if_neg h2] at hK
      rw [if_neg h2']
      exact hK H
  · have h1' : ¬ (40 : Int) < (L.length : Int) := by omega
    rw [if_neg h1] at hK
    rw [if_neg h1']
    exact hK H
theorem Big_ok (L : List Nd) (H : Hp) : Good Try.prog σ n_law9_Big [nds L] H (Bo (bigR L 0)) H := by
  refine good_by (fun K hK => law9_Big.run ?_) (by simp [noIds, noId]) rfl H
  have L0 : ∀ (f m : Nat) (H : Hp) (y4 y5 : AV), 100 - m = f → m ≤ L.length → m ≤ 100 → (∀ H, K (Bo (bigR L m)) H) → law9_Big.L0 σ K (nds L) (I (m : Int)) y4 y5 H := by
    intro f
    induction f with
    | zero =>
      intro m H y4 y5 hf hm hm2 hK
      obtain rfl : m = 100 := by omega
      have hK : ∀ H, K (Bo (bigT L)) H := by simpa [bigR] using hK
      refine law9_Big.L0_step ?_
      have e0 : ¬ (((100 : Nat) : Int) < 100) := by decide
      by_cases h : ((100 : Nat) : Int) < L.length
      · simp only [len_nds, bnd_some, b_lss, h, decide_true, ifB_lit, if_true, e0, decide_false, Bool.false_eq_true, if_false]
        have hE := big_end (H := H) hK
        simp only [len_nds, bnd_some, b_gtr, b_leq] at hE ⊢
        exact hE
      · simp only [len_nds, bnd_some, b_lss, h, decide_false, ifB_lit, Bool.false_eq_true, if_false]
        have hE := big_end (H := H) hK
        simp only [len_nds, bnd_some, b_gtr, b_leq] at hE ⊢
        exact hE
    | succ f ih =>
      intro m H y4 y5 hf hm hm2 hK
      refine law9_Big.L0_step ?_
      have e0 : ((m : Nat) : Int) < 100 := by omega
      by_cases h : m < L.length
      · have h' : (m : Int) < L.length := by omega
        obtain ⟨n, hn⟩ := get_lt h
        rw [bigR_step hn (by omega)] at hK
        have hix : ixaSl 5 (nds L) (I (m : Int)) = some (.ip (encNd n)) := ix_map hn
        simp only [len_nds, bnd_some, b_lss, h', decide_true, ifB_lit, if_true, e0, hix, sh_ip, ld_ip, f_encNd3, f_encNd4, f_encNd1', f_encNd2, len_strs, len_imm, List.length_map, len_str, b_gtr, decide_eq_true_eq]
        unfold bigN at hK
        split
        · rename_i h1; simp only [h1, decide_true, Bool.true_or] at hK; exact hK H
        rename_i h1
        split
        · rename_i h2; simp only [h2, decide_true, Bool.true_or, Bool.or_true] at hK; exact hK H
        rename_i h2
        split
        · rename_i h3
          have : bigS n.tag = true := decide_eq_true h3
          simp only [this, Bool.true_or, Bool.or_true] at hK; exact hK H
        rename_i h3
        split
        · rename_i h4
          have : bigS n.id = true := decide_eq_true h4
          simp only [this, Bool.true_or, Bool.or_true] at hK; exact hK H
        rename_i h4
        have t3 : bigS n.tag = false := decide_eq_false h3
        have t4 : bigS n.id = false := decide_eq_false h4
        simp only [h1, h2, t3, t4, decide_false, Bool.false_or, Bool.or_assoc] at hK
        exact big_L1 hn (by omega) (by omega) (by omega) (fun H y4 y5 hK' => ih (m + 1) H y4 y5 (by omega) (by omega) (by omega) hK') _ 0 H rfl (Nat.zero_le _) (by simpa using hK)
      · have h' : ¬ (m : Int) < L.length := by omega
        have : m = L.length := by omega
        subst this
        have hK : ∀ H, K (Bo (bigT L)) H := by simpa [bigR] using hK
        simp only [len_nds, bnd_some, b_lss, h', decide_false, ifB_lit, Bool.false_eq_true, if_false]
        have hE := big_end (H := H) hK
        simp only [len_nds, bnd_some, b_gtr, b_leq] at hE ⊢
        exact hE
  exact L0 _ 0 _ _ _ rfl (Nat.zero_le _) (by decide) hK
end
theorem good_byI {P : Program} {σ : Sig} {f : Nat} {xs : List AV} {r : AV} (h : ∀ K : AV → Hp → Prop, (∀ H, K r H) → ∃ r' H1, Good P σ f xs Hp.empty r' H1 ∧ K r' H1) (hx : noIds xs = true) (hr : noId r = true) (H : Hp) : Good P σ f xs H r H := by
  obtain ⟨r', H1, hg, e⟩ := h (fun r' _ => r' = r) (fun _ => rfl)
  subst e
  exact hg.frzR hx (.refl hr) H
structure TreeOk (L : List Nd) (d : List Nat) : Prop where
  len : L.length ≤ 40
  hB : Built L L.length d
  sm : ∀ n ∈ L, NdSm n
theorem trees_yes (L : List Nd) (hW : ∀ n ∈ L, NdWf n) {d0 : List Nat} (hB0 : Built L L.length d0) (hl : L.length ≤ 40) (hs : ∀ n ∈ L, NdSm n) : ∃ d, TreeOk L d ∧ ∀ H, Good Try.prog σ n_law10_trees [nds L] H (.tup [domT L d, refT L d, Bo true]) H := by
  have hb : bigR L 0 = false := by
    have h1 : (L.any bigN) = false := by
      rw [List.any_eq_false]
      intro n hn
      have h := hs n hn
      have h1 := h.classes
      have h2 := h.attrs
      have h3 := h.tag
      have h4 := h.id
      have h5 : n.classes.any bigS = false := by
        rw [List.any_eq_false]; intro s hs'; have := h.cl s hs'; unfold bigS; simp only [decide_eq_true_eq]; omega
      have h6 : n.attrs.any bigP = false := by
        rw [List.any_eq_false]; intro s hs'; have := h.at' s hs'; unfold bigP bigS; simp only [Bool.or_eq_true, decide_eq_true_eq]; omega
      have h7 : bigS n.tag = false := decide_eq_false (by omega)
      have h8 : bigS n.id = false := decide_eq_false (by omega)
      have h9 : decide (8 < (n.classes.length : Int)) = false := decide_eq_false (by omega)
      have h10 : decide (8 < (n.attrs.length : Int)) = false := decide_eq_false (by omega)
      unfold bigN
      rw [h5, h6, h7, h8, h9, h10]
      decide
    unfold bigR bigT
    rw [List.drop_zero, List.take_of_length_le (by omega), h1, if_neg (by omega)]
    simp; omega
  rcases refNew_ok (σ := σ) L hW with ⟨hnb, _⟩ | ⟨d, hN, hB, hg⟩
  · exact absurd hB0 (hnb (by omega) _)
  · refine ⟨d, ⟨hl, hB, hs⟩, fun H => good_byI (fun K hK => law10_trees.run (callK_of (Big_ok L _) (callK_of (hg _) ?_))) (by simp [noIds, noId]) ?_ H⟩
    · simp only [x_tup, List.getElem?_cons_zero, List.getElem?_cons_succ, bnd_some, hb, ifB_lit, b_neq, decide_true, Bool.not_true, Bool.false_eq_true, if_false]
      refine callK_of (domNew_ok hB hW hN _) ?_
      simp only [x_tup, List.getElem?_cons_zero, List.getElem?_cons_succ, bnd_some]
      exact hK _
    · simp [noId, noIds, noId_domT, noId_refT]
end Go.Proofs.Ythmaggcfghjmfaa.Ev
namespace Go.Proofs.Ythmaggcfghjmfaa.Ev
set_option linter.unusedVariables false
set_option linter.unusedSimpArgs false
theorem d_int {ts : List Nat} {zs : List AV} (h : Sh tiT.get (T_int :: ts) zs) : ∃ n ys, zs = I n :: ys ∧ i64 n ∧ Sh tiT.get ts ys := by
  obtain ⟨i, hi, hd, _⟩ := T_int_is
  obtain ⟨n, ys, e, hw, hs⟩ := sh_int hi hd h
  refine ⟨n, ys, e, ?_, hs⟩
  simp [Lit.wf, IntKind.min, IntKind.max, IntKind.signed, IntKind.bits] at hw
  unfold i64
  omega
def readB : List Nat := [T_int, T_string, T_bool, T_sl_string, T_sl_api_Attr, T_api_Attr, T_sl_api_Part, T_api_Part, T_api_Compound, T_sl_api_Pseudo, T_api_Pseudo, T_sl_api_Selector, T_api_Selector, T_sl_api_Node, T_api_Node, T_sl_api_Pair, T_api_Pair]
theorem readB_closed : closedB tiT.get readB = true := by kernel_rfl
end Go.Proofs.Ythmaggcfghjmfaa.Ev
namespace Go.Proofs.Ythmaggcfghjmfaa.Ev
theorem v_one {t sz : Nat} {d : TD} (hT : ∃ i, tiT.get t = some i ∧ i.d = d ∧ i.size = sz) (ha : d.agg = false) {x : AV} (h : ShV tiT.get t x) : Sh tiT.get [t] [x] := by
  obtain ⟨i, hi, hd, _⟩ := hT
  unfold ShV at h
  rw [hi] at h
  simp only [hd, ha] at h
  exact h
theorem v_int {x : AV} (h : ShV tiT.get T_int x) : ∃ n, x = I n ∧ i64 n := by
  obtain ⟨n, ys, e, w, hn⟩ := d_int (v_one T_int_is rfl h)
  cases e
  exact ⟨n, rfl, w⟩
end Go.Proofs.Ythmaggcfghjmfaa.Ev
namespace Go.Proofs.Ythmaggcfghjmfaa.Ev
end Go.Proofs.Ythmaggcfghjmfaa.Ev
namespace Go.Proofs.Ythmaggcfghjmfaa.Ev
set_option linter.unusedVariables false
set_option linter.unusedSimpArgs false
set_option maxRecDepth 100000
variable {σ : Sig}
abbrev nilS : AV := .lit (.slice none 0 0)
theorem NdSm.low {n : Nd} (h : NdSm n) : SmN (lowN n) := by
  have r : reachBytes = 140737488351232 := rfl
  refine ⟨by have := h.classes; show n.classes.length ≤ _; omega, by have := h.attrs; show (n.attrs.map lowPr).length ≤ _; rw [List.length_map]; omega, fun p hp => ?_⟩
  obtain ⟨q, hq, rfl⟩ := List.mem_map.1 hp
  have := (h.at' q hq).2
  show q.2.data.size < _
  omega
theorem TreeOk.smN {L : List Nd} {d : List Nat} (h : TreeOk L d) : ∀ e, e < L.length → SmN (lowN (ndAt L e)) := by
  intro e he
  refine (h.sm _ ?_).low
  unfold ndAt
  rw [List.getD_eq_getElem?_getD, List.getElem?_eq_getElem he]
  exact List.getElem_mem _
theorem TreeOk.mc {L : List Nd} {d : List Nat} (h : TreeOk L d) (hC : HasC σ) : McT σ L d := ⟨hC, h.hB, by have := h.len; omega, h.smN⟩
section
end
end Go.Proofs.Ythmaggcfghjmfaa.Ev
namespace Go.Proofs.Ythmaggcfghjmfaa.Ev
open Go.RowKit
def sigM : Sig := ⟨fun _ => 0, fun _ => false, fun _ => ⟨#[]⟩, some gMax⟩
theorem sigM_g : sigM.g = some gMax := rfl
end Go.Proofs.Ythmaggcfghjmfaa.Ev
namespace Go.Proofs.Ythmaggcfghjmfaa.Ev
open Go.RowKit
set_option linter.unusedVariables false
set_option linter.unusedSimpArgs false
set_option maxRecDepth 100000
variable {σ : Sig}
def cp0 : Cp := .mk emp [] [] [] []
def sl0 : Sl := [⟨0, cp0⟩]
theorem all_ok {l : List Sl} (h : ∀ s ∈ l, s = [] ∨ s = sl0) (hl : l.length ≤ 2) : SelOk 1 l := by
  have r : reachBytes = 140737488351232 := rfl
  have hp : ∀ s ∈ l, ∀ p ∈ s, p = ⟨0, cp0⟩ := by
    intro s hs p hp
    rcases h s hs with rfl | rfl
    · cases hp
    · exact List.mem_singleton.1 hp
  have hsl : ∀ s ∈ l, s.length ≤ 1 := by
    intro s hs
    rcases h s hs with rfl | rfl <;> decide
  refine ⟨⟨by show _ ≤ 9223372036854775807; omega, fun s hs => ⟨by show _ ≤ 9223372036854775807; have := hsl s hs; omega, fun p hp' => ?_⟩⟩, ⟨by show _ ≤ 1048576; omega, fun s hs => ⟨by show _ ≤ 1048576; have := hsl s hs; omega, fun p hp' => ?_⟩⟩, fun s hs p hp' q hq => ?_, by decide, ?_⟩
  · rw [hp s hs p hp', Pt.wf_iff]
    exact ⟨by show i64 0; unfold i64; decide, by show 0 ≤ Lmax; decide, ⟨by show 0 ≤ Lmax; decide, fun s h => by cases h⟩, ⟨by show 0 ≤ Lmax; decide, fun s h => by cases h⟩, by show 0 ≤ Lmax; decide, (fun s h => by cases h), by show 0 ≤ Lmax; decide, fun q hq => by cases hq⟩
  · rw [hp s hs p hp']
    exact ⟨⟨by show 0 ≤ reachBytes; decide, by show 0 ≤ reachBytes; decide, by show 0 ≤ reachBytes; decide, (fun s h => by cases h), by show 0 ≤ reachBytes; decide⟩, by show 0 ≤ NB; decide, fun q hq => by cases hq⟩
  · rw [hp s hs p hp'] at hq
    cases hq
  · show (l.map fun s => 1 + (s.map fun p => (p.c.pseudos.map fun q => cntF 0 q.list).sum).sum).sum ≤ 1048576
    have : ∀ s ∈ l, 1 + (s.map fun p => (p.c.pseudos.map fun q => cntF 0 q.list).sum).sum ≤ 1 := by
      intro s hs
      rcases h s hs with rfl | rfl <;> decide
    have hs : ∀ (l : List Sl), (∀ s ∈ l, 1 + (s.map fun p => (p.c.pseudos.map fun q => cntF 0 q.list).sum).sum ≤ 1) → (l.map fun s => 1 + (s.map fun p => (p.c.pseudos.map fun q => cntF 0 q.list).sum).sum).sum ≤ l.length := by
      intro l
      induction l with
      | nil => intro _; simp
      | cons a r ih =>
        intro hh
        have h1 := hh a (by simp)
        have h2 := ih fun s hs => hh s (by simp [hs])
        simp only [List.map_cons, List.sum_cons, List.length_cons]
        omega
    have := hs l this
    omega
theorem all_may {L : List Nd} {l : List Sl} (h : ∀ s ∈ l, s = [] ∨ s = sl0) (e : Nat) : mayAny L 1 l e = l.any fun s => !decide (s.length = 0) := by
  unfold mayAny
  rw [Bool.eq_iff_iff, List.any_eq_true, List.any_eq_true]
  have key : ∀ s ∈ l, (mayF 1 [s] 8 && AA L [s] e) = !decide (s.length = 0) := by
    intro s hs
    have hn : Nest 1 [s] := by
      intro s' hs' p hp q hq
      rw [List.mem_singleton.1 hs'] at hp
      rcases h s hs with rfl | rfl
      · cases hp
      · rw [List.mem_singleton.1 hp] at hq; cases hq
    rw [← AA_eq hn (by decide)]
    rcases h s hs with rfl | rfl
    · rfl
    · have hp : plainB (lowN (ndAt L e)) cp0 = true := by simp [plainB, tagB, cp0, Cp.tag, Cp.ids, Cp.classes, Cp.attrs]
      have : frontB (AA L) L sl0 0 e = compB (AA L) L e cp0 := rfl
      have hc : compB (AA L) L e cp0 = true := by unfold compB; rw [hp]; rfl
      have hm : mayF 1 [sl0] 8 = true := rfl
      rw [hm, Bool.true_and]
      show (anyS (AA L) L [sl0] e) = true
      simp only [anyS, List.any_cons, List.any_nil, Bool.or_false]
      show (!decide (0 + 1 = 0) && frontB (AA L) L sl0 0 e) = true
      rw [this, hc]; rfl
  constructor
  · rintro ⟨s, hs, hb⟩; exact ⟨s, hs, by rw [← key s hs]; exact hb⟩
  · rintro ⟨s, hs, hb⟩; exact ⟨s, hs, by rw [key s hs]; exact hb⟩
end Go.Proofs.Ythmaggcfghjmfaa.Ev
namespace Go.Proofs.Ythmaggcfghjmfaa.Ev
set_option linter.unusedVariables false
set_option linter.unusedSimpArgs false
variable {σ : Sig} {L : List Nd} {d : List Nat}
def TxL : Nat → List Sl → Prop
  | 0, _ => False
  | f + 1, l => ∀ s ∈ l, ∀ p ∈ s, (∀ a ∈ p.c.attrs, a.text.data.size < 4294967281) ∧ ∀ q ∈ p.c.pseudos, TxL f q.list
theorem TxL.one {f : Nat} {l : List Sl} (h : TxL f l) {s : Sl} (hs : s ∈ l) : TxL f [s] := by
  cases f with
  | zero => exact h
  | succ f => exact fun s' hs' => by rw [List.mem_singleton.1 hs']; exact h s hs
theorem RcOk.of {c : Cp} (h : CpOk c) (ht : ∀ a ∈ c.attrs, a.text.data.size < 4294967281) : RcOk c := ⟨h.ids, h.classes, h.attrs, h.ps, ht⟩
theorem frB_AA {f : Nat} {s : Sl} (hn : Nest f [s]) (hf : f ≤ 12) (e : Nat) : AA L [s] e = frB L s e := by
  rw [← AA_eq hn hf]
  simp [anyS, frB]
theorem mayF_one {f : Nat} {s : Sl} {dp : Nat} : mayF (f + 1) [s] dp = mayS (mayF f) dp s := by simp [mayF]
end Go.Proofs.Ythmaggcfghjmfaa.Ev
namespace Go.Proofs.Ythmaggcfghjmfaa.Ev
set_option linter.unusedVariables false
set_option linter.unusedSimpArgs false
inductive Gsc (sz : Nat) (H : Hp) : AV → List (List AV) → Prop where
  | gs {x : AV} {rows : List (List AV)} (h : Gs sz H x rows) : Gsc sz H x rows
  | full {id : Nat} {ex : Bool} {rows : List (List AV)} (hlt : id < H.n) (hg : H.get id = some (.cells rows.flatten ex)) (hsz : ∀ row ∈ rows, row.length = sz) (h0 : rows ≠ []) : Gsc sz H (.sl id 0 sz rows.length (some rows.length)) rows
theorem Gsc.lit {sz : Nat} {H : Hp} {row : List AV} (hl : row.length = sz) : Gsc sz (H.new (.cells row true)) (.sl H.n 0 sz 1 (some 1)) [row] := by
  refine .full (id := H.n) (rows := [row]) (by simp) (by simp; rfl) (by simp [hl]) (by simp)
theorem Gs.fzm {sz : Nat} {H : Hp} {x : AV} {rows rows' : List (List AV)} (h : Gs sz H x rows) (hl : rows.length = rows'.length) (hf : ∀ (i : Nat) r r', rows[i]? = some r → rows'[i]? = some r' → FzL H r r') : Fz H x (.imm sz rows') := by
  cases h with
  | nil =>
    have : rows' = [] := List.length_eq_zero_iff.1 (by simpa using hl.symm)
    subst this
    exact .nil
  | sl hlt hg hsz =>
    have hr : ∀ (i : Nat) r', rows'[i]? = some r' → ∃ r, rows[i]? = some r ∧ r.length = sz ∧ FzL H r r' := by
      intro i r' hi
      have hi' := (List.getElem?_eq_some_iff.1 hi).1
      obtain ⟨r, hr⟩ : ∃ r, rows[i]? = some r := ⟨rows[i]'(by omega), List.getElem?_eq_getElem _⟩
      exact ⟨r, hr, hsz r (List.mem_of_getElem? hr), hf i r r' hr hi⟩
    have hfl := flatten_len hsz
    refine .sl (fun i j => (rows.getD i []).getD j .any) hg hl.symm (fun i row hi => ?_) (fun i row j y hi hy => ?_) (fun i row j y hi hy => ?_)
    · obtain ⟨r, _, h1, h2⟩ := hr i row hi
      rw [← h2.len]; exact h1
    · obtain ⟨r, h0, h1, h2⟩ := hr i row hi
      obtain ⟨v, hv, _⟩ := h2.get.2 j y hy
      simp only [Nat.zero_add]
      have hk := rows_flat hsz i r j v h0 hv
      rw [hk]
      simp [h0, hv]
    · obtain ⟨r, h0, h1, h2⟩ := hr i row hi
      obtain ⟨v, hv, hfz⟩ := h2.get.2 j y hy
      simp [h0, hv]
      exact hfz
theorem LoopP.drop {P : Program} {C : Ctx P} {c : Code} {T T2 : List AV} {H : Hp} {Q : Exit → List AV → Hp → Prop} (hT : FzT H T T2) (h : LoopP C c T2 (Hp.bare H.n) Q) : LoopP C c T H Q :=
  LoopP.conv (Wk.frz (H2 := Hp.bare H.n) (Hd := H) rfl rfl (fun id k hk => ⟨hk, by simp⟩) (fun id k2 hk => by simp at hk) hT) h
end Go.Proofs.Ythmaggcfghjmfaa.Ev
namespace Go.Proofs.Ythmaggcfghjmfaa.Ev
theorem Wk.keep1 {σ : Sig} {T T2 : List AV} {H : Hp} {b : Nat} {cs cs' : List AV} {ex : Bool} (hb : H.get b = some (.cells cs ex)) (hf : FzL (H.set b none) cs cs') (hT : FzT (H.set b none) T T2) : Wk σ T H T2 ((Hp.bare H.n).set b (some (.cells cs' ex))) := by
  refine Wk.frz (Hd := H.set b none) rfl rfl (fun id k hk => ?_) (fun id k2 hk => ?_) hT
  · rw [hp_get_set] at hk
    split at hk
    · cases hk
    · rename_i hne
      exact ⟨hk, by simp [hne]⟩
  · rw [hp_get_set] at hk
    split at hk
    · rename_i he
      subst he
      cases hk
      refine ⟨_, hb, cs', rfl, hf.len, fun j x y hx hy => ?_⟩
      obtain ⟨x', hx', hfz⟩ := hf.get.2 j y hy
      rw [hx] at hx'
      cases hx'
      exact .inr hfz
    · simp at hk
theorem FzTr {Hd : Hp} : ∀ (T : List AV), FzT Hd T T
  | [] => .nil
  | x :: T => .same (FzTr T)
theorem LoopP.keep1 {P : Program} {C : Ctx P} {c : Code} {T : List AV} {H : Hp} {Q : Exit → List AV → Hp → Prop} {b : Nat} {cs cs' : List AV} {ex : Bool} (hb : H.get b = some (.cells cs ex)) (hf : FzL (H.set b none) cs cs') (h : LoopP C c T ((Hp.bare H.n).set b (some (.cells cs' ex))) Q) : LoopP C c T H Q :=
  LoopP.conv (Wk.keep1 hb hf (FzTr T)) h
end Go.Proofs.Ythmaggcfghjmfaa.Ev
namespace Go.Proofs.Ythmaggcfghjmfaa.Ev
open Go.RowKit
set_option linter.unusedVariables false
set_option linter.unusedSimpArgs false
set_option maxRecDepth 100000
variable {σ : Sig}
def ndP (p : Int) : Nd := ⟨p, emp, emp, [], []⟩
def rawP (p : Int) : List AV := [I p, Sx emp, Sx emp, nilS, nilS]
theorem raw_fz (H : Hp) (p : Int) : FzL H (rawP p) (encNd (ndP p)) := .cons (.refl rfl) (.cons (.refl rfl) (.cons (.refl rfl) (.cons .nil (.cons .nil .nil))))
theorem ndP_wf {p : Int} (h : i64 p) : NdWf (ndP p) := ⟨h, by show 0 ≤ reachBytes; decide, by show 0 ≤ reachBytes; decide, by show 0 ≤ reachBytes; decide, by intro p hp; cases hp⟩
section
end
section
end
end Go.Proofs.Ythmaggcfghjmfaa.Ev
namespace Go.Proofs.Ythmaggcfghjmfaa.Ev
open Go.RowKit
set_option linter.unusedVariables false
set_option linter.unusedSimpArgs false
set_option maxRecDepth 100000
variable {σ : Sig}
section
attribute [local irreducible] match_Any.L0
theorem Any_no {L : List Nd} {d : List Nat} {s : Sl} {f : Nat} (hwf : slsWf Lmax [s]) (hn : Nest f [s]) (hm : mayF f [s] 8 = false) (e : Int) (H : Hp) : Good Try.prog σ n_match_Any [domT L d, I e, sls [s]] H (Bo false) H := by
  refine good_by (fun K hK => match_Any.run (callK_of (is_ok L d e _) ?_)) (by simp [noIds, noId, noId_domT, noId_sls]) rfl H
  simp only [u_not, bnd_some, ifB_lit]
  cases hin : (decide (0 ≤ e) && decide (e < (L.length : Int))) with
  | false => simpa using hK _
  | true =>
  simp only [Bool.not_true, Bool.false_eq_true, if_false]
  refine match_begin.run ?_
  have hb : bldR [.lit (.pointer none), .lit (.slice none 0 0), .lit (.map none)] [(0, 1, domT L d), (2, 1, .mp Hp.empty.n)] = some [domT L d, .lit (.slice none 0 0), .mp Hp.empty.n] := rfl
  have hlen : lenSl (sls [s]) = some (I 1) := rfl
  simp only [hb, bnd_some, boxK_agg, hlen]
  have h0 : sls [s] = sls [s] := rfl
  have hs1 : slSl 1 (sls [s]) (some (I 0)) (some (I ((0 + 1 : Nat) : Int))) none = some (sls [s]) := sl_one (m := 0) rfl
  refine match_Any.L0_step ?_
  have hw : wr .i64 ((0 : Int) + 1) = 1 := wr64 (by decide) (by decide)
  have hs1 : slSl 1 (sls [s]) (some (I 0)) (some (I 1)) none = some (sls [s]) := hs1
  simp only [b_lss, bnd_some, show ((0 : Int) < 1) from by decide, decide_true, ifB_lit, if_true, b_add, hw, hs1]
  refine callK_of (may_ok f [s] 8 _ hwf hn (by decide)) ?_
  simp only [hm, ifB_lit, Bool.false_eq_true, if_false]
  refine match_Any.L0_step ?_
  simp only [b_lss, bnd_some, Int.lt_irrefl, decide_false, ifB_lit, Bool.false_eq_true, if_false]
  exact hK _
end
theorem Sel_no {L : List Nd} {d : List Nat} {s : Sl} {f : Nat} (hwf : slsWf Lmax [s]) (hn : Nest f [s]) (hm : mayF f [s] 8 = false) (e : Int) (H : Hp) : Good Try.prog σ n_match_Selector [domT L d, I e, .agg (encSl s)] H (Bo false) H := by
  refine good_by (fun K hK => match_Selector.run ?_) (by simp [noIds, noId, noId_domT, noId_Sl]) rfl H
  have hb : ∀ H : Hp, bldSlR [.slice none 0 0] 1 1 H [(0, 1, .agg (encSl s))] = some (.sl H.n 0 1 1 (some 1), H.new (.cells (encSl s) true)) := fun H => by
    unfold bldSlR encSl; rfl
  have hl : ∀ H : Hp, ldA true 1 (H.new (.cells (encSl s) true)) (.ptr H.n 0) = some (.agg (encSl s)) := fun H => by
    simp only [ld_ptr, hp_get_new, if_true, ldO_cells, List.drop_zero, ldL_sl]
  simp only [boxK_agg, hl, hb, bnd_some]
  refine callK_of ((Any_no hwf hn hm e Hp.empty).frzA (.cons (.refl (noId_domT L d)) (.cons (.refl rfl) (.cons (fz_sl1 (ex := true) (by simp)) .nil))) rfl) ?_
  exact hK _
def dSl : Nat → Sl
  | 0 => sl0
  | n + 1 => [⟨0, .mk emp [] [] [] [.mk 8 0 0 [dSl n]]⟩]
theorem dSl_wf : ∀ n, slWf Lmax (dSl n)
  | 0 => (all_ok (l := [sl0]) (fun s hs => .inr (List.mem_singleton.1 hs)) (by decide)).wf.2 sl0 (by simp)
  | n + 1 => by
    have ih := dSl_wf n
    refine ⟨by show 1 ≤ Lmax; decide, fun p hp => ?_⟩
    rw [dSl] at hp
    rw [List.mem_singleton.1 hp, Pt.wf_iff]
    refine ⟨by show i64 0; unfold i64; decide, by show 0 ≤ Lmax; decide, ⟨by show 0 ≤ Lmax; decide, fun s h => by cases h⟩, ⟨by show 0 ≤ Lmax; decide, fun s h => by cases h⟩, by show 0 ≤ Lmax; decide, (fun s h => by cases h), by show 1 ≤ Lmax; decide, fun q hq => ?_⟩
    rw [List.mem_singleton.1 hq, Ps.wf_iff]
    exact ⟨by show i64 8; unfold i64; decide, by show i64 0; unfold i64; decide, by show i64 0; unfold i64; decide, by show 1 ≤ Lmax; decide, fun s hs => by rw [List.mem_singleton.1 hs]; exact ih⟩
theorem dSl_nest : ∀ n, Nest (n + 1) [dSl n]
  | 0 => by
    intro s hs p hp q hq
    rw [List.mem_singleton.1 hs] at hp
    rw [List.mem_singleton.1 hp] at hq
    cases hq
  | n + 1 => by
    intro s hs p hp q hq
    rw [List.mem_singleton.1 hs, dSl] at hp
    rw [List.mem_singleton.1 hp] at hq
    rw [List.mem_singleton.1 hq]
    exact dSl_nest n
theorem dSl_ok : ∀ n, SlsOk (n + 1) [dSl n]
  | 0 => (all_ok (l := [sl0]) (fun s hs => .inr (List.mem_singleton.1 hs)) (by decide)).ok
  | n + 1 => by
    refine ⟨by show 1 ≤ NB; decide, fun s hs => ?_⟩
    rw [List.mem_singleton.1 hs, dSl]
    refine ⟨by show 1 ≤ NB; decide, fun p hp => ?_⟩
    rw [List.mem_singleton.1 hp]
    refine ⟨⟨by show 0 ≤ reachBytes; decide, by show 0 ≤ reachBytes; decide, by show 0 ≤ reachBytes; decide, (fun s h => by cases h), by show 1 ≤ reachBytes; decide⟩, by show 1 ≤ NB; decide, fun q hq => ?_⟩
    rw [List.mem_singleton.1 hq]
    exact ⟨⟨by show i64 0; unfold i64; decide, by show i64 0; unfold i64; decide⟩, dSl_ok n⟩
theorem dSl_cnt : ∀ n, cntF (n + 1) [dSl n] = n + 1
  | 0 => rfl
  | n + 1 => by
    rw [cntF]
    simp only [dSl, List.map_cons, List.map_nil, List.sum_cons, List.sum_nil, Pt.c, Cp.pseudos, Ps.list, dSl_cnt n]
    omega
theorem dSl_may : ∀ n dp, mayF (n + 1) [dSl n] dp = decide (n ≤ dp)
  | 0, dp => by rw [mayF_one]; simp [mayS, dSl, sl0, cp0, mayC, Pt.c, Cp.pseudos]
  | n + 1, dp => by
    rw [mayF_one]
    have ih := dSl_may n (dp - 1)
    simp only [mayS, dSl, List.length_cons, List.length_nil, List.all_cons, List.all_nil, mayC, mayQ, Pt.c, Cp.pseudos, Ps.kind, Ps.list, ih, Bool.and_true]
    by_cases h : dp = 0
    · simp [h]
    · simp [h]; omega
theorem dSl_AA {L : List Nd} : ∀ n e, n + 1 ≤ 12 → AA L [dSl n] e = true
  | 0, e, _ => by
    have := all_may (L := L) (l := [sl0]) (fun s hs => .inr (List.mem_singleton.1 hs)) e
    unfold mayAny at this
    simp only [List.any_cons, List.any_nil, Bool.or_false] at this
    have h2 : (mayF 1 [sl0] 8 && AA L [sl0] e) = true := this
    simp only [Bool.and_eq_true] at h2
    exact h2.2
  | n + 1, e, h => by
    rw [frB_AA (dSl_nest (n + 1)) h]
    have ih := dSl_AA (L := L) n e (by omega)
    have : frB L (dSl (n + 1)) e = compB (AA L) L e (.mk emp [] [] [] [.mk 8 0 0 [dSl n]]) := rfl
    rw [this]
    have hp : plainB (lowN (ndAt L e)) (.mk emp [] [] [] [.mk 8 0 0 [dSl n]]) = true := by simp [plainB, tagB, Cp.tag, Cp.ids, Cp.classes, Cp.attrs]
    unfold compB
    rw [hp]
    simp [Cp.pseudos, pseudoB, Ps.kind, Ps.list, ih]
theorem dSl_good (hC : HasC σ) {L : List Nd} {d : List Nat} (hT : TreeOk L d) (hL : 0 < L.length) (n : Nat) (H : Hp) : Good Try.prog σ n_match_Selector [domT L d, I 0, .agg (encSl (dSl n))] H (Bo (decide ((n : Int) ≤ 8))) H := by
  have hw : slsWf Lmax [dSl n] := ⟨by show 1 ≤ Lmax; decide, fun s hs => by rw [List.mem_singleton.1 hs]; exact dSl_wf n⟩
  by_cases h : n ≤ 8
  · have h' : (n : Int) ≤ 8 := by omega
    have hN : NB = 1048576 := rfl
    have S : SelOk (n + 1) [dSl n] := ⟨hw, dSl_ok n, dSl_nest n, by omega, by rw [dSl_cnt, hN]; omega⟩
    have := Sel_ok (hT.mc hC) S 0 H
    have hv : selB L (n + 1) (dSl n) 0 = true := by
      unfold selB mayAny
      have i2 : ((0 : Int) < (L.length : Int)) := by omega
      simp [hL, dSl_may, h, dSl_AA n _ (show n + 1 ≤ 12 by omega)]
    rw [hv] at this
    simpa [h'] using this
  · have h' : ¬ (n : Int) ≤ 8 := by omega
    have hm : mayF (n + 1) [dSl n] 8 = false := by rw [dSl_may]; simp [h]
    have := Sel_no (σ := σ) (L := L) (d := d) hw (dSl_nest n) hm 0 H
    simpa [h'] using this
def chS (m : Nat) : Sl := List.replicate m ⟨2, cp0⟩
theorem chS_mem {m : Nat} {p : Pt} (h : p ∈ chS m) : p = ⟨2, cp0⟩ := List.eq_of_mem_replicate h
theorem chS_wf {m : Nat} (hm : m ≤ 60) : slsWf Lmax [chS m] := by
  refine ⟨by show 1 ≤ Lmax; decide, fun s hs => ?_⟩
  rw [List.mem_singleton.1 hs]
  refine ⟨by unfold chS; rw [List.length_replicate]; show _ ≤ 9223372036854775807; omega, fun p hp => ?_⟩
  rw [chS_mem hp, Pt.wf_iff]
  exact ⟨by show i64 2; unfold i64; decide, by show 0 ≤ Lmax; decide, ⟨by show 0 ≤ Lmax; decide, fun s h => by cases h⟩, ⟨by show 0 ≤ Lmax; decide, fun s h => by cases h⟩, by show 0 ≤ Lmax; decide, (fun s h => by cases h), by show 0 ≤ Lmax; decide, fun q hq => by cases hq⟩
theorem chS_nest (m : Nat) : Nest 1 [chS m] := by
  intro s hs p hp q hq
  rw [List.mem_singleton.1 hs] at hp
  rw [chS_mem hp] at hq
  cases hq
theorem chS_ok {m : Nat} (hm : m ≤ 60) : SelOk 1 [chS m] := by
  refine ⟨chS_wf hm, ⟨by show 1 ≤ NB; decide, fun s hs => ?_⟩, chS_nest m, by decide, ?_⟩
  · rw [List.mem_singleton.1 hs]
    refine ⟨by unfold chS; rw [List.length_replicate]; show _ ≤ 1048576; omega, fun p hp => ?_⟩
    rw [chS_mem hp]
    exact ⟨⟨by show 0 ≤ reachBytes; decide, by show 0 ≤ reachBytes; decide, by show 0 ≤ reachBytes; decide, (fun s h => by cases h), by show 0 ≤ reachBytes; decide⟩, by show 0 ≤ NB; decide, fun q hq => by cases hq⟩
  · have hz : ∀ k : Nat, (List.map (fun p : Pt => (p.c.pseudos.map fun q => cntF 0 q.list).sum) (List.replicate k ⟨2, cp0⟩)).sum = 0 := by
      intro k
      induction k with
      | zero => rfl
      | succ k ih => rw [List.replicate_succ, List.map_cons, List.sum_cons, ih]; rfl
    simp only [cntF, List.map_cons, List.map_nil, List.sum_cons, List.sum_nil]
    unfold chS
    have hN : NB = 1048576 := rfl
    have := hz m
    simp only [cntF] at this
    rw [this, hN]
    omega
theorem chS_may (m : Nat) : mayF 1 [chS m] 8 = decide (m ≤ 50) := by
  rw [mayF_one]
  unfold mayS
  have h1 : (chS m).length = m := by simp [chS]
  have h2 : ((chS m).all fun p => mayC (mayF 0) 8 p.c) = true := by
    rw [List.all_eq_true]
    intro p hp
    rw [chS_mem hp]; rfl
  rw [h1, h2, Bool.and_true]
def chL (m : Nat) : List Nd := (List.range m).map fun i : Nat => ndP ((i : Int) - 1)
theorem chL_len (m : Nat) : (chL m).length = m := by simp [chL]
theorem chL_par {m i : Nat} (h : i < m) : par (chL m) i = (i : Int) - 1 := by
  unfold par ndAt chL
  rw [List.getD_eq_getElem?_getD, List.getElem?_map, List.getElem?_range h]
  rfl
theorem chS_front {m M : Nat} (hm : m ≤ M) {N : Nat} : ∀ i e, i < m → e < N → frontB (AA (chL N)) (chL N) (chS m) i e = decide (i ≤ e) := by
  have hcomp : ∀ e, compB (AA (chL N)) (chL N) e cp0 = true := by
    intro e
    have hp : plainB (lowN (ndAt (chL N) e)) cp0 = true := by simp [plainB, tagB, cp0, Cp.tag, Cp.ids, Cp.classes, Cp.attrs]
    unfold compB; rw [hp]; rfl
  have hget : ∀ i, i < m → (chS m)[i]? = some ⟨2, cp0⟩ := by intro i hi; simp [chS, hi]
  intro i
  induction i with
  | zero =>
    intro e hi he
    unfold frontB
    rw [hget 0 hi]
    simp only [Pt.c, hcomp]
    simp
  | succ i ih =>
    intro e hi he
    unfold frontB
    rw [hget (i + 1) hi]
    simp only [Pt.c, Pt.comb, hcomp, Bool.true_and]
    rw [aheadF]
    have hs : standI (chL N) e 2 = (e : Int) - 1 := by unfold standI; simp [chL_par he]
    have hf : farB 2 = false := rfl
    rw [hs, hf, Bool.false_and, Bool.or_false]
    by_cases h0 : e = 0
    · subst h0
      simp
    · have e1 : ((e : Int) - 1).toNat = e - 1 := by omega
      have e2 : (0 : Int) ≤ (e : Int) - 1 := by omega
      rw [e1, ih (e - 1) (by omega) (by omega)]
      simp only [e2, decide_true, Bool.true_and, decide_eq_decide]
      omega
theorem chS_good (hC : HasC σ) {m N : Nat} (hm : 1 ≤ m ∧ m ≤ 60) (hN : N = min m 40) {d : List Nat} (hT : TreeOk (chL N) d) (H : Hp) : Good Try.prog σ n_match_Selector [domT (chL N) d, I ((N - 1 : Nat) : Int), .agg (encSl (chS m))] H (Bo (decide ((m : Int) ≤ 40))) H := by
  have := Sel_ok (hT.mc hC) (chS_ok hm.2) ((N - 1 : Nat) : Int) H
  have hv : selB (chL N) 1 (chS m) ((N - 1 : Nat) : Int) = decide ((m : Int) ≤ 40) := by
    unfold selB mayAny
    have i1 : (0 : Int) ≤ ((N - 1 : Nat) : Int) := by omega
    have i2 : ((N - 1 : Nat) : Int) < ((chL N).length : Int) := by rw [chL_len]; omega
    simp only [i1, i2, decide_true, Bool.and_self, Bool.true_and, Int.toNat_natCast, List.any_cons, List.any_nil, Bool.or_false, chS_may]
    rw [frB_AA (chS_nest m) (by decide)]
    unfold frB
    have hl : (chS m).length = m := by simp [chS]
    rw [hl, chS_front (Nat.le_refl _) (m - 1) (N - 1) (by omega) (by omega)]
    have h0 : ¬ m = 0 := by omega
    simp only [h0, decide_false, Bool.not_false, Bool.true_and]
    rw [← Bool.decide_and, decide_eq_decide]
    omega
  rw [hv] at this
  exact this
def chR (m : Nat) : List (List AV) := (List.range m).map fun i : Nat => rawP ((i : Int) - 1)
theorem chR_fz {m : Nat} {H : Hp} {x : AV} (h : Gs 5 H x (chR m)) : Fz H x (nds (chL m)) := by
  refine h.fzm (by simp [chR, chL]) fun i r r' hr hr' => ?_
  unfold chR at hr
  unfold chL at hr'
  simp only [List.getElem?_map, Option.map_eq_some_iff] at hr hr'
  obtain ⟨j, hj, rfl⟩ := hr
  obtain ⟨nd, ⟨j', hj', rfl⟩, rfl⟩ := hr'
  rw [hj] at hj'
  cases hj'
  exact raw_fz H _
theorem chL_take {m k : Nat} (h : k ≤ m) : (chL m).take k = chL k := by
  unfold chL
  rw [← List.map_take, List.take_range, Nat.min_eq_left h]
theorem chB {m : Nat} (hm : m ≤ 256) : Built (chL m) (chL m).length (List.range m) := by
  refine ⟨by rw [chL_len]; simp, Nat.le_refl _, fun h => ?_, fun i h0 hi => ?_⟩
  · rw [chL_len] at h
    exact ⟨chL_par h, List.getElem?_range h⟩
  · rw [chL_len] at hi
    refine ⟨i - 1, i - 1, by rw [chL_par hi]; omega, by omega, List.getElem?_range (by omega), by rw [List.getElem?_range hi]; congr 1; omega, by omega⟩
theorem chW (m : Nat) (hm : m ≤ 60) : ∀ x ∈ chL m, NdWf x := by
  intro x hx
  unfold chL at hx
  obtain ⟨i, hi, rfl⟩ := List.mem_map.1 hx
  have := List.mem_range.1 hi
  exact ndP_wf (by unfold i64; omega)
def rawQ (k : Int) : List AV := [I k, Sx emp, nilS, nilS, nilS, nilS]
theorem chS_fz {m : Nat} {H : Hp} {x : AV} (h : Gs 6 H x (List.replicate m (rawQ 2))) : Fz H x (.imm 6 ((chS m).map encPt)) := by
  refine h.fzm (by simp [chS]) fun i r r' hr hr' => ?_
  unfold chS at hr'
  simp only [List.getElem?_map, List.getElem?_replicate, Option.map_eq_some_iff] at hr hr'
  split at hr
  · rename_i hi
    rw [if_pos hi] at hr'
    obtain ⟨p, hp, rfl⟩ := hr'
    cases hp
    cases hr
    exact .cons (.refl rfl) (.cons (.refl rfl) (.cons .nil (.cons .nil (.cons .nil (.cons .nil .nil)))))
  · cases hr
section
attribute [local irreducible] law10_MatchDeep.L2 law10_MatchDeep.L3 law10_MatchDeep.J1
theorem ld_L0 {K : AV → Hp → Prop} {y0 y1 y6 y6' y7 y8 y11 y12 y13 y14 : AV} {H : Hp} (hf : Fz H y6 y6') (h : law10_MatchDeep.L0 σ K y0 y1 y6' y7 y8 y11 y12 y13 y14 (Hp.bare H.n)) : law10_MatchDeep.L0 σ K y0 y1 y6 y7 y8 y11 y12 y13 y14 H :=
  fun js => LoopP.drop (.same (.same (.same (.same (.same (.same (.fz hf (FzTr _)))))))) (h js)
end
theorem ld_L2 {K : AV → Hp → Prop} {y0 y1 y6 y7 y8 y11 y12 y13 y14 : AV} {H : Hp} {b : Nat} {cs cs' : List AV} (hb : H.get b = some (.cells cs true)) (hf : FzL (H.set b none) cs cs') (h : law10_MatchDeep.L2 σ K y0 y1 y6 y7 y8 y11 y12 y13 y14 ((Hp.bare H.n).set b (some (.cells cs' true)))) : law10_MatchDeep.L2 σ K y0 y1 y6 y7 y8 y11 y12 y13 y14 H :=
  fun js => LoopP.keep1 hb hf (h js)
section
attribute [local irreducible] law10_MatchDeep.L0 law10_MatchDeep.L2 law10_MatchDeep.L3 law10_MatchDeep.J1
theorem ld_end (hC : HasC σ) {n m N : Nat} (hm : 1 ≤ m ∧ m ≤ 60) (hN : N = min m 40) {d : List Nat} (hT : TreeOk (chL N) d) {K : AV → Hp → Prop} (hK : ∀ H, K (Bo true) H) {b c : Nat} {y7 y12 : AV} : ∀ (f i : Nat) (x : AV) (H : Hp), m - i = f → i ≤ m → b < H.n → c < H.n → b ≠ c → H.get b = some (.cells (encSl (dSl n)) true) → H.get c = some (.cells [x] true) → Gs 6 H x (List.replicate i (rawQ 2)) → ¬ own x b → ¬ own x c →
    law10_MatchDeep.L3 σ K (I (n : Int)) (I (m : Int)) (nds (chL N)) y7 (domT (chL N) d) (.ptr b 0) y12 (.ptr c 0) (I (i : Int)) H := by
  intro f
  induction f with
  | zero =>
    intro i x H hf hi hb hc hbc gb gc hg ob oc
    obtain rfl : i = m := by omega
    refine law10_MatchDeep.L3_step ?_
    have hlb : ldA true 1 H (.ptr b 0) = some (.agg (encSl (dSl n))) := by simp [gb]
    have hlc : ldA true 1 H (.ptr c 0) = some (.agg [x]) := by rw [ld_ptr, gc]; rfl
    simp only [b_lss, bnd_some, Int.lt_irrefl, decide_false, ifB_lit, Bool.false_eq_true, if_false, hlb, hlc]
    refine callK_of (dSl_good hC hT (by rw [chL_len]; omega) n _) ?_
    have hw : wr .i64 (((chL N).length : Int) - 1) = ((N - 1 : Nat) : Int) := by rw [chL_len, wr64 (by omega) (by omega)]; omega
    simp only [len_nds, bnd_some, b_sub, hw, hlc]
    have hfz : Fz H (.agg [x]) (.agg (encSl (chS i))) := Fz.aggL (.cons (chS_fz hg) .nil)
    refine callK_of ((chS_good hC hm hN hT Hp.empty).frzA (.cons (.refl (noId_domT _ _)) (.cons (.refl rfl) (.cons hfz .nil))) rfl) ?_
    simp only [b_leq, bnd_some, e_bool, BEq.rfl, ifB_lit, if_true]
    exact hK _
  | succ f ih =>
    intro i x H hf hi hb hc hbc gb gc hg ob oc
    have hlt : (i : Int) < m := by omega
    refine law10_MatchDeep.L3_step ?_
    have hlc : ldA false 1 H (.ptr c 0) = some x := by simp [gc]
    simp only [b_lss, bnd_some, hlt, decide_true, ifB_lit, if_true, sh_ptr, Nat.zero_add, hlc]
    refine bnd_of (x := rawQ 2) rfl ?_
    refine bnd_app1 (y := .agg (rawQ 2)) hg rfl rfl rfl (by rw [List.length_replicate]; omega) (by rw [List.length_replicate]; omega) fun x' H' hg' fr => ?_
    have gc' : H'.get c = some (.cells [x] true) := by rw [fr.same c hc oc]; exact gc
    have gb' : H'.get b = some (.cells (encSl (dSl n)) true) := by rw [fr.same b hb ob]; exact gb
    have up := fr.grow
    have oc' : ¬ own x' c := fun h => by rcases fr.mine c h with h | h; exact oc h; omega
    have ob' : ¬ own x' b := fun h => by rcases fr.mine b h with h | h; exact ob h; omega
    rw [hg'.st (id := c) (off := 0) gc' (by simp), bnd_some, b_add, bnd_some, wr_succ (by omega)]
    refine ih (i + 1) x' _ (by omega) (by omega) (by simp; omega) (by simp; omega) hbc (by simp [hbc, gb']) (by simp) ?_ ob' oc'
    have hr : List.replicate i (rawQ 2) ++ [(AV.agg (rawQ 2)).cells] = List.replicate (i + 1) (rawQ 2) := by rw [List.replicate_succ']; rfl
    rw [hr] at hg'
    exact hg'.keep (fun j hj => by have : j ≠ c := fun h => oc' (h ▸ hj); simp [this]) (by simp)
theorem MatchDeep_good (hC : HasC σ) {n m : Int} : ∃ Hf, Good Try.prog σ n_law10_MatchDeep [I n, I m] Hp.empty (Bo true) Hf := by
  refine ⟨Hp.empty, good_by (fun K hK => law10_MatchDeep.run (callK_of (alive10 hC _) ?_)) (by simp [noIds, noId]) rfl _⟩
  simp only [u_not, bnd_some, ifB_lit, Bool.not_true, Bool.false_eq_true, if_false, b_lss, b_gtr, decide_eq_true_eq]
  split
  · exact hK _
  split
  · exact hK _
  split
  · exact hK _
  split
  · exact hK _
  rename_i h1 h2 h3 h4
  obtain ⟨n, rfl⟩ : ∃ k : Nat, n = k := ⟨n.toNat, by omega⟩
  obtain ⟨m, rfl⟩ : ∃ k : Nat, m = k := ⟨m.toNat, by omega⟩
  have hn : n ≤ 12 := by omega
  have hm : 1 ≤ m ∧ m ≤ 60 := by omega
  have J1 : ∀ (N : Nat) (H : Hp) (y7 y8 y11 y12 y13 y14 : AV), N = min m 40 → law10_MatchDeep.J1 σ K (I (n : Int)) (I (m : Int)) (nds (chL N)) y7 y8 y11 y12 y13 y14 H := by
    intro N H y7 y8 y11 y12 y13 y14 hN
    refine law10_MatchDeep.J1_step ?_
    have hB := chB (m := N) (by omega)
    rcases trees_yes (σ := σ) (chL N) (chW N (by omega)) hB (by rw [chL_len]; omega) (fun x hx => by
      unfold chL at hx
      obtain ⟨i, _, rfl⟩ := List.mem_map.1 hx
      exact ⟨by show 0 ≤ 8; decide, by show 0 ≤ 8; decide, by show 0 ≤ 60; decide, by show 0 ≤ 60; decide, (fun s h => by cases h), fun s h => by cases h⟩) with ⟨d, hT, hg⟩
    refine callK_of (hg _) ?_
    simp only [x_tup, List.getElem?_cons_zero, List.getElem?_cons_succ, bnd_some]
    refine bnd_of (x := rawQ 0) rfl ?_
    refine bnd_of (x := (.sl H.n 0 6 1 (some 1), H.new (.cells (rawQ 0) true))) rfl ?_
    refine bnd_of (x := [.sl H.n 0 6 1 (some 1)]) rfl ?_
    simp only [allocK_eq]
    obtain ⟨H1, hH1⟩ : ∃ H1, H1 = ((H.new (.cells (rawQ 0) true)).new (.cells [nilS] true)).set (H.n + 1) (some (.cells [.sl H.n 0 6 1 (some 1)] true)) := ⟨_, rfl⟩
    refine bnd_of (x := H1) ?_ ?_
    · rw [st_agg, hH1]
      simp only [Hp.n_new, hp_get_new, if_true]
      rfl
    have hn1 : H1.n = H.n + 2 := by rw [hH1]; rfl
    have g1 : H1.get (H.n + 1) = some (.cells [.sl H.n 0 6 1 (some 1)] true) := by rw [hH1]; simp
    have e1 : H.n ≠ H.n + 1 := by omega
    have g0 : H1.get H.n = some (.cells (rawQ 0) true) := by rw [hH1]; simp [e1]
    have L2 : ∀ (f i : Nat) (H : Hp) (b : Nat) (y13 y14 : AV), n - i = f → i ≤ n → b < H.n → H.get b = some (.cells (encSl (dSl i)) true) →
        law10_MatchDeep.L2 σ K (I (n : Int)) (I (m : Int)) (nds (chL N)) y7 (domT (chL N) d) (.ptr b 0) (I (i : Int)) y13 y14 H := by
      intro f
      induction f with
      | zero =>
        intro i H b y13 y14 hf hi hb hg
        obtain rfl : i = n := by omega
        refine law10_MatchDeep.L2_step ?_
        simp only [b_lss, bnd_some, Int.lt_irrefl, decide_false, ifB_lit, Bool.false_eq_true, if_false, allocK_eq]
        have e1 : b ≠ H.n := by omega
        exact ld_end hC hm hN hT hK m 0 nilS _ rfl (Nat.zero_le _) (by simp; omega) (by simp) e1 (by simp [e1, hg]) (by simp) .nil (fun h => h) (fun h => h)
      | succ f ih =>
        intro i H b y13 y14 hf hi hb hg
        have hlt : (i : Int) < n := by omega
        refine law10_MatchDeep.L2_step ?_
        have hl : ldA true 1 H (.ptr b 0) = some (.agg (encSl (dSl i))) := by simp [hg]
        simp only [b_lss, bnd_some, hlt, decide_true, ifB_lit, if_true, hl]
        obtain ⟨c1, hc1⟩ : ∃ c1, c1 = encSl (dSl i) := ⟨_, rfl⟩
        have hnc : noIds c1 = true := by rw [hc1]; exact noId_Sl _
        have hc2 : c1 = [.imm 6 ((dSl i).map encPt)] := hc1
        rw [← hc1]
        refine bnd_of (x := (.sl H.n 0 1 1 (some 1), H.new (.cells c1 true))) (by rw [hc2]; rfl) ?_
        refine bnd_of (x := [I 8, I 0, I 0, .sl H.n 0 1 1 (some 1)]) rfl ?_
        refine bnd_of (x := (.sl (H.n + 1) 0 4 1 (some 1), (H.new (.cells c1 true)).new (.cells [I 8, I 0, I 0, .sl H.n 0 1 1 (some 1)] true))) rfl ?_
        refine bnd_of (x := [Sx emp, nilS, nilS, nilS, .sl (H.n + 1) 0 4 1 (some 1)]) rfl ?_
        refine bnd_of (x := [I 0, Sx emp, nilS, nilS, nilS, .sl (H.n + 1) 0 4 1 (some 1)]) rfl ?_
        refine bnd_of (x := (.sl (H.n + 2) 0 6 1 (some 1), ((H.new (.cells c1 true)).new (.cells [I 8, I 0, I 0, .sl H.n 0 1 1 (some 1)] true)).new (.cells [I 0, Sx emp, nilS, nilS, nilS, .sl (H.n + 1) 0 4 1 (some 1)] true))) rfl ?_
        refine bnd_of (x := [.sl (H.n + 2) 0 6 1 (some 1)]) rfl ?_
        obtain ⟨H3, hH3⟩ : ∃ H3, H3 = ((H.new (.cells c1 true)).new (.cells [I 8, I 0, I 0, .sl H.n 0 1 1 (some 1)] true)).new (.cells [I 0, Sx emp, nilS, nilS, nilS, .sl (H.n + 1) 0 4 1 (some 1)] true) := ⟨_, rfl⟩
        have e0 : b ≠ H.n := by omega
        have e1 : b ≠ H.n + 1 := by omega
        have e2 : b ≠ H.n + 2 := by omega
        have a01 : H.n ≠ H.n + 1 := by omega
        have a02 : H.n ≠ H.n + 2 := by omega
        have a12 : H.n + 1 ≠ H.n + 2 := by omega
        have gb : H3.get b = some (.cells c1 true) := by rw [hH3]; simp [e0, e1, e2, hg, hc1]
        have gA : H3.get H.n = some (.cells c1 true) := by rw [hH3]; simp [a01, a02]
        have gB : H3.get (H.n + 1) = some (.cells [I 8, I 0, I 0, .sl H.n 0 1 1 (some 1)] true) := by rw [hH3]; simp [a12]
        have gC : H3.get (H.n + 2) = some (.cells [I 0, Sx emp, nilS, nilS, nilS, .sl (H.n + 1) 0 4 1 (some 1)] true) := by rw [hH3]; simp
        have hn3 : H3.n = H.n + 3 := by rw [hH3]; rfl
        rw [← hH3]
        refine bnd_of (x := H3.set b (some (.cells [.sl (H.n + 2) 0 6 1 (some 1)] true))) ?_ ?_
        · rw [st_agg, gb, hc2]
          rfl
        rw [b_add, bnd_some, wr_succ (by omega)]
        clear hH3
        refine ld_L2 (b := b) (cs := [.sl (H.n + 2) 0 6 1 (some 1)]) (cs' := encSl (dSl (i + 1))) (by simp) ?_ (ih (i + 1) _ b y13 y14 (by omega) (by omega) (by simp; omega) (by simp))
        obtain ⟨H4, hH4⟩ : ∃ H4, H4 = (H3.set b (some (.cells [.sl (H.n + 2) 0 6 1 (some 1)] true))).set b none := ⟨_, rfl⟩
        have gA' : H4.get H.n = some (.cells c1 true) := by rw [hH4]; simp [Ne.symm e0, gA]
        have gB' : H4.get (H.n + 1) = some (.cells [I 8, I 0, I 0, .sl H.n 0 1 1 (some 1)] true) := by rw [hH4]; simp [Ne.symm e1, gB]
        have gC' : H4.get (H.n + 2) = some (.cells [I 0, Sx emp, nilS, nilS, nilS, .sl (H.n + 1) 0 4 1 (some 1)] true) := by rw [hH4]; simp [Ne.symm e2, gC]
        rw [← hH4]
        clear hH4
        have f0 : Fz H4 (.sl H.n 0 1 1 (some 1)) (sls [dSl i]) := by rw [hc1] at gA'; exact fz_sl1 gA'
        have f1 : Fz H4 (.sl (H.n + 1) 0 4 1 (some 1)) (.imm 4 [encPs (.mk 8 0 0 [dSl i])]) := by
          refine .sl1 gB' (.cons (.refl rfl) (.cons (.refl rfl) (.cons (.refl rfl) (.cons ?_ .nil)))) (len_encPs _)
          rw [show encSls [dSl i] = [dSl i].map encSl from encSls_map _]
          exact f0
        have f2 : Fz H4 (.sl (H.n + 2) 0 6 1 (some 1)) (.imm 6 [encPt ⟨0, .mk emp [] [] [] [.mk 8 0 0 [dSl i]]⟩]) := .sl1 gC' (.cons (.refl rfl) (.cons (.refl rfl) (.cons .nil (.cons .nil (.cons .nil (.cons f1 .nil)))))) (len_encPt _)
        exact .cons f2 .nil
    refine ld_L2 (b := H.n + 1) (cs := [.sl H.n 0 6 1 (some 1)]) (cs' := encSl (dSl 0)) g1 ?_ (L2 n 0 _ (H.n + 1) _ _ rfl (Nat.zero_le _) (by simp; omega) (by simp))
    have g0' : (H1.set (H.n + 1) none).get H.n = some (.cells (rawQ 0) true) := by simp [e1, g0]
    exact .cons (.sl1 g0' (.cons (.refl rfl) (.cons (.refl rfl) (.cons .nil (.cons .nil (.cons .nil (.cons .nil .nil)))))) rfl) .nil
  have L0 : ∀ (f i : Nat) (H : Hp) (y6 y8 y11 y12 y13 y14 : AV), m - i = f → i ≤ m → Gs 5 H y6 (chR i) → law10_MatchDeep.L0 σ K (I (n : Int)) (I (m : Int)) y6 (I (i : Int)) y8 y11 y12 y13 y14 H := by
    intro f
    induction f with
    | zero =>
      intro i H y6 y8 y11 y12 y13 y14 hf hi hg
      obtain rfl : i = m := by omega
      refine ld_L0 (chR_fz hg) ?_
      refine law10_MatchDeep.L0_step ?_
      simp only [b_lss, bnd_some, Int.lt_irrefl, decide_false, ifB_lit, Bool.false_eq_true, if_false, len_nds, b_gtr, decide_eq_true_eq, chL_len]
      split
      · rename_i h40
        have hs : slSl 5 (nds (chL i)) none (some (I 40)) none = some (nds (chL 40)) := by
          have h1 : (40 : Int) ≤ (i : Int) := by omega
          have h2 : (chL i).length = i := chL_len i
          simp [slSl, intO, intA, slSl0, nds, boundsA, boundA, beqN, h1, h2]
          rw [← List.map_take, chL_take (by omega)]
        rw [hs, bnd_some]
        exact J1 40 _ _ _ _ _ _ _ (by omega)
      · exact J1 i _ _ _ _ _ _ _ (by omega)
    | succ f ih =>
      intro i H y6 y8 y11 y12 y13 y14 hf hi hg
      have hlt : (i : Int) < m := by omega
      refine law10_MatchDeep.L0_step ?_
      have hw : wr .i64 ((i : Int) - 1) = (i : Int) - 1 := wr64 (by omega) (by omega)
      simp only [b_lss, bnd_some, hlt, decide_true, ifB_lit, if_true, b_sub, hw]
      refine bnd_of (x := rawP ((i : Int) - 1)) rfl ?_
      have hl : (chR i).length = i := by simp [chR]
      refine bnd_app1 (y := .agg (rawP ((i : Int) - 1))) hg rfl rfl rfl (by rw [hl]; omega) (by rw [hl]; omega) fun y' H' hg' _ => ?_
      rw [b_add, bnd_some, wr_succ (by omega)]
      refine ih (i + 1) H' y' _ _ _ _ _ (by omega) (by omega) ?_
      have : chR i ++ [(AV.agg (rawP ((i : Int) - 1))).cells] = chR (i + 1) := by
        unfold chR
        rw [List.range_succ, List.map_append]
        rfl
      rw [← this]
      exact hg'
  exact L0 _ 0 _ _ _ _ _ _ _ rfl (Nat.zero_le _) .nil
end
theorem MatchDeep_walk {H : Type} {enc : TypeId × Value → H} (W : World) (hsh : W.ShapedOpen Try.prog) {v0 v1 : Value} {r : Reach} {b0 base : Nat} {spare : Nat → Bool} {held : Bool} {d0 d1 : DataW H} {p0 p1 : List MemPlace}
    (e0 : Value.okWide Try.prog W r b0 T_int v0) (h0 : DataW.Trod enc Try.prog W base spare held T_int v0 d0 p0) (w0 : ∀ n ∈ d0.weights Try.prog T_int, n ≤ reachBytes)
    (e1 : Value.okWide Try.prog W r b0 T_int v1) (h1 : DataW.Trod enc Try.prog W base spare held T_int v1 d1 p1) (w1 : ∀ n ∈ d1.weights Try.prog T_int, n ≤ reachBytes) :
    Calls Try.prog n_law10_MatchDeep #[v0, v1] W fun e W' => e = .returned (.bool true) ∧ Below W.heap.size W W' := by
  obtain ⟨x0, r0, s0⟩ := read_arg (P := Try.prog) (ti := tiT.get) (S := readB) (t := T_int) (σ := sigM) tiT_ok readB_closed (inB_mem (by kernel_rfl)) e0 h0 w0
  obtain ⟨x1, r1, s1⟩ := read_arg (P := Try.prog) (ti := tiT.get) (S := readB) (t := T_int) (σ := sigM) tiT_ok readB_closed (inB_mem (by kernel_rfl)) e1 h1 w1
  obtain ⟨n, rfl, _⟩ := v_int s0
  obtain ⟨a, rfl, ha⟩ := v_int s1
  obtain ⟨Hf, hg⟩ := MatchDeep_good (n := n) (m := a) (hasC sigM_g)
  exact law_of_good (relL2 r0 r1) hg (gMax_ok W hsh sigM_g)
end Go.Proofs.Ythmaggcfghjmfaa.Ev

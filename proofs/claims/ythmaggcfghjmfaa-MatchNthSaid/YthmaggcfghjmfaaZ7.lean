/- The walks, part 7: the evaluator, the functions, the laws. Conditions: none. -/
import Derived.Shelf.LaysM
import Derived.Shelf.Strings.Search1
import Derived.Shelf.Strings.Search2
import Derived.Shelf.Strings.Search3
import Derived.Shelf.Strings.Shaped
import Derived.Test.YthmaggcfghjmfaaZ6
namespace Go.Proofs.Ythmaggcfghjmfaa.Ev
open Go.Shelf Go.Proofs
def laysM144_ren : Ren :=
{
  f := fun x =>
    match x with
    | 144 => 124
    | 143 => 128
    | 219 => 131
    | 217 => 132
    | 225 => 133
    | 224 => 134
    | 267 => 135
    | 266 => 136
    | 314 => 137
    | n => n,
  t := fun x =>
    match x with
    | 9 => 9
    | 4 => 4
    | 3 => 3
    | 5 => 5
    | 46 => 142
    | 146 => 163
    | 51 => 162
    | n => n,
  g := fun x =>
    match x with
    | 1 => 0
    | n => n }
theorem laysM144 : LaysM.n144 Try.prog laysM144_ren :=
{ mixed := by kernel_rfl, f143 := Eq.trans Try.func128 (congrArg some (Eq.refl (Body.n143 laysM144_ren))),
  f144 := Eq.trans Try.func124 (congrArg some (Eq.refl (Body.n144 laysM144_ren))),
  f217 := Eq.trans Try.func132 (congrArg some (Eq.refl (Body.n217 laysM144_ren))),
  f219 := Eq.trans Try.func131 (congrArg some (Eq.refl (Body.n219 laysM144_ren))),
  f224 := Eq.trans Try.func134 (congrArg some (Eq.refl (Body.n224 laysM144_ren))),
  f225 := Eq.trans Try.func133 (congrArg some (Eq.refl (Body.n225 laysM144_ren))),
  f266 := Eq.trans Try.func136 (congrArg some (Eq.refl (Body.n266 laysM144_ren))),
  f267 := Eq.trans Try.func135 (congrArg some (Eq.refl (Body.n267 laysM144_ren))),
  f314 := Eq.trans Try.func137 (congrArg some (Eq.refl (Body.n314 laysM144_ren))), t3 := Try.underlying3,
  a3 := Try.isAgg3, z3 := Try.sizeOf3, v3 := Try.zeroValue3, t4 := Try.underlying4, a4 := Try.isAgg4, z4 := Try.sizeOf4,
  v4 := Try.zeroValue4, t5 := Try.underlying5, a5 := Try.isAgg5, z5 := Try.sizeOf5, v5 := Try.zeroValue5,
  t9 := Try.underlying9, a9 := Try.isAgg9, z9 := Try.sizeOf9, v9 := Try.zeroValue9, t46 := Try.underlying142,
  a46 := Try.isAgg142, z46 := Try.sizeOf142, v46 := Try.zeroValue142, t51 := Try.underlying162, a51 := Try.isAgg162,
  z51 := Try.sizeOf162, v51 := Try.zeroValue162, t146 := Try.underlying163, a146 := Try.isAgg163, z146 := Try.sizeOf163,
  v146 := Try.zeroValue163, g1 := by kernel_rfl,
  i3 := by kernel_rfl, i4 := by kernel_rfl,
  i5 := by kernel_rfl,
  i9 := by kernel_rfl,
  i46 := by kernel_rfl,
  i51 := by kernel_rfl,
  i146 := by kernel_rfl,
  m1 := by kernel_rfl,
  s1_3 := fun w h => Go.Proofs.cell_of_shapedOpen_int h (zero := #[Go.Value.int Go.IntKind.i64 0]) (t := 3) (of_decide_eq_true (by kernel_rfl)) (by kernel_rfl) rfl (by kernel_rfl) (by kernel_rfl) Try.underlying3 }
def gMax : Nat := laysM144_ren.g 1
theorem hasC {σ : Sig} (hg : σ.g = some gMax) : HasC σ := by
  intro s t H hs
  refine ⟨⟨_, Try.func124, by kernel_rfl, by kernel_rfl⟩, fun B w0 E w vs hσ hst hx => ?_⟩
  obtain ⟨_, m, hm⟩ := hst.glNow gMax (by rw [hσ]; exact hg)
  have hl := hx.len
  obtain ⟨v0, v1, rfl⟩ : ∃ v0 v1, vs = #[v0, v1] := by
    obtain ⟨l⟩ := vs
    match l, hl with
    | [a, b], _ => exact ⟨a, b, rfl⟩
  have r0 := hx.at_ 0 _ v0 rfl (by simp)
  have r1 := hx.at_ 1 _ v1 rfl (by simp)
  cases r0
  cases r1
  refine (Any.strings_Contains (ρ := laysM144_ren) { laysM144 with } s t m w hs hm).mono fun e w' he => ?_
  obtain ⟨rfl, rfl⟩ := he
  exact ⟨E, _, rfl, .refl E, hst, .lit _⟩
theorem gMax_ok (W : World) (h : W.ShapedOpen Try.prog) {σ : Sig} (hg : σ.g = some gMax) : ∀ g, σ.g = some g → ∃ m : Int, W.cell? ⟨g, 0, none⟩ = some (.int .i64 m) := by
  intro g hg'
  rw [hg] at hg'
  cases hg'
  exact laysM144.s1_3 W h
end Go.Proofs.Ythmaggcfghjmfaa.Ev
namespace Go.Proofs.Ythmaggcfghjmfaa.Ev
set_option linter.unusedVariables false
set_option linter.unusedSimpArgs false
set_option maxRecDepth 100000
variable {σ : Sig}
def alL : List Nd := [⟨-1, emp, emp, [], []⟩, ⟨0, emp, emp, [], []⟩, ⟨0, emp, emp, [], []⟩, ⟨0, emp, emp, [], []⟩]
def alS : Sl := [⟨0, .mk emp [] [] [] [.mk 6 2 1 []]⟩]
theorem alB : Built alL alL.length [0, 1, 1, 1] := by
  have h1 : Built alL 1 [0] := Built.first (by decide) rfl
  have h2 : Built alL 2 [0, 1] := h1.next (p := 0) (x := 0) (by decide) (by decide) rfl (by decide) rfl (by decide)
  have h3 : Built alL 3 [0, 1, 1] := h2.next (p := 0) (x := 0) (by decide) (by decide) rfl (by decide) rfl (by decide)
  exact h3.next (p := 0) (x := 0) (by decide) (by decide) rfl (by decide) rfl (by decide)
theorem alW : ∀ n ∈ alL, NdWf n := by
  intro n hn
  simp only [alL, List.mem_cons, List.not_mem_nil, or_false] at hn
  rcases hn with rfl | rfl | rfl | rfl <;> exact ⟨by unfold i64; decide, by decide, by decide, by decide, by intro p hp; cases hp⟩
theorem alSm : ∀ e, e < alL.length → SmN (lowN (ndAt alL e)) := by
  intro e he
  have : e = 0 ∨ e = 1 ∨ e = 2 ∨ e = 3 := by simp [alL] at he; omega
  rcases this with rfl | rfl | rfl | rfl <;> exact ⟨by decide, by decide, by intro p hp; cases hp⟩
theorem alM (hC : HasC σ) : McT σ alL [0, 1, 1, 1] := ⟨hC, alB, by decide, alSm⟩
theorem alSO : SelOk 2 [alS] := by
  refine ⟨⟨by decide, fun s hs => ?_⟩, ⟨by decide, fun s hs => ?_⟩, fun s hs p hp q hq => ?_, by decide, by decide⟩
  · rw [List.mem_singleton.1 hs]
    refine ⟨by decide, fun p hp => ?_⟩
    rw [List.mem_singleton.1 hp, Pt.wf_iff]
    refine ⟨by unfold i64; decide, by decide, ⟨by decide, fun s h => by cases h⟩, ⟨by decide, fun s h => by cases h⟩, by decide, (fun s h => by cases h), by decide, fun q hq => ?_⟩
    rw [List.mem_singleton.1 hq, Ps.wf_iff]
    exact ⟨by unfold i64; decide, by unfold i64; decide, by unfold i64; decide, by decide, fun s h => by cases h⟩
  · rw [List.mem_singleton.1 hs]
    refine ⟨by decide, fun p hp => ?_⟩
    rw [List.mem_singleton.1 hp]
    refine ⟨⟨by decide, by decide, by decide, (fun s h => by cases h), by decide⟩, by decide, fun q hq => ?_⟩
    rw [List.mem_singleton.1 hq]
    exact ⟨⟨by unfold i64; decide, by unfold i64; decide⟩, by decide, fun s h => by cases h⟩
  · rw [List.mem_singleton.1 hs] at hp
    rw [List.mem_singleton.1 hp] at hq
    rw [List.mem_singleton.1 hq]
    exact fun s h => by cases h
theorem al1 : selB alL 2 alS 1 = true := by kernel_rfl
theorem al2 : selB alL 2 alS 2 = false := by kernel_rfl
theorem al3 : selB alL 2 alS 3 = true := by kernel_rfl
theorem alive10 (hC : HasC σ) (H : Hp) : Good Try.prog σ n_law10_alive [] H (Bo true) H := by
  refine good_by (fun K hK => law10_alive.run ?_) rfl rfl H
  iterate 5 refine bnd_of rfl ?_
  refine callK_of (Good.drop (fun H => domNew_ok alB alW (by decide) H) (.cons (frzS_ok skNds _ _ (by kernel_rfl)) .nil)) ?_
  simp only [x_tup, List.getElem?_cons_zero, List.getElem?_cons_succ, bnd_some]
  iterate 6 refine bnd_of rfl ?_
  simp only [allocK_eq]
  refine bnd_of rfl ?_
  refine bnd_of rfl ?_
  refine callK_of ((Sel_ok (alM hC) alSO 1 Hp.empty).frzA (.cons (.refl (noId_domT _ _)) (.cons (.refl rfl) (.cons (frzS_ok (skS 1) _ _ (by kernel_rfl)) .nil))) rfl) ?_
  simp only [al1, ifB_lit, if_true]
  refine bnd_of rfl ?_
  refine callK_of ((Sel_ok (alM hC) alSO 2 Hp.empty).frzA (.cons (.refl (noId_domT _ _)) (.cons (.refl rfl) (.cons (frzS_ok (skS 1) _ _ (by kernel_rfl)) .nil))) rfl) ?_
  simp only [al2, u_not, bnd_some, ifB_lit, if_true, Bool.not_false]
  refine bnd_of rfl ?_
  refine callK_of ((Sel_ok (alM hC) alSO 3 Hp.empty).frzA (.cons (.refl (noId_domT _ _)) (.cons (.refl rfl) (.cons (frzS_ok (skS 1) _ _ (by kernel_rfl)) .nil))) rfl) ?_
  rw [al3]
  exact hK _
end Go.Proofs.Ythmaggcfghjmfaa.Ev
namespace Go.Proofs.Ythmaggcfghjmfaa.Ev
set_option linter.unusedVariables false
set_option linter.unusedSimpArgs false
variable {σ : Sig}
def bigS (s : ByteArray) : Bool := decide (60 < (s.data.size : Int))
def bigP (p : ByteArray × ByteArray) : Bool := bigS p.1 || decide (100 < (p.2.data.size : Int))
def bigN (n : Nd) : Bool := decide (8 < (n.classes.length : Int)) || (decide (8 < (n.attrs.length : Int)) || (bigS n.tag || (bigS n.id || (n.classes.any bigS || n.attrs.any bigP))))
structure NdSm (n : Nd) : Prop where
  classes : n.classes.length ≤ 8
  attrs : n.attrs.length ≤ 8
  tag : n.tag.data.size ≤ 60
  id : n.id.data.size ≤ 60
  cl : ∀ s ∈ n.classes, s.data.size ≤ 60
  at' : ∀ p ∈ n.attrs, p.1.data.size ≤ 60 ∧ p.2.data.size ≤ 100
theorem NdSm.of {n : Nd} (h : bigN n = false) : NdSm n := by
  unfold bigN bigP bigS at h
  simp only [Bool.or_eq_false_iff, decide_eq_false_iff_not, List.any_eq_false, Bool.or_eq_true, decide_eq_true_eq, not_or] at h
  obtain ⟨h1, h2, h3, h4, h5, h6⟩ := h
  exact ⟨by omega, by omega, by omega, by omega, fun s hs => by have := h5 s hs; omega, fun p hp => by have := h6 p hp; omega⟩
section
end
end Go.Proofs.Ythmaggcfghjmfaa.Ev
namespace Go.Proofs.Ythmaggcfghjmfaa.Ev
set_option linter.unusedVariables false
set_option linter.unusedSimpArgs false
theorem d_int {ts : List Nat} {zs : List AV} (h : Sh tiT.get (T_int :: ts) zs) : ∃ n ys, zs = I n :: ys ∧ i64 n ∧ Sh tiT.get ts ys := by
  obtain ⟨i, hi, hd, _⟩ := T_int_is
  obtain ⟨n, ys, e, hw, hs⟩ := sh_int hi hd h
  refine ⟨n, ys, e, ?_, hs⟩
  simp [Lit.wf, IntKind.min, IntKind.max, IntKind.signed, IntKind.bits] at hw
  unfold i64
  omega
def readB : List Nat := [T_int, T_string, T_bool, T_sl_string, T_sl_api_Attr, T_api_Attr, T_sl_api_Part, T_api_Part, T_api_Compound, T_sl_api_Pseudo, T_api_Pseudo, T_sl_api_Selector, T_api_Selector, T_sl_api_Node, T_api_Node, T_sl_api_Pair, T_api_Pair]
theorem readB_closed : closedB tiT.get readB = true := by kernel_rfl
end Go.Proofs.Ythmaggcfghjmfaa.Ev
namespace Go.Proofs.Ythmaggcfghjmfaa.Ev
theorem v_one {t sz : Nat} {d : TD} (hT : ∃ i, tiT.get t = some i ∧ i.d = d ∧ i.size = sz) (ha : d.agg = false) {x : AV} (h : ShV tiT.get t x) : Sh tiT.get [t] [x] := by
  obtain ⟨i, hi, hd, _⟩ := hT
  unfold ShV at h
  rw [hi] at h
  simp only [hd, ha] at h
  exact h
theorem v_int {x : AV} (h : ShV tiT.get T_int x) : ∃ n, x = I n ∧ i64 n := by
  obtain ⟨n, ys, e, w, hn⟩ := d_int (v_one T_int_is rfl h)
  cases e
  exact ⟨n, rfl, w⟩
end Go.Proofs.Ythmaggcfghjmfaa.Ev
namespace Go.Proofs.Ythmaggcfghjmfaa.Ev
end Go.Proofs.Ythmaggcfghjmfaa.Ev
namespace Go.Proofs.Ythmaggcfghjmfaa.Ev
set_option linter.unusedVariables false
set_option linter.unusedSimpArgs false
set_option maxRecDepth 100000
variable {σ : Sig}
def cp1 (k a b : Int) : Cp := .mk emp [] [] [] [.mk k a b []]
abbrev nilS : AV := .lit (.slice none 0 0)
theorem fz_cp1 {H : Hp} {id : Nat} {k a b : Int} {ex : Bool} {cap : Option Nat} (hg : H.get id = some (.cells [I k, I a, I b, nilS] ex)) :
    Fz H (.agg [Sx emp, nilS, nilS, nilS, .sl id 0 4 1 cap]) (.agg (encCp (cp1 k a b))) := by
  refine frzS_ok (skC 1) _ _ ?_
  simp only [skC, skCp, skPss, skStrs, skAts, frzS, frzR, frzRows, hg, beqN]
  rfl
theorem cp1_ok {k a b : Int} (hk : i64 k) (ha : i64 a) (hb : i64 b) : SelOk 2 [[⟨0, cp1 k a b⟩]] := by
  refine ⟨⟨by show 1 ≤ Lmax; decide, fun s hs => ?_⟩, ⟨by show 1 ≤ NB; decide, fun s hs => ?_⟩, fun s hs p hp q hq => ?_, by decide, ?_⟩
  · rw [List.mem_singleton.1 hs]
    refine ⟨by show 1 ≤ Lmax; decide, fun p hp => ?_⟩
    rw [List.mem_singleton.1 hp, Pt.wf_iff]
    refine ⟨by show i64 0; unfold i64; decide, by show 0 ≤ Lmax; decide, ⟨by show 0 ≤ Lmax; decide, fun s h => by cases h⟩, ⟨by show 0 ≤ Lmax; decide, fun s h => by cases h⟩, by show 0 ≤ Lmax; decide, (fun s h => by cases h), by show 1 ≤ Lmax; decide, fun q hq => ?_⟩
    rw [List.mem_singleton.1 hq, Ps.wf_iff]
    exact ⟨hk, ha, hb, by show 0 ≤ Lmax; decide, fun s h => by cases h⟩
  · rw [List.mem_singleton.1 hs]
    refine ⟨by show 1 ≤ NB; decide, fun p hp => ?_⟩
    rw [List.mem_singleton.1 hp]
    refine ⟨⟨by show 0 ≤ reachBytes; decide, by show 0 ≤ reachBytes; decide, by show 0 ≤ reachBytes; decide, (fun s h => by cases h), by show 1 ≤ reachBytes; decide⟩, by show 1 ≤ NB; decide, fun q hq => ?_⟩
    rw [List.mem_singleton.1 hq]
    exact ⟨⟨ha, hb⟩, by show 0 ≤ NB; decide, fun s h => by cases h⟩
  · rw [List.mem_singleton.1 hs] at hp
    rw [List.mem_singleton.1 hp] at hq
    rw [List.mem_singleton.1 hq]
    exact fun s h => by cases h
  · simp [cntF, cp1, Pt.c, Cp.pseudos, Ps.list, NB]
theorem cp1_eq {L : List Nd} {e : Nat} (he : e < L.length) {k a b : Int} (h7 : k ≠ 7) (h8 : k ≠ 8) : cpB L 2 (cp1 k a b) (e : Int) = pseudoB (AA L) L e (.mk k a b []) := by
  have i1 : (0 : Int) ≤ (e : Int) := by omega
  have i2 : (e : Int) < (L.length : Int) := by omega
  have hn : Nest 2 [[⟨0, cp1 k a b⟩]] := by
    intro s hs p hp q hq
    rw [List.mem_singleton.1 hs] at hp
    rw [List.mem_singleton.1 hp] at hq
    rw [List.mem_singleton.1 hq]
    exact fun s h => by cases h
  have hm : mayF 2 [[⟨0, cp1 k a b⟩]] 8 = true := by
    have hk : ¬ (k = 7 ∨ k = 8) := by omega
    simp [mayF, mayS, mayC, mayQ, cp1, Pt.c, Cp.pseudos, Ps.kind, hk]
  unfold cpB selB mayAny
  simp only [i1, i2, decide_true, Bool.and_self, Bool.true_and, Int.toNat_natCast, List.any_cons, List.any_nil, Bool.or_false, hm]
  rw [← AA_eq hn (by decide)]
  simp only [anyS, List.any_cons, List.any_nil, Bool.or_false, List.length_cons, List.length_nil]
  have : frontB (AA L) L [⟨0, cp1 k a b⟩] 0 e = compB (AA L) L e (cp1 k a b) := rfl
  show (!decide (0 + 1 = 0) && frontB (AA L) L [⟨0, cp1 k a b⟩] 0 e) = _
  rw [this]
  have hp : plainB (lowN (ndAt L e)) (cp1 k a b) = true := by
    simp [plainB, tagB, cp1, Cp.tag, Cp.ids, Cp.classes, Cp.attrs]
  unfold compB
  rw [hp]
  simp [cp1, Cp.pseudos]
theorem NdSm.low {n : Nd} (h : NdSm n) : SmN (lowN n) := by
  have r : reachBytes = 140737488351232 := rfl
  refine ⟨by have := h.classes; show n.classes.length ≤ _; omega, by have := h.attrs; show (n.attrs.map lowPr).length ≤ _; rw [List.length_map]; omega, fun p hp => ?_⟩
  obtain ⟨q, hq, rfl⟩ := List.mem_map.1 hp
  have := (h.at' q hq).2
  show q.2.data.size < _
  omega
section
end
end Go.Proofs.Ythmaggcfghjmfaa.Ev
namespace Go.Proofs.Ythmaggcfghjmfaa.Ev
open Go.RowKit
def sigM : Sig := ⟨fun _ => 0, fun _ => false, fun _ => ⟨#[]⟩, some gMax⟩
theorem sigM_g : sigM.g = some gMax := rfl
end Go.Proofs.Ythmaggcfghjmfaa.Ev
namespace Go.Proofs.Ythmaggcfghjmfaa.Ev
set_option linter.unusedVariables false
set_option linter.unusedSimpArgs false
variable {σ : Sig} {L : List Nd} {d : List Nat}
def TxL : Nat → List Sl → Prop
  | 0, _ => False
  | f + 1, l => ∀ s ∈ l, ∀ p ∈ s, (∀ a ∈ p.c.attrs, a.text.data.size < 4294967281) ∧ ∀ q ∈ p.c.pseudos, TxL f q.list
theorem TxL.one {f : Nat} {l : List Sl} (h : TxL f l) {s : Sl} (hs : s ∈ l) : TxL f [s] := by
  cases f with
  | zero => exact h
  | succ f => exact fun s' hs' => by rw [List.mem_singleton.1 hs']; exact h s hs
theorem RcOk.of {c : Cp} (h : CpOk c) (ht : ∀ a ∈ c.attrs, a.text.data.size < 4294967281) : RcOk c := ⟨h.ids, h.classes, h.attrs, h.ps, ht⟩
theorem rs_of : ∀ (f : Nat) (l : List Sl) (dp : Nat), SlsOk f l → TxL f l → mayF f l dp = true → RsOk f l
  | 0, l, dp, h, _, _ => h
  | f + 1, l, dp, h, ht, hm => by
    refine ⟨Nat.le_trans h.1 (by decide), fun s hs => ?_⟩
    have h1 := h.2 s hs
    have h2 := List.all_eq_true.1 hm s hs
    unfold mayS at h2
    simp only [Bool.and_eq_true, decide_eq_true_eq] at h2
    refine ⟨h2.1, fun p hp => ?_⟩
    have h3 := h1.2 p hp
    have h4 := ht s hs p hp
    refine ⟨.of h3.1 h4.1, fun q hq => ⟨(h3.2.2 q hq).1, fun hk => ?_⟩⟩
    have h5 := List.all_eq_true.1 (List.all_eq_true.1 h2.2 p hp) q hq
    unfold mayQ at h5
    rw [if_pos hk] at h5
    simp only [Bool.and_eq_true] at h5
    exact rs_of f q.list (dp - 1) (h3.2.2 q hq).2 (h4.2 q hq) h5.2
theorem frB_AA {f : Nat} {s : Sl} (hn : Nest f [s]) (hf : f ≤ 12) (e : Nat) : AA L [s] e = frB L s e := by
  rw [← AA_eq hn hf]
  simp [anyS, frB]
theorem mayF_one {f : Nat} {s : Sl} {dp : Nat} : mayF (f + 1) [s] dp = mayS (mayF f) dp s := by simp [mayF]
theorem rcomp_out {e : Int} (he : (decide (0 ≤ e) && decide (e < L.length)) = false) (c : Cp) (dp : Nat) (H : Hp) : Good Try.prog σ n_ref9_Tree_compound [refT L d, I e, .agg (encCp c), I (dp : Int)] H (Bo false) H := by
  refine good_by (fun K hK => ref9_Tree_compound.run ?_) (by simp [noIds, noId, noId_refT, noId_Cp]) rfl H
  simp only [boxK_agg]
  refine callK_of (ris_ok L d e _) ?_
  rw [he]
  simpa using hK _
theorem rTopCp_ok (M : McT σ L d) {f : Nat} {c : Cp} (S : SelOk (f + 1) [[⟨0, c⟩]]) (ht : TxL (f + 1) [[⟨0, c⟩]]) (e : Int) (H : Hp) : Good Try.prog σ n_ref9_Tree_Compound [refT L d, I e, .agg (encCp c)] H (Bo (cpB L (f + 1) c e)) H := by
  refine good_by (fun K hK => ref9_Tree_Compound.run ?_) (by simp [noIds, noId, noId_refT, noId_Cp]) rfl H
  have hwf := (Pt.wf_iff.1 ((S.wf.2 [⟨0, c⟩] (by simp)).2 ⟨0, c⟩ (by simp))).2
  have hn := S.nest
  have hnq : ∀ q ∈ c.pseudos, Nest f q.list := fun q hq => hn [⟨0, c⟩] (by simp) ⟨0, c⟩ (by simp) q hq
  simp only [boxK_agg]
  have hl : ldA true 5 (Hp.empty.new (.cells (encCp c) true)) (.ptr Hp.empty.n 0) = some (.agg (encCp c)) := by simp
  simp only [hl, bnd_some]
  refine callK_of (dc_ok f c 0 _ hwf hnq (by decide)) ?_
  simp only [u_not, Bool.not_not, bnd_some, ifB_lit, Nat.sub_zero]
  have hms : mayS (mayF f) 8 [⟨0, c⟩] = mayC (mayF f) 8 c := by simp [mayS, Pt.c]
  unfold cpB selB mayAny at hK
  simp only [List.any_cons, List.any_nil, Bool.or_false, mayF_one, hms] at hK
  cases hm : mayC (mayF f) 8 c with
  | false => rw [hm] at hK; simpa using hK _
  | true =>
    rw [hm] at hK
    simp only [if_true, hl, bnd_some]
    rw [Bool.true_and] at hK
    cases hin : (decide (0 ≤ e) && decide (e < (L.length : Int))) with
    | false =>
      rw [hin] at hK
      exact callK_of (rcomp_out hin c 0 _) (hK _)
    | true =>
      rw [hin, Bool.true_and] at hK
      simp only [Bool.and_eq_true, decide_eq_true_eq] at hin
      obtain ⟨en, rfl⟩ : ∃ en : Nat, e = (en : Int) := ⟨e.toNat, by omega⟩
      have he : en < L.length := by omega
      rw [Int.toNat_natCast, frB_AA hn S.hf] at hK
      have hfr : frB L [⟨0, c⟩] en = compB (AA L) L en c := rfl
      rw [hfr] at hK
      have hm' : mayF (f + 1) [[⟨0, c⟩]] 8 = true := by rw [mayF_one, hms]; exact hm
      have hr := rs_of (f + 1) [[⟨0, c⟩]] 8 S.ok ht hm'
      have h1 := (rany_ok (σ := σ) M.hB M.hN M.sm (f + 1) [[⟨0, c⟩]] 0 S.hf hr hn (by have := S.hf; omega)).1 [⟨0, c⟩] (by simp)
      exact callK_of (rcomp_ok M.hB M.hN he (M.sm en he) (h1.1.c ⟨0, c⟩ (by simp)) (h1.1.q ⟨0, c⟩ (by simp)) (by decide) (fun q hq hk H => h1.2 ⟨0, c⟩ (by simp) q hq hk en H he) _) (hK _)
end Go.Proofs.Ythmaggcfghjmfaa.Ev
namespace Go.Proofs.Ythmaggcfghjmfaa.Ev
set_option linter.unusedVariables false
set_option linter.unusedSimpArgs false
inductive Gsc (sz : Nat) (H : Hp) : AV → List (List AV) → Prop where
  | gs {x : AV} {rows : List (List AV)} (h : Gs sz H x rows) : Gsc sz H x rows
  | full {id : Nat} {ex : Bool} {rows : List (List AV)} (hlt : id < H.n) (hg : H.get id = some (.cells rows.flatten ex)) (hsz : ∀ row ∈ rows, row.length = sz) (h0 : rows ≠ []) : Gsc sz H (.sl id 0 sz rows.length (some rows.length)) rows
theorem Gsc.lit {sz : Nat} {H : Hp} {row : List AV} (hl : row.length = sz) : Gsc sz (H.new (.cells row true)) (.sl H.n 0 sz 1 (some 1)) [row] := by
  refine .full (id := H.n) (rows := [row]) (by simp) (by simp; rfl) (by simp [hl]) (by simp)
theorem bnd_app1c {z : List Value} {sz bytes : Nat} {H : Hp} {x y : AV} {rows : List (List AV)} (hx : Gsc sz H x rows) (hl : y.cells.length = sz) (ha : y.isAny = false) (hone : y.cells.all AV.one = true)
    (hb : (rows.length + 1) * bytes ≤ 140737488355328) (hn : rows.length + 1 ≤ 4611686018427387904) {K : AV × Hp → Prop} (h : ∀ x' H', Gs sz H' x' (rows ++ [y.cells]) → Fr H x H' x' → K (x', H')) :
    bnd (bldSlR z sz 1 H [(0, sz, y)]) fun p => bnd (appR false sz bytes p.2 x p.1) K := by
  cases hx with
  | gs hx => exact bnd_app1 hx hl ha hone hb hn h
  | full hlt hg hsz h0 =>
    rename_i id ex
    rw [bld_one hl ha, bnd_some]
    have hne : id ≠ H.n := by omega
    have hs : srcA (H.new (.cells y.cells true)) sz (.sl H.n 0 sz 1 (some 1)) = some (([y.cells] : List (List AV)).length, ([y.cells] : List (List AV)).flatten) := src_sl1 (ex := true) (by simp) hl
    have hfl := flatten_len hsz
    have e : List.take (rows.length * sz) rows.flatten = rows.flatten := by rw [← hfl]; exact List.take_length
    refine bnd_of (x := (.sl (H.n + 1) 0 sz (rows.length + 1) none, (H.new (.cells y.cells true)).new (.cells (rows.flatten ++ y.cells) false))) ?_ ?_
    · unfold appR
      simp only [notStr, hs, cond_true]
      have hle : ¬ (rows.length + 1 ≤ rows.length) := by omega
      simp [hone, beqN, bleN, hne, hg, hb, hn, hfl, e, hle]
    · refine h _ _ ?_ ⟨fun j hj hne' => ?_, by simp; omega, fun j hj => ?_⟩
      · have : rows.length + 1 = (rows ++ [y.cells]).length := by simp
        rw [this]
        refine .sl (ex := false) (by simp) (by simp) fun row hrow => ?_
        rcases List.mem_append.1 hrow with h | h
        · exact hsz row h
        · simp at h; subst h; exact hl
      · have h1 : j ≠ H.n := by omega
        have h2 : j ≠ H.n + 1 := by omega
        simp [h1, h2]
      · simp only [own] at hj
        right; subst hj; simp
theorem Gs.fzm {sz : Nat} {H : Hp} {x : AV} {rows rows' : List (List AV)} (h : Gs sz H x rows) (hl : rows.length = rows'.length) (hf : ∀ (i : Nat) r r', rows[i]? = some r → rows'[i]? = some r' → FzL H r r') : Fz H x (.imm sz rows') := by
  cases h with
  | nil =>
    have : rows' = [] := List.length_eq_zero_iff.1 (by simpa using hl.symm)
    subst this
    exact .nil
  | sl hlt hg hsz =>
    have hr : ∀ (i : Nat) r', rows'[i]? = some r' → ∃ r, rows[i]? = some r ∧ r.length = sz ∧ FzL H r r' := by
      intro i r' hi
      have hi' := (List.getElem?_eq_some_iff.1 hi).1
      obtain ⟨r, hr⟩ : ∃ r, rows[i]? = some r := ⟨rows[i]'(by omega), List.getElem?_eq_getElem _⟩
      exact ⟨r, hr, hsz r (List.mem_of_getElem? hr), hf i r r' hr hi⟩
    have hfl := flatten_len hsz
    refine .sl (fun i j => (rows.getD i []).getD j .any) hg hl.symm (fun i row hi => ?_) (fun i row j y hi hy => ?_) (fun i row j y hi hy => ?_)
    · obtain ⟨r, _, h1, h2⟩ := hr i row hi
      rw [← h2.len]; exact h1
    · obtain ⟨r, h0, h1, h2⟩ := hr i row hi
      obtain ⟨v, hv, _⟩ := h2.get.2 j y hy
      simp only [Nat.zero_add]
      have hk := rows_flat hsz i r j v h0 hv
      rw [hk]
      simp [h0, hv]
    · obtain ⟨r, h0, h1, h2⟩ := hr i row hi
      obtain ⟨v, hv, hfz⟩ := h2.get.2 j y hy
      simp [h0, hv]
      exact hfz
theorem LoopP.drop {P : Program} {C : Ctx P} {c : Code} {T T2 : List AV} {H : Hp} {Q : Exit → List AV → Hp → Prop} (hT : FzT H T T2) (h : LoopP C c T2 (Hp.bare H.n) Q) : LoopP C c T H Q :=
  LoopP.conv (Wk.frz (H2 := Hp.bare H.n) (Hd := H) rfl rfl (fun id k hk => ⟨hk, by simp⟩) (fun id k2 hk => by simp at hk) hT) h
end Go.Proofs.Ythmaggcfghjmfaa.Ev
namespace Go.Proofs.Ythmaggcfghjmfaa.Ev
end Go.Proofs.Ythmaggcfghjmfaa.Ev
namespace Go.Proofs.Ythmaggcfghjmfaa.Ev
open Go.RowKit
set_option linter.unusedVariables false
set_option linter.unusedSimpArgs false
set_option maxRecDepth 100000
variable {σ : Sig}
def ndP (p : Int) : Nd := ⟨p, emp, emp, [], []⟩
def rawP (p : Int) : List AV := [I p, Sx emp, Sx emp, nilS, nilS]
def nthL (n : Nat) : List Nd := ndP (-1) :: List.replicate n (ndP 0)
def nthR (n : Nat) : List (List AV) := rawP (-1) :: List.replicate n (rawP 0)
theorem raw_fz (H : Hp) (p : Int) : FzL H (rawP p) (encNd (ndP p)) := .cons (.refl rfl) (.cons (.refl rfl) (.cons (.refl rfl) (.cons .nil (.cons .nil .nil))))
theorem nthL_len (n : Nat) : (nthL n).length = n + 1 := by simp [nthL]
theorem nthL_get {n i : Nat} (h : i < n) : (nthL n)[i + 1]? = some (ndP 0) := by simp [nthL, h]
theorem nthL_par {n i : Nat} (h0 : 0 < i) (h : i ≤ n) : par (nthL n) i = ((0 : Nat) : Int) := by
  obtain ⟨j, rfl⟩ : ∃ j, i = j + 1 := ⟨i - 1, by omega⟩
  unfold par ndAt
  rw [List.getD_eq_getElem?_getD, nthL_get (by omega)]
  rfl
theorem nthB_ (n : Nat) : Built (nthL n) (nthL n).length (0 :: List.replicate n 1) := by
  refine ⟨by rw [nthL_len]; simp, Nat.le_refl _, fun _ => ⟨rfl, rfl⟩, fun i h0 hi => ?_⟩
  rw [nthL_len] at hi
  refine ⟨0, 0, nthL_par h0 (by omega), h0, rfl, ?_, by decide⟩
  obtain ⟨j, rfl⟩ : ∃ j, i = j + 1 := ⟨i - 1, by omega⟩
  have : j < n := by omega
  simp [this]
theorem ndP_wf {p : Int} (h : i64 p) : NdWf (ndP p) := ⟨h, by show 0 ≤ reachBytes; decide, by show 0 ≤ reachBytes; decide, by show 0 ≤ reachBytes; decide, by intro p hp; cases hp⟩
theorem ndP_sm (p : Int) : SmN (lowN (ndP p)) := ⟨by show 0 ≤ reachBytes; decide, by show 0 ≤ reachBytes; decide, by intro p hp; cases hp⟩
theorem nthW (n : Nat) : ∀ x ∈ nthL n, NdWf x := by
  intro x hx
  unfold nthL at hx
  rcases List.mem_cons.1 hx with rfl | hx
  · exact ndP_wf (by unfold i64; decide)
  · rw [List.eq_of_mem_replicate hx]; exact ndP_wf (by unfold i64; decide)
theorem ndAt_mem {L : List Nd} {e : Nat} (he : e < L.length) : ndAt L e ∈ L := by
  unfold ndAt
  rw [List.getD_eq_getElem?_getD, List.getElem?_eq_getElem he]
  exact List.getElem_mem _
theorem nthM (hC : HasC σ) {n : Nat} (hn : n ≤ 39) : McT σ (nthL n) (0 :: List.replicate n 1) := by
  refine ⟨hC, nthB_ n, by rw [nthL_len]; omega, fun e he => ?_⟩
  have hm := ndAt_mem he
  unfold nthL at hm
  rcases List.mem_cons.1 hm with h | h
  · rw [show ndAt (nthL n) e = ndP (-1) from h]; exact ndP_sm _
  · rw [show ndAt (nthL n) e = ndP 0 from List.eq_of_mem_replicate h]; exact ndP_sm _
theorem nth_kids {n : Nat} : ∀ m, m ≤ n + 1 → (kids (nthL n) m 0).length = m - 1
  | 0, _ => rfl
  | m + 1, h => by
    rw [kids_succ]
    by_cases h0 : 0 < m
    · have ih := nth_kids (n := n) m (by omega)
      rw [if_pos ⟨h0, nthL_par h0 (by omega)⟩, List.length_append, ih]
      simp only [List.length_cons, List.length_nil]
      omega
    · obtain rfl : m = 0 := by omega
      rfl
theorem nth_place {n e : Nat} (h0 : 0 < e) (he : e ≤ n) : place (nthL n) e = e := by
  unfold place
  rw [← kids_self (nthL_par h0 he), nth_kids e (by omega)]
  omega
theorem nthR_fz {n : Nat} {H : Hp} {x : AV} (h : Gs 5 H x (nthR n)) : Fz H x (nds (nthL n)) := by
  refine h.fzm (by simp [nthR, nthL]) fun i r r' hr hr' => ?_
  rw [List.getElem?_map] at hr'
  unfold nthR at hr
  unfold nthL at hr'
  cases i with
  | zero => simp at hr hr'; subst hr; subst hr'; exact raw_fz H _
  | succ i =>
    simp only [List.getElem?_cons_succ, List.getElem?_replicate] at hr hr'
    split at hr
    · rename_i hi
      rw [if_pos hi] at hr'
      simp at hr hr'
      subst hr; subst hr'
      exact raw_fz H _
    · cases hr
theorem gsc_fz {n : Nat} {H : Hp} {x : AV} (h : Gsc 5 H x (nthR n)) : Fz H x (nds (nthL n)) := by
  cases h with
  | gs h => exact nthR_fz h
  | full hlt hg hsz h0 =>
    have h' : Gs 5 H (.sl _ 0 5 (nthR n).length none) (nthR n) := .sl hlt hg hsz
    have := nthR_fz h'
    cases this with
    | sl val hg' hl hsz' hc hf => exact .sl val hg' hl hsz' hc hf
section
attribute [local irreducible] law10_MatchNth.L1 law10_MatchNth.J2
theorem nth_drop {K : AV → Hp → Prop} {y0 y1 y2 y8 y8' y9 y10 y12 y13 y14 : AV} {H : Hp} (hf : Fz H y8 y8') (h : law10_MatchNth.L0 σ K y0 y1 y2 y8' y9 y10 y12 y13 y14 (Hp.bare H.n)) : law10_MatchNth.L0 σ K y0 y1 y2 y8 y9 y10 y12 y13 y14 H :=
  fun js => LoopP.drop (.same (.same (.same (.same (.same (.same (.same (.same (.fz hf (FzT.refl _))))))))) ) (h js)
end
section
attribute [local irreducible] law10_MatchNth.L0 law10_MatchNth.L1 law10_MatchNth.J2
theorem nth_L1 (hC : HasC σ) {n : Nat} (hn : n ≤ 39) {a b : Int} (ha : i64 a) (hb : i64 b) {K : AV → Hp → Prop} (hK : ∀ H, K (Bo true) H) {id pid : Nat} {y9 : AV} : ∀ (f e : Nat) (H : Hp) (y14 : AV), n + 1 - e = f → 1 ≤ e → e ≤ n + 1 →
    H.get id = some (.cells [Sx emp, nilS, nilS, nilS, .sl pid 0 4 1 (some 1)] true) → H.get pid = some (.cells [I 6, I a, I b, nilS] true) →
    law10_MatchNth.L1 σ K (I (n : Int)) (I a) (I b) (nds (nthL n)) y9 (domT (nthL n) (0 :: List.replicate n 1)) (.ptr id 0) (I (e : Int)) y14 H := by
  have M := nthM (σ := σ) hC hn
  have hS := cp1_ok (k := 6) (by unfold i64; decide) ha hb
  intro f
  induction f with
  | zero =>
    intro e H y14 hf h1 he hg hgp
    obtain rfl : e = n + 1 := by omega
    refine law10_MatchNth.L1_step ?_
    have : ¬ (((n + 1 : Nat) : Int) ≤ (n : Int)) := by omega
    simp only [b_leq, bnd_some, this, decide_false, ifB_lit, Bool.false_eq_true, if_false]
    exact hK _
  | succ f ih =>
    intro e H y14 hf h1 he hg hgp
    have hlt : e < (nthL n).length := by rw [nthL_len]; omega
    have hpl := nth_place (n := n) (e := e) (by omega) (by omega)
    have hval : cpB (nthL n) 2 (cp1 6 a b) (e : Int) = nthB e a b := by
      rw [cp1_eq hlt (by decide) (by decide)]
      simp [pseudoB, Ps.kind, Ps.a, Ps.b, hpl]
    have hl5 : ∀ H : Hp, H.get id = some (.cells [Sx emp, nilS, nilS, nilS, .sl pid 0 4 1 (some 1)] true) → ldA true 5 H (.ptr id 0) = some (.agg [Sx emp, nilS, nilS, nilS, .sl pid 0 4 1 (some 1)]) := by
      intro H h
      rw [ld_ptr, h]; rfl
    have J2 : law10_MatchNth.J2 σ K (I (n : Int)) (I a) (I b) (nds (nthL n)) y9 (domT (nthL n) (0 :: List.replicate n 1)) (.ptr id 0) (I (e : Int)) (Bo (nthB e a b)) H := by
      refine law10_MatchNth.J2_step ?_
      rw [hl5 H hg, bnd_some]
      refine callK_of ((Cp_ok M hS (e : Int) Hp.empty).frzA (.cons (.refl (noId_domT _ _)) (.cons (.refl rfl) (.cons (fz_cp1 hgp) .nil))) rfl) ?_
      rw [hval]
      simp only [e_boolN, BEq.rfl, Bool.not_true, bnd_some, ifB_lit, Bool.false_eq_true, if_false, b_add]
      rw [wr_succ (by omega)]
      exact ih (e + 1) H _ (by omega) (by omega) (by omega) hg hgp
    have far : a ≠ 0 → bnd (binR .neq (I a) (I 0)) (fun x13 => ifB x13 (bnd (binR .neq (I b) (I (e : Int))) fun x14 => ifB x14 (callK Try.prog σ n_ref9_New [nds (nthL n)] H fun x15 H16 => bnd (exR x15 0) fun x17 => bnd (exR x15 1) fun x18 => bnd (ldA true 5 H16 (.ptr id 0)) fun x19 => callK Try.prog σ n_ref9_Tree_Compound [x17, I (e : Int), x19] H16 fun x20 H21 => law10_MatchNth.J2 σ K (I (n : Int)) (I a) (I b) (nds (nthL n)) y9 (domT (nthL n) (0 :: List.replicate n 1)) (.ptr id 0) (I (e : Int)) x20 H21) (law10_MatchNth.J2 σ K (I (n : Int)) (I a) (I b) (nds (nthL n)) y9 (domT (nthL n) (0 :: List.replicate n 1)) (.ptr id 0) (I (e : Int)) (Bo (decide (b = (e : Int)))) H)) (law10_MatchNth.J2 σ K (I (n : Int)) (I a) (I b) (nds (nthL n)) y9 (domT (nthL n) (0 :: List.replicate n 1)) (.ptr id 0) (I (e : Int)) (Bo (decide (b = (e : Int)))) H)) := by
      intro h0
      simp only [b_neq, h0, decide_false, Bool.not_false, bnd_some, ifB_lit, if_true]
      by_cases hbe : b = (e : Int)
      · have : nthB e a b = true := by
          unfold nthB
          rw [if_neg h0, hbe]
          split
          · simp
          · simp
        rw [this] at J2
        simpa [hbe] using J2
      · simp only [hbe, decide_false, Bool.not_false, if_true]
        rcases refNew_ok (σ := σ) (nthL n) (nthW n) with ⟨hnb, _⟩ | ⟨d, hN, hB, hg9⟩
        · exact absurd (nthB_ n) (hnb (by rw [nthL_len]; omega) _)
        refine callK_of (hg9 _) ?_
        simp only [x_tup, List.getElem?_cons_zero, List.getElem?_cons_succ, bnd_some, hl5 H hg]
        have hSd : TxL 2 [[⟨0, cp1 6 a b⟩]] := by
          intro s hs p hp
          rw [List.mem_singleton.1 hs] at hp
          rw [List.mem_singleton.1 hp]
          exact ⟨(fun a h => by cases h), fun q hq => by rw [List.mem_singleton.1 hq]; exact fun s h => by cases h⟩
        have Md : McT σ (nthL n) d := ⟨hC, hB, hN, M.sm⟩
        refine callK_of ((rTopCp_ok Md hS hSd (e : Int) Hp.empty).frzA (.cons (.refl (noId_refT _ _)) (.cons (.refl rfl) (.cons (fz_cp1 hgp) .nil))) rfl) ?_
        rw [hval]
        exact J2
    refine law10_MatchNth.L1_step ?_
    have hle : (e : Int) ≤ (n : Int) := by omega
    simp only [b_leq, bnd_some, hle, decide_true, ifB_lit, if_true, b_eql]
    by_cases h0 : a = 0
    · have : nthB e a b = decide (b = (e : Int)) := by
        unfold nthB
        rw [if_pos h0, decide_eq_decide]
        exact eq_comm
      rw [this] at J2
      simp only [h0, b_neq, decide_true, Bool.not_true, bnd_some, ifB_lit, Bool.false_eq_true, if_false]
      rw [h0] at J2
      exact J2
    · have hfar := far h0
      have e0 : bnd (binR .neq (I a) (I 0)) = fun (K : AV → Prop) => K (Bo true) := by
        funext K
        simp [h0]
      rw [e0]
      simp only [ifB_lit, if_true]
      have g1 : binR .gtr (I a) (I (-1073741824)) = some (Bo (decide (-1073741824 < a))) := b_gtr _ _ _
      have g2 : binR .lss (I a) (I 1073741824) = some (Bo (decide (a < 1073741824))) := b_lss _ _ _
      have g3 : binR .gtr (I b) (I (-1073741824)) = some (Bo (decide (-1073741824 < b))) := b_gtr _ _ _
      have g4 : binR .lss (I b) (I 1073741824) = some (Bo (decide (b < 1073741824))) := b_lss _ _ _
      rw [e0] at hfar
      simp only [ifB_lit, if_true] at hfar
      simp only [g1, g2, g3, g4, bnd_some, ifB_lit, decide_eq_true_eq]
      by_cases c1 : -1073741824 < a
      · by_cases c2 : a < 1073741824
        · by_cases c3 : -1073741824 < b
          · by_cases c4 : b < 1073741824
            · simp only [c1, c2, c3, c4, if_true]
              have hs : wr .i64 ((e : Int) - b) = (e : Int) - b := wr64 (by omega) (by omega)
              rw [b_sub, hs, bnd_some, b_rem _ _ _ h0, bnd_some, b_eql, bnd_some]
              have hq := nthQ (p := (e : Int)) (b := b) h0
              simp only [ifB_lit, decide_eq_true_eq]
              by_cases hr : ((e : Int) - b).tmod a = 0
              · simp only [hr, if_true]
                have hdiv : wr .i64 (((e : Int) - b).tdiv a) = ((e : Int) - b).tdiv a := by
                  have h1 : (((e : Int) - b).tdiv a).natAbs ≤ ((e : Int) - b).natAbs := by rw [Int.natAbs_tdiv]; exact Nat.div_le_self _ _
                  exact wr64 (by omega) (by omega)
                rw [b_quo _ _ _ h0, hdiv, bnd_some, b_geq, bnd_some]
                rw [hq] at J2
                simpa [hr] using J2
              · simp only [hr, if_false]
                rw [hq] at J2
                simpa [hr] using J2
            · simp only [c1, c2, c3, c4, if_true, if_false]; exact hfar
          · simp only [c1, c2, c3, if_true, if_false]; exact hfar
        · simp only [c1, c2, if_true, if_false]; exact hfar
      · simp only [c1, if_false]; exact hfar
theorem MatchNth_good (hC : HasC σ) {n a b : Int} (ha : i64 a) (hb : i64 b) : ∃ Hf, Good Try.prog σ n_law10_MatchNth [I n, I a, I b] Hp.empty (Bo true) Hf := by
  refine ⟨Hp.empty, good_by (fun K hK => law10_MatchNth.run (callK_of (alive10 hC _) ?_)) (by simp [noIds, noId]) rfl _⟩
  simp only [u_not, bnd_some, ifB_lit, Bool.not_true, Bool.false_eq_true, if_false, b_lss, b_gtr, decide_eq_true_eq]
  split
  · exact hK _
  split
  · exact hK _
  rename_i h1 h2
  obtain ⟨k, rfl⟩ : ∃ k : Nat, n = k := ⟨n.toNat, by omega⟩
  have hk : k ≤ 39 := by omega
  refine bnd_of (x := rawP (-1)) rfl ?_
  refine bnd_of (x := (.sl Hp.empty.n 0 5 1 (some 1), Hp.empty.new (.cells (rawP (-1)) true))) rfl ?_
  have L0 : ∀ (f m : Nat) (H : Hp) (y8 y10 y12 y13 y14 : AV), k - m = f → m ≤ k → Gsc 5 H y8 (nthR m) → law10_MatchNth.L0 σ K (I (k : Int)) (I a) (I b) y8 (I (m : Int)) y10 y12 y13 y14 H := by
    intro f
    induction f with
    | zero =>
      intro m H y8 y10 y12 y13 y14 hf hm hg
      obtain rfl : m = k := by omega
      refine nth_drop (gsc_fz hg) ?_
      refine law10_MatchNth.L0_step ?_
      simp only [b_lss, bnd_some, Int.lt_irrefl, decide_false, ifB_lit, Bool.false_eq_true, if_false]
      refine callK_of (domNew_ok (nthB_ m) (nthW m) (by rw [nthL_len]; omega) _) ?_
      simp only [x_tup, List.getElem?_cons_zero, List.getElem?_cons_succ, bnd_some]
      refine bnd_of (x := [I 6, I a, I b, nilS]) rfl ?_
      generalize Hp.bare H.n = Hb
      refine bnd_of (x := (.sl Hb.n 0 4 1 (some 1), Hb.new (.cells [I 6, I a, I b, nilS] true))) rfl ?_
      refine bnd_of (x := [Sx emp, nilS, nilS, nilS, .sl Hb.n 0 4 1 (some 1)]) rfl ?_
      simp only [allocK_eq]
      refine bnd_of (x := ((Hb.new (.cells [I 6, I a, I b, nilS] true)).new (.cells [Sx emp, nilS, nilS, nilS, nilS] true)).set (Hb.n + 1) (some (.cells [Sx emp, nilS, nilS, nilS, .sl Hb.n 0 4 1 (some 1)] true))) ?_ ?_
      · rw [st_agg]
        simp only [Hp.n_new, hp_get_new, if_true]
        rfl
      have e1 : Hb.n ≠ Hb.n + 1 := by omega
      exact nth_L1 (id := Hb.n + 1) (pid := Hb.n) hC hk ha hb hK (m + 1 - 1) 1 _ _ rfl (by decide) (by omega) (by simp) (by simp [e1])
    | succ f ih =>
      intro m H y8 y10 y12 y13 y14 hf hm hg
      have hlt : (m : Int) < k := by omega
      refine law10_MatchNth.L0_step ?_
      simp only [b_lss, bnd_some, hlt, decide_true, ifB_lit, if_true]
      refine bnd_of (x := rawP 0) rfl ?_
      have hl : (nthR m).length = m + 1 := by simp [nthR]
      refine bnd_app1c hg rfl rfl rfl (by rw [hl]; omega) (by rw [hl]; omega) fun y' H' hg' _ => ?_
      rw [b_add, bnd_some, wr_succ (by omega)]
      refine ih (m + 1) H' y' _ _ _ _ (by omega) (by omega) (.gs ?_)
      have : nthR m ++ [(AV.agg (rawP 0)).cells] = nthR (m + 1) := by
        unfold nthR
        rw [List.replicate_succ', List.cons_append]
        rfl
      rw [← this]
      exact hg'
  exact L0 _ 0 _ _ _ _ _ _ rfl (Nat.zero_le _) (.lit rfl)
end
theorem MatchNth_walk {H : Type} {enc : TypeId × Value → H} (W : World) (hsh : W.ShapedOpen Try.prog) {v0 v1 v2 : Value} {r : Reach} {b0 base : Nat} {spare : Nat → Bool} {held : Bool} {d0 d1 d2 : DataW H} {p0 p1 p2 : List MemPlace}
    (e0 : Value.okWide Try.prog W r b0 T_int v0) (h0 : DataW.Trod enc Try.prog W base spare held T_int v0 d0 p0) (w0 : ∀ n ∈ d0.weights Try.prog T_int, n ≤ reachBytes)
    (e1 : Value.okWide Try.prog W r b0 T_int v1) (h1 : DataW.Trod enc Try.prog W base spare held T_int v1 d1 p1) (w1 : ∀ n ∈ d1.weights Try.prog T_int, n ≤ reachBytes)
    (e2 : Value.okWide Try.prog W r b0 T_int v2) (h2 : DataW.Trod enc Try.prog W base spare held T_int v2 d2 p2) (w2 : ∀ n ∈ d2.weights Try.prog T_int, n ≤ reachBytes) :
    Calls Try.prog n_law10_MatchNth #[v0, v1, v2] W fun e W' => e = .returned (.bool true) ∧ Below W.heap.size W W' := by
  obtain ⟨x0, r0, s0⟩ := read_arg (P := Try.prog) (ti := tiT.get) (S := readB) (t := T_int) (σ := sigM) tiT_ok readB_closed (inB_mem (by kernel_rfl)) e0 h0 w0
  obtain ⟨x1, r1, s1⟩ := read_arg (P := Try.prog) (ti := tiT.get) (S := readB) (t := T_int) (σ := sigM) tiT_ok readB_closed (inB_mem (by kernel_rfl)) e1 h1 w1
  obtain ⟨x2, r2, s2⟩ := read_arg (P := Try.prog) (ti := tiT.get) (S := readB) (t := T_int) (σ := sigM) tiT_ok readB_closed (inB_mem (by kernel_rfl)) e2 h2 w2
  obtain ⟨n, rfl, _⟩ := v_int s0
  obtain ⟨a, rfl, ha⟩ := v_int s1
  obtain ⟨b, rfl, hb⟩ := v_int s2
  obtain ⟨Hf, hg⟩ := MatchNth_good (n := n) (hasC sigM_g) ha hb
  exact law_of_good (relL3 r0 r1 r2) hg (gMax_ok W hsh sigM_g)
end Go.Proofs.Ythmaggcfghjmfaa.Ev

/- The walks, part 7: the evaluator, the functions, the laws. Conditions: none. -/
import Derived.Shelf.LaysM
import Derived.Shelf.Strings.Search1
import Derived.Shelf.Strings.Search2
import Derived.Shelf.Strings.Search3
import Derived.Shelf.Strings.Shaped
import Derived.Test.YthmaggcfghjmfaaZ6
namespace Go.Proofs.Ythmaggcfghjmfaa.Ev
open Go.Shelf Go.Proofs
def laysM144_ren : Ren :=
{
  f := fun x =>
    match x with
    | 144 => 124
    | 143 => 128
    | 219 => 131
    | 217 => 132
    | 225 => 133
    | 224 => 134
    | 267 => 135
    | 266 => 136
    | 314 => 137
    | n => n,
  t := fun x =>
    match x with
    | 9 => 9
    | 4 => 4
    | 3 => 3
    | 5 => 5
    | 46 => 142
    | 146 => 163
    | 51 => 162
    | n => n,
  g := fun x =>
    match x with
    | 1 => 0
    | n => n }
theorem laysM144 : LaysM.n144 Try.prog laysM144_ren :=
{ mixed := by kernel_rfl, f143 := Eq.trans Try.func128 (congrArg some (Eq.refl (Body.n143 laysM144_ren))),
  f144 := Eq.trans Try.func124 (congrArg some (Eq.refl (Body.n144 laysM144_ren))),
  f217 := Eq.trans Try.func132 (congrArg some (Eq.refl (Body.n217 laysM144_ren))),
  f219 := Eq.trans Try.func131 (congrArg some (Eq.refl (Body.n219 laysM144_ren))),
  f224 := Eq.trans Try.func134 (congrArg some (Eq.refl (Body.n224 laysM144_ren))),
  f225 := Eq.trans Try.func133 (congrArg some (Eq.refl (Body.n225 laysM144_ren))),
  f266 := Eq.trans Try.func136 (congrArg some (Eq.refl (Body.n266 laysM144_ren))),
  f267 := Eq.trans Try.func135 (congrArg some (Eq.refl (Body.n267 laysM144_ren))),
  f314 := Eq.trans Try.func137 (congrArg some (Eq.refl (Body.n314 laysM144_ren))), t3 := Try.underlying3,
  a3 := Try.isAgg3, z3 := Try.sizeOf3, v3 := Try.zeroValue3, t4 := Try.underlying4, a4 := Try.isAgg4, z4 := Try.sizeOf4,
  v4 := Try.zeroValue4, t5 := Try.underlying5, a5 := Try.isAgg5, z5 := Try.sizeOf5, v5 := Try.zeroValue5,
  t9 := Try.underlying9, a9 := Try.isAgg9, z9 := Try.sizeOf9, v9 := Try.zeroValue9, t46 := Try.underlying142,
  a46 := Try.isAgg142, z46 := Try.sizeOf142, v46 := Try.zeroValue142, t51 := Try.underlying162, a51 := Try.isAgg162,
  z51 := Try.sizeOf162, v51 := Try.zeroValue162, t146 := Try.underlying163, a146 := Try.isAgg163, z146 := Try.sizeOf163,
  v146 := Try.zeroValue163, g1 := by kernel_rfl,
  i3 := by kernel_rfl, i4 := by kernel_rfl,
  i5 := by kernel_rfl,
  i9 := by kernel_rfl,
  i46 := by kernel_rfl,
  i51 := by kernel_rfl,
  i146 := by kernel_rfl,
  m1 := by kernel_rfl,
  s1_3 := fun w h => Go.Proofs.cell_of_shapedOpen_int h (zero := #[Go.Value.int Go.IntKind.i64 0]) (t := 3) (of_decide_eq_true (by kernel_rfl)) (by kernel_rfl) rfl (by kernel_rfl) (by kernel_rfl) Try.underlying3 }
def gMax : Nat := laysM144_ren.g 1
theorem hasC {σ : Sig} (hg : σ.g = some gMax) : HasC σ := by
  intro s t H hs
  refine ⟨⟨_, Try.func124, by kernel_rfl, by kernel_rfl⟩, fun B w0 E w vs hσ hst hx => ?_⟩
  obtain ⟨_, m, hm⟩ := hst.glNow gMax (by rw [hσ]; exact hg)
  have hl := hx.len
  obtain ⟨v0, v1, rfl⟩ : ∃ v0 v1, vs = #[v0, v1] := by
    obtain ⟨l⟩ := vs
    match l, hl with
    | [a, b], _ => exact ⟨a, b, rfl⟩
  have r0 := hx.at_ 0 _ v0 rfl (by simp)
  have r1 := hx.at_ 1 _ v1 rfl (by simp)
  cases r0
  cases r1
  refine (Any.strings_Contains (ρ := laysM144_ren) { laysM144 with } s t m w hs hm).mono fun e w' he => ?_
  obtain ⟨rfl, rfl⟩ := he
  exact ⟨E, _, rfl, .refl E, hst, .lit _⟩
theorem gMax_ok (W : World) (h : W.ShapedOpen Try.prog) {σ : Sig} (hg : σ.g = some gMax) : ∀ g, σ.g = some g → ∃ m : Int, W.cell? ⟨g, 0, none⟩ = some (.int .i64 m) := by
  intro g hg'
  rw [hg] at hg'
  cases hg'
  exact laysM144.s1_3 W h
end Go.Proofs.Ythmaggcfghjmfaa.Ev
namespace Go.Proofs.Ythmaggcfghjmfaa.Ev
set_option linter.unusedVariables false
set_option linter.unusedSimpArgs false
set_option maxRecDepth 100000
variable {σ : Sig}
def alL : List Nd := [⟨-1, emp, emp, [], []⟩, ⟨0, emp, emp, [], []⟩, ⟨0, emp, emp, [], []⟩, ⟨0, emp, emp, [], []⟩]
def alS : Sl := [⟨0, .mk emp [] [] [] [.mk 6 2 1 []]⟩]
theorem alB : Built alL alL.length [0, 1, 1, 1] := by
  have h1 : Built alL 1 [0] := Built.first (by decide) rfl
  have h2 : Built alL 2 [0, 1] := h1.next (p := 0) (x := 0) (by decide) (by decide) rfl (by decide) rfl (by decide)
  have h3 : Built alL 3 [0, 1, 1] := h2.next (p := 0) (x := 0) (by decide) (by decide) rfl (by decide) rfl (by decide)
  exact h3.next (p := 0) (x := 0) (by decide) (by decide) rfl (by decide) rfl (by decide)
theorem lowB_emp : lowB emp = emp := by first | rfl | kernel_rfl
theorem alW : ∀ n ∈ alL, NdWf n := by
  intro n hn
  simp only [alL, List.mem_cons, List.not_mem_nil, or_false] at hn
  rcases hn with rfl | rfl | rfl | rfl <;> exact ⟨by unfold i64; decide, by decide, by decide, by decide, by intro p hp; cases hp⟩
theorem alSm : ∀ e, e < alL.length → SmN (lowN (ndAt alL e)) := by
  intro e he
  have : e = 0 ∨ e = 1 ∨ e = 2 ∨ e = 3 := by simp [alL] at he; omega
  rcases this with rfl | rfl | rfl | rfl <;> exact ⟨by decide, by decide, by intro p hp; cases hp⟩
theorem alM (hC : HasC σ) : McT σ alL [0, 1, 1, 1] := ⟨hC, alB, by decide, alSm⟩
theorem alSO : SelOk 2 [alS] := by
  refine ⟨⟨by decide, fun s hs => ?_⟩, ⟨by decide, fun s hs => ?_⟩, fun s hs p hp q hq => ?_, by decide, by decide⟩
  · rw [List.mem_singleton.1 hs]
    refine ⟨by decide, fun p hp => ?_⟩
    rw [List.mem_singleton.1 hp, Pt.wf_iff]
    refine ⟨by unfold i64; decide, by decide, ⟨by decide, fun s h => by cases h⟩, ⟨by decide, fun s h => by cases h⟩, by decide, (fun s h => by cases h), by decide, fun q hq => ?_⟩
    rw [List.mem_singleton.1 hq, Ps.wf_iff]
    exact ⟨by unfold i64; decide, by unfold i64; decide, by unfold i64; decide, by decide, fun s h => by cases h⟩
  · rw [List.mem_singleton.1 hs]
    refine ⟨by decide, fun p hp => ?_⟩
    rw [List.mem_singleton.1 hp]
    refine ⟨⟨by decide, by decide, by decide, (fun s h => by cases h), by decide⟩, by decide, fun q hq => ?_⟩
    rw [List.mem_singleton.1 hq]
    exact ⟨⟨by unfold i64; decide, by unfold i64; decide⟩, by decide, fun s h => by cases h⟩
  · rw [List.mem_singleton.1 hs] at hp
    rw [List.mem_singleton.1 hp] at hq
    rw [List.mem_singleton.1 hq]
    exact fun s h => by cases h
theorem al1 : selB alL 2 alS 1 = true := by kernel_rfl
theorem al2 : selB alL 2 alS 2 = false := by kernel_rfl
theorem al3 : selB alL 2 alS 3 = true := by kernel_rfl
theorem alive10 (hC : HasC σ) (H : Hp) : Good Try.prog σ n_law10_alive [] H (Bo true) H := by
  refine good_by (fun K hK => law10_alive.run ?_) rfl rfl H
  iterate 5 refine bnd_of rfl ?_
  refine callK_of (Good.drop (fun H => domNew_ok alB alW (by decide) H) (.cons (frzS_ok skNds _ _ (by kernel_rfl)) .nil)) ?_
  simp only [x_tup, List.getElem?_cons_zero, List.getElem?_cons_succ, bnd_some]
  iterate 6 refine bnd_of rfl ?_
  simp only [allocK_eq]
  refine bnd_of rfl ?_
  refine bnd_of rfl ?_
  refine callK_of ((Sel_ok (alM hC) alSO 1 Hp.empty).frzA (.cons (.refl (noId_domT _ _)) (.cons (.refl rfl) (.cons (frzS_ok (skS 1) _ _ (by kernel_rfl)) .nil))) rfl) ?_
  simp only [al1, ifB_lit, if_true]
  refine bnd_of rfl ?_
  refine callK_of ((Sel_ok (alM hC) alSO 2 Hp.empty).frzA (.cons (.refl (noId_domT _ _)) (.cons (.refl rfl) (.cons (frzS_ok (skS 1) _ _ (by kernel_rfl)) .nil))) rfl) ?_
  simp only [al2, u_not, bnd_some, ifB_lit, if_true, Bool.not_false]
  refine bnd_of rfl ?_
  refine callK_of ((Sel_ok (alM hC) alSO 3 Hp.empty).frzA (.cons (.refl (noId_domT _ _)) (.cons (.refl rfl) (.cons (frzS_ok (skS 1) _ _ (by kernel_rfl)) .nil))) rfl) ?_
  rw [al3]
  exact hK _
end Go.Proofs.Ythmaggcfghjmfaa.Ev
namespace Go.Proofs.Ythmaggcfghjmfaa.Ev
set_option linter.unusedVariables false
set_option linter.unusedSimpArgs false
variable {σ : Sig}
def bigS (s : ByteArray) : Bool := decide (60 < (s.data.size : Int))
def bigP (p : ByteArray × ByteArray) : Bool := bigS p.1 || decide (100 < (p.2.data.size : Int))
def bigN (n : Nd) : Bool := decide (8 < (n.classes.length : Int)) || (decide (8 < (n.attrs.length : Int)) || (bigS n.tag || (bigS n.id || (n.classes.any bigS || n.attrs.any bigP))))
structure NdSm (n : Nd) : Prop where
  classes : n.classes.length ≤ 8
  attrs : n.attrs.length ≤ 8
  tag : n.tag.data.size ≤ 60
  id : n.id.data.size ≤ 60
  cl : ∀ s ∈ n.classes, s.data.size ≤ 60
  at' : ∀ p ∈ n.attrs, p.1.data.size ≤ 60 ∧ p.2.data.size ≤ 100
theorem NdSm.of {n : Nd} (h : bigN n = false) : NdSm n := by
  unfold bigN bigP bigS at h
  simp only [Bool.or_eq_false_iff, decide_eq_false_iff_not, List.any_eq_false, Bool.or_eq_true, decide_eq_true_eq, not_or] at h
  obtain ⟨h1, h2, h3, h4, h5, h6⟩ := h
  exact ⟨by omega, by omega, by omega, by omega, fun s hs => by have := h5 s hs; omega, fun p hp => by have := h6 p hp; omega⟩
section
end
end Go.Proofs.Ythmaggcfghjmfaa.Ev
namespace Go.Proofs.Ythmaggcfghjmfaa.Ev
set_option linter.unusedVariables false
set_option linter.unusedSimpArgs false
theorem d_int {ts : List Nat} {zs : List AV} (h : Sh tiT.get (T_int :: ts) zs) : ∃ n ys, zs = I n :: ys ∧ i64 n ∧ Sh tiT.get ts ys := by
  obtain ⟨i, hi, hd, _⟩ := T_int_is
  obtain ⟨n, ys, e, hw, hs⟩ := sh_int hi hd h
  refine ⟨n, ys, e, ?_, hs⟩
  simp [Lit.wf, IntKind.min, IntKind.max, IntKind.signed, IntKind.bits] at hw
  unfold i64
  omega
theorem d_str {ts : List Nat} {zs : List AV} (h : Sh tiT.get (T_string :: ts) zs) : ∃ s ys, zs = Sx s :: ys ∧ s.data.size ≤ Lmax ∧ Sh tiT.get ts ys := by
  obtain ⟨i, hi, hd, _⟩ := T_string_is
  obtain ⟨s, ys, e, hw, hs⟩ := sh_str hi hd h
  exact ⟨s, ys, e, Nat.le_trans hw (by decide), hs⟩
def readB : List Nat := [T_int, T_string, T_bool, T_sl_string, T_sl_api_Attr, T_api_Attr, T_sl_api_Part, T_api_Part, T_api_Compound, T_sl_api_Pseudo, T_api_Pseudo, T_sl_api_Selector, T_api_Selector, T_sl_api_Node, T_api_Node, T_sl_api_Pair, T_api_Pair]
theorem readB_closed : closedB tiT.get readB = true := by kernel_rfl
end Go.Proofs.Ythmaggcfghjmfaa.Ev
namespace Go.Proofs.Ythmaggcfghjmfaa.Ev
theorem v_one {t sz : Nat} {d : TD} (hT : ∃ i, tiT.get t = some i ∧ i.d = d ∧ i.size = sz) (ha : d.agg = false) {x : AV} (h : ShV tiT.get t x) : Sh tiT.get [t] [x] := by
  obtain ⟨i, hi, hd, _⟩ := hT
  unfold ShV at h
  rw [hi] at h
  simp only [hd, ha] at h
  exact h
theorem v_int {x : AV} (h : ShV tiT.get T_int x) : ∃ n, x = I n ∧ i64 n := by
  obtain ⟨n, ys, e, w, hn⟩ := d_int (v_one T_int_is rfl h)
  cases e
  exact ⟨n, rfl, w⟩
theorem v_str {x : AV} (h : ShV tiT.get T_string x) : ∃ s, x = Sx s ∧ s.data.size ≤ Lmax := by
  obtain ⟨n, ys, e, w, hn⟩ := d_str (v_one T_string_is rfl h)
  cases e
  exact ⟨n, rfl, w⟩
end Go.Proofs.Ythmaggcfghjmfaa.Ev
namespace Go.Proofs.Ythmaggcfghjmfaa.Ev
end Go.Proofs.Ythmaggcfghjmfaa.Ev
namespace Go.Proofs.Ythmaggcfghjmfaa.Ev
set_option linter.unusedVariables false
set_option linter.unusedSimpArgs false
variable {σ : Sig} {L : List Nd} {d : List Nat}
def TxL : Nat → List Sl → Prop
  | 0, _ => False
  | f + 1, l => ∀ s ∈ l, ∀ p ∈ s, (∀ a ∈ p.c.attrs, a.text.data.size < 4294967281) ∧ ∀ q ∈ p.c.pseudos, TxL f q.list
theorem TxL.one {f : Nat} {l : List Sl} (h : TxL f l) {s : Sl} (hs : s ∈ l) : TxL f [s] := by
  cases f with
  | zero => exact h
  | succ f => exact fun s' hs' => by rw [List.mem_singleton.1 hs']; exact h s hs
theorem RcOk.of {c : Cp} (h : CpOk c) (ht : ∀ a ∈ c.attrs, a.text.data.size < 4294967281) : RcOk c := ⟨h.ids, h.classes, h.attrs, h.ps, ht⟩
theorem rs_of : ∀ (f : Nat) (l : List Sl) (dp : Nat), SlsOk f l → TxL f l → mayF f l dp = true → RsOk f l
  | 0, l, dp, h, _, _ => h
  | f + 1, l, dp, h, ht, hm => by
    refine ⟨Nat.le_trans h.1 (by decide), fun s hs => ?_⟩
    have h1 := h.2 s hs
    have h2 := List.all_eq_true.1 hm s hs
    unfold mayS at h2
    simp only [Bool.and_eq_true, decide_eq_true_eq] at h2
    refine ⟨h2.1, fun p hp => ?_⟩
    have h3 := h1.2 p hp
    have h4 := ht s hs p hp
    refine ⟨.of h3.1 h4.1, fun q hq => ⟨(h3.2.2 q hq).1, fun hk => ?_⟩⟩
    have h5 := List.all_eq_true.1 (List.all_eq_true.1 h2.2 p hp) q hq
    unfold mayQ at h5
    rw [if_pos hk] at h5
    simp only [Bool.and_eq_true] at h5
    exact rs_of f q.list (dp - 1) (h3.2.2 q hq).2 (h4.2 q hq) h5.2
theorem frB_AA {f : Nat} {s : Sl} (hn : Nest f [s]) (hf : f ≤ 12) (e : Nat) : AA L [s] e = frB L s e := by
  rw [← AA_eq hn hf]
  simp [anyS, frB]
theorem mayF_one {f : Nat} {s : Sl} {dp : Nat} : mayF (f + 1) [s] dp = mayS (mayF f) dp s := by simp [mayF]
theorem rcomp_out {e : Int} (he : (decide (0 ≤ e) && decide (e < L.length)) = false) (c : Cp) (dp : Nat) (H : Hp) : Good Try.prog σ n_ref9_Tree_compound [refT L d, I e, .agg (encCp c), I (dp : Int)] H (Bo false) H := by
  refine good_by (fun K hK => ref9_Tree_compound.run ?_) (by simp [noIds, noId, noId_refT, noId_Cp]) rfl H
  simp only [boxK_agg]
  refine callK_of (ris_ok L d e _) ?_
  rw [he]
  simpa using hK _
theorem rTopCp_ok (M : McT σ L d) {f : Nat} {c : Cp} (S : SelOk (f + 1) [[⟨0, c⟩]]) (ht : TxL (f + 1) [[⟨0, c⟩]]) (e : Int) (H : Hp) : Good Try.prog σ n_ref9_Tree_Compound [refT L d, I e, .agg (encCp c)] H (Bo (cpB L (f + 1) c e)) H := by
  refine good_by (fun K hK => ref9_Tree_Compound.run ?_) (by simp [noIds, noId, noId_refT, noId_Cp]) rfl H
  have hwf := (Pt.wf_iff.1 ((S.wf.2 [⟨0, c⟩] (by simp)).2 ⟨0, c⟩ (by simp))).2
  have hn := S.nest
  have hnq : ∀ q ∈ c.pseudos, Nest f q.list := fun q hq => hn [⟨0, c⟩] (by simp) ⟨0, c⟩ (by simp) q hq
  simp only [boxK_agg]
  have hl : ldA true 5 (Hp.empty.new (.cells (encCp c) true)) (.ptr Hp.empty.n 0) = some (.agg (encCp c)) := by simp
  simp only [hl, bnd_some]
  refine callK_of (dc_ok f c 0 _ hwf hnq (by decide)) ?_
  simp only [u_not, Bool.not_not, bnd_some, ifB_lit, Nat.sub_zero]
  have hms : mayS (mayF f) 8 [⟨0, c⟩] = mayC (mayF f) 8 c := by simp [mayS, Pt.c]
  unfold cpB selB mayAny at hK
  simp only [List.any_cons, List.any_nil, Bool.or_false, mayF_one, hms] at hK
  cases hm : mayC (mayF f) 8 c with
  | false => rw [hm] at hK; simpa using hK _
  | true =>
    rw [hm] at hK
    simp only [if_true, hl, bnd_some]
    rw [Bool.true_and] at hK
    cases hin : (decide (0 ≤ e) && decide (e < (L.length : Int))) with
    | false =>
      rw [hin] at hK
      exact callK_of (rcomp_out hin c 0 _) (hK _)
    | true =>
      rw [hin, Bool.true_and] at hK
      simp only [Bool.and_eq_true, decide_eq_true_eq] at hin
      obtain ⟨en, rfl⟩ : ∃ en : Nat, e = (en : Int) := ⟨e.toNat, by omega⟩
      have he : en < L.length := by omega
      rw [Int.toNat_natCast, frB_AA hn S.hf] at hK
      have hfr : frB L [⟨0, c⟩] en = compB (AA L) L en c := rfl
      rw [hfr] at hK
      have hm' : mayF (f + 1) [[⟨0, c⟩]] 8 = true := by rw [mayF_one, hms]; exact hm
      have hr := rs_of (f + 1) [[⟨0, c⟩]] 8 S.ok ht hm'
      have h1 := (rany_ok (σ := σ) M.hB M.hN M.sm (f + 1) [[⟨0, c⟩]] 0 S.hf hr hn (by have := S.hf; omega)).1 [⟨0, c⟩] (by simp)
      exact callK_of (rcomp_ok M.hB M.hN he (M.sm en he) (h1.1.c ⟨0, c⟩ (by simp)) (h1.1.q ⟨0, c⟩ (by simp)) (by decide) (fun q hq hk H => h1.2 ⟨0, c⟩ (by simp) q hq hk en H he) _) (hK _)
end Go.Proofs.Ythmaggcfghjmfaa.Ev
namespace Go.Proofs.Ythmaggcfghjmfaa.Ev
set_option linter.unusedVariables false
set_option linter.unusedSimpArgs false
set_option maxRecDepth 100000
variable {σ : Sig}
abbrev nilS : AV := .lit (.slice none 0 0)
theorem NdSm.low {n : Nd} (h : NdSm n) : SmN (lowN n) := by
  have r : reachBytes = 140737488351232 := rfl
  refine ⟨by have := h.classes; show n.classes.length ≤ _; omega, by have := h.attrs; show (n.attrs.map lowPr).length ≤ _; rw [List.length_map]; omega, fun p hp => ?_⟩
  obtain ⟨q, hq, rfl⟩ := List.mem_map.1 hp
  have := (h.at' q hq).2
  show q.2.data.size < _
  omega
section
end
end Go.Proofs.Ythmaggcfghjmfaa.Ev
namespace Go.Proofs.Ythmaggcfghjmfaa.Ev
open Go.RowKit
def sigM : Sig := ⟨fun _ => 0, fun _ => false, fun _ => ⟨#[]⟩, some gMax⟩
theorem sigM_g : sigM.g = some gMax := rfl
end Go.Proofs.Ythmaggcfghjmfaa.Ev
namespace Go.Proofs.Ythmaggcfghjmfaa.Ev
set_option linter.unusedVariables false
set_option maxRecDepth 100000
set_option maxHeartbeats 4000000
end Go.Proofs.Ythmaggcfghjmfaa.Ev
namespace Go.Proofs.Ythmaggcfghjmfaa.Ev
open Go.RowKit
set_option linter.unusedVariables false
set_option linter.unusedSimpArgs false
set_option maxRecDepth 100000
set_option maxHeartbeats 4000000
variable {σ : Sig}
def sA : ByteArray := ⟨#[97]⟩
def sM : ByteArray := ⟨#[109]⟩
def sN : ByteArray := ⟨#[110]⟩
def sOther : ByteArray := ⟨#[111, 116, 104, 101, 114]⟩
def sNone : ByteArray := ⟨#[110, 111, 110, 101]⟩
def atNd (t : ByteArray) : Nd := ⟨-1, emp, emp, [], [(sA, sOther), (sM, t), (sM, sNone)]⟩
def atL (t : ByteArray) : List Nd := [atNd t]
theorem atB (t : ByteArray) : Built (atL t) (atL t).length [0] := Built.first (by show 0 < 1; decide) rfl
theorem lowA : lowB sA = sA := by kernel_rfl
theorem lowM : lowB sM = sM := by kernel_rfl
theorem atLow (t : ByteArray) : lowN (atNd t) = atNd t := by
  unfold lowN atNd lowPr
  simp only [List.map_cons, List.map_nil, lowA, lowM, lowB_emp]
theorem atMc (hC : HasC σ) {t : ByteArray} (ht : t.data.size ≤ 100) : McT σ (atL t) [0] := by
  refine ⟨hC, atB t, by show 1 ≤ 4096; decide, fun e he => ?_⟩
  have : e = 0 := by have : (atL t).length = 1 := rfl; omega
  subst this
  rw [show ndAt (atL t) 0 = atNd t from rfl, atLow]
  refine ⟨by show 0 ≤ reachBytes; decide, by show 3 ≤ reachBytes; decide, fun p hp => ?_⟩
  simp only [atNd, List.mem_cons, List.not_mem_nil, or_false] at hp
  rcases hp with rfl | rfl | rfl
  · show 5 < _; decide
  · show t.data.size < _; omega
  · show 4 < _; decide
def aH0 (t : ByteArray) : Hp := (Hp.empty.new (.cells [Sx sA, Sx sOther, Sx sM, Sx t, Sx sM, Sx sNone] true)).new (.cells [I (-1), Sx emp, Sx emp, nilS, .sl 0 0 2 3 (some 3)] true)
def aX : AV := .sl 1 0 5 1 (some 1)
noncomputable def runA (σ : Sig) (f : Nat) (H : Hp) : Option (AV × Hp) := evF (CX σ [] known_nil) fnT.get noOv 1000 60 f [aX] H
noncomputable def hpO (o : Option (AV × Hp)) : Hp := match o with
  | some (_, H) => H
  | none => Hp.empty
noncomputable def avO (o : Option (AV × Hp)) : AV := match o with
  | some (x, _) => x
  | none => .any
theorem runA_ok {f : Nat} {H : Hp} (h : (runA σ f H).isSome = true) : Good Try.prog σ f [aX] H (avO (runA σ f H)) (hpO (runA σ f H)) := by
  cases he : runA σ f H with
  | none => rw [he] at h; cases h
  | some p => exact evF_ok (CX σ [] known_nil) mixed noOv_ok fnT_ok 1000 60 f [aX] H p.1 p.2 he
noncomputable def aH1 (σ : Sig) (t : ByteArray) : Hp := hpO (runA σ n_dom_New (aH0 t))
noncomputable def aH2 (σ : Sig) (t : ByteArray) : Hp := ((aH1 σ t).set 0 none).set 1 none
noncomputable def aHd (σ : Sig) (t : ByteArray) : Hp := ((Hp.bare (aH1 σ t).n).set 0 ((aH1 σ t).get 0)).set 1 ((aH1 σ t).get 1)
theorem run1 (t : ByteArray) : (runA σ n_dom_New (aH0 t)).isSome = true := by kernel_rfl
theorem Good.drop2 {P : Program} {σ : Sig} {f : Nat} {xs ys : List AV} {r : AV} {H : Hp} (i j : Nat) (h : ∀ H, Good P σ f xs H r H) (hx : FzL (((Hp.bare H.n).set i (H.get i)).set j (H.get j)) ys xs) : Good P σ f ys H r ((H.set i none).set j none) := by
  refine Good.conv (H2 := (H.set i none).set j none) (Wk.frz (H2 := (H.set i none).set j none) (Hd := ((Hp.bare H.n).set i (H.get i)).set j (H.get j)) rfl rfl (fun id k hk => ?_) (fun id k2 hk => ?_) hx.t) (h _)
  · rw [hp_get_set, hp_get_set] at hk
    rw [hp_get_set, hp_get_set]
    split at hk
    · rename_i e; subst e; exact ⟨hk, by simp⟩
    split at hk
    · rename_i e; subst e; exact ⟨hk, by simp⟩
    · simp at hk
  · rw [hp_get_set, hp_get_set] at hk
    split at hk
    · cases hk
    split at hk
    · cases hk
    · exact ⟨k2, hk, .refl _ _⟩
def skDom : Sk := .ptr [.sl 9 (skNd ++ [.sl 1 [.same], .same, .same, .same])]
noncomputable def domP (σ : Sig) (t : ByteArray) : AV := match avO (runA σ n_dom_New (aH0 t)) with
  | .tup (x :: _) => x
  | _ => .any
theorem res1 (t : ByteArray) : avO (runA σ n_dom_New (aH0 t)) = .tup [domP σ t, I 0] := by kernel_rfl
theorem fzA (t : ByteArray) : Fz (aHd σ t) aX (nds (atL t)) := frzS_ok skNds _ _ (by kernel_rfl)
def atC (nm : ByteArray) (op : Int) (w : ByteArray) : Cp := .mk emp [] [] [⟨nm, op, w⟩] []
noncomputable def aH3 (σ : Sig) (t w : ByteArray) (op : Int) : Hp :=
  let H := (aH2 σ t).new (.cells [Sx sM, I op, Sx w] true)
  let H := (H.new (.cells [Sx emp, nilS, nilS, nilS, nilS] true)).set H.n (some (.cells [Sx emp, nilS, nilS, .sl (aH2 σ t).n 0 3 1 (some 1), nilS] true))
  let n := H.n
  let H := H.new (.cells [Sx sN, I op, Sx w] true)
  (H.new (.cells [Sx emp, nilS, nilS, nilS, nilS] true)).set H.n (some (.cells [Sx emp, nilS, nilS, .sl n 0 3 1 (some 1), nilS] true))
theorem fzDom (t w : ByteArray) (op : Int) : Fz (aH3 σ t w op) (domP σ t) (domT (atL t) [0]) := frzS_ok skDom _ _ (by kernel_rfl)
theorem fzC (t w : ByteArray) (op : Int) : ∃ x, ldA true 5 (aH3 σ t w op) (.ptr ((aH2 σ t).n + 1) 0) = some x ∧ Fz (aH3 σ t w op) x (.agg (encCp (atC sM op w))) := by
  refine ⟨.agg [Sx emp, nilS, nilS, .sl (aH2 σ t).n 0 3 1 (some 1), nilS], by kernel_rfl, frzS_ok (skC 1) _ _ (by kernel_rfl)⟩
theorem fzD (t w : ByteArray) (op : Int) : ∃ x, ldA true 5 (aH3 σ t w op) (.ptr ((aH2 σ t).n + 3) 0) = some x ∧ Fz (aH3 σ t w op) x (.agg (encCp (atC sN op w))) := by
  refine ⟨.agg [Sx emp, nilS, nilS, .sl ((aH2 σ t).n + 2) 0 3 1 (some 1), nilS], by kernel_rfl, frzS_ok (skC 1) _ _ (by kernel_rfl)⟩
theorem atS {nm : ByteArray} {op : Int} {w : ByteArray} (hop : i64 op) (hw : w.data.size ≤ 100) (hn : nm.data.size ≤ 100) : SelOk 1 [[⟨0, atC nm op w⟩]] ∧ TxL 1 [[⟨0, atC nm op w⟩]] := by
  have r : reachBytes = 140737488351232 := rfl
  have hL : Lmax = 9223372036854775807 := rfl
  refine ⟨⟨⟨by show 1 ≤ Lmax; decide, fun s hs => ?_⟩, ⟨by show 1 ≤ NB; decide, fun s hs => ?_⟩, fun s hs p hp q hq => ?_, by decide, by show 1 ≤ NB; decide⟩, fun s hs p hp => ?_⟩
  · rw [List.mem_singleton.1 hs]
    refine ⟨by show 1 ≤ Lmax; decide, fun p hp => ?_⟩
    rw [List.mem_singleton.1 hp, Pt.wf_iff]
    refine ⟨by show i64 0; unfold i64; decide, by show 0 ≤ Lmax; decide, ⟨by show 0 ≤ Lmax; decide, fun s h => by cases h⟩, ⟨by show 0 ≤ Lmax; decide, fun s h => by cases h⟩, by show 1 ≤ Lmax; decide, fun a ha => ?_, by show 0 ≤ Lmax; decide, fun q hq => by cases hq⟩
    rw [List.mem_singleton.1 ha]
    exact ⟨by show nm.data.size ≤ _; omega, hop, by show w.data.size ≤ _; omega⟩
  · rw [List.mem_singleton.1 hs]
    refine ⟨by show 1 ≤ NB; decide, fun p hp => ?_⟩
    rw [List.mem_singleton.1 hp]
    refine ⟨⟨by show 0 ≤ reachBytes; decide, by show 0 ≤ reachBytes; decide, by show 1 ≤ reachBytes; decide, fun a ha => ?_, by show 0 ≤ reachBytes; decide⟩, by show 0 ≤ NB; decide, fun q hq => by cases hq⟩
    rw [List.mem_singleton.1 ha]
    exact ⟨by show w.data.size ≤ _; omega⟩
  · rw [List.mem_singleton.1 hs] at hp
    rw [List.mem_singleton.1 hp] at hq
    cases hq
  · rw [List.mem_singleton.1 hs] at hp
    rw [List.mem_singleton.1 hp]
    refine ⟨fun a ha => ?_, fun q hq => by cases hq⟩
    rw [List.mem_singleton.1 ha]
    show w.data.size < _
    omega
theorem at_cp {t nm w : ByteArray} {op : Int} (S : SelOk 1 [[⟨0, atC nm op w⟩]]) : cpB (atL t) 1 (atC nm op w) 0 = attrB (atNd t).attrs ⟨nm, op, w⟩ := by
  have hm : mayF 1 [[⟨0, atC nm op w⟩]] 8 = true := by rw [mayF_one]; rfl
  unfold cpB selB mayAny
  have hl : (atL t).length = 1 := rfl
  rw [hl]
  simp only [List.any_cons, List.any_nil, Bool.or_false, hm, Bool.true_and]
  show (true && true && AA (atL t) [[⟨0, atC nm op w⟩]] 0) = _
  rw [Bool.and_self, Bool.true_and, frB_AA S.nest S.hf]
  have : frB (atL t) [⟨0, atC nm op w⟩] 0 = compB (AA (atL t)) (atL t) 0 (atC nm op w) := rfl
  rw [this]
  unfold compB
  rw [show ndAt (atL t) 0 = atNd t from rfl, atLow]
  simp [plainB, tagB, atC, Cp.tag, Cp.ids, Cp.classes, Cp.attrs, Cp.pseudos]
theorem at_m {t w : ByteArray} {op : Int} : attrB (atNd t).attrs ⟨sM, op, w⟩ = soB t ⟨sM, op, w⟩ := by
  have h1 : ¬ (sA = sM) := by intro h; have := congrArg (fun x => x.data) h; revert this; decide
  unfold attrB atNd
  simp [h1]
theorem at_n {t w : ByteArray} {op : Int} : attrB (atNd t).attrs ⟨sN, op, w⟩ = false := by
  have h1 : ¬ (sA = sN) := by intro h; have := congrArg (fun x => x.data) h; revert this; decide
  have h2 : ¬ (sM = sN) := by intro h; have := congrArg (fun x => x.data) h; revert this; decide
  unfold attrB atNd
  simp [h1, h2]
section
attribute [local irreducible] law10_MatchAttrs.J0 domP aH2 aH3
theorem MatchAttrs_good (hC : HasC σ) {t w : ByteArray} {op : Int} (hop : i64 op) : ∃ Hf, Good Try.prog σ n_law10_MatchAttrs [Sx t, I op, Sx w] Hp.empty (Bo true) Hf := by
  refine ⟨Hp.empty, good_by (fun K hK => law10_MatchAttrs.run (callK_of (alive10 hC _) ?_)) (by simp [noIds, noId]) rfl _⟩
  simp only [u_not, bnd_some, ifB_lit, Bool.not_true, Bool.false_eq_true, if_false, len_str, b_gtr, decide_eq_true_eq]
  split
  · exact hK _
  split
  · exact hK _
  rename_i h1 h2
  have ht : t.data.size ≤ 100 := by omega
  have hw : w.data.size ≤ 100 := by omega
  refine bnd_of (x := [Sx sA, Sx sOther]) rfl ?_
  refine bnd_of (x := [Sx sM, Sx t]) rfl ?_
  refine bnd_of (x := [Sx sM, Sx sNone]) rfl ?_
  refine bnd_of (x := (.sl 0 0 2 3 (some 3), Hp.empty.new (.cells [Sx sA, Sx sOther, Sx sM, Sx t, Sx sM, Sx sNone] true))) rfl ?_
  refine bnd_of (x := [I (-1), Sx emp, Sx emp, nilS, .sl 0 0 2 3 (some 3)]) rfl ?_
  refine bnd_of (x := (aX, aH0 t)) rfl ?_
  refine callK_of (runA_ok (run1 t)) ?_
  rw [res1]
  simp only [x_tup, List.getElem?_cons_zero, List.getElem?_cons_succ, bnd_some]
  rcases refNew_ok (σ := σ) (atL t) (fun n hn => by
    rw [List.mem_singleton.1 hn]
    have r : reachBytes = 140737488351232 := rfl
    refine ⟨by show i64 (-1); unfold i64; decide, by show 0 ≤ reachBytes; decide, by show 0 ≤ reachBytes; decide, by show 3 * 32 ≤ reachBytes; decide, fun p hp => ?_⟩
    simp only [atNd, List.mem_cons, List.not_mem_nil, or_false] at hp
    rcases hp with rfl | rfl | rfl
    · show 1 ≤ _; decide
    · show 1 ≤ _; decide
    · show 1 ≤ _; decide) with ⟨hnb, _⟩ | ⟨d, hN, hB, hg9⟩
  · exact absurd (atB t) (hnb (by show 1 ≤ 4096; decide) _)
  refine callK_of (Good.drop2 0 1 hg9 (.cons (fzA t) .nil)) ?_
  simp only [x_tup, List.getElem?_cons_zero, List.getElem?_cons_succ, bnd_some]
  have e2 : ((hpO (runA σ n_dom_New (aH0 t))).set 0 none).set 1 none = aH2 σ t := by unfold aH2 aH1; rfl
  rw [e2]
  have e3 := fzDom (σ := σ) t w op
  obtain ⟨xc, lc, fc⟩ := fzC (σ := σ) t w op
  obtain ⟨xd, ld, fd⟩ := fzD (σ := σ) t w op
  have hH3 : aH3 σ t w op = Hp.set ((((((aH2 σ t).new (.cells [Sx sM, I op, Sx w] true)).new (.cells [Sx emp, nilS, nilS, nilS, nilS] true)).set ((aH2 σ t).n + 1) (some (.cells [Sx emp, nilS, nilS, .sl (aH2 σ t).n 0 3 1 (some 1), nilS] true))).new (.cells [Sx sN, I op, Sx w] true)).new (.cells [Sx emp, nilS, nilS, nilS, nilS] true)) ((aH2 σ t).n + 3) (some (.cells [Sx emp, nilS, nilS, .sl ((aH2 σ t).n + 2) 0 3 1 (some 1), nilS] true)) := by unfold aH3; rfl
  generalize aH2 σ t = Ha at *
  refine bnd_of (x := [Sx sM, I op, Sx w]) rfl ?_
  refine bnd_of (x := (.sl Ha.n 0 3 1 (some 1), Ha.new (.cells [Sx sM, I op, Sx w] true))) rfl ?_
  refine bnd_of (x := [Sx emp, nilS, nilS, .sl Ha.n 0 3 1 (some 1), nilS]) rfl ?_
  rw [allocK_eq]
  refine bnd_of (x := ((Ha.new (.cells [Sx sM, I op, Sx w] true)).new (.cells [Sx emp, nilS, nilS, nilS, nilS] true)).set (Ha.n + 1) (some (.cells [Sx emp, nilS, nilS, .sl Ha.n 0 3 1 (some 1), nilS] true))) ?_ ?_
  · rw [st_agg]
    simp only [Hp.n_new, hp_get_new, if_true]
    rfl
  refine bnd_of (x := [Sx sN, I op, Sx w]) rfl ?_
  refine bnd_of (x := (.sl (Ha.n + 2) 0 3 1 (some 1), (((Ha.new (.cells [Sx sM, I op, Sx w] true)).new (.cells [Sx emp, nilS, nilS, nilS, nilS] true)).set (Ha.n + 1) (some (.cells [Sx emp, nilS, nilS, .sl Ha.n 0 3 1 (some 1), nilS] true))).new (.cells [Sx sN, I op, Sx w] true))) rfl ?_
  refine bnd_of (x := [Sx emp, nilS, nilS, .sl (Ha.n + 2) 0 3 1 (some 1), nilS]) rfl ?_
  rw [allocK_eq]
  refine bnd_of (x := aH3 σ t w op) ?_ ?_
  · rw [st_agg, hH3]
    simp only [Hp.n_new, Hp.n_set, hp_get_new, if_true]
    rfl
  have p1 : ((Ha.new (.cells [Sx sM, I op, Sx w] true)).n) = Ha.n + 1 := rfl
  have p2 : Hp.n ((((Ha.new (.cells [Sx sM, I op, Sx w] true)).new (.cells [Sx emp, nilS, nilS, nilS, nilS] true)).set (Ha.n + 1) (some (.cells [Sx emp, nilS, nilS, .sl Ha.n 0 3 1 (some 1), nilS] true))).new (.cells [Sx sN, I op, Sx w] true)) = Ha.n + 3 := rfl
  rw [p1, p2]
  clear hH3 e2
  have M := atMc (σ := σ) hC ht
  obtain ⟨Sm, Xm⟩ := atS (nm := sM) (op := op) (w := w) hop hw (by show 1 ≤ 100; decide)
  obtain ⟨Sn, Xn⟩ := atS (nm := sN) (op := op) (w := w) hop hw (by show 1 ≤ 100; decide)
  generalize aH3 σ t w op = H3 at *
  generalize domP σ t = dp at *
  rw [lc, bnd_some]
  refine callK_of ((Cp_ok M Sm 0 Hp.empty).frzA (.cons e3 (.cons (.refl rfl) (.cons fc .nil))) rfl) ?_
  rw [at_cp Sm, at_m]
  have J0 : law10_MatchAttrs.J0 σ K dp (refT (atL t) d) (.ptr (Ha.n + 1) 0) (.ptr (Ha.n + 3) 0) (Bo true) (Bo (soB t ⟨sM, op, w⟩)) H3 := by
    refine law10_MatchAttrs.J0_step ?_
    simp only [ifB_lit, if_true]
    rw [lc, bnd_some]
    refine callK_of ((rTopCp_ok (⟨hC, hB, hN, M.sm⟩ : McT σ (atL t) d) Sm Xm 0 Hp.empty).frzA (.cons (.refl (noId_refT _ _)) (.cons (.refl rfl) (.cons fc .nil))) rfl) ?_
    rw [at_cp Sm, at_m]
    simp only [e_bool, BEq.rfl, bnd_some, ifB_lit, if_true]
    rw [ld, bnd_some]
    refine callK_of ((Cp_ok M Sn 0 Hp.empty).frzA (.cons e3 (.cons (.refl rfl) (.cons fd .nil))) rfl) ?_
    rw [at_cp Sn, at_n]
    simp only [u_not, Bool.not_false, bnd_some]
    exact hK _
  have hso : soB t ⟨sM, op, w⟩ = (if op = 0 then true else if op = 1 then decide (t = w) else if op = 2 then !decide (w = emp) && wordB t w
    else if op = 3 then decide (t = w) || preB (tl t) (tl w ++ [45]) else if op = 4 then !decide (w = emp) && preB (tl t) (tl w)
    else if op = 5 then !decide (w = emp) && sufB (tl t) (tl w) else if op = 6 then !decide (w = emp) && decide (0 ≤ Go.Lib.index (tl t) (tl w)) else false) := rfl
  simp only [b_eql, bnd_some, ifB_lit, decide_eq_true_eq]
  split
  · rename_i h
    have : soB t ⟨sM, op, w⟩ = true := by rw [hso, if_pos h]
    rw [this] at J0 ⊢
    exact J0
  rename_i o0
  split
  · rename_i h
    have : soB t ⟨sM, op, w⟩ = decide (t = w) := by rw [hso, if_neg o0, if_pos h]
    rw [this] at J0 ⊢
    simp only [b_seql, e_bool, BEq.rfl, bnd_some]
    exact J0
  rename_i o1
  split
  · rename_i h
    have hv : soB t ⟨sM, op, w⟩ = (!decide (w = emp) && preB (tl t) (tl w)) := by rw [hso, if_neg o0, if_neg o1, if_neg (by omega), if_neg (by omega), if_pos h]
    rw [hv] at J0 ⊢
    simp only [b_sneq, bnd_some, ifB_lit]
    by_cases hw0 : w = ⟨#[]⟩
    · have hw0' : w = emp := hw0
      simp only [hw0, decide_true, Bool.not_true, Bool.false_eq_true, if_false, e_bool, bnd_some]
      simp only [hw0', decide_true, Bool.not_true, Bool.false_and] at J0
      simpa [emp] using J0
    · have hw0' : ¬ w = emp := hw0
      simp only [hw0, hw0', decide_false, Bool.not_false, if_true, Bool.true_and] at J0 ⊢
      simp only [len_str, bnd_some, b_geq, ifB_lit, decide_eq_true_eq]
      split
      · rename_i hl
        rw [sl_str0 (by omega), bnd_some]
        simp only [b_seql, bnd_some]
        have := pre_take (tl t) (tl w) (by rw [tl_len, tl_len]; omega)
        rw [tl_len, mk_tl] at this
        rw [this]
        simp only [e_bool, BEq.rfl, bnd_some]
        exact J0
      · rename_i hl
        have := pre_long (s := tl t) (p := tl w) (by rw [tl_len, tl_len]; omega)
        rw [this] at J0 ⊢
        simp only [e_bool, BEq.rfl, bnd_some]
        exact J0
  rename_i o4
  split
  · rename_i h
    have hv : soB t ⟨sM, op, w⟩ = (!decide (w = emp) && sufB (tl t) (tl w)) := by rw [hso, if_neg o0, if_neg o1, if_neg (by omega), if_neg (by omega), if_neg o4, if_pos h]
    rw [hv] at J0 ⊢
    simp only [b_sneq, bnd_some, ifB_lit]
    by_cases hw0 : w = ⟨#[]⟩
    · have hw0' : w = emp := hw0
      simp only [hw0, decide_true, Bool.not_true, Bool.false_eq_true, if_false, e_bool, bnd_some]
      simp only [hw0', decide_true, Bool.not_true, Bool.false_and] at J0
      simpa [emp] using J0
    · have hw0' : ¬ w = emp := hw0
      simp only [hw0, hw0', decide_false, Bool.not_false, if_true, Bool.true_and] at J0 ⊢
      simp only [len_str, bnd_some, b_geq, ifB_lit, decide_eq_true_eq]
      split
      · rename_i hl
        simp only [b_sub, bnd_some]
        have e : wr .i64 ((t.data.size : Int) - w.data.size) = ((t.data.size - w.data.size : Nat) : Int) := by rw [wr64 (by omega) (by omega)]; omega
        rw [e, sl_strE (by omega), bnd_some]
        simp only [b_seql, bnd_some]
        have := suf_drop (tl t) (tl w) (by rw [tl_len, tl_len]; omega)
        rw [tl_len, tl_len, mk_tl] at this
        rw [this]
        simp only [e_bool, BEq.rfl, bnd_some]
        exact J0
      · rename_i hl
        have := suf_long (s := tl t) (p := tl w) (by rw [tl_len, tl_len]; omega)
        rw [this] at J0 ⊢
        simp only [e_bool, BEq.rfl, bnd_some]
        exact J0
  · exact J0
end
theorem MatchAttrs_walk {H : Type} {enc : TypeId × Value → H} (W : World) (hsh : W.ShapedOpen Try.prog) {v0 v1 v2 : Value} {r : Reach} {b0 base : Nat} {spare : Nat → Bool} {held : Bool} {d0 d1 d2 : DataW H} {p0 p1 p2 : List MemPlace}
    (e0 : Value.okWide Try.prog W r b0 T_string v0) (h0 : DataW.Trod enc Try.prog W base spare held T_string v0 d0 p0) (w0 : ∀ n ∈ d0.weights Try.prog T_string, n ≤ reachBytes)
    (e1 : Value.okWide Try.prog W r b0 T_int v1) (h1 : DataW.Trod enc Try.prog W base spare held T_int v1 d1 p1) (w1 : ∀ n ∈ d1.weights Try.prog T_int, n ≤ reachBytes)
    (e2 : Value.okWide Try.prog W r b0 T_string v2) (h2 : DataW.Trod enc Try.prog W base spare held T_string v2 d2 p2) (w2 : ∀ n ∈ d2.weights Try.prog T_string, n ≤ reachBytes) :
    Calls Try.prog n_law10_MatchAttrs #[v0, v1, v2] W fun e W' => e = .returned (.bool true) ∧ Below W.heap.size W W' := by
  obtain ⟨x0, r0, s0⟩ := read_arg (P := Try.prog) (ti := tiT.get) (S := readB) (t := T_string) (σ := sigM) tiT_ok readB_closed (inB_mem (by kernel_rfl)) e0 h0 w0
  obtain ⟨x1, r1, s1⟩ := read_arg (P := Try.prog) (ti := tiT.get) (S := readB) (t := T_int) (σ := sigM) tiT_ok readB_closed (inB_mem (by kernel_rfl)) e1 h1 w1
  obtain ⟨x2, r2, s2⟩ := read_arg (P := Try.prog) (ti := tiT.get) (S := readB) (t := T_string) (σ := sigM) tiT_ok readB_closed (inB_mem (by kernel_rfl)) e2 h2 w2
  obtain ⟨t, rfl, _⟩ := v_str s0
  obtain ⟨op, rfl, ho⟩ := v_int s1
  obtain ⟨w, rfl, _⟩ := v_str s2
  obtain ⟨Hf, hg⟩ := MatchAttrs_good (t := t) (w := w) (hasC sigM_g) ho
  exact law_of_good (relL3 r0 r1 r2) hg (gMax_ok W hsh sigM_g)
end Go.Proofs.Ythmaggcfghjmfaa.Ev

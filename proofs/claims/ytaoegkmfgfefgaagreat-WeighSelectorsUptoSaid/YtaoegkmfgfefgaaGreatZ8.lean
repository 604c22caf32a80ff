/- The walks, part 8: the evaluator, the functions, the laws. Conditions: none. -/
import Derived.Shelf.LaysM
import Derived.Shelf.Strings.Search1
import Derived.Shelf.Strings.Search2
import Derived.Shelf.Strings.Search3
import Derived.Shelf.Strings.Shaped
import Derived.Test.YtaoegkmfgfefgaaGreatZ7
namespace Go.Proofs.YtaoegkmfgfefgaaGreat.Ev
open Go.Shelf Go.Proofs
def laysM144_ren : Ren :=
{
 f := fun x =>
  match x with
  | 144 => 171
  | 143 => 175
  | 219 => 178
  | 217 => 179
  | 225 => 180
  | 224 => 181
  | 267 => 182
  | 266 => 183
  | 314 => 184
  | n => n,
 t := fun x =>
  match x with
  | 9 => 9
  | 4 => 4
  | 3 => 3
  | 5 => 5
  | 46 => 115
  | 146 => 217
  | 51 => 151
  | n => n,
 g := fun x =>
  match x with
  | 1 => 0
  | n => n }
theorem laysM144 : LaysM.n144 Tryz.prog laysM144_ren :=
{ mixed := by kernel_rfl, f143 := Eq.trans Tryz.func175 (congrArg some (Eq.refl (Body.n143 laysM144_ren))),
  f144 := Eq.trans Tryz.func171 (congrArg some (Eq.refl (Body.n144 laysM144_ren))),
  f217 := Eq.trans Tryz.func179 (congrArg some (Eq.refl (Body.n217 laysM144_ren))),
  f219 := Eq.trans Tryz.func178 (congrArg some (Eq.refl (Body.n219 laysM144_ren))),
  f224 := Eq.trans Tryz.func181 (congrArg some (Eq.refl (Body.n224 laysM144_ren))),
  f225 := Eq.trans Tryz.func180 (congrArg some (Eq.refl (Body.n225 laysM144_ren))),
  f266 := Eq.trans Tryz.func183 (congrArg some (Eq.refl (Body.n266 laysM144_ren))),
  f267 := Eq.trans Tryz.func182 (congrArg some (Eq.refl (Body.n267 laysM144_ren))),
  f314 := Eq.trans Tryz.func184 (congrArg some (Eq.refl (Body.n314 laysM144_ren))), t3 := Tryz.underlying3,
  a3 := Tryz.isAgg3, z3 := Tryz.sizeOf3, v3 := Tryz.zeroValue3, t4 := Tryz.underlying4, a4 := Tryz.isAgg4,
  z4 := Tryz.sizeOf4, v4 := Tryz.zeroValue4, t5 := Tryz.underlying5, a5 := Tryz.isAgg5, z5 := Tryz.sizeOf5,
  v5 := Tryz.zeroValue5, t9 := Tryz.underlying9, a9 := Tryz.isAgg9, z9 := Tryz.sizeOf9, v9 := Tryz.zeroValue9,
  t46 := Tryz.underlying115, a46 := Tryz.isAgg115, z46 := Tryz.sizeOf115, v46 := Tryz.zeroValue115,
  t51 := Tryz.underlying151, a51 := Tryz.isAgg151, z51 := Tryz.sizeOf151, v51 := Tryz.zeroValue151,
  t146 := Tryz.underlying217, a146 := Tryz.isAgg217, z146 := Tryz.sizeOf217, v146 := Tryz.zeroValue217,
  g1 := by kernel_rfl, i3 := by kernel_rfl,
  i4 := by kernel_rfl, i5 := by kernel_rfl,
  i9 := by kernel_rfl,
  i46 := by kernel_rfl,
  i51 := by kernel_rfl,
  i146 := by kernel_rfl,
  m1 := by kernel_rfl,
  s1_3 := fun w h => Go.Proofs.cell_of_shapedOpen_int h (zero := #[Go.Value.int Go.IntKind.i64 0]) (t := 3) (of_decide_eq_true (by kernel_rfl)) (by kernel_rfl) rfl (by kernel_rfl) (by kernel_rfl) Tryz.underlying3 }
def gMax : Nat := laysM144_ren.g 1
theorem hasC {σ : Sig} (hg : σ.g = some gMax) : HasC σ := by
 intro s t H hs
 refine ⟨⟨_, Tryz.func171, by kernel_rfl, by kernel_rfl⟩, fun B w0 E w vs hσ hst hx => ?_⟩
 obtain ⟨_, m, hm⟩ := hst.glNow gMax (by rw [hσ]; exact hg)
 have hl := hx.len
 obtain ⟨v0, v1, rfl⟩ : ∃ v0 v1, vs = #[v0, v1] := by
  obtain ⟨l⟩ := vs
  match l, hl with
  | [a, b], _ => exact ⟨a, b, rfl⟩
 have r0 := hx.at_ 0 _ v0 rfl (by simp)
 have r1 := hx.at_ 1 _ v1 rfl (by simp)
 cases r0
 cases r1
 refine (Any.strings_Contains (ρ := laysM144_ren) { laysM144 with } s t m w hs hm).mono fun e w' he => ?_
 obtain ⟨rfl, rfl⟩ := he
 exact ⟨E, _, rfl, .refl E, hst, .lit _⟩
theorem gMax_ok (W : World) (h : W.ShapedOpen Tryz.prog) {σ : Sig} (hg : σ.g = some gMax) : ∀ g, σ.g = some g → ∃ m : Int, W.cell? ⟨g, 0, none⟩ = some (.int .i64 m) := by
 intro g hg'
 rw [hg] at hg'
 cases hg'
 exact laysM144.s1_3 W h
end Go.Proofs.YtaoegkmfgfefgaaGreat.Ev
namespace Go.Proofs.YtaoegkmfgfefgaaGreat.Ev
set_option linter.unusedVariables false
set_option linter.unusedSimpArgs false
variable {σ : Sig}
section
end
section
end
end Go.Proofs.YtaoegkmfgfefgaaGreat.Ev
namespace Go.Proofs.YtaoegkmfgfefgaaGreat.Ev
set_option linter.unusedVariables false
set_option linter.unusedSimpArgs false
variable {σ : Sig}
section
end
section
end
section
end
section
end
end Go.Proofs.YtaoegkmfgfefgaaGreat.Ev
namespace Go.Proofs.YtaoegkmfgfefgaaGreat.Ev
set_option linter.unusedVariables false
set_option linter.unusedSimpArgs false
variable {σ : Sig}
section
end
section
end
section
end
end Go.Proofs.YtaoegkmfgfefgaaGreat.Ev
namespace Go.Proofs.YtaoegkmfgfefgaaGreat.Ev
set_option linter.unusedVariables false
set_option linter.unusedSimpArgs false
variable {σ : Sig}
def encB (b : Bool) : List AV := [Bo b]
def bools (l : List Bool) : AV := .imm 1 (l.map encB)
@[simp] theorem noId_bools (l : List Bool) : noId (bools l) = true := by unfold bools; simp only [noId]; exact noIds_map _ (fun _ => rfl) l
@[simp] theorem len_bools (l : List Bool) : lenSl (bools l) = some (.lit (.int .i64 l.length)) := by simp [bools]
section
end
section
end
end Go.Proofs.YtaoegkmfgfefgaaGreat.Ev
namespace Go.Proofs.YtaoegkmfgfefgaaGreat.Ev
open Go.RowKit
set_option linter.unusedVariables false
set_option linter.unusedSimpArgs false
set_option maxRecDepth 100000
variable {σ : Sig}
theorem NdSm.low {n : Nd} (h : NdSm n) : SmN (lowN n) := by
 have r : reachBytes = 140737488351232 := rfl
 refine ⟨by have := h.classes; show n.classes.length ≤ _; omega, by have := h.attrs; show (n.attrs.map lowPr).length ≤ _; rw [List.length_map]; omega, fun p hp => ?_⟩
 obtain ⟨q, hq, rfl⟩ := List.mem_map.1 hp
 have := (h.at' q hq).2
 show q.2.data.size < _
 omega
theorem TreeOk.smN {L : List Nd} {d : List Nat} (h : TreeOk L d) : ∀ e, e < L.length → SmN (lowN (ndAt L e)) := by
 intro e he
 refine (h.sm _ ?_).low
 unfold ndAt
 rw [List.getD_eq_getElem?_getD, List.getElem?_eq_getElem he]
 exact List.getElem_mem _
theorem TreeOk.mc {L : List Nd} {d : List Nat} (h : TreeOk L d) (hC : HasC σ) : McT σ L d := ⟨hC, h.hB, by have := h.len; omega, h.smN⟩
def sigM : Sig := ⟨fun _ => 0, fun _ => false, fun _ => ⟨#[]⟩, some gMax⟩
theorem sigM_g : sigM.g = some gMax := rfl
theorem Nest.all {f : Nat} {l : List Sl} (hf : 0 < f) (h : ∀ s ∈ l, Nest f [s]) : Nest f l := by
 cases f with
 | zero => omega
 | succ f => exact fun s hs => h s hs s (by simp)
end Go.Proofs.YtaoegkmfgfefgaaGreat.Ev
namespace Go.Proofs.YtaoegkmfgfefgaaGreat.Ev
set_option maxRecDepth 100000
set_option maxHeartbeats 4000000
theorem alive11 {σ : Sig} (H : Hp) : Good Tryz.prog σ n_law11_alive [] H (.lit (.bool true)) H := alive_of (by kernel_rfl) H
end Go.Proofs.YtaoegkmfgfefgaaGreat.Ev
namespace Go.Proofs.YtaoegkmfgfefgaaGreat.Ev
set_option linter.unusedVariables false
set_option linter.unusedSimpArgs false
variable {σ : Sig}
structure W3 where
 a : Int
 b : Int
 c : Int
def W3.cells (s : W3) : List AV := [I s.a, I s.b, I s.c]
def W3.Bd (M : Int) (s : W3) : Prop := (0 ≤ s.a ∧ s.a ≤ M) ∧ (0 ≤ s.b ∧ s.b ≤ M) ∧ 0 ≤ s.c ∧ s.c ≤ M
def lst (n : Int) : Int := if 255 < n then 255 else n
def weightW (s : W3) : Int := (lst s.a * 256 + lst s.b) * 256 + lst s.c
def addW (s : W3) (w : Int) : W3 := ⟨s.a + w / 256 / 256 % 256, s.b + w / 256 % 256, s.c + w % 256⟩
def topW (g : Sl → Int) (l : List Sl) (m : Int) : Int := l.foldl (fun m x => if m < g x then g x else m) m
def psW (g : Sl → Int) (last : Bool) (s : W3) (p : Ps) : W3 := if p.kind ≠ 7 ∧ p.kind ≠ 8 then ⟨s.a, s.b + 1, s.c⟩ else if last = true then s else addW s (topW g p.list 0)
def lensW (s : W3) (c : Cp) : W3 := ⟨s.a + c.ids.length, s.b + (c.classes.length + c.attrs.length), if c.tag ≠ ⟨#[]⟩ then s.c + 1 else s.c⟩
def cpW (g : Sl → Int) (last : Bool) (s : W3) (c : Cp) : W3 := c.pseudos.foldl (psW g last) (lensW s c)
def slW (g : Sl → Int) (last : Bool) (x : Sl) : Int := weightW (x.foldl (fun s p => cpW g last s p.c) ⟨0, 0, 0⟩)
def ofW : Nat → Sl → Int
 | 0, x => slW (fun _ => 0) true x
 | d + 1, x => slW (ofW d) false x
theorem lst_le (n : Int) (h : 0 ≤ n) : 0 ≤ lst n ∧ lst n ≤ 255 := by unfold lst; split <;> omega
theorem weightW_le {s : W3} {M : Int} (h : s.Bd M) : 0 ≤ weightW s ∧ weightW s ≤ 16777215 := by
 obtain ⟨⟨a0, _⟩, ⟨b0, _⟩, c0, _⟩ := h
 have := lst_le _ a0
 have := lst_le _ b0
 have := lst_le _ c0
 unfold weightW
 omega
theorem addW_bd {s : W3} {M w : Int} (h : s.Bd M) (h0 : 0 ≤ w) : (addW s w).Bd (M + 255) := by
 obtain ⟨⟨a0, a1⟩, ⟨b0, b1⟩, c0, c1⟩ := h
 unfold addW W3.Bd
 simp only
 omega
theorem capped_ok (n : Int) (H : Hp) : Good Tryz.prog σ n_weigh_capped_int [I n, I 255] H (I (lst n)) H :=
 good_pure (weigh_capped_int.run (by simp [minA, toI, minStep, lst])) rfl rfl H
theorem weight_ok {s : W3} {M : Int} (h : s.Bd M) (H : Hp) : Good Tryz.prog σ n_weigh_sums_weight [.agg s.cells] H (I (weightW s)) H := by
 obtain ⟨⟨a0, _⟩, ⟨b0, _⟩, c0, _⟩ := h
 have ha := lst_le _ a0
 have hb := lst_le _ b0
 have hc := lst_le _ c0
 refine good_pure (weigh_sums_weight.run ?_) (by simp [noIds, noId, W3.cells]) rfl H
 simp [W3.cells, ldL_all]
 refine weigh_sums_weight.L0_step ?_
 simp [ixArr, intA, wr64]
 refine callK_of (capped_ok _ _) ?_
 simp
 rw [wr64 (by omega) (by omega)]
 refine weigh_sums_weight.L0_step ?_
 simp [ixArr, intA, wr64]
 rw [wr64 (by omega) (by omega)]
 refine callK_of (capped_ok _ _) ?_
 simp
 rw [wr64 (by omega) (by omega)]
 refine weigh_sums_weight.L0_step ?_
 simp [ixArr, intA, wr64]
 rw [wr64 (by omega) (by omega)]
 refine callK_of (capped_ok _ _) ?_
 simp
 rw [wr64 (by omega) (by omega)]
 refine weigh_sums_weight.L0_step ?_
 simp [weightW]
theorem wadd_ok {s : W3} {M w : Int} (h : s.Bd M) (hM : M ≤ 1000000000) (h0 : 0 ≤ w) (h1 : w ≤ 16777215) {H : Hp} {id : Nat} (hid : H.get id = some (.cells s.cells true)) :
  ∃ H', Good Tryz.prog σ n_weigh_sums_add [.ptr id 0, I w] H (.tup []) H' ∧ H'.get id = some (.cells (addW s w).cells true) ∧ (∀ j, j ≠ id → H'.get j = H.get j) ∧ H'.n = H.n := by
 obtain ⟨⟨a0, a1⟩, ⟨b0, b1⟩, c0, c1⟩ := h
 have t1 : w.tmod 256 = w % 256 := Int.tmod_eq_emod_of_nonneg h0
 have t2 : w.tdiv 256 = w / 256 := Int.tdiv_eq_ediv_of_nonneg h0
 have t3 : (w / 256).tmod 256 = w / 256 % 256 := Int.tmod_eq_emod_of_nonneg (by omega)
 have t4 : (w / 256).tdiv 256 = w / 256 / 256 := Int.tdiv_eq_ediv_of_nonneg (by omega)
 have t5 : (w / 256 / 256).tmod 256 = w / 256 / 256 % 256 := Int.tmod_eq_emod_of_nonneg (by omega)
 have t6 : (w / 256 / 256).tdiv 256 = w / 256 / 256 / 256 := Int.tdiv_eq_ediv_of_nonneg (by omega)
 have run : ∃ r H', Good Tryz.prog σ n_weigh_sums_add [.ptr id 0, I w] H r H' ∧ (r = .tup [] ∧ H'.get id = some (.cells (addW s w).cells true) ∧ (∀ j, j ≠ id → H'.get j = H.get j) ∧ H'.n = H.n) := by
  refine weigh_sums_add.run ?_
  refine weigh_sums_add.L0_step ?_
  simp [ixaArr, intA, hid, W3.cells, b_rem, b_quo, t1, t2]
  rw [wr64 (by omega) (by omega), wr64 (by omega) (by omega), wr64 (by omega) (by omega)]
  refine weigh_sums_add.L0_step ?_
  simp [ixaArr, intA, hid, W3.cells, b_rem, b_quo, t3, t4]
  rw [wr64 (by omega) (by omega), wr64 (by omega) (by omega), wr64 (by omega) (by omega)]
  refine weigh_sums_add.L0_step ?_
  simp [ixaArr, intA, hid, W3.cells, b_rem, b_quo, t5, t6]
  rw [wr64 (by omega) (by omega), wr64 (by omega) (by omega), wr64 (by omega) (by omega)]
  refine weigh_sums_add.L0_step ?_
  simp [addW]
  intro j hj
  simp [hj]
 obtain ⟨r, H', hg, rfl, hh⟩ := run
 exact ⟨H', hg, hh⟩
theorem topW_le {g : Sl → Int} : ∀ (l : List Sl) (m : Int), 0 ≤ m → m ≤ 16777215 → (∀ x ∈ l, 0 ≤ g x ∧ g x ≤ 16777215) → 0 ≤ topW g l m ∧ topW g l m ≤ 16777215
 | [], m, h0, h1, _ => ⟨h0, h1⟩
 | x :: r, m, h0, h1, h => by
  have := h x (by simp)
  show 0 ≤ topW g r (if m < g x then g x else m) ∧ _
  refine topW_le r _ ?_ ?_ fun y hy => h y (by simp [hy])
  ·split <;> omega
  ·split <;> omega
def SumI (H : Hp) (id : Nat) (s : W3) (H' : Hp) : Prop := H'.get id = some (.cells s.cells true) ∧ (∀ j, j ≠ id → j < H.n → H'.get j = H.get j) ∧ H.n ≤ H'.n
def WideC (c : Cp) : Prop := c.ids.length ≤ 400 ∧ c.classes.length ≤ 400 ∧ c.attrs.length ≤ 400 ∧ c.pseudos.length ≤ 5
theorem FitC.wide {c : Cp} (h : FitC c) : WideC c := ⟨by have := h.1; omega, by have := h.2.1; omega, by have := h.2.2.1; omega, h.2.2.2⟩
theorem compound_ok {d : Nat} (hd : d ≤ 8) {g : Sl → Int} {P : Sl → Prop} (hg : d ≠ 0 → ∀ x, P x → (∀ H, Good Tryz.prog σ n_weigh_of [.agg (encSl x), I ((d - 1 : Nat) : Int)] H (I (g x)) H) ∧ 0 ≤ g x ∧ g x ≤ 16777215)
  {c : Cp} (hc : CpWf Lmax c) (hfit : WideC c) (hP : d ≠ 0 → ∀ q ∈ c.pseudos, ∀ x ∈ q.list, P x) {s : W3} {M : Int} (hs : s.Bd M) (hM : M ≤ 100000000) {H : Hp} {id : Nat} (hid : H.get id = some (.cells s.cells true)) (hlt : id < H.n) :
  ∃ H', Good Tryz.prog σ n_weigh_sums_compound [.ptr id 0, .agg (encCp c), I (d : Int)] H (.tup []) H' ∧ SumI H id (cpW g (decide (d = 0)) s c) H' ∧ (cpW g (decide (d = 0)) s c).Bd (M + 3000) := by
 obtain ⟨f1, f2, f3, f4⟩ := hfit
 have hls : (lensW s c).Bd (M + 900) := by
  obtain ⟨⟨a0, a1⟩, ⟨b0, b1⟩, c0, c1⟩ := hs
  unfold lensW W3.Bd
  simp only
  refine ⟨by omega, by omega, ?_⟩
  split <;> omega
 let K : AV → Hp → Prop := fun r H' => r = .tup [] ∧ SumI H id (cpW g (decide (d = 0)) s c) H' ∧ (cpW g (decide (d = 0)) s c).Bd (M + 3000)
 have L1 : ∀ (n k : Nat) (H' : Hp) (s' : W3) (y4 y8 y70 y71 y72 : AV), c.pseudos.length - k = n → k ≤ c.pseudos.length → s' = (c.pseudos.take k).foldl (psW g (decide (d = 0))) (lensW s c) → s'.Bd (M + 900 + 255 * k) → SumI H id s' H' →
   weigh_sums_compound.L1 σ K (.ptr id 0) (I (d : Int)) y4 y8 (.imm 4 (c.pseudos.map encPs)) (I c.pseudos.length) (I k) y70 y71 y72 H' := by
  intro n
  induction n with
  | zero =>
   intro k H' s' y4 y8 y70 y71 y72 hn hk hs' hb hI
   have e : k = c.pseudos.length := by omega
   subst e
   refine weigh_sums_compound.L1_step ?_
   simp
   have e2 : s' = cpW g (decide (d = 0)) s c := by rw [hs', List.take_length]; rfl
   rw [e2] at hI hb
   refine ⟨rfl, hI, ?_⟩
   obtain ⟨⟨a0, a1⟩, ⟨b0, b1⟩, c0, c1⟩ := hb
   exact ⟨⟨a0, by omega⟩, ⟨b0, by omega⟩, c0, by omega⟩
  | succ n ih =>
   intro k H' s' y4 y8 y70 y71 y72 hn hk hs' hb hI
   have hklt : k < c.pseudos.length := by omega
   obtain ⟨q, hq⟩ := get_lt hklt
   have hqw := (Ps.wf_iff.1 (hc.ps q (List.mem_of_getElem? hq))).2.2.2
   obtain ⟨hI1, hI2, hI3⟩ := hI
   obtain ⟨⟨a0, a1⟩, ⟨b0, b1⟩, c0, c1⟩ := hb
   have hne : id ≠ H'.n := by omega
   have hfold : (c.pseudos.take (k + 1)).foldl (psW g (decide (d = 0))) (lensW s c) = psW g (decide (d = 0)) s' q := by
    rw [List.take_add_one, hq]
    simp only [Option.toList_some, List.foldl_append, List.foldl_cons, List.foldl_nil]
    rw [← hs']
   have next : ∀ (H2 : Hp) (s2 : W3) (y4 y8 y70 y71 y72 : AV), s2 = psW g (decide (d = 0)) s' q → s2.Bd (M + 900 + 255 * k + 255) → SumI H id s2 H2 →
     weigh_sums_compound.J2 σ K (.ptr id 0) (I (d : Int)) y4 y8 (.imm 4 (c.pseudos.map encPs)) (I c.pseudos.length) (I k) y70 y71 y72 H2 := by
    intro H2 s2 y4 y8 y70 y71 y72 e1 e2 e3
    refine weigh_sums_compound.J2_step ?_
    simp
    rw [wr_succL hklt hc.psL]
    refine ih (k + 1) H2 s2 _ _ _ _ _ (by omega) (by omega) (by rw [hfold]; exact e1) ?_ e3
    obtain ⟨⟨a0, a1⟩, ⟨b0, b1⟩, c0, c1⟩ := e2
    exact ⟨⟨a0, by omega⟩, ⟨b0, by omega⟩, c0, by omega⟩
   have L3 : q.kind = 7 ∨ q.kind = 8 → d ≠ 0 → ∀ (n3 i : Nat) (H2 : Hp) (m : Int) (y4 : AV), q.list.length - i = n3 → i ≤ q.list.length → m = topW g (q.list.take i) 0 → SumI H id s' H2 →
     weigh_sums_compound.L3 σ K (.ptr id 0) (I (d : Int)) y4 (I m) (.imm 4 (c.pseudos.map encPs)) (I c.pseudos.length) (I k) (.imm 1 (q.list.map encSl)) (I q.list.length) (I i) H2 := by
    intro hk78 hd0 n3
    have hPq := hP hd0 q (List.mem_of_getElem? hq)
    induction n3 with
    | zero =>
     intro i H2 m y4 hn3 hi hm hI2'
     have e : i = q.list.length := by omega
     subst e
     rw [List.take_length] at hm
     have hmb := topW_le (g := g) q.list 0 (by omega) (by omega) fun x hx => (hg hd0 x (hPq x hx)).2
     rw [← hm] at hmb
     obtain ⟨j1, j2, j3⟩ := hI2'
     obtain ⟨H3, hg3, r1, r2, r3⟩ := wadd_ok (σ := σ) (M := M + 900 + 255 * k) ⟨⟨a0, a1⟩, ⟨b0, b1⟩, c0, c1⟩ (by omega) hmb.1 hmb.2 j1
     refine weigh_sums_compound.L3_step ?_
     simp
     refine callK_of hg3 ?_
     refine next H3 (addW s' m) _ _ _ _ _ ?_ (addW_bd ⟨⟨a0, a1⟩, ⟨b0, b1⟩, c0, c1⟩ hmb.1) ⟨r1, fun j hj hjl => by rw [r2 j hj]; exact j2 j hj hjl, by rw [r3]; exact j3⟩
     unfold psW
     rw [if_neg (by omega), if_neg (by simpa using hd0), hm]
    | succ n3 ih3 =>
     intro i H2 m y4 hn3 hi hm hI2'
     have hilt : i < q.list.length := by omega
     obtain ⟨x, hx⟩ := get_lt hilt
     obtain ⟨hgx, _, _⟩ := hg hd0 x (hPq x (List.mem_of_getElem? hx))
     obtain ⟨j1, j2, j3⟩ := hI2'
     have hne2 : id ≠ H2.n := by omega
     refine weigh_sums_compound.L3_step ?_
     have e1 : wr .i64 ((d : Int) - 1) = ((d - 1 : Nat) : Int) := by rw [wr64 (by omega) (by omega)]; omega
     simp [ix_map hx, ldL_all, overlay_all, hilt, e1, wr_succL hilt hqw.1]
     refine callK_of (hgx _) ?_
     simp [maxA, toI, maxStep]
     refine ih3 (i + 1) _ _ _ (by omega) (by omega) ?_ ⟨by simp [hne2, j1], fun j hj hjl => ?_, by simp; omega⟩
     ·rw [List.take_add_one, hx, hm]
      simp only [topW, Option.toList_some, List.foldl_append, List.foldl_cons, List.foldl_nil]
      rfl
     ·have : j ≠ H2.n := by omega
      simp [this]
      exact j2 j hj hjl
   refine weigh_sums_compound.L1_step ?_
   simp [ix_map hq, ldL_all, overlay_all, encPs_eq, hklt]
   have hne' : ∀ j, j < H.n → j ≠ H'.n := fun j hj => by omega
   have tolist : q.kind = 7 ∨ q.kind = 8 → ∀ (b : Blk) (o : Option Blk), (if d = 0 then weigh_sums_compound.J2 σ K (.ptr id 0) (I (d : Int)) y4 y8 (.imm 4 (c.pseudos.map encPs)) (I c.pseudos.length) (I k) y70 y71 y72 ((H'.new b).set H'.n o)
     else weigh_sums_compound.L3 σ K (.ptr id 0) (I (d : Int)) y4 (I 0) (.imm 4 (c.pseudos.map encPs)) (I c.pseudos.length) (I k) (.imm 1 (q.list.map encSl)) (I q.list.length) (I 0) ((H'.new b).set H'.n o)) := by
    intro hk78 b o
    have hI' : SumI H id s' ((H'.new b).set H'.n o) := ⟨by simp [hne, hI1], fun j hj hjl => by simp [hne' j hjl]; exact hI2 j hj hjl, by simp; omega⟩
    split
    ·rename_i hd0
     refine next _ s' _ _ _ _ _ ?_ ⟨⟨a0, by omega⟩, ⟨b0, by omega⟩, c0, by omega⟩ hI'
     unfold psW
     rw [if_neg (by omega), if_pos (by simpa using hd0)]
    ·rename_i hd0
     exact L3 hk78 hd0 _ 0 _ 0 _ rfl (Nat.zero_le _) rfl hI'
   split
   ·exact tolist (.inl (by assumption)) _ _
   split
   ·exact tolist (.inr (by assumption)) _ _
   ·simp [ixaArr, intA, hne, hI1, W3.cells]
    rw [wr64 (by omega) (by omega)]
    refine next _ ⟨s'.a, s'.b + 1, s'.c⟩ _ _ _ _ _ ?_ ⟨⟨a0, by simp only; omega⟩, ⟨by simp only; omega, by simp only; omega⟩, c0, by simp only; omega⟩ ⟨by simp [W3.cells], fun j hj hjl => by simp [hne' j hjl, hj]; exact hI2 j hj hjl, by simp; omega⟩
    unfold psW
    rw [if_pos ⟨by assumption, by assumption⟩]
 obtain ⟨⟨a0, a1⟩, ⟨b0, b1⟩, c0, c1⟩ := hs
 have hne : id ≠ H.n := by omega
 have fin : ∀ H', SumI H id (lensW s c) H' → H'.get H.n = some (.cells (encCp c) true) → weigh_sums_compound.J0 σ K (.ptr id 0) (I (d : Int)) (.ptr H.n 0) (.lit undef) (.lit undef) (.lit undef) (.lit undef) (.lit undef) (.lit undef) (.lit undef) H' := by
  intro H' hI hc1
  refine weigh_sums_compound.J0_step ?_
  simp [hc1, encCp_eq]
  exact L1 _ 0 H' (lensW s c) _ _ _ _ _ rfl (Nat.zero_le _) rfl (by simpa using hls) hI
 have run : ∃ r H', Good Tryz.prog σ n_weigh_sums_compound [.ptr id 0, .agg (encCp c), I (d : Int)] H r H' ∧ K r H' := by
  refine weigh_sums_compound.run ?_
  simp [encCp_eq, ixaArr, intA, hne, Ne.symm hne, hid, W3.cells]
  have e1 : wr .i64 (s.a + c.ids.length) = s.a + c.ids.length := wr64 (by omega) (by omega)
  have e2 : wr .i64 ((c.classes.length : Int) + c.attrs.length) = c.classes.length + c.attrs.length := wr64 (by omega) (by omega)
  have e3 : wr .i64 (s.b + ((c.classes.length : Int) + c.attrs.length)) = s.b + (c.classes.length + c.attrs.length) := wr64 (by omega) (by omega)
  have e4 : wr .i64 (s.c + 1) = s.c + 1 := wr64 (by omega) (by omega)
  simp only [e1, e2, e3, e4]
  have hj' : ∀ j, j < H.n → j ≠ H.n := fun j hj => by omega
  split
  ·rename_i ht
   exact fin _ ⟨by simp [W3.cells, lensW, ht], fun j hj hjl => by simp [hj, hj' j hjl], by simp⟩ (by simp [encCp_eq, Ne.symm hne])
  ·rename_i ht
   exact fin _ ⟨by simp [W3.cells, lensW, ht], fun j hj hjl => by simp [hj, hj' j hjl], by simp⟩ (by simp [encCp_eq, Ne.symm hne])
 obtain ⟨r, H', hg', rfl, hh⟩ := run
 exact ⟨H', hg', hh⟩
theorem of_step {d : Nat} (hd : d ≤ 8) {g : Sl → Int} {P : Sl → Prop} (hg : d ≠ 0 → ∀ x, P x → (∀ H, Good Tryz.prog σ n_weigh_of [.agg (encSl x), I ((d - 1 : Nat) : Int)] H (I (g x)) H) ∧ 0 ≤ g x ∧ g x ≤ 16777215)
  (x : Sl) (hw : slWf Lmax x) (h60 : x.length ≤ 400) (hfit : ∀ p ∈ x, WideC p.c) (hP : d ≠ 0 → ∀ p ∈ x, ∀ q ∈ p.c.pseudos, ∀ y ∈ q.list, P y) :
  (∀ H, Good Tryz.prog σ n_weigh_of [.agg (encSl x), I (d : Int)] H (I (slW g (decide (d = 0)) x)) H) ∧ 0 ≤ slW g (decide (d = 0)) x ∧ slW g (decide (d = 0)) x ≤ 16777215 := by
 let F : Nat → W3 := fun k => (x.take k).foldl (fun s p => cpW g (decide (d = 0)) s p.c) ⟨0, 0, 0⟩
 let K : AV → Hp → Prop := fun r _ => r = I (slW g (decide (d = 0)) x) ∧ 0 ≤ slW g (decide (d = 0)) x ∧ slW g (decide (d = 0)) x ≤ 16777215
 have L0 : ∀ (n k : Nat) (H : Hp) (id : Nat), x.length - k = n → k ≤ x.length → (F k).Bd (3000 * k) → H.get id = some (.cells (F k).cells true) → id < H.n →
   weigh_of.L0 σ K (I (d : Int)) (.ptr id 0) (.imm 6 (x.map encPt)) (I x.length) (I k) H := by
  intro n
  induction n with
  | zero =>
   intro k H id hn hk hb hid hlt
   have e : k = x.length := by omega
   subst e
   refine weigh_of.L0_step ?_
   simp [hid, ldL_all, W3.cells]
   refine callK_of (weight_ok hb _) ?_
   have e2 : weightW (F x.length) = slW g (decide (d = 0)) x := by simp only [F, List.take_length]; rfl
   have := weightW_le hb
   rw [e2] at this
   exact ⟨by rw [e2], this⟩
  | succ n ih =>
   intro k H id hn hk hb hid hlt
   have hklt : k < x.length := by omega
   obtain ⟨p, hp⟩ := get_lt hklt
   have hmem := List.mem_of_getElem? hp
   have hpw := (Pt.wf_iff.1 (hw.2 p hmem)).2
   have hne : id ≠ H.n := by omega
   refine weigh_of.L0_step ?_
   simp [ix_map hp, overlay_all, hklt]
   obtain ⟨H', hg', hI, hb'⟩ := compound_ok (σ := σ) hd hg hpw (hfit p hmem) (fun h0 q hq y hy => hP h0 p hmem q hq y hy) hb (by omega) (H := (H.new (.cells [I 0, .lit (.string ⟨#[]⟩), .lit (.slice none 0 0), .lit (.slice none 0 0), .lit (.slice none 0 0), .lit (.slice none 0 0)] true)).set H.n (some (.cells (encPt p) true))) (id := id) (by simp [hne, hid]) (by simp; omega)
   refine callK_of hg' ?_
   rw [wr_succL hklt hw.1]
   have hF : F (k + 1) = cpW g (decide (d = 0)) (F k) p.c := by
    simp only [F]
    rw [List.take_add_one, hp]
    simp only [Option.toList_some, List.foldl_append, List.foldl_cons, List.foldl_nil]
   obtain ⟨i1, i2, i3⟩ := hI
   refine ih (k + 1) H' id (by omega) (by omega) ?_ (by rw [hF]; exact i1) (by simp at i3; omega)
   rw [hF]
   obtain ⟨⟨a0, a1⟩, ⟨b0, b1⟩, c0, c1⟩ := hb'
   exact ⟨⟨a0, by omega⟩, ⟨b0, by omega⟩, c0, by omega⟩
 have run : ∃ r H1, Good Tryz.prog σ n_weigh_of [.agg (encSl x), I (d : Int)] Hp.empty r H1 ∧ K r H1 := by
  refine weigh_of.run ?_
  simp [encSl]
  refine L0 _ 0 _ _ rfl (Nat.zero_le _) ⟨⟨by simp [F], by simp [F]⟩, ⟨by simp [F], by simp [F]⟩, by simp [F], by simp [F]⟩ ?_ (by simp)
  simp [F, W3.cells]
 obtain ⟨r, H1, hg', rfl, hb⟩ := run
 exact ⟨fun H => hg'.over (by simp [noIds, noId, noId_Sl]) rfl H, hb⟩
theorem of_ok : ∀ (d : Nat), d ≤ 8 → ∀ (f : Nat) (x : Sl), d ≤ f → slWf Lmax x → FitS f x → (∀ H, Good Tryz.prog σ n_weigh_of [.agg (encSl x), I (d : Int)] H (I (ofW d x)) H) ∧ 0 ≤ ofW d x ∧ ofW d x ≤ 16777215
 | 0, hd, f, x, hf, hw, hfit => of_step (P := fun _ => False) hd (g := fun _ => 0) (fun h => absurd rfl h) x hw (by have := hfit.1; omega) (fun p hp => (hfit.2 p hp).1.wide) (fun h => absurd rfl h)
 | d + 1, hd, f, x, hf, hw, hfit => by
  refine of_step (d := d + 1) (P := fun y => slWf Lmax y ∧ FitS (f - 1) y) hd (g := ofW d) (fun _ y hy => of_ok d (by omega) (f - 1) y (by omega) hy.1 hy.2) x hw (by have := hfit.1; omega) (fun p hp => (hfit.2 p hp).1.wide) (fun _ p hp q hq y hy => ?_)
  have hpw := (Pt.wf_iff.1 (hw.2 p hp)).2
  have hqw := (Ps.wf_iff.1 (hpw.ps q hq)).2.2.2
  refine ⟨hqw.2 y hy, ?_⟩
  have := (hfit.2 p hp).2 q hq
  obtain ⟨f', rfl⟩ : ∃ f', f = f' + 1 := ⟨f - 1, by omega⟩
  exact this y hy
theorem Of_ok {f : Nat} {x : Sl} (hf : 8 ≤ f) (hw : slWf Lmax x) (hfit : FitS f x) (H : Hp) : Good Tryz.prog σ n_weigh_Of [.agg (encSl x)] H (I (ofW 8 x)) H := by
 refine good_pure (weigh_Of.run ?_) (by simp [noIds, noId, noId_Sl]) rfl H
 simp
 exact callK_of ((of_ok 8 (by omega) f x hf hw hfit).1 _) rfl
end Go.Proofs.YtaoegkmfgfefgaaGreat.Ev
namespace Go.Proofs.YtaoegkmfgfefgaaGreat.Ev
set_option linter.unusedVariables false
set_option linter.unusedSimpArgs false
variable {σ : Sig}
theorem shr_i {n : Int} (k : Nat) (h : 0 ≤ n) (hk : k ≤ 63) : binR .shr (I n) (.lit (.int .u64 k)) = some (I (n / ((2 ^ k : Nat) : Int))) := by
 have : min (k : Int).toNat (IntKind.bits .i64) = k := by simp [IntKind.bits]; omega
 have h2 : (2 : Int) ^ k = ((2 ^ k : Nat) : Int) := by simp
 have h3 : ¬ (k : Int) < 0 := by omega
 have h4 : n.fdiv ((2 : Int) ^ k) = n / ((2 ^ k : Nat) : Int) := by
  rw [h2]
  generalize 2 ^ k = q
  rw [Int.fdiv_eq_ediv_of_nonneg _ (by omega)]
 simp only [binR, lit?, sbin, h3, decide_false, cond_false, this, h4]
theorem shr16 {n : Int} (h : 0 ≤ n) : binR .shr (I n) (.lit (.int .u64 16)) = some (I (n / 65536)) := shr_i 16 h (by decide)
theorem shr8 {n : Int} (h : 0 ≤ n) : binR .shr (I n) (.lit (.int .u64 8)) = some (I (n / 256)) := shr_i 8 h (by decide)
theorem shl_i {n : Int} (k : Nat) (hk : k ≤ 16) (h : 0 ≤ n) (h1 : n ≤ 255) : binR .shl (I n) (.lit (.int .u64 k)) = some (I (n * ((2 ^ k : Nat) : Int))) := by
 have : min (k : Int).toNat (IntKind.bits .i64) = k := by simp [IntKind.bits]; omega
 have h2 : (2 : Int) ^ k = ((2 ^ k : Nat) : Int) := by simp
 have h3 : ¬ (k : Int) < 0 := by omega
 have h5 : (2 ^ k : Nat) ≤ 65536 := by
  have : (2 ^ k : Nat) ≤ 2 ^ 16 := Nat.pow_le_pow_right (by decide) hk
  simpa using this
 have h8 : wr .i64 (n * ((2 ^ k : Nat) : Int)) = n * ((2 ^ k : Nat) : Int) := by
  revert h5
  generalize 2 ^ k = q
  intro h5
  have h6 : n * (q : Int) ≤ 255 * 65536 := Int.mul_le_mul h1 (by omega) (by omega) (by omega)
  have h7 : 0 ≤ n * (q : Int) := Int.mul_nonneg h (by omega)
  exact wr64 (by omega) (by omega)
 simp only [binR, lit?, sbin, h3, decide_false, cond_false, this, h2, h8]
theorem shl16 {n : Int} (h : 0 ≤ n) (h1 : n ≤ 255) : binR .shl (I n) (.lit (.int .u64 16)) = some (I (n * 65536)) := shl_i 16 (by decide) h h1
theorem shl8 {n : Int} (h : 0 ≤ n) (h1 : n ≤ 255) : binR .shl (I n) (.lit (.int .u64 8)) = some (I (n * 256)) := shl_i 8 (by decide) h h1
theorem and255i {n : Int} (h : 0 ≤ n) (hn : n < 9223372036854775808) : binR .and (I n) (I 255) = some (I (n % 256)) := by
 obtain ⟨m, rfl⟩ : ∃ m : Nat, n = m := ⟨n.toNat, by omega⟩
 have h1 : (BitVec.ofInt 64 (m : Int) &&& BitVec.ofInt 64 255).toNat = m % 256 := by
  rw [BitVec.toNat_and]
  have e1 : (BitVec.ofInt 64 (m : Int)).toNat = m := by
   rw [BitVec.toNat_ofInt]
   omega
  have e2 : (BitVec.ofInt 64 255).toNat = 255 := by decide
  rw [e1, e2]
  exact Nat.and_two_pow_sub_one_eq_mod m 8
 rw [b_and]
 have : IntKind.bits .i64 = 64 := rfl
 rw [this, h1, wr64 (by omega) (by omega)]
 rfl
theorem cut_ok (n : Int) (H : Hp) : Good Tryz.prog σ n_ref9_cut [I n] H (I (lst n)) H := by
 refine good_pure (ref9_cut.run ?_) rfl rfl H
 simp only [b_gtr, bnd_some, ifB_lit]
 unfold lst
 by_cases h : (255 : Int) < n <;> simp [h]
theorem ixW (k : Nat) (h : k < 3) : ixaArr 3 1 (.ptr 1 0) (.lit (.int .i64 (k : Int))) = some (.ptr 1 k) := by rw [ixArrN h]; simp
theorem ixW0 : ixaArr 3 1 (.ptr 1 0) (I 0) = some (.ptr 1 0) := ixW 0 (by decide)
theorem ixW1 : ixaArr 3 1 (.ptr 1 0) (I 1) = some (.ptr 1 1) := ixW 1 (by decide)
theorem ixW2 : ixaArr 3 1 (.ptr 1 0) (I 2) = some (.ptr 1 2) := ixW 2 (by decide)
structure W1 (H : Hp) (s : W3) (H' : Hp) : Prop where
 n : H'.n = H.n
 g : H'.get 1 = some (.cells s.cells true)
 o : ∀ j, j ≠ 1 → H'.get j = H.get j
theorem W1.trans {H H1 H2 : Hp} {s s' : W3} (h : W1 H s H1) (h' : W1 H1 s' H2) : W1 H s' H2 := ⟨h'.n.trans h.n, h'.g, fun j hj => (h'.o j hj).trans (h.o j hj)⟩
theorem setW0 {H : Hp} {s : W3} (h : H.get 1 = some (.cells s.cells true)) (n : Int) {J : Hp → Prop} (k : ∀ H', W1 H ⟨n, s.b, s.c⟩ H' → J H') : bnd (stA 1 H (.ptr 1 0) (I n)) J := by
 rw [st_one h rfl rfl rfl (by simp [W3.cells]), bnd_some]
 exact k _ ⟨rfl, by simp [W3.cells], fun j hj => by simp [hj]⟩
theorem setW1 {H : Hp} {s : W3} (h : H.get 1 = some (.cells s.cells true)) (n : Int) {J : Hp → Prop} (k : ∀ H', W1 H ⟨s.a, n, s.c⟩ H' → J H') : bnd (stA 1 H (.ptr 1 1) (I n)) J := by
 rw [st_one h rfl rfl rfl (by simp [W3.cells]), bnd_some]
 exact k _ ⟨rfl, by simp [W3.cells], fun j hj => by simp [hj]⟩
theorem setW2 {H : Hp} {s : W3} (h : H.get 1 = some (.cells s.cells true)) (n : Int) {J : Hp → Prop} (k : ∀ H', W1 H ⟨s.a, s.b, n⟩ H' → J H') : bnd (stA 1 H (.ptr 1 2) (I n)) J := by
 rw [st_one h rfl rfl rfl (by simp [W3.cells]), bnd_some]
 exact k _ ⟨rfl, by simp [W3.cells], fun j hj => by simp [hj]⟩
theorem ldW0 {H : Hp} {s : W3} (h : H.get 1 = some (.cells s.cells true)) : ldA false 1 H (.ptr 1 0) = some (I s.a) := by rw [ld_ptr, h]; rfl
theorem ldW1 {H : Hp} {s : W3} (h : H.get 1 = some (.cells s.cells true)) : ldA false 1 H (.ptr 1 1) = some (I s.b) := by rw [ld_ptr, h]; rfl
theorem ldW2 {H : Hp} {s : W3} (h : H.get 1 = some (.cells s.cells true)) : ldA false 1 H (.ptr 1 2) = some (I s.c) := by rw [ld_ptr, h]; rfl
theorem addChain {H : Hp} {s : W3} {M w : Int} (h : H.get 1 = some (.cells s.cells true)) (hb : s.Bd M) (hM : M ≤ 1000000000) (h0 : 0 ≤ w) (h1 : w ≤ 16777215) {J : Hp → Prop} (k : ∀ H', W1 H (addW s w) H' → J H') :
  bnd (ixaArr 3 1 (.ptr 1 0) (I 0)) fun x33 => bnd (ldA false 1 H x33) fun x34 => bnd (binR .shr (I w) (.lit (.int .u64 16))) fun x35 => bnd (binR .add x34 x35) fun x36 => bnd (ixaArr 3 1 (.ptr 1 0) (I 0)) fun x37 => bnd (stA 1 H x37 x36) fun H38 => bnd (ixaArr 3 1 (.ptr 1 0) (I 1)) fun x39 => bnd (ldA false 1 H38 x39) fun x40 => bnd (binR .shr (I w) (.lit (.int .u64 8))) fun x41 => bnd (binR .and x41 (I 255)) fun x42 => bnd (binR .add x40 x42) fun x43 => bnd (ixaArr 3 1 (.ptr 1 0) (I 1)) fun x44 => bnd (stA 1 H38 x44 x43) fun H45 => bnd (ixaArr 3 1 (.ptr 1 0) (I 2)) fun x46 => bnd (ldA false 1 H45 x46) fun x47 => bnd (binR .and (I w) (I 255)) fun x48 => bnd (binR .add x47 x48) fun x49 => bnd (ixaArr 3 1 (.ptr 1 0) (I 2)) fun x50 => bnd (stA 1 H45 x50 x49) fun H51 => J H51 := by
 obtain ⟨⟨a0, a1⟩, ⟨b0, b1⟩, c0, c1⟩ := hb
 simp only [ixW0, ixW1, ixW2, bnd_some, ldW0 h, shr16 h0, shr8 h0, b_add, and255i (n := w) h0 (by omega), and255i (n := w / 256) (by omega) (by omega)]
 rw [wr64 (by omega) (by omega)]
 refine setW0 h _ fun H1 w1 => ?_
 simp only [ldW1 w1.g, bnd_some, b_add]
 rw [wr64 (by omega) (by omega)]
 refine setW1 w1.g _ fun H2 w2 => ?_
 simp only [ldW2 w2.g, bnd_some, b_add]
 rw [wr64 (by omega) (by omega)]
 refine setW2 w2.g _ fun H3 w3 => k H3 ?_
 have e : addW s w = ⟨s.a + w / 65536, s.b + w / 256 % 256, s.c + w % 256⟩ := by
  unfold addW
  have : w / 256 / 256 % 256 = w / 65536 := by omega
  rw [this]
 rw [e]
 exact (w1.trans w2).trans w3
end Go.Proofs.YtaoegkmfgfefgaaGreat.Ev
namespace Go.Proofs.YtaoegkmfgfefgaaGreat.Ev
set_option linter.unusedVariables false
set_option linter.unusedSimpArgs false
variable {σ : Sig}
structure RI (x : Sl) (s : W3) (H : Hp) : Prop where
 g0 : H.get 0 = some (.cells (encSl x) true)
 g1 : H.get 1 = some (.cells s.cells true)
 n : 2 ≤ H.n
theorem RI.step {x : Sl} {s s' : W3} {H H' : Hp} (h : RI x s H) (w : W1 H s' H') : RI x s' H' := ⟨(w.o 0 (by decide)).trans h.g0, w.g, by rw [w.n]; exact h.n⟩
theorem RI.new {x : Sl} {s : W3} {H : Hp} (h : RI x s H) (b : Blk) (o : Option Blk) : RI x s ((H.new b).set H.n o) := by
 have := h.n
 have e0 : (0 : Nat) ≠ H.n := by omega
 have e1 : (1 : Nat) ≠ H.n := by omega
 refine ⟨?_, ?_, ?_⟩
 ·simp [e0, h.g0]
 ·simp [e1, h.g1]
 ·show 2 ≤ H.n + 1
  omega
theorem W3.Bd.mono {M N : Int} {s : W3} (h : s.Bd M) (hl : M ≤ N) : s.Bd N := by
 obtain ⟨⟨a0, a1⟩, ⟨b0, b1⟩, c0, c1⟩ := h
 exact ⟨⟨a0, by omega⟩, ⟨b0, by omega⟩, c0, by omega⟩
theorem addW_0 (s : W3) : addW s 0 = s := by
 unfold addW
 simp
theorem lensW_bd {s : W3} {M : Int} (hs : s.Bd M) {c : Cp} (hfit : WideC c) : (lensW s c).Bd (M + 900) := by
 obtain ⟨⟨a0, a1⟩, ⟨b0, b1⟩, c0, c1⟩ := hs
 obtain ⟨f1, f2, f3, f4⟩ := hfit
 unfold lensW W3.Bd
 simp only
 refine ⟨by omega, by omega, ?_⟩
 split <;> omega
section
attribute [local irreducible] ref9_weight.L0 ref9_weight.J1 ref9_weight.L2 ref9_weight.J3 ref9_weight.L4 ref9_weight.J5
theorem rw_step {d : Nat} (hd : d ≤ 8) {g : Sl → Int} {P : Sl → Prop} (hg : d < 8 → ∀ x, P x → (∀ H, Good Tryz.prog σ n_ref9_weight [.agg (encSl x), I ((d + 1 : Nat) : Int)] H (I (g x)) H) ∧ 0 ≤ g x ∧ g x ≤ 16777215)
  (x : Sl) (hw : slWf Lmax x) (h60 : x.length ≤ 400) (hfit : ∀ p ∈ x, WideC p.c) (hP : d < 8 → ∀ p ∈ x, ∀ q ∈ p.c.pseudos, ∀ y ∈ q.list, P y) :
  (∀ H, Good Tryz.prog σ n_ref9_weight [.agg (encSl x), I (d : Int)] H (I (slW g (decide (d = 8)) x)) H) ∧ 0 ≤ slW g (decide (d = 8)) x ∧ slW g (decide (d = 8)) x ≤ 16777215 := by
 obtain ⟨F, hF⟩ : ∃ F : Nat → W3, ∀ k, F k = (x.take k).foldl (fun s p => cpW g (decide (d = 8)) s p.c) ⟨0, 0, 0⟩ := ⟨_, fun _ => rfl⟩
 obtain ⟨K, hK⟩ : ∃ K : AV → Hp → Prop, ∀ r H, K r H ↔ r = I (slW g (decide (d = 8)) x) ∧ 0 ≤ slW g (decide (d = 8)) x ∧ slW g (decide (d = 8)) x ≤ 16777215 := ⟨_, fun _ _ => Iff.rfl⟩
 have l0 : ∀ {s : W3} {H : Hp}, RI x s H → ldA false 1 H (.ptr 0 0) = some (.imm 6 (x.map encPt)) := fun h => by rw [ld_ptr, h.g0]; rfl
 have L0 : ∀ (n k : Nat) (H : Hp) (y7 y8 y9 y10 y11 : AV), x.length - k = n → k ≤ x.length → (F k).Bd (3000 * k) → RI x (F k) H →
   ref9_weight.L0 σ K (I (d : Int)) (.ptr 0 0) (.ptr 1 0) (I (k : Int)) y7 y8 y9 y10 y11 H := by
  intro n
  induction n with
  | zero =>
   intro k H y7 y8 y9 y10 y11 hn hk hb hI
   have e : k = x.length := by omega
   subst e
   refine ref9_weight.L0_step ?_
   have hW := weightW_le hb
   obtain ⟨⟨a0, a1⟩, ⟨b0, b1⟩, c0, c1⟩ := hb
   have q0 := lst_le _ a0
   have q1 := lst_le _ b0
   have q2 := lst_le _ c0
   simp only [sh_ptr, Nat.zero_add, bnd_some, l0 hI, len_imm, List.length_map, b_lss, Int.lt_irrefl, decide_false, ifB_lit, Bool.false_eq_true, if_false, ixW0, ixW1, ixW2, ldW0 hI.g1]
   refine callK_of (cut_ok _ _) ?_
   simp only [shl16 q0.1 q0.2, bnd_some, ldW1 hI.g1, kp_ptr, true_and]
   refine callK_of (cut_ok _ _) ?_
   simp only [shl8 q1.1 q1.2, bnd_some, ldW2 hI.g1, kp_ptr, true_and, b_add]
   refine callK_of (cut_ok _ _) ?_
   simp only [b_add, bnd_some]
   rw [wr64 (n := lst (F x.length).a * 65536 + lst (F x.length).b * 256) (by omega) (by omega), wr64 (by omega) (by omega)]
   have e2 : weightW (F x.length) = slW g (decide (d = 8)) x := by rw [hF, List.take_length]; rfl
   have e3 : lst (F x.length).a * 65536 + lst (F x.length).b * 256 + lst (F x.length).c = weightW (F x.length) := by unfold weightW; omega
   rw [e3, e2]
   rw [e2] at hW
   exact (hK _ _).2 ⟨rfl, hW⟩
  | succ n ih =>
   intro k H y7 y8 y9 y10 y11 hn hk hb hI
   have hklt : k < x.length := by omega
   have hklt' : (k : Int) < x.length := by omega
   obtain ⟨p, hp⟩ := get_lt hklt
   have hmem := List.mem_of_getElem? hp
   have hpw := (Pt.wf_iff.1 (hw.2 p hmem)).2
   have hfp := hfit p hmem
   have hix : ixaSl 6 (.imm 6 (x.map encPt)) (I (k : Int)) = some (.ip (encPt p)) := ix_map hp
   have l5 : ∀ H : Hp, ldA true 5 H (.ip ((encPt p).drop 1)) = some (.agg (encCp p.c)) := fun H => by rw [encPt_eq]; simp
   have hls := lensW_bd hb hfp
   have hFk : F (k + 1) = cpW g (decide (d = 8)) (F k) p.c := by
    rw [hF, hF, List.take_add_one, hp]
    simp only [Option.toList_some, List.foldl_append, List.foldl_cons, List.foldl_nil]
   have hps5 : p.c.pseudos.length ≤ 5 := hfp.2.2.2
   have L2 : ∀ (m j : Nat) (H : Hp) (s : W3) (c : Nat) (y9 y10 y11 : AV), p.c.pseudos.length - j = m → j ≤ p.c.pseudos.length → s = (p.c.pseudos.take j).foldl (psW g (decide (d = 8))) (lensW (F k) p.c) → s.Bd (3000 * k + 900 + 255 * j) → RI x s H →
     2 ≤ c → c < H.n → H.get c = some (.cells (encCp p.c) true) → ref9_weight.L2 σ K (I (d : Int)) (.ptr 0 0) (.ptr 1 0) (I (k : Int)) (.ptr c 0) (I (j : Int)) y9 y10 y11 H := by
    intro m
    induction m with
    | zero =>
     intro j H s c y9 y10 y11 hm hj hs hb hI hc2 hcn hgc
     have e : j = p.c.pseudos.length := by omega
     subst e
     have lp : ldA false 1 H (.ptr c 4) = some (.imm 4 (p.c.pseudos.map encPs)) := by rw [ld_ptr, hgc, ldO_cells, f_encCp4]
     refine ref9_weight.L2_step ?_
     simp only [sh_ptr, Nat.zero_add, bnd_some, lp, len_imm, List.length_map, b_lss, Int.lt_irrefl, decide_false, ifB_lit, Bool.false_eq_true, if_false, b_add]
     rw [wr_succ (by omega)]
     have e2 : s = F (k + 1) := by rw [hFk, hs, List.take_length]; rfl
     subst e2
     exact ih (k + 1) H _ _ _ _ _ (by omega) (by omega) (hb.mono (by omega)) hI
    | succ m ihm =>
     intro j H s c y9 y10 y11 hm hj hs hb hI hc2 hcn hgc
     have hjlt : j < p.c.pseudos.length := by omega
     have hjlt' : (j : Int) < p.c.pseudos.length := by omega
     obtain ⟨q, hq⟩ := get_lt hjlt
     have hqm := List.mem_of_getElem? hq
     have hqw := (Ps.wf_iff.1 (hpw.ps q hqm)).2.2.2
     have lp : ldA false 1 H (.ptr c 4) = some (.imm 4 (p.c.pseudos.map encPs)) := by rw [ld_ptr, hgc, ldO_cells, f_encCp4]
     have hiq : ixaSl 4 (.imm 4 (p.c.pseudos.map encPs)) (I (j : Int)) = some (.ip (encPs q)) := ix_map hq
     have l4 : ldA true 4 H (.ip (encPs q)) = some (.agg (encPs q)) := by rw [encPs_eq]; rfl
     have hfold : (p.c.pseudos.take (j + 1)).foldl (psW g (decide (d = 8))) (lensW (F k) p.c) = psW g (decide (d = 8)) s q := by
      rw [List.take_add_one, hq]
      simp only [Option.toList_some, List.foldl_append, List.foldl_cons, List.foldl_nil]
      rw [← hs]
     have next : ∀ (H2 : Hp) (s2 : W3) (y9 y10 y11 : AV), s2 = psW g (decide (d = 8)) s q → s2.Bd (3000 * k + 900 + 255 * j + 255) → RI x s2 H2 → c < H2.n → H2.get c = some (.cells (encCp p.c) true) →
       ref9_weight.J3 σ K (I (d : Int)) (.ptr 0 0) (.ptr 1 0) (I (k : Int)) (.ptr c 0) (I (j : Int)) y9 y10 y11 H2 := by
      intro H2 s2 y9 y10 y11 e1 e2 e3 e4 e5
      refine ref9_weight.J3_step ?_
      rw [b_add, bnd_some, wr_succ (by omega)]
      exact ihm (j + 1) H2 s2 c _ _ _ (by omega) (by omega) (by rw [hfold]; exact e1) (e2.mono (by omega)) e3 hc2 e4 e5
     have hs0 := hb
     refine ref9_weight.L2_step ?_
     simp only [sh_ptr, Nat.zero_add, bnd_some, lp, len_imm, List.length_map, b_lss, hjlt', decide_true, ifB_lit, if_true, hiq, l4, allocK_eq]
     obtain ⟨H2, hH2⟩ : ∃ H2, H2 = (H.new (.cells [I 0, I 0, I 0, .lit (.slice none 0 0)] true)).set H.n (some (.cells (encPs q) true)) := ⟨_, rfl⟩
     refine bnd_of (x := H2) ?_ ?_
     ·rw [st_agg, hH2]
      simp only [hp_get_new, if_true, stO_cells, len_encPs]
      rw [if_pos ⟨by decide, one_Ps _⟩, ov_Ps _ rfl]
     have hI2 : RI x s H2 := by rw [hH2]; exact hI.new _ _
     have hcH : c ≠ H.n := by omega
     have hgc2 : H2.get c = some (.cells (encCp p.c) true) := by rw [hH2]; simp [hcH, hgc]
     have n2 : H2.n = H.n + 1 := by rw [hH2]; rfl
     have gq : H2.get H.n = some (.cells (encPs q) true) := by rw [hH2]; simp
     have lk : ldA false 1 H2 (.ptr H.n 0) = some (I q.kind) := by rw [ld_ptr, gq, ldO_cells, List.drop_zero, f_encPs0]
     have b2 : 2 ≤ H.n := hI.n
     clear hH2
     have ll : ∀ H' : Hp, H'.get H.n = some (.cells (encPs q) true) → ldA false 1 H' (.ptr H.n 3) = some (.imm 1 (q.list.map encSl)) := fun H' h => by rw [ld_ptr, h, ldO_cells, f_encPs3]
     have endL : q.kind = 7 ∨ q.kind = 8 → ∀ (H3 : Hp) (w : Int) (y11 : AV), w = (if d = 8 then 0 else topW g q.list 0) → 0 ≤ w → w ≤ 16777215 → RI x s H3 → H3.n = H2.n → (∀ j, H3.get j = H2.get j) → ∀ H4, W1 H3 (addW s w) H4 →
       ref9_weight.J3 σ K (I (d : Int)) (.ptr 0 0) (.ptr 1 0) (I (k : Int)) (.ptr c 0) (I (j : Int)) (.ptr H.n 0) (I w) y11 H4 := by
      intro h78 H3 w y11 hw h0 h1 hI3 n3 s3 H4 w4
      refine next H4 (addW s w) _ _ _ ?_ (addW_bd hs0 h0) (hI3.step w4) (by rw [w4.n]; omega) (by rw [w4.o c (by omega), s3]; exact hgc2)
      unfold psW
      rw [if_neg (by omega), hw]
      by_cases h8 : d = 8
      ·simp [h8, addW_0]
      ·simp [h8]
     have toL4 : q.kind = 7 ∨ q.kind = 8 → ref9_weight.L4 σ K (I (d : Int)) (.ptr 0 0) (.ptr 1 0) (I (k : Int)) (.ptr c 0) (I (j : Int)) (.ptr H.n 0) (I 0) (I 0) H2 := by
      intro h78
      have hEnd := endL h78
      by_cases h8 : d = 8
      ·have fin := hEnd H2 0 (I 0) (by rw [if_pos h8]) (by decide) (by decide) hI2 rfl (fun _ => rfl)
       have nlt : ¬ ((d : Int) < 8) := by omega
       refine ref9_weight.L4_step ?_
       simp only [sh_ptr, Nat.zero_add, bnd_some, ll _ gq, len_imm, List.length_map, b_lss, nlt, decide_false, ifB_lit, Bool.false_eq_true, if_false]
       by_cases hz : (0 : Int) < q.list.length
       ·simp only [hz, decide_true, if_true]
        exact addChain (M := 1000000000) hI2.g1 (hs0.mono (by omega)) (by omega) (by decide) (by decide) fin
       ·simp only [hz, decide_false, Bool.false_eq_true, if_false]
        exact addChain (M := 1000000000) hI2.g1 (hs0.mono (by omega)) (by omega) (by decide) (by decide) fin
      ·have hd8 : d < 8 := by omega
       have hd8' : (d : Int) < 8 := by omega
       have hPq := hP hd8 p hmem q hqm
       have L4 : ∀ (m4 i : Nat) (m : Int), q.list.length - i = m4 → i ≤ q.list.length → m = topW g (q.list.take i) 0 → ref9_weight.L4 σ K (I (d : Int)) (.ptr 0 0) (.ptr 1 0) (I (k : Int)) (.ptr c 0) (I (j : Int)) (.ptr H.n 0) (I m) (I (i : Int)) H2 := by
        intro m4
        induction m4 with
        | zero =>
         intro i m hm4 hi hm
         have e : i = q.list.length := by omega
         subst e
         rw [List.take_length] at hm
         have hmb := topW_le (g := g) q.list 0 (by omega) (by omega) fun y hy => (hg hd8 y (hPq y hy)).2
         rw [← hm] at hmb
         have fin := hEnd H2 m (I (q.list.length : Int)) (by rw [if_neg h8]; exact hm) hmb.1 hmb.2 hI2 rfl (fun _ => rfl)
         refine ref9_weight.L4_step ?_
         simp only [sh_ptr, Nat.zero_add, bnd_some, ll _ gq, len_imm, List.length_map, b_lss, Int.lt_irrefl, decide_false, ifB_lit, Bool.false_eq_true, if_false]
         exact addChain (M := 1000000000) hI2.g1 (hs0.mono (by omega)) (by omega) hmb.1 hmb.2 fin
        | succ m4 ih4 =>
         intro i m hm4 hi hm
         have hil : i < q.list.length := by omega
         have hil' : (i : Int) < q.list.length := by omega
         obtain ⟨y, hy⟩ := get_lt hil
         obtain ⟨hgy, _, _⟩ := hg hd8 y (hPq y (List.mem_of_getElem? hy))
         have hiy : ixaSl 1 (.imm 1 (q.list.map encSl)) (I (i : Int)) = some (.ip (encSl y)) := ix_map hy
         have htop : topW g (q.list.take (i + 1)) 0 = if m < g y then g y else m := by
          rw [List.take_add_one, hy, hm]
          simp only [topW, Option.toList_some, List.foldl_append, List.foldl_cons, List.foldl_nil]
          rfl
         have J5 : ∀ m', m' = topW g (q.list.take (i + 1)) 0 → ref9_weight.J5 σ K (I (d : Int)) (.ptr 0 0) (.ptr 1 0) (I (k : Int)) (.ptr c 0) (I (j : Int)) (.ptr H.n 0) (I m') (I (i : Int)) H2 := by
          intro m' hm'
          refine ref9_weight.J5_step ?_
          rw [b_add, bnd_some, wr_succL hil hqw.1]
          exact ih4 (i + 1) m' (by omega) (by omega) hm'
         refine ref9_weight.L4_step ?_
         simp only [sh_ptr, Nat.zero_add, bnd_some, ll _ gq, len_imm, List.length_map, b_lss, hil', hd8', decide_true, ifB_lit, if_true, hiy, ld_ip, ldL_sl, b_add]
         rw [wr_succ (by omega)]
         refine callK_of (hgy _) ?_
         simp only [b_gtr, bnd_some, ifB_lit]
         by_cases hlt : m < g y
         ·simp only [hlt, decide_true, if_true]
          exact J5 _ (by rw [htop, if_pos hlt])
         ·simp only [hlt, decide_false, Bool.false_eq_true, if_false]
          exact J5 _ (by rw [htop, if_neg hlt])
       exact L4 _ 0 0 rfl (Nat.zero_le _) rfl
     simp only [lk, bnd_some, b_neq, ifB_lit]
     by_cases h7 : q.kind = 7
     ·simp only [h7, decide_true, Bool.not_true, Bool.false_eq_true, if_false]
      exact toL4 (.inl h7)
     by_cases h8 : q.kind = 8
     ·simp only [h8, decide_true, Bool.not_true, Bool.false_eq_true, if_false]
      have := toL4 (.inr h8)
      split <;> exact this
     simp only [h7, h8, decide_false, Bool.not_false, if_true, ixW1, bnd_some, ldW1 hI2.g1, b_add]
     obtain ⟨⟨a0, a1⟩, ⟨b0, b1⟩, c0, c1⟩ := hb
     rw [wr64 (by omega) (by omega)]
     refine setW1 hI2.g1 _ fun H4 w4 => ?_
     refine next H4 ⟨s.a, s.b + 1, s.c⟩ _ _ _ ?_ ⟨⟨a0, by simp only; omega⟩, ⟨by simp only; omega, by simp only; omega⟩, c0, by simp only; omega⟩ (hI2.step w4) (by rw [w4.n]; omega) (by rw [w4.o c (by omega)]; exact hgc2)
     unfold psW
     rw [if_pos ⟨h7, h8⟩]
   refine ref9_weight.L0_step ?_
   simp only [sh_ptr, Nat.zero_add, bnd_some, l0 hI, len_imm, List.length_map, b_lss, hklt', decide_true, ifB_lit, if_true, hix, sh_ip, l5, allocK_eq]
   obtain ⟨H2, hH2⟩ : ∃ H2, H2 = (H.new (.cells [.lit (.string ⟨#[]⟩), .lit (.slice none 0 0), .lit (.slice none 0 0), .lit (.slice none 0 0), .lit (.slice none 0 0)] true)).set H.n (some (.cells (encCp p.c) true)) := ⟨_, rfl⟩
   refine bnd_of (x := H2) ?_ ?_
   ·rw [st_agg, hH2]
    simp only [hp_get_new, if_true, stO_cells, len_encCp]
    rw [if_pos ⟨by decide, one_Cp _⟩, ov_Cp _ rfl]
   have hI2 : RI x (F k) H2 := by rw [hH2]; exact hI.new _ _
   have n2 : H2.n = H.n + 1 := by rw [hH2]; rfl
   have gc : H2.get H.n = some (.cells (encCp p.c) true) := by rw [hH2]; simp
   have b2 : 2 ≤ H.n := hI.n
   clear hH2
   obtain ⟨f1, f2, f3, f4⟩ := hfp
   have hb' := hb
   obtain ⟨⟨a0, a1⟩, ⟨b0, b1⟩, c0, c1⟩ := hb
   have g1 : ∀ H' : Hp, H'.get H.n = some (.cells (encCp p.c) true) → ldA false 1 H' (.ptr H.n 1) = some (strs p.c.ids) := fun H' h => by rw [ld_ptr, h, ldO_cells, f_encCp1']
   have g2 : ∀ H' : Hp, H'.get H.n = some (.cells (encCp p.c) true) → ldA false 1 H' (.ptr H.n 2) = some (strs p.c.classes) := fun H' h => by rw [ld_ptr, h, ldO_cells, f_encCp2]
   have g3 : ∀ H' : Hp, H'.get H.n = some (.cells (encCp p.c) true) → ldA false 1 H' (.ptr H.n 3) = some (.imm 3 (p.c.attrs.map encAt)) := fun H' h => by rw [ld_ptr, h, ldO_cells, f_encCp3]
   have g0 : ∀ H' : Hp, H'.get H.n = some (.cells (encCp p.c) true) → ldA false 1 H' (.ptr H.n 0) = some (Sx p.c.tag) := fun H' h => by rw [ld_ptr, h, ldO_cells, List.drop_zero, f_encCp0]
   simp only [ixW0, ixW1, ixW2, bnd_some, ldW0 hI2.g1, g1 _ gc, len_strs, b_add]
   rw [wr64 (by omega) (by omega)]
   refine setW0 hI2.g1 _ fun H3 w3 => ?_
   have gc3 := (w3.o H.n (by omega)).trans gc
   simp only [ldW1 w3.g, bnd_some, g2 _ gc3, g3 _ gc3, len_strs, len_imm, List.length_map, b_add]
   rw [wr64 (n := (F k).b + p.c.classes.length) (by omega) (by omega), wr64 (by omega) (by omega)]
   refine setW1 w3.g _ fun H4 w4 => ?_
   have gc4 := (w4.o H.n (by omega)).trans gc3
   have n4 : H4.n = H.n + 1 := by rw [w4.n, w3.n, n2]
   have hI4 := (hI2.step w3).step w4
   have goL : ∀ H5 s5, s5 = lensW (F k) p.c → RI x s5 H5 → H5.n = H.n + 1 → H5.get H.n = some (.cells (encCp p.c) true) → ∀ y8 y9 y10 y11, ref9_weight.J1 σ K (I (d : Int)) (.ptr 0 0) (.ptr 1 0) (I (k : Int)) (.ptr H.n 0) y8 y9 y10 y11 H5 := by
    intro H5 s5 es hI5 n5 gc5 y8 y9 y10 y11
    refine ref9_weight.J1_step ?_
    exact L2 _ 0 H5 s5 H.n _ _ _ rfl (Nat.zero_le _) (by rw [es]; rfl) (by rw [es]; exact hls.mono (by omega)) hI5 b2 (by omega) gc5
   simp only [g0 _ gc4, bnd_some, b_sneq, ifB_lit, ldW2 w4.g, b_add]
   by_cases ht : p.c.tag = ⟨#[]⟩
   ·simp only [ht, decide_true, Bool.not_true, Bool.false_eq_true, if_false]
    refine goL H4 _ ?_ hI4 n4 gc4 _ _ _ _
    unfold lensW
    rw [if_neg (by simpa using ht)]
    simp only [Int.add_assoc]
   ·simp only [ht, decide_false, Bool.not_false, if_true]
    rw [wr64 (by omega) (by omega)]
    refine setW2 w4.g _ fun H5 w5 => ?_
    refine goL H5 _ ?_ (hI4.step w5) (by rw [w5.n, n4]) ((w5.o H.n (by omega)).trans gc4) _ _ _ _
    unfold lensW
    rw [if_pos ht]
    simp only [Int.add_assoc]
 have run : ∃ r H1, Good Tryz.prog σ n_ref9_weight [.agg (encSl x), I (d : Int)] Hp.empty r H1 ∧ K r H1 := by
  refine ref9_weight.run ?_
  simp only [boxK_agg, allocK_eq]
  have hF0 : F 0 = ⟨0, 0, 0⟩ := by rw [hF]; rfl
  refine L0 _ 0 _ _ _ _ _ _ rfl (Nat.zero_le _) (by rw [hF0]; exact ⟨⟨by decide, by decide⟩, ⟨by decide, by decide⟩, by decide, by decide⟩) ?_
  rw [hF0]
  exact ⟨by simp [Hp.empty], by simp [Hp.empty]; rfl, Nat.le_refl 2⟩
 obtain ⟨r, H1, hg', hh⟩ := run
 obtain ⟨rfl, hb⟩ := (hK _ _).1 hh
 exact ⟨fun H => hg'.over (by simp [noIds, noId, noId_Sl]) rfl H, hb⟩
end
theorem rw_ok : ∀ (e : Nat) (d : Nat), d + e = 8 → ∀ (f : Nat) (x : Sl), e ≤ f → slWf Lmax x → FitS f x → (∀ H, Good Tryz.prog σ n_ref9_weight [.agg (encSl x), I (d : Int)] H (I (ofW e x)) H) ∧ 0 ≤ ofW e x ∧ ofW e x ≤ 16777215
 | 0, d, hd, f, x, hf, hw, hfit => by
  have hd8 : d = 8 := by omega
  subst hd8
  exact rw_step (P := fun _ => False) (by decide) (g := fun _ => 0) (fun h => absurd h (by decide)) x hw (by have := hfit.1; omega) (fun p hp => (hfit.2 p hp).1.wide) (fun h => absurd h (by decide))
 | e + 1, d, hd, f, x, hf, hw, hfit => by
  have h := rw_step (σ := σ) (d := d) (P := fun y => slWf Lmax y ∧ FitS (f - 1) y) (by omega) (g := ofW e) (fun _ y hy => rw_ok e (d + 1) (by omega) (f - 1) y (by omega) hy.1 hy.2) x hw (by have := hfit.1; omega) (fun p hp => (hfit.2 p hp).1.wide) (fun _ p hp q hq y hy => by
   have hpw := (Pt.wf_iff.1 (hw.2 p hp)).2
   have hqw := (Ps.wf_iff.1 (hpw.ps q hq)).2.2.2
   refine ⟨hqw.2 y hy, ?_⟩
   have := (hfit.2 p hp).2 q hq
   obtain ⟨f', rfl⟩ : ∃ f', f = f' + 1 := ⟨f - 1, by omega⟩
   exact this y hy)
  have e8 : decide (d = 8) = false := decide_eq_false (by omega)
  rw [e8] at h
  exact h
theorem Weight_ok {f : Nat} {x : Sl} (hf : 8 ≤ f) (hw : slWf Lmax x) (hfit : FitS f x) (H : Hp) : Good Tryz.prog σ n_ref9_Weight [.agg (encSl x)] H (I (ofW 8 x)) H := by
 refine good_pure (ref9_Weight.run ?_) (by simp [noIds, noId, noId_Sl]) rfl H
 simp only [boxK_agg]
 have l1 : ldA true 1 (Hp.empty.new (.cells (encSl x) true)) (.ptr Hp.empty.n 0) = some (.agg (encSl x)) := by simp [Hp.empty]
 rw [l1, bnd_some]
 exact callK_of ((rw_ok 8 0 rfl f x hf hw hfit).1 _) rfl
end Go.Proofs.YtaoegkmfgfefgaaGreat.Ev
namespace Go.Proofs.YtaoegkmfgfefgaaGreat.Ev
set_option linter.unusedVariables false
set_option linter.unusedSimpArgs false
variable {σ : Sig}
structure WsOk (l : List Sl) : Prop where
 len : l.length ≤ 2000000
 ok : ∀ s ∈ l, SelOk 11 [s] ∧ TxL 11 [s]
 wf : ∀ s ∈ l, slWf Lmax s
 fit : ∀ s ∈ l, FitS 10 s
theorem ofW_le {s : Sl} (hw : slWf Lmax s) (hf : FitS 10 s) : 0 ≤ ofW 8 s ∧ ofW 8 s ≤ 16777215 := (of_ok (σ := ⟨fun _ => 0, fun _ => false, fun _ => ⟨#[]⟩, none⟩) 8 (by decide) 10 s (by decide) hw hf).2
def bestW (L : List Nd) (e : Int) : List Sl → Int × Bool → Int × Bool
 | [], a => a
 | s :: r, a => bestW L e r (if selB L 11 s e then (if a.1 < ofW 8 s then ofW 8 s else a.1, true) else a)
section
attribute [local irreducible] weigh_Best.L0 weigh_Best.J1 ref9_Tree_Best.L0 ref9_Tree_Best.J1 ref9_Tree_Best.J2
theorem Best_ok {L : List Nd} {d : List Nat} (M : McT σ L d) {l : List Sl} (hl : WsOk l) (e : Int) (H : Hp) :
  Good Tryz.prog σ n_weigh_Best [domT L d, I e, sls l] H (.tup [I (bestW L e l (0, false)).1, Bo (bestW L e l (0, false)).2]) H := by
 refine good_by (fun K hK => weigh_Best.run ?_) (by simp [noIds, noId, noId_domT]) rfl H
 have hll := hl.len
 rw [len_sls, bnd_some]
 have L0 : ∀ (f k : Nat) (H : Hp) (a : Int × Bool), l.length - k = f → k ≤ l.length → bestW L e (l.drop k) a = bestW L e l (0, false) → weigh_Best.L0 σ K (domT L d) (I e) (I a.1) (Bo a.2) (sls l) (I (l.length : Int)) (I (k : Int)) H := by
  intro f
  induction f with
  | zero =>
   intro k H a hf hk ha
   have : k = l.length := by omega
   subst this
   rw [List.drop_length] at ha
   refine weigh_Best.L0_step ?_
   simp only [b_lss, bnd_some, Int.lt_irrefl, decide_false, ifB_lit, Bool.false_eq_true, if_false]
   rw [← ha] at hK
   exact hK _
  | succ f ih =>
   intro k H a hf hk ha
   have hlt : k < l.length := by omega
   have hlt' : (k : Int) < l.length := by omega
   obtain ⟨s, hs⟩ := get_lt hlt
   have hsm := List.mem_of_getElem? hs
   have hix : ixaSl 1 (sls l) (I (k : Int)) = some (.ip (encSl s)) := ix_map hs
   rw [drop_get hs, bestW] at ha
   refine weigh_Best.L0_step ?_
   simp only [b_lss, bnd_some, hlt', decide_true, ifB_lit, if_true, hix, ld_ip, ldL_sl, allocK_eq]
   obtain ⟨H2, hH2⟩ : ∃ H2, H2 = (H.new (.cells [.lit (.slice none 0 0)] true)).set H.n (some (.cells (encSl s) true)) := ⟨_, rfl⟩
   refine bnd_of (x := H2) ?_ ?_
   ·rw [st_agg, hH2]
    simp only [hp_get_new, if_true]
    rfl
   have hl2 : ldA true 1 H2 (.ptr H.n 0) = some (.agg (encSl s)) := by rw [hH2]; simp
   have next : ∀ (H : Hp) (a : Int × Bool), bestW L e (l.drop (k + 1)) a = bestW L e l (0, false) → weigh_Best.J1 σ K (domT L d) (I e) (I a.1) (Bo a.2) (sls l) (I (l.length : Int)) (I (k : Int)) H := by
    intro H a ha
    refine weigh_Best.J1_step ?_
    rw [b_add, bnd_some, wr_succ (by omega)]
    exact ih (k + 1) H a (by omega) (by omega) ha
   rw [hl2, bnd_some]
   obtain ⟨S, X⟩ := hl.ok s hsm
   refine callK_of (Sel_ok M S e _) ?_
   simp only [ifB_lit]
   cases hsel : selB L 11 s e with
   | false =>
    rw [hsel] at ha
    simp only [Bool.false_eq_true, if_false] at ha ⊢
    exact next _ a ha
   | true =>
    rw [hsel] at ha
    simp only [if_true] at ha ⊢
    rw [hl2, bnd_some]
    refine callK_of (Of_ok (f := 10) (by decide) (hl.wf s hsm) (hl.fit s hsm) _) ?_
    have hmax : maxA [I a.1, I (ofW 8 s)] = some (I (if a.1 < ofW 8 s then ofW 8 s else a.1)) := by simp [maxA, toI, maxStep]
    rw [hmax, bnd_some]
    exact next _ (_, true) ha
 exact L0 _ 0 _ (0, false) rfl (Nat.zero_le _) rfl
theorem rBest_ok {L : List Nd} {d : List Nat} (M : McT σ L d) {l : List Sl} (hl : WsOk l) (e : Int) (H : Hp) :
  Good Tryz.prog σ n_ref9_Tree_Best [refT L d, I e, sls l] H (.tup [I (bestW L e l (0, false)).1, Bo (bestW L e l (0, false)).2]) H := by
 refine good_by (fun K hK => ref9_Tree_Best.run ?_) (by simp [noIds, noId, noId_refT]) rfl H
 have hll := hl.len
 have L0 : ∀ (f k : Nat) (H : Hp) (a : Int × Bool), l.length - k = f → k ≤ l.length → (a.2 = false → a.1 = 0) → bestW L e (l.drop k) a = bestW L e l (0, false) → ref9_Tree_Best.L0 σ K (refT L d) (I e) (sls l) (I a.1) (Bo a.2) (I (k : Int)) H := by
  intro f
  induction f with
  | zero =>
   intro k H a hf hk hz ha
   have : k = l.length := by omega
   subst this
   rw [List.drop_length] at ha
   refine ref9_Tree_Best.L0_step ?_
   simp only [len_sls, b_lss, bnd_some, Int.lt_irrefl, decide_false, ifB_lit, Bool.false_eq_true, if_false]
   rw [← ha] at hK
   exact hK _
  | succ f ih =>
   intro k H a hf hk hz ha
   have hlt : k < l.length := by omega
   have hlt' : (k : Int) < l.length := by omega
   obtain ⟨s, hs⟩ := get_lt hlt
   have hsm := List.mem_of_getElem? hs
   have hix : ixaSl 1 (sls l) (I (k : Int)) = some (.ip (encSl s)) := ix_map hs
   rw [drop_get hs, bestW] at ha
   have J2 : ∀ (H : Hp) (a : Int × Bool), (a.2 = false → a.1 = 0) → bestW L e (l.drop (k + 1)) a = bestW L e l (0, false) → ref9_Tree_Best.J2 σ K (refT L d) (I e) (sls l) (I a.1) (Bo a.2) (I (k : Int)) H := by
    intro H a hz ha
    refine ref9_Tree_Best.J2_step ?_
    rw [b_add, bnd_some, wr_succ (by omega)]
    exact ih (k + 1) H a (by omega) (by omega) hz ha
   have J1 : ∀ (H : Hp) (n : Int) (y9 : AV), bestW L e (l.drop (k + 1)) (n, true) = bestW L e l (0, false) → ref9_Tree_Best.J1 σ K (refT L d) (I e) (sls l) (I n) y9 (I (k : Int)) H := by
    intro H n y9 ha
    refine ref9_Tree_Best.J1_step ?_
    exact J2 H (n, true) (fun h => by cases h) ha
   obtain ⟨S, X⟩ := hl.ok s hsm
   have hw := ofW_le (hl.wf s hsm) (hl.fit s hsm)
   refine ref9_Tree_Best.L0_step ?_
   simp only [len_sls, b_lss, bnd_some, hlt', decide_true, ifB_lit, if_true, hix, ld_ip, ldL_sl]
   refine callK_of (rTopSel_ok M S X e _) ?_
   simp only [ifB_lit]
   cases hsel : selB L 11 s e with
   | false =>
    rw [hsel] at ha
    simp only [Bool.false_eq_true, if_false] at ha ⊢
    exact J2 _ a hz ha
   | true =>
    rw [hsel] at ha
    simp only [if_true] at ha ⊢
    refine callK_of (Weight_ok (f := 10) (by decide) (hl.wf s hsm) (hl.fit s hsm) _) ?_
    simp only [u_not, bnd_some, ifB_lit]
    cases h2 : a.2 with
    | false =>
     have h1 := hz h2
     have : (if a.1 < ofW 8 s then ofW 8 s else a.1) = ofW 8 s := by split <;> omega
     rw [this] at ha
     simp only [Bool.not_false, if_true]
     exact J1 _ _ _ ha
    | true =>
     simp only [Bool.not_true, Bool.false_eq_true, if_false, b_gtr, bnd_some, ifB_lit]
     by_cases hlt : a.1 < ofW 8 s
     ·rw [if_pos hlt] at ha
      simp only [hlt, decide_true, if_true]
      exact J1 _ _ _ ha
     ·rw [if_neg hlt] at ha
      simp only [hlt, decide_false, Bool.false_eq_true, if_false]
      exact J1 _ _ _ ha
 exact L0 _ 0 _ (0, false) rfl (Nat.zero_le _) (fun _ => rfl) rfl
end
end Go.Proofs.YtaoegkmfgfefgaaGreat.Ev
namespace Go.Proofs.YtaoegkmfgfefgaaGreat.Ev
open Go.RowKit
set_option linter.unusedVariables false
set_option linter.unusedSimpArgs false
set_option maxRecDepth 100000
variable {σ : Sig}
theorem sls_ws {l : List Sl} (hl : slsWf Lmax l) (hf : FitL 11 l) (hb : bkLL (l.map encSl) ≤ NB) : WsOk l := by
 have hll : l.length ≤ bkLL (l.map encSl) := len_bk fun s _ => by rw [bk_sl]; omega
 refine ⟨by have hN : NB = 1048576 := rfl; omega, fun s hs => ?_, hl.2, hf⟩
 have h1 := mem_bk (f := encSl) hs
 have hN : NB = 1048576 := rfl
 refine sel_bulk ⟨by show 1 ≤ Lmax; decide, fun s' h => by rw [List.mem_singleton.1 h]; exact hl.2 s hs⟩ (fun s' h => by rw [List.mem_singleton.1 h]; exact hf s hs) ?_
 simp only [List.map_cons, List.map_nil, bkLL]
 omega
section
attribute [local irreducible] law11_WeighSelectors.L0 law11_WeighSelectors.L1
theorem WeighSelectors_good (hC : HasC σ) {L : List Nd} (hW : ∀ n ∈ L, NdWf n) {l : List Sl} (hl : slsWf Lmax l) (hb : bkLL (l.map encSl) ≤ NB) : ∃ Hf, Good Tryz.prog σ n_law11_WeighSelectors [nds L, sls l] Hp.empty (Bo true) Hf := by
 have hN : NB = 1048576 := rfl
 refine ⟨Hp.empty, good_by (fun K hK => law11_WeighSelectors.run (callK_of (alive11 _) ?_)) (by simp [noIds]) rfl _⟩
 obtain ⟨much, hd, hfit⟩ := Dear_ok (σ := σ) l hl
 refine callK_of (hd _) ?_
 rcases trees_ok (σ := σ) L hW with hg | ⟨d, hT, hg⟩
 ·refine callK_of (hg _) ?_
  simp only [x_tup, List.getElem?_cons_zero, List.getElem?_cons_succ, bnd_some, u_not, ifB_lit, Bool.not_true, Bool.not_false, Bool.false_eq_true, if_true, if_false]
  cases much <;> simp only [Bool.false_eq_true, if_true, if_false] <;> exact hK _
 refine callK_of (hg _) ?_
 simp only [x_tup, List.getElem?_cons_zero, List.getElem?_cons_succ, bnd_some, u_not, ifB_lit, Bool.not_true, Bool.not_false, Bool.false_eq_true, if_true, if_false]
 cases hmu : much with
 | true => simp only [if_true]; exact hK _
 | false =>
 simp only [Bool.false_eq_true, if_false]
 have hF := hfit hmu
 have M := hT.mc hC
 have hl40 := hT.len
 have hws := sls_ws hl hF hb
 have hll := hws.len
 have L1 : ∀ (f i : Nat) (H : Hp) (y10 : AV), L.length + 1 - i = f → i ≤ L.length + 1 → law11_WeighSelectors.L1 σ K (nds L) (sls l) (domT L d) (refT L d) y10 (I ((i : Int) - 1)) H := by
  intro f
  induction f with
  | zero =>
   intro i H y10 hf hi
   have : ¬ ((i : Int) - 1 < (L.length : Int)) := by omega
   refine law11_WeighSelectors.L1_step ?_
   simp only [len_nds, bnd_some, b_lss, this, decide_false, ifB_lit, Bool.false_eq_true, if_false]
   exact hK _
  | succ f ih =>
   intro i H y10 hf hi
   have hlt : (i : Int) - 1 < (L.length : Int) := by omega
   refine law11_WeighSelectors.L1_step ?_
   simp only [len_nds, bnd_some, b_lss, hlt, decide_true, ifB_lit, if_true]
   refine callK_of (Best_ok M hws _ _) ?_
   simp only [x_tup, List.getElem?_cons_zero, List.getElem?_cons_succ, bnd_some]
   refine callK_of (rBest_ok M hws _ _) ?_
   simp only [x_tup, List.getElem?_cons_zero, List.getElem?_cons_succ, bnd_some, b_neq, decide_true, Bool.not_true, e_boolN, BEq.rfl, ifB_lit, Bool.false_eq_true, if_false, b_add]
   rw [wr_in (by omega) (by omega)]
   have e1 : (i : Int) - 1 + 1 = ((i + 1 : Nat) : Int) - 1 := by omega
   rw [e1]
   exact ih (i + 1) H y10 (by omega) (by omega)
 have L0 : ∀ (f k : Nat) (H : Hp) (y11 : AV), l.length - k = f → k ≤ l.length → law11_WeighSelectors.L0 σ K (nds L) (sls l) (domT L d) (refT L d) (I (k : Int)) y11 H := by
  intro f
  induction f with
  | zero =>
   intro k H y11 hf hk
   have : k = l.length := by omega
   subst this
   refine law11_WeighSelectors.L0_step ?_
   simp only [len_sls, bnd_some, b_lss, Int.lt_irrefl, decide_false, ifB_lit, Bool.false_eq_true, if_false]
   have := L1 _ 0 H (I (l.length : Int)) rfl (Nat.zero_le _)
   simpa using this
  | succ f ih =>
   intro k H y11 hf hk
   have hlt : k < l.length := by omega
   have hlt' : (k : Int) < l.length := by omega
   obtain ⟨s, hs⟩ := get_lt hlt
   have hsm := List.mem_of_getElem? hs
   have hix : ixaSl 1 (sls l) (I (k : Int)) = some (.ip (encSl s)) := ix_map hs
   refine law11_WeighSelectors.L0_step ?_
   simp only [len_sls, bnd_some, b_lss, hlt', decide_true, ifB_lit, if_true, hix, ld_ip, ldL_sl]
   refine callK_of (Of_ok (f := 10) (by decide) (hws.wf s hsm) (hws.fit s hsm) _) ?_
   simp only [kp_ip]
   refine callK_of (Weight_ok (f := 10) (by decide) (hws.wf s hsm) (hws.fit s hsm) _) ?_
   simp only [b_neq, decide_true, Bool.not_true, bnd_some, ifB_lit, Bool.false_eq_true, if_false, b_add]
   rw [wr_succ (by omega)]
   exact ih (k + 1) H y11 (by omega) (by omega)
 exact L0 _ 0 _ _ rfl (Nat.zero_le _)
end
theorem WeighSelectors_walk {H : Type} {enc : TypeId × Value → H} (W : World) (hsh : W.ShapedOpen Tryz.prog) {v0 v1 : Value} {r : Reach} {b0 base : Nat} {spare : Nat → Bool} {held : Bool} {d0 d1 : DataW H} {p0 p1 : List MemPlace}
  (e0 : Value.okWide Tryz.prog W r b0 T_sl_api_Node v0) (h0 : DataW.Trod enc Tryz.prog W base spare held T_sl_api_Node v0 d0 p0) (w0 : ∀ n ∈ d0.weights Tryz.prog T_sl_api_Node, n ≤ reachBytes)
  (e1 : Value.okWide Tryz.prog W r b0 T_sl_api_Selector v1) (h1 : DataW.Trod enc Tryz.prog W base spare held T_sl_api_Selector v1 d1 p1) (w1 : ∀ n ∈ d1.weights Tryz.prog T_sl_api_Selector, n ≤ reachBytes)
  (hk : bulkDs [d0, d1] ≤ 1048576) :
  Calls Tryz.prog n_law11_WeighSelectors #[v0, v1] W fun e W' => e = .returned (.bool true) ∧ Below W.heap.size W W' := by
 obtain ⟨x0, r0, s0⟩ := read_arg (P := Tryz.prog) (ti := tiT.get) (S := readB) (t := T_sl_api_Node) (σ := sigM) tiT_ok readB_closed (inB_mem (by kernel_rfl)) e0 h0 w0
 obtain ⟨x1, r1, s1, k1⟩ := read_argB (P := Tryz.prog) (ti := tiT.get) (S := readB) (t := T_sl_api_Selector) (σ := sigM) tiT_ok readB_closed (inB_mem (by kernel_rfl)) e1 h1 w1
 obtain ⟨a, rfl, ha, _⟩ := v_nodes s0
 obtain ⟨l, rfl, hl⟩ := v_sels s1
 simp only [bulkDs] at hk
 have k2 : bkLL (l.map encSl) + 1 ≤ bulkD d1 := by
  have : bk (sls l) = bkLL (l.map encSl) + 1 := by unfold sls; exact bk_imm _ _
  omega
 obtain ⟨Hf, hg⟩ := WeighSelectors_good (hasC sigM_g) ha hl (by show _ ≤ 1048576; omega)
 exact law_of_good (relL2 r0 r1) hg (gMax_ok W hsh sigM_g)
end Go.Proofs.YtaoegkmfgfefgaaGreat.Ev

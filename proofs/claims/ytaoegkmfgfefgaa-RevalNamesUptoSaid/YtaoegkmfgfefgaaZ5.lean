/- The walks, part 5: the evaluator, the functions, the laws. Conditions: none. -/
import Derived.Shelf.LaysM
import Derived.Shelf.Strings.Search1
import Derived.Shelf.Strings.Search2
import Derived.Shelf.Strings.Search3
import Derived.Shelf.Strings.Shaped
import Derived.Test.YtaoegkmfgfefgaaZ4
namespace Go.Proofs.Ytaoegkmfgfefgaa.Ev
open Go.Shelf Go.Proofs
def laysM144_ren : Ren :=
{
  f := fun x =>
    match x with
    | 144 => 180
    | 143 => 184
    | 219 => 187
    | 217 => 188
    | 225 => 189
    | 224 => 190
    | 267 => 191
    | 266 => 192
    | 314 => 193
    | n => n,
  t := fun x =>
    match x with
    | 9 => 9
    | 4 => 4
    | 3 => 3
    | 5 => 5
    | 46 => 137
    | 146 => 232
    | 51 => 169
    | n => n,
  g := fun x =>
    match x with
    | 1 => 0
    | n => n }
theorem laysM144 : LaysM.n144 Try.prog laysM144_ren :=
{ mixed := by kernel_rfl, f143 := Eq.trans Try.func184 (congrArg some (Eq.refl (Body.n143 laysM144_ren))),
  f144 := Eq.trans Try.func180 (congrArg some (Eq.refl (Body.n144 laysM144_ren))),
  f217 := Eq.trans Try.func188 (congrArg some (Eq.refl (Body.n217 laysM144_ren))),
  f219 := Eq.trans Try.func187 (congrArg some (Eq.refl (Body.n219 laysM144_ren))),
  f224 := Eq.trans Try.func190 (congrArg some (Eq.refl (Body.n224 laysM144_ren))),
  f225 := Eq.trans Try.func189 (congrArg some (Eq.refl (Body.n225 laysM144_ren))),
  f266 := Eq.trans Try.func192 (congrArg some (Eq.refl (Body.n266 laysM144_ren))),
  f267 := Eq.trans Try.func191 (congrArg some (Eq.refl (Body.n267 laysM144_ren))),
  f314 := Eq.trans Try.func193 (congrArg some (Eq.refl (Body.n314 laysM144_ren))), t3 := Try.underlying3,
  a3 := Try.isAgg3, z3 := Try.sizeOf3, v3 := Try.zeroValue3, t4 := Try.underlying4, a4 := Try.isAgg4, z4 := Try.sizeOf4,
  v4 := Try.zeroValue4, t5 := Try.underlying5, a5 := Try.isAgg5, z5 := Try.sizeOf5, v5 := Try.zeroValue5,
  t9 := Try.underlying9, a9 := Try.isAgg9, z9 := Try.sizeOf9, v9 := Try.zeroValue9, t46 := Try.underlying137,
  a46 := Try.isAgg137, z46 := Try.sizeOf137, v46 := Try.zeroValue137, t51 := Try.underlying169, a51 := Try.isAgg169,
  z51 := Try.sizeOf169, v51 := Try.zeroValue169, t146 := Try.underlying232, a146 := Try.isAgg232, z146 := Try.sizeOf232,
  v146 := Try.zeroValue232, g1 := by kernel_rfl,
  i3 := by kernel_rfl, i4 := by kernel_rfl,
  i5 := by kernel_rfl,
  i9 := by kernel_rfl,
  i46 := by kernel_rfl,
  i51 := by kernel_rfl,
  i146 := by kernel_rfl,
  m1 := by kernel_rfl,
  s1_3 := fun w h => Go.Proofs.cell_of_shapedOpen_int h (zero := #[Go.Value.int Go.IntKind.i64 0]) (t := 3) (of_decide_eq_true (by kernel_rfl)) (by kernel_rfl) rfl (by kernel_rfl) (by kernel_rfl) Try.underlying3 }
def gMax : Nat := laysM144_ren.g 1
theorem hasC {σ : Sig} (hg : σ.g = some gMax) : HasC σ := by
  intro s t H hs
  refine ⟨⟨_, Try.func180, by kernel_rfl, by kernel_rfl⟩, fun B w0 E w vs hσ hst hx => ?_⟩
  obtain ⟨_, m, hm⟩ := hst.glNow gMax (by rw [hσ]; exact hg)
  have hl := hx.len
  obtain ⟨v0, v1, rfl⟩ : ∃ v0 v1, vs = #[v0, v1] := by
    obtain ⟨l⟩ := vs
    match l, hl with
    | [a, b], _ => exact ⟨a, b, rfl⟩
  have r0 := hx.at_ 0 _ v0 rfl (by simp)
  have r1 := hx.at_ 1 _ v1 rfl (by simp)
  cases r0
  cases r1
  refine (Any.strings_Contains (ρ := laysM144_ren) { laysM144 with } s t m w hs hm).mono fun e w' he => ?_
  obtain ⟨rfl, rfl⟩ := he
  exact ⟨E, _, rfl, .refl E, hst, .lit _⟩
theorem gMax_ok (W : World) (h : W.ShapedOpen Try.prog) {σ : Sig} (hg : σ.g = some gMax) : ∀ g, σ.g = some g → ∃ m : Int, W.cell? ⟨g, 0, none⟩ = some (.int .i64 m) := by
  intro g hg'
  rw [hg] at hg'
  cases hg'
  exact laysM144.s1_3 W h
end Go.Proofs.Ytaoegkmfgfefgaa.Ev
namespace Go.Proofs.Ytaoegkmfgfefgaa.Ev
open Go.RowKit
set_option linter.unusedVariables false
set_option linter.unusedSimpArgs false
set_option maxRecDepth 100000
variable {σ : Sig}
theorem NdSm.low {n : Nd} (h : NdSm n) : SmN (lowN n) := by
  have r : reachBytes = 140737488351232 := rfl
  refine ⟨by have := h.classes; show n.classes.length ≤ _; omega, by have := h.attrs; show (n.attrs.map lowPr).length ≤ _; rw [List.length_map]; omega, fun p hp => ?_⟩
  obtain ⟨q, hq, rfl⟩ := List.mem_map.1 hp
  have := (h.at' q hq).2
  show q.2.data.size < _
  omega
theorem TreeOk.smN {L : List Nd} {d : List Nat} (h : TreeOk L d) : ∀ e, e < L.length → SmN (lowN (ndAt L e)) := by
  intro e he
  refine (h.sm _ ?_).low
  unfold ndAt
  rw [List.getD_eq_getElem?_getD, List.getElem?_eq_getElem he]
  exact List.getElem_mem _
theorem TreeOk.mc {L : List Nd} {d : List Nat} (h : TreeOk L d) (hC : HasC σ) : McT σ L d := ⟨hC, h.hB, by have := h.len; omega, h.smN⟩
theorem big_new (L : List Nd) (hW : ∀ n ∈ L, NdWf n) : (∃ b e : Int, True ∧ ∃ bb : Bool, (bb = true ∨ e ≠ 0) ∧ (∀ H, Good Try.prog σ n_law9_Big [nds L] H (Bo bb) H) ∧ ∃ x, ∀ H, Good Try.prog σ n_ref9_New [nds L] H (.tup [x, I e]) H) ∨
    (∃ d, TreeOk L d ∧ (∀ H, Good Try.prog σ n_law9_Big [nds L] H (Bo false) H) ∧ ∀ H, Good Try.prog σ n_ref9_New [nds L] H (.tup [refT L d, I 0]) H) := by
  rcases refNew_ok (σ := σ) L hW with ⟨_, e, he, hg⟩ | ⟨d, hN, hB, hg⟩
  · exact .inl ⟨0, e, trivial, bigR L 0, .inr he, Big_ok L, _, hg⟩
  · cases hb : bigR L 0 with
    | true => exact .inl ⟨0, 0, trivial, true, .inl rfl, fun H => by have := Big_ok (σ := σ) L H; rwa [hb] at this, _, hg⟩
    | false =>
      refine .inr ⟨d, ?_, fun H => by have := Big_ok (σ := σ) L H; rwa [hb] at this, hg⟩
      unfold bigR bigT at hb
      simp only [Bool.or_eq_false_iff, List.drop_zero] at hb
      have hl : L.length ≤ 40 := by
        have h2 := hb.2
        by_cases h : 40 < L.length
        · rw [if_pos h, if_pos hN] at h2; cases h2
        · omega
      refine ⟨hl, hB, fun n hn => NdSm.of ?_⟩
      have := List.any_eq_false.1 hb.1 n (by rw [List.take_of_length_le (by omega)]; exact hn)
      simpa using this
abbrev nilS2 : AV := .lit (.slice none 0 0)
def noAt (n : Nd) : Nd := { n with attrs := [] }
section
attribute [local irreducible] law14_RevalNames.L0 law14_RevalNames.L1 law14_RevalNames.J2 law14_RevalNames.L3
theorem RevalNames_good (hC : HasC σ) {L : List Nd} (hW : ∀ n ∈ L, NdWf n) {l : List Sl} (hl : slsWf Lmax l) (hb : bkLL (l.map encSl) ≤ NB) : ∃ Hf, Good Try.prog σ n_law14_RevalNames [nds L, sls l] Hp.empty (Bo true) Hf := by
  have hN : NB = 1048576 := rfl
  refine ⟨Hp.empty, good_by (fun K hK => law14_RevalNames.run (callK_of (alive14 _) ?_)) (by simp [noIds]) rfl _⟩
  obtain ⟨much, hdear, hfit⟩ := Dear_ok (σ := σ) l hl
  refine callK_of (hdear _) ?_
  simp only [ifB_lit]
  rcases big_new (σ := σ) L hW with ⟨_, e, _, bb, he, hbig, x, hnew⟩ | ⟨d, hT, hbig, hnew⟩
  · cases much with
    | true =>
      simp only [if_true]
      refine callK_of (hnew _) ?_
      simp only [x_tup, List.getElem?_cons_zero, List.getElem?_cons_succ, bnd_some, u_not, Bool.not_true, ifB_lit, Bool.false_eq_true, if_false]
      exact hK _
    | false =>
      simp only [Bool.false_eq_true, if_false]
      refine callK_of (hbig _) ?_
      refine callK_of (hnew _) ?_
      simp only [x_tup, List.getElem?_cons_zero, List.getElem?_cons_succ, bnd_some, u_not, Bool.not_true, ifB_lit, Bool.false_eq_true, if_false]
      cases hbb : bb with
      | true => simp only [if_true]; exact hK _
      | false =>
        have he : e ≠ 0 := by rcases he with h | h; rw [hbb] at h; cases h; exact h
        simp only [Bool.false_eq_true, if_false, b_neq, he, decide_false, Bool.not_false, bnd_some, ifB_lit, if_true]
        exact hK _
  cases hm : much with
  | true =>
    simp only [if_true]
    refine callK_of (hnew _) ?_
    simp only [x_tup, List.getElem?_cons_zero, List.getElem?_cons_succ, bnd_some, u_not, Bool.not_true, ifB_lit, Bool.false_eq_true, if_false]
    exact hK _
  | false =>
  simp only [Bool.false_eq_true, if_false]
  refine callK_of (hbig _) ?_
  refine callK_of (hnew _) ?_
  simp only [x_tup, List.getElem?_cons_zero, List.getElem?_cons_succ, bnd_some, u_not, Bool.not_true, ifB_lit, Bool.false_eq_true, if_false, b_neq, decide_true]
  have M := hT.mc hC
  have hl40 := hT.len
  have hB := hT.hB
  obtain ⟨S, X⟩ := sel_bulk hl (hfit hm) hb
  have hll : l.length ≤ bkLL (l.map encSl) := len_bk fun s _ => by rw [bk_sl]; omega
  have hone : ∀ s ∈ l, SelOk 11 [s] ∧ TxL 11 [s] := fun s hs => by
    have h1 := mem_bk (f := encSl) hs
    refine sel_bulk ⟨by show 1 ≤ Lmax; decide, fun s' h => by rw [List.mem_singleton.1 h]; exact hl.2 s hs⟩ (fun s' h => by rw [List.mem_singleton.1 h]; exact hfit hm s hs) ?_
    simp only [List.map_cons, List.map_nil, bkLL]
    omega
  -- the middle loop
  have L1 : ∀ (a : Nat) (y13 : AV), a < L.length → 1 ≤ a → (∀ H y10 y13, law14_RevalNames.L0 σ K (nds L) (sls l) (refT L d) (I ((a + 1 : Nat) : Int)) y10 y13 H) → ∀ (f b : Nat) (H : Hp) (y13 : AV), a - b = f → 1 ≤ b → b ≤ a → law14_RevalNames.L1 σ K (nds L) (sls l) (refT L d) (I (a : Int)) (I (b : Int)) y13 H := by
    intro a y13 ha ha1 next f
    induction f with
    | zero =>
      intro b H y13 hf hb1 hba
      have : b = a := by omega
      subst this
      refine law14_RevalNames.L1_step ?_
      simp only [b_lss, bnd_some, Int.lt_irrefl, decide_false, ifB_lit, Bool.false_eq_true, if_false, b_add]
      rw [wr_succ (by omega)]
      exact next _ _ _
    | succ f ih =>
      intro b H y13 hf hb1 hba
      have hlt : b < a := by omega
      have hlt' : (b : Int) < a := by omega
      have hbL : b < L.length := by omega
      have J2 : ∀ (H : Hp) (y13 : AV), law14_RevalNames.J2 σ K (nds L) (sls l) (refT L d) (I (a : Int)) (I (b : Int)) y13 H := by
        intro H y13
        refine law14_RevalNames.J2_step ?_
        simp only [b_add, bnd_some]
        rw [wr_succ (by omega)]
        exact ih (b + 1) H y13 (by omega) (by omega) (by omega)
      refine law14_RevalNames.L1_step ?_
      simp only [b_lss, bnd_some, hlt', decide_true, ifB_lit, if_true]
      refine callK_of (rNode_ok L d ha _) ?_
      rw [allocK_eq]
      obtain ⟨na, hna⟩ : ∃ na, na = lowN (ndAt L a) := ⟨_, rfl⟩
      obtain ⟨nb, hnb⟩ : ∃ nb, nb = lowN (ndAt L b) := ⟨_, rfl⟩
      rw [← hna]
      refine bnd_of (x := (H.new (.cells [I 0, Sx emp, Sx emp, .lit (.slice none 0 0), .lit (.slice none 0 0)] true)).set H.n (some (.cells (encNd na) true))) ?_ ?_
      · rw [st_agg]
        simp only [hp_get_new, if_true]
        rfl
      refine callK_of (rNode_ok L d hbL _) ?_
      rw [allocK_eq, ← hnb]
      have n1 : ((H.new (.cells [I 0, Sx emp, Sx emp, .lit (.slice none 0 0), .lit (.slice none 0 0)] true)).set H.n (some (.cells (encNd na) true))).n = H.n + 1 := rfl
      rw [n1]
      have ne : H.n ≠ H.n + 1 := by omega
      obtain ⟨H2, hH2⟩ : ∃ H2, H2 = (((H.new (.cells [I 0, Sx emp, Sx emp, .lit (.slice none 0 0), .lit (.slice none 0 0)] true)).set H.n (some (.cells (encNd na) true))).new (.cells [I 0, Sx emp, Sx emp, .lit (.slice none 0 0), .lit (.slice none 0 0)] true)).set (H.n + 1) (some (.cells (encNd nb) true)) := ⟨_, rfl⟩
      refine bnd_of (x := H2) ?_ ?_
      · rw [st_agg, hH2]
        simp only [hp_get_new, n1, if_true]
        rfl
      have g1 : H2.get H.n = some (.cells (encNd na) true) := by rw [hH2]; simp [ne]
      have g2 : H2.get (H.n + 1) = some (.cells (encNd nb) true) := by rw [hH2]; simp
      clear hH2
      have en : ∀ n : Nd, encNd n = [I n.parent, Sx n.tag, Sx n.id, strs n.classes, .imm 2 (n.attrs.map encPr)] := fun _ => rfl
      have rw1 : stA 1 H2 (.ptr H.n 4) (.lit (.slice none 0 0)) = some (H2.set H.n (some (.cells [I na.parent, Sx na.tag, Sx na.id, strs na.classes, nilS2] true))) := by
        rw [st_nil, g1, en]; rfl
      simp only [sh_ptr, Nat.zero_add, bnd_some]
      rw [rw1, bnd_some]
      have rw2 : stA 1 (H2.set H.n (some (.cells [I na.parent, Sx na.tag, Sx na.id, strs na.classes, nilS2] true))) (.ptr (H.n + 1) 4) (.lit (.slice none 0 0)) = some ((H2.set H.n (some (.cells [I na.parent, Sx na.tag, Sx na.id, strs na.classes, nilS2] true))).set (H.n + 1) (some (.cells [I nb.parent, Sx nb.tag, Sx nb.id, strs nb.classes, nilS2] true))) := by
        rw [st_nil, hp_get_set, if_neg (Ne.symm ne), g2, en]; rfl
      rw [rw2, bnd_some]
      obtain ⟨H3, hH3⟩ : ∃ H3, H3 = (H2.set H.n (some (.cells [I na.parent, Sx na.tag, Sx na.id, strs na.classes, nilS2] true))).set (H.n + 1) (some (.cells [I nb.parent, Sx nb.tag, Sx nb.id, strs nb.classes, nilS2] true)) := ⟨_, rfl⟩
      have l1 : ldA true 5 H3 (.ptr H.n 0) = some (.agg [I na.parent, Sx na.tag, Sx na.id, strs na.classes, nilS2]) := by rw [hH3, ld_ptr, hp_get_set, if_neg ne, hp_get_set, if_pos rfl]; rfl
      have l2 : ldA true 5 H3 (.ptr (H.n + 1) 0) = some (.agg [I nb.parent, Sx nb.tag, Sx nb.id, strs nb.classes, nilS2]) := by rw [hH3, ld_ptr, hp_get_set, if_pos rfl]; rfl
      rw [← hH3, l1, bnd_some, l2, bnd_some]
      clear hH3
      have fz : ∀ n : Nd, Fz H3 (.agg [I n.parent, Sx n.tag, Sx n.id, strs n.classes, nilS2]) (.agg (encNd (noAt n))) := fun n =>
        Fz.aggL (.cons (.refl rfl) (.cons (.refl rfl) (.cons (.refl rfl) (.cons (.refl (noId_strs _)) (.cons .nil .nil)))))
      have hcl : (noAt na).classes.length ≤ reachBytes := by rw [hna]; exact (M.sm a ha).classes
      refine callK_of ((SameNode_ok (noAt na) (noAt nb) rfl rfl hcl Hp.empty).frzA (.cons (fz na) (.cons (fz nb) .nil)) rfl) ?_
      simp only [u_not, bnd_some, ifB_lit]
      cases hsm : sameNm (noAt na) (noAt nb) with
      | false => simp only [Bool.not_false, if_true]; exact J2 _ _
      | true =>
      simp only [Bool.not_true, Bool.false_eq_true, if_false]
      have hal : Alike L a b := by
        unfold sameNm noAt at hsm
        simp only [Bool.and_eq_true, decide_eq_true_eq] at hsm
        obtain ⟨q1, q2, q3, q4⟩ := hsm
        rw [hna, hnb] at q1 q2 q3 q4
        exact ⟨q1, q2, q3, q4⟩
      have L3 : ∀ (g i : Nat) (H : Hp), l.length - i = g → i ≤ l.length → law14_RevalNames.L3 σ K (nds L) (sls l) (refT L d) (I (a : Int)) (I (b : Int)) (I (i : Int)) H := by
        intro g
        induction g with
        | zero =>
          intro i H hg hi
          have : i = l.length := by omega
          subst this
          refine law14_RevalNames.L3_step ?_
          simp only [len_sls, bnd_some, b_lss, Int.lt_irrefl, decide_false, ifB_lit, Bool.false_eq_true, if_false]
          exact J2 _ _
        | succ g ihg =>
          intro i H hg hi
          have hil : i < l.length := by omega
          have hil' : (i : Int) < l.length := by omega
          obtain ⟨s, hs⟩ := get_lt hil
          have hsm := List.mem_of_getElem? hs
          have hix : ixaSl 1 (sls l) (I (i : Int)) = some (.ip (encSl s)) := ix_map hs
          have hsl : s.length < 9000000000000000000 := by
            have h1 := mem_bk (f := encSl) hsm
            rw [bk_sl] at h1
            have h2 : s.length ≤ bkLL (s.map encPt) := len_bk fun p _ => by rw [bk_pt]; omega
            omega
          refine law14_RevalNames.L3_step ?_
          simp only [len_sls, bnd_some, b_lss, hil', decide_true, ifB_lit, if_true, hix, ld_ip, ldL_sl]
          refine callK_of (needs_ok s hsl _) ?_
          simp only [u_not, bnd_some, ifB_lit]
          cases hnd : needs s with
          | true =>
            simp only [Bool.not_true, Bool.false_eq_true, if_false, b_add, bnd_some]
            rw [wr_succ (by omega)]
            exact ihg (i + 1) H (by omega) (by omega)
          | false =>
            simp only [Bool.not_false, if_true]
            obtain ⟨S1, X1⟩ := hone s hsm
            refine callK_of (rTopSel_ok M S1 X1 (a : Int) _) ?_
            simp only [kp_ip]
            refine callK_of (rTopSel_ok M S1 X1 (b : Int) _) ?_
            rw [alike_sel hB ha hbL hal S1 hnd]
            simp only [e_boolN, BEq.rfl, Bool.not_true, bnd_some, ifB_lit, Bool.false_eq_true, if_false, b_add]
            rw [wr_succ (by omega)]
            exact ihg (i + 1) H (by omega) (by omega)
      exact L3 _ 0 _ rfl (Nat.zero_le _)
  have L0 : ∀ (f a : Nat) (H : Hp) (y10 y13 : AV), L.length - a = f → 1 ≤ a → law14_RevalNames.L0 σ K (nds L) (sls l) (refT L d) (I (a : Int)) y10 y13 H := by
    intro f
    induction f with
    | zero =>
      intro a H y10 y13 hf ha
      have : ¬ ((a : Int) < (L.length : Int)) := by omega
      refine law14_RevalNames.L0_step ?_
      simp only [len_nds, bnd_some, b_lss, this, decide_false, ifB_lit, Bool.false_eq_true, if_false]
      exact hK _
    | succ f ih =>
      intro a H y10 y13 hf ha
      have hlt : (a : Int) < (L.length : Int) := by omega
      refine law14_RevalNames.L0_step ?_
      simp only [len_nds, bnd_some, b_lss, hlt, decide_true, ifB_lit, if_true]
      exact L1 a y13 (by omega) ha (fun H y10 y13 => ih (a + 1) H y10 y13 (by omega) (by omega)) _ 1 H y13 rfl (by decide) ha
  exact L0 _ 1 _ _ _ rfl (by decide)
end
def sigM : Sig := ⟨fun _ => 0, fun _ => false, fun _ => ⟨#[]⟩, some gMax⟩
theorem sigM_g : sigM.g = some gMax := rfl
theorem RevalNames_walk {H : Type} {enc : TypeId × Value → H} (W : World) (hsh : W.ShapedOpen Try.prog) {v0 v1 : Value} {r : Reach} {b0 base : Nat} {spare : Nat → Bool} {held : Bool} {d0 d1 : DataW H} {p0 p1 : List MemPlace}
    (e0 : Value.okWide Try.prog W r b0 T_sl_api_Node v0) (h0 : DataW.Trod enc Try.prog W base spare held T_sl_api_Node v0 d0 p0) (w0 : ∀ n ∈ d0.weights Try.prog T_sl_api_Node, n ≤ reachBytes)
    (e1 : Value.okWide Try.prog W r b0 T_sl_api_Selector v1) (h1 : DataW.Trod enc Try.prog W base spare held T_sl_api_Selector v1 d1 p1) (w1 : ∀ n ∈ d1.weights Try.prog T_sl_api_Selector, n ≤ reachBytes)
    (hk : bulkDs [d0, d1] ≤ 1048576) :
    Calls Try.prog n_law14_RevalNames #[v0, v1] W fun e W' => e = .returned (.bool true) ∧ Below W.heap.size W W' := by
  obtain ⟨x0, r0, s0⟩ := read_arg (P := Try.prog) (ti := tiT.get) (S := readB) (t := T_sl_api_Node) (σ := sigM) tiT_ok readB_closed (inB_mem (by kernel_rfl)) e0 h0 w0
  obtain ⟨x1, r1, s1, k1⟩ := read_argB (P := Try.prog) (ti := tiT.get) (S := readB) (t := T_sl_api_Selector) (σ := sigM) tiT_ok readB_closed (inB_mem (by kernel_rfl)) e1 h1 w1
  obtain ⟨a, rfl, ha, _⟩ := v_nodes s0
  obtain ⟨l, rfl, hl⟩ := v_sels s1
  simp only [bulkDs] at hk
  have k2 : bkLL (l.map encSl) + 1 ≤ bulkD d1 := by
    have : bk (sls l) = bkLL (l.map encSl) + 1 := by unfold sls; exact bk_imm _ _
    omega
  obtain ⟨Hf, hg⟩ := RevalNames_good (hasC sigM_g) ha hl (by show _ ≤ 1048576; omega)
  exact law_of_good (relL2 r0 r1) hg (gMax_ok W hsh sigM_g)
end Go.Proofs.Ytaoegkmfgfefgaa.Ev

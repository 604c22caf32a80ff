/- The walks, part 7: the evaluator, the functions, the laws. Conditions: none. -/
import Derived.Test.YtaoegkmfgfefgaaZ6
namespace Go.Proofs.Ytaoegkmfgfefgaa.Ev
set_option linter.unusedVariables false
set_option linter.unusedSimpArgs false
variable {σ : Sig}
def bigS (s : ByteArray) : Bool := decide (60 < (s.data.size : Int))
def bigP (p : ByteArray × ByteArray) : Bool := bigS p.1 || decide (100 < (p.2.data.size : Int))
def bigN (n : Nd) : Bool := decide (8 < (n.classes.length : Int)) || (decide (8 < (n.attrs.length : Int)) || (bigS n.tag || (bigS n.id || (n.classes.any bigS || n.attrs.any bigP))))
def bigT (L : List Nd) : Bool := if 40 < L.length then (if L.length ≤ 4096 then true else decide (4100 < L.length)) else decide (4100 < L.length)
def bigR (L : List Nd) (m : Nat) : Bool := ((L.drop m).take (100 - m)).any bigN || bigT L
structure NdSm (n : Nd) : Prop where
 classes : n.classes.length ≤ 8
 attrs : n.attrs.length ≤ 8
 tag : n.tag.data.size ≤ 60
 id : n.id.data.size ≤ 60
 cl : ∀ s ∈ n.classes, s.data.size ≤ 60
 at' : ∀ p ∈ n.attrs, p.1.data.size ≤ 60 ∧ p.2.data.size ≤ 100
theorem NdSm.of {n : Nd} (h : bigN n = false) : NdSm n := by
 unfold bigN bigP bigS at h
 simp only [Bool.or_eq_false_iff, decide_eq_false_iff_not, List.any_eq_false, Bool.or_eq_true, decide_eq_true_eq, not_or] at h
 obtain ⟨h1, h2, h3, h4, h5, h6⟩ := h
 exact ⟨by omega, by omega, by omega, by omega, fun s hs => by have := h5 s hs; omega, fun p hp => by have := h6 p hp; omega⟩
theorem bigR_step {L : List Nd} {m : Nat} {n : Nd} (h : L[m]? = some n) (hm : m < 100) : bigR L m = (bigN n || bigR L (m + 1)) := by
 unfold bigR
 obtain ⟨j, hj⟩ : ∃ j, 100 - m = j + 1 := ⟨99 - m, by omega⟩
 rw [drop_get h, hj, List.take_succ_cons, List.any_cons, Bool.or_assoc, show 100 - (m + 1) = j by omega]
section
attribute [local irreducible] law9_Big.L0 law9_Big.L1 law9_Big.L2
theorem big_L2 {L : List Nd} {m : Nat} {n : Nd} (hn : L[m]? = some n) (hm : m < 100) {K : AV → Hp → Prop} {y4 : AV} (hl : n.attrs.length ≤ 8)
  (h0 : ∀ H y4 y5, (∀ H, K (Bo (bigR L (m + 1))) H) → law9_Big.L0 σ K (nds L) (I ((m + 1 : Nat) : Int)) y4 y5 H) : ∀ (f k : Nat) (H : Hp), n.attrs.length - k = f → k ≤ n.attrs.length → (∀ H, K (Bo ((n.attrs.drop k).any bigP || bigR L (m + 1))) H) →
  law9_Big.L2 σ K (nds L) (I (m : Int)) y4 (I (k : Int)) H := by
 have hix : ixaSl 5 (nds L) (I (m : Int)) = some (.ip (encNd n)) := ix_map hn
 intro f
 induction f with
 | zero =>
  intro k H hf hk hK
  have : k = n.attrs.length := by omega
  subst this
  refine law9_Big.L2_step ?_
  have hw : wr .i64 ((m : Int) + 1) = ((m + 1 : Nat) : Int) := wr_succ (by omega)
  simp only [hix, bnd_some, sh_ip, ld_ip, f_encNd4, len_imm, List.length_map, b_lss, Int.lt_irrefl, decide_false, ifB_lit, Bool.false_eq_true, if_false, b_add, hw]
  refine h0 _ _ _ ?_
  simpa using hK
 | succ f ih =>
  intro k H hf hk hK
  have hlt : k < n.attrs.length := by omega
  obtain ⟨p, hp⟩ := get_lt hlt
  rw [drop_get hp, List.any_cons] at hK
  have hlt' : (k : Int) < n.attrs.length := by omega
  have hixp : ixaSl 2 (.imm 2 (n.attrs.map encPr)) (I (k : Int)) = some (.ip (encPr p)) := ix_map hp
  have hw : wr .i64 ((k : Int) + 1) = ((k + 1 : Nat) : Int) := wr_succ (by omega)
  refine law9_Big.L2_step ?_
  simp only [hix, bnd_some, sh_ip, ld_ip, f_encNd4, len_imm, List.length_map, b_lss, hlt', decide_true, ifB_lit, if_true, hixp, List.drop_zero, f_encPr0, f_encPr1', len_str, b_gtr, decide_eq_true_eq, b_add, hw]
  split
  ·rename_i h
   have : bigP p = true := by unfold bigP bigS; rw [decide_eq_true h, Bool.true_or]
   rw [this] at hK
   simpa using hK H
  rename_i h1
  split
  ·rename_i h
   have : bigP p = true := by unfold bigP; rw [decide_eq_true h, Bool.or_true]
   rw [this] at hK
   simpa using hK H
  ·rename_i h
   have : bigP p = false := by unfold bigP bigS; rw [decide_eq_false h, decide_eq_false h1]; rfl
   rw [this] at hK
   exact ih (k + 1) H (by omega) (by omega) (by simpa using hK)
theorem big_L1 {L : List Nd} {m : Nat} {n : Nd} (hn : L[m]? = some n) (hm : m < 100) {K : AV → Hp → Prop} {y5 : AV} (hl : n.attrs.length ≤ 8) (hl2 : n.classes.length ≤ 8)
  (h0 : ∀ H y4 y5, (∀ H, K (Bo (bigR L (m + 1))) H) → law9_Big.L0 σ K (nds L) (I ((m + 1 : Nat) : Int)) y4 y5 H) : ∀ (f k : Nat) (H : Hp), n.classes.length - k = f → k ≤ n.classes.length → (∀ H, K (Bo ((n.classes.drop k).any bigS || (n.attrs.any bigP || bigR L (m + 1)))) H) →
  law9_Big.L1 σ K (nds L) (I (m : Int)) (I (k : Int)) y5 H := by
 have hix : ixaSl 5 (nds L) (I (m : Int)) = some (.ip (encNd n)) := ix_map hn
 intro f
 induction f with
 | zero =>
  intro k H hf hk hK
  have : k = n.classes.length := by omega
  subst this
  refine law9_Big.L1_step ?_
  simp only [hix, bnd_some, sh_ip, ld_ip, f_encNd3, len_strs, b_lss, Int.lt_irrefl, decide_false, ifB_lit, Bool.false_eq_true, if_false]
  exact big_L2 hn hm hl h0 _ 0 H rfl (Nat.zero_le _) (by simpa using hK)
 | succ f ih =>
  intro k H hf hk hK
  have hlt : k < n.classes.length := by omega
  obtain ⟨p, hp⟩ := get_lt hlt
  rw [drop_get hp, List.any_cons] at hK
  have hlt' : (k : Int) < n.classes.length := by omega
  have hixp : ixaSl 1 (strs n.classes) (I (k : Int)) = some (.ip [Sx p]) := ix_map hp
  have lx : ∀ H, ldA false 1 H (.ip [Sx p]) = some (Sx p) := fun _ => rfl
  have hw : wr .i64 ((k : Int) + 1) = ((k + 1 : Nat) : Int) := wr_succ (by omega)
  refine law9_Big.L1_step ?_
  simp only [hix, bnd_some, sh_ip, ld_ip, f_encNd3, len_strs, b_lss, hlt', decide_true, ifB_lit, if_true, hixp, ldL_one, len_str, b_gtr, decide_eq_true_eq, b_add, hw]
  split
  ·rename_i h
   have : bigS p = true := decide_eq_true h
   rw [this] at hK
   simpa using hK H
  ·rename_i h
   have : bigS p = false := decide_eq_false h
   rw [this] at hK
   exact ih (k + 1) H (by omega) (by omega) (by simpa using hK)
theorem big_end {L : List Nd} {K : AV → Hp → Prop} {H : Hp} (hK : ∀ H, K (Bo (bigT L)) H) : bnd (lenSl (nds L)) fun x24 => bnd (binR .gtr x24 (I 40)) fun x25 => ifB x25 (bnd (lenSl (nds L)) fun x26 => bnd (binR .leq x26 (I 4096)) fun x27 => ifB x27 (K (Bo true) H) (bnd (lenSl (nds L)) fun x28 => bnd (binR .gtr x28 (I 4100)) fun x29 => K x29 H)) (bnd (lenSl (nds L)) fun x30 => bnd (binR .gtr x30 (I 4100)) fun x31 => K x31 H) := by
 simp only [len_nds, bnd_some, b_gtr, b_leq, ifB_lit, decide_eq_true_eq]
 have e : decide ((4100 : Int) < (L.length : Int)) = decide (4100 < L.length) := by rw [decide_eq_decide]; omega
 rw [e]
 unfold bigT at hK
 by_cases h1 : 40 < L.length
 ·have h1' : (40 : Int) < (L.length : Int) := by omega
  rw [if_pos h1] at hK
  rw [if_pos h1']
  by_cases h2 : L.length ≤ 4096
  ·have h2' : (L.length : Int) ≤ 4096 := by omega
   rw [if_pos h2] at hK
   rw [if_pos h2']
   exact hK H
  ·have h2' : ¬ (L.length : Int) ≤ 4096 := by omega
   rw [if_neg h2] at hK
   rw [if_neg h2']
   exact hK H
 ·have h1' : ¬ (40 : Int) < (L.length : Int) := by omega
  rw [if_neg h1] at hK
  rw [if_neg h1']
  exact hK H
theorem Big_ok (L : List Nd) (H : Hp) : Good Try.prog σ n_law9_Big [nds L] H (Bo (bigR L 0)) H := by
 refine good_by (fun K hK => law9_Big.run ?_) (by simp [noIds, noId]) rfl H
 have L0 : ∀ (f m : Nat) (H : Hp) (y4 y5 : AV), 100 - m = f → m ≤ L.length → m ≤ 100 → (∀ H, K (Bo (bigR L m)) H) → law9_Big.L0 σ K (nds L) (I (m : Int)) y4 y5 H := by
  intro f
  induction f with
  | zero =>
   intro m H y4 y5 hf hm hm2 hK
   obtain rfl : m = 100 := by omega
   have hK : ∀ H, K (Bo (bigT L)) H := by simpa [bigR] using hK
   refine law9_Big.L0_step ?_
   have e0 : ¬ (((100 : Nat) : Int) < 100) := by decide
   by_cases h : ((100 : Nat) : Int) < L.length
   ·simp only [len_nds, bnd_some, b_lss, h, decide_true, ifB_lit, if_true, e0, decide_false, Bool.false_eq_true, if_false]
    have hE := big_end (H := H) hK
    simp only [len_nds, bnd_some, b_gtr, b_leq] at hE ⊢
    exact hE
   ·simp only [len_nds, bnd_some, b_lss, h, decide_false, ifB_lit, Bool.false_eq_true, if_false]
    have hE := big_end (H := H) hK
    simp only [len_nds, bnd_some, b_gtr, b_leq] at hE ⊢
    exact hE
  | succ f ih =>
   intro m H y4 y5 hf hm hm2 hK
   refine law9_Big.L0_step ?_
   have e0 : ((m : Nat) : Int) < 100 := by omega
   by_cases h : m < L.length
   ·have h' : (m : Int) < L.length := by omega
    obtain ⟨n, hn⟩ := get_lt h
    rw [bigR_step hn (by omega)] at hK
    have hix : ixaSl 5 (nds L) (I (m : Int)) = some (.ip (encNd n)) := ix_map hn
    simp only [len_nds, bnd_some, b_lss, h', decide_true, ifB_lit, if_true, e0, hix, sh_ip, ld_ip, f_encNd3, f_encNd4, f_encNd1', f_encNd2, len_strs, len_imm, List.length_map, len_str, b_gtr, decide_eq_true_eq]
    unfold bigN at hK
    split
    ·rename_i h1; simp only [h1, decide_true, Bool.true_or] at hK; exact hK H
    rename_i h1
    split
    ·rename_i h2; simp only [h2, decide_true, Bool.true_or, Bool.or_true] at hK; exact hK H
    rename_i h2
    split
    ·rename_i h3
     have : bigS n.tag = true := decide_eq_true h3
     simp only [this, Bool.true_or, Bool.or_true] at hK; exact hK H
    rename_i h3
    split
    ·rename_i h4
     have : bigS n.id = true := decide_eq_true h4
     simp only [this, Bool.true_or, Bool.or_true] at hK; exact hK H
    rename_i h4
    have t3 : bigS n.tag = false := decide_eq_false h3
    have t4 : bigS n.id = false := decide_eq_false h4
    simp only [h1, h2, t3, t4, decide_false, Bool.false_or, Bool.or_assoc] at hK
    exact big_L1 hn (by omega) (by omega) (by omega) (fun H y4 y5 hK' => ih (m + 1) H y4 y5 (by omega) (by omega) (by omega) hK') _ 0 H rfl (Nat.zero_le _) (by simpa using hK)
   ·have h' : ¬ (m : Int) < L.length := by omega
    have : m = L.length := by omega
    subst this
    have hK : ∀ H, K (Bo (bigT L)) H := by simpa [bigR] using hK
    simp only [len_nds, bnd_some, b_lss, h', decide_false, ifB_lit, Bool.false_eq_true, if_false]
    have hE := big_end (H := H) hK
    simp only [len_nds, bnd_some, b_gtr, b_leq] at hE ⊢
    exact hE
 exact L0 _ 0 _ _ _ rfl (Nat.zero_le _) (by decide) hK
end
theorem good_byI {P : Program} {σ : Sig} {f : Nat} {xs : List AV} {r : AV} (h : ∀ K : AV → Hp → Prop, (∀ H, K r H) → ∃ r' H1, Good P σ f xs Hp.empty r' H1 ∧ K r' H1) (hx : noIds xs = true) (hr : noId r = true) (H : Hp) : Good P σ f xs H r H := by
 obtain ⟨r', H1, hg, e⟩ := h (fun r' _ => r' = r) (fun _ => rfl)
 subst e
 exact hg.frzR hx (.refl hr) H
structure TreeOk (L : List Nd) (d : List Nat) : Prop where
 len : L.length ≤ 40
 hB : Built L L.length d
 sm : ∀ n ∈ L, NdSm n
theorem trees_ok (L : List Nd) (hW : ∀ n ∈ L, NdWf n) : (∀ H, Good Try.prog σ n_law22_both [nds L] H (.tup [.lit (.pointer none), .lit (.pointer none), Bo false]) H) ∨
  (∃ d, TreeOk L d ∧ ∀ H, Good Try.prog σ n_law22_both [nds L] H (.tup [domT L d, refT L d, Bo true]) H) := by
 rcases refNew_ok (σ := σ) L hW with ⟨_, e, he, hg⟩ | ⟨d, hN, hB, hg⟩
 ·refine .inl fun H => good_by (fun K hK => law22_both.run (callK_of (Big_ok L _) (callK_of (hg _) ?_))) (by simp [noIds, noId]) rfl H
  simp only [x_tup, List.getElem?_cons_zero, List.getElem?_cons_succ, bnd_some, ifB_lit, b_neq, he, decide_false, Bool.not_false, if_true]
  cases bigR L 0 <;> simp only [Bool.false_eq_true, if_true, if_false] <;> exact hK _
 ·cases hb : bigR L 0 with
  | true =>
   refine .inl fun H => good_by (fun K hK => law22_both.run (callK_of (Big_ok L _) (callK_of (hg _) ?_))) (by simp [noIds, noId]) rfl H
   simp only [x_tup, List.getElem?_cons_zero, List.getElem?_cons_succ, bnd_some, hb, ifB_lit, if_true]
   exact hK _
  | false =>
   have hT : TreeOk L d := by
    unfold bigR bigT at hb
    simp only [Bool.or_eq_false_iff, List.drop_zero] at hb
    have hl : L.length ≤ 40 := by
     have h2 := hb.2
     by_cases h : 40 < L.length
     ·rw [if_pos h, if_pos hN] at h2; cases h2
     ·omega
    refine ⟨hl, hB, fun n hn => NdSm.of ?_⟩
    have := List.any_eq_false.1 hb.1 n (by rw [List.take_of_length_le (by omega)]; exact hn)
    simpa using this
   refine .inr ⟨d, hT, fun H => good_byI (fun K hK => law22_both.run (callK_of (Big_ok L _) (callK_of (hg _) ?_))) (by simp [noIds, noId]) ?_ H⟩
   ·simp only [x_tup, List.getElem?_cons_zero, List.getElem?_cons_succ, bnd_some, hb, ifB_lit, b_neq, decide_true, Bool.not_true, Bool.false_eq_true, if_false]
    refine callK_of (domNew_ok hB hW hN _) ?_
    simp only [x_tup, List.getElem?_cons_zero, List.getElem?_cons_succ, bnd_some]
    exact hK _
   ·simp [noId, noIds, noId_domT, noId_refT]
end Go.Proofs.Ytaoegkmfgfefgaa.Ev
namespace Go.Proofs.Ytaoegkmfgfefgaa.Ev
set_option linter.unusedVariables false
set_option linter.unusedSimpArgs false
theorem rows_map {α : Type} {f : α → List AV} {P : α → Prop} : ∀ {rows : List (List AV)}, (∀ row ∈ rows, ∃ x, row = f x ∧ P x) → ∃ l : List α, rows = l.map f ∧ ∀ x ∈ l, P x
 | [], _ => ⟨[], rfl, fun x hx => by cases hx⟩
 | r :: rs, h => by
  obtain ⟨x, hx, px⟩ := h r (by simp)
  obtain ⟨l, hl, pl⟩ := rows_map (rows := rs) fun row hr => h row (by simp [hr])
  refine ⟨x :: l, by rw [hx, hl]; rfl, fun y hy => ?_⟩
  rcases List.mem_cons.1 hy with rfl | hy
  ·exact px
  ·exact pl y hy
theorem d_int {ts : List Nat} {zs : List AV} (h : Sh tiT.get (T_int :: ts) zs) : ∃ n ys, zs = I n :: ys ∧ i64 n ∧ Sh tiT.get ts ys := by
 obtain ⟨i, hi, hd, _⟩ := T_int_is
 obtain ⟨n, ys, e, hw, hs⟩ := sh_int hi hd h
 refine ⟨n, ys, e, ?_, hs⟩
 simp [Lit.wf, IntKind.min, IntKind.max, IntKind.signed, IntKind.bits] at hw
 unfold i64
 omega
theorem d_str {ts : List Nat} {zs : List AV} (h : Sh tiT.get (T_string :: ts) zs) : ∃ s ys, zs = Sx s :: ys ∧ s.data.size ≤ Lmax ∧ Sh tiT.get ts ys := by
 obtain ⟨i, hi, hd, _⟩ := T_string_is
 obtain ⟨s, ys, e, hw, hs⟩ := sh_str hi hd h
 exact ⟨s, ys, e, Nat.le_trans hw (by decide), hs⟩
theorem d_bool {ts : List Nat} {zs : List AV} (h : Sh tiT.get (T_bool :: ts) zs) : ∃ b ys, zs = Bo b :: ys ∧ Sh tiT.get ts ys := by
 obtain ⟨i, hi, hd, _⟩ := T_bool_is
 exact sh_bool hi hd h
theorem d_slice {t e sz : Nat} (hT : ∃ i, tiT.get t = some i ∧ i.d = .slice e ∧ i.size = 1) (hE : ∃ i, tiT.get e = some i ∧ i.size = sz) {ts : List Nat} {zs : List AV} (h : Sh tiT.get (t :: ts) zs) :
  ∃ rows ys, zs = .imm sz rows :: ys ∧ (∀ row ∈ rows, Sh tiT.get [e] row) ∧ rows.length ≤ Lmax ∧ Sh tiT.get ts ys := by
 obtain ⟨i, hi, hd, _⟩ := hT
 obtain ⟨j', hj', hs'⟩ := hE
 rcases sh_slice hi hd h with ⟨ys, _, _⟩ | ⟨j, rows, ys, hj, e, hr, hl, hm, _, hs⟩
 ·cases h with
  | sl h' hd' he hc hl hm hb hs => rw [hi] at h'; cases h'; rw [hd] at hd'; cases hd'; rw [hj'] at he; cases he; exact ⟨_, _, by rw [hs'], hc, hm, hs⟩
  | _ => simp_all
 ·rw [hj'] at hj
  cases hj
  rw [hs'] at e
  exact ⟨rows, ys, e, hr, hm, hs⟩
theorem d_struct {t : Nat} {fs : List (Nat × Nat)} {sz : Nat} (hT : ∃ i, tiT.get t = some i ∧ i.d = .struct fs ∧ i.size = sz) {ts : List Nat} {zs : List AV} (h : Sh tiT.get (t :: ts) zs) : Sh tiT.get (fs.map (·.2) ++ ts) zs := by
 obtain ⟨i, hi, hd, _⟩ := hT
 exact sh_struct hi hd h
theorem sz_of {t sz : Nat} {d : TD} (h : ∃ i, tiT.get t = some i ∧ i.d = d ∧ i.size = sz) : ∃ i, tiT.get t = some i ∧ i.size = sz := by
 obtain ⟨i, a, _, b⟩ := h
 exact ⟨i, a, b⟩
theorem d_strs {ts : List Nat} {zs : List AV} (h : Sh tiT.get (T_sl_string :: ts) zs) : ∃ l ys, zs = strs l :: ys ∧ strsWf Lmax l ∧ Sh tiT.get ts ys := by
 obtain ⟨rows, ys, e, hr, hm, hs⟩ := d_slice T_sl_string_is (sz_of T_string_is) h
 obtain ⟨l, hl, hp⟩ := rows_map (f := fun s => [Sx s]) (P := fun s => s.data.size ≤ Lmax) fun row hrow => by
  obtain ⟨s, ys, e, hw, hs⟩ := d_str (hr row hrow)
  rw [sh_nil hs] at e
  exact ⟨s, e, hw⟩
 exact ⟨l, ys, by rw [e, hl]; rfl, ⟨by rw [hl] at hm; simpa using hm, hp⟩, hs⟩
theorem d_attrs {ts : List Nat} {zs : List AV} (h : Sh tiT.get (T_sl_api_Attr :: ts) zs) : ∃ (l : List At) (ys : List AV), zs = .imm 3 (l.map encAt) :: ys ∧ (l.length ≤ Lmax ∧ ∀ x ∈ l, x.name.data.size ≤ Lmax ∧ i64 x.op ∧ x.text.data.size ≤ Lmax) ∧ Sh tiT.get ts ys := by
 obtain ⟨rows, ys, e, hr, hm, hs⟩ := d_slice T_sl_api_Attr_is (sz_of T_api_Attr_is) h
 obtain ⟨l, hl, hp⟩ := rows_map (f := encAt) (P := fun x => x.name.data.size ≤ Lmax ∧ i64 x.op ∧ x.text.data.size ≤ Lmax) fun row hrow => by
  have h1 := d_struct T_api_Attr_is (hr row hrow)
  obtain ⟨a, y1, e1, w1, h2⟩ := d_str h1
  obtain ⟨b, y2, e2, w2, h3⟩ := d_int h2
  obtain ⟨c, y3, e3, w3, h4⟩ := d_str h3
  rw [sh_nil h4] at e3
  exact ⟨⟨a, b, c⟩, by rw [e1, e2, e3]; rfl, w1, w2, w3⟩
 exact ⟨l, ys, by rw [e, hl], ⟨by rw [hl] at hm; simpa using hm, hp⟩, hs⟩
theorem d_parts : ∀ (n : Nat) {ts : List Nat} {zs : List AV}, SizeOf.sizeOf zs ≤ n → Sh tiT.get (T_sl_api_Part :: ts) zs → ∃ (l : List Pt) (ys : List AV), zs = .imm 6 (l.map encPt) :: ys ∧ (l.length ≤ Lmax ∧ ∀ p ∈ l, Pt.wf Lmax p) ∧ Sh tiT.get ts ys
 | 0, ts, zs, hn, h => by cases zs <;> simp at hn
 | n + 1, ts, zs, hn, h => by
  obtain ⟨rows, ys, e, hr, hm, hs⟩ := d_slice T_sl_api_Part_is (sz_of T_api_Part_is) h
  obtain ⟨l, hl, hp⟩ := rows_map (f := encPt) (P := fun p => Pt.wf Lmax p) fun row hrow => by
   have hsz : SizeOf.sizeOf row < n := by
    have h1 : SizeOf.sizeOf row < SizeOf.sizeOf rows := List.sizeOf_lt_of_mem hrow
    rw [e] at hn
    simp only [List.cons.sizeOf_spec, AV.imm.sizeOf_spec] at hn
    omega
   obtain ⟨k, y1, e1, w1, h1⟩ := d_int (d_struct T_api_Part_is (hr row hrow))
   have h1 := d_struct T_api_Compound_is h1
   obtain ⟨t, y2, e2, w2, h2⟩ := d_str h1
   obtain ⟨i, y3, e3, w3, h3⟩ := d_strs h2
   obtain ⟨c, y4, e4, w4, h4⟩ := d_strs h3
   obtain ⟨a, y5, e5, w5, h5⟩ := d_attrs h4
   obtain ⟨prows, y6, e6, hpr, hpm, h6⟩ := d_slice T_sl_api_Pseudo_is (sz_of T_api_Pseudo_is) h5
   rw [sh_nil h6] at e6
   subst e6 e5 e4 e3 e2 e1
   obtain ⟨ps, hps, hpp⟩ := rows_map (f := encPs) (P := fun p => Ps.wf Lmax p) fun prow hprow => by
    have hsz2 : SizeOf.sizeOf prow < n := by
     have h1 : SizeOf.sizeOf prow < SizeOf.sizeOf prows := List.sizeOf_lt_of_mem hprow
     simp only [List.cons.sizeOf_spec, AV.imm.sizeOf_spec] at hsz
     omega
    have g1 := d_struct T_api_Pseudo_is (hpr prow hprow)
    obtain ⟨k, y1, e1, w1, g2⟩ := d_int g1
    obtain ⟨a, y2, e2, w2, g3⟩ := d_int g2
    obtain ⟨b, y3, e3, w3, g4⟩ := d_int g3
    obtain ⟨srows, y4, e4, hsr, hsm, g5⟩ := d_slice T_sl_api_Selector_is (sz_of T_api_Selector_is) g4
    rw [sh_nil g5] at e4
    subst e4 e3 e2 e1
    obtain ⟨ss, hss, hsp⟩ := rows_map (f := encSl) (P := slWf Lmax) fun srow hsrow => by
     have hsz3 : SizeOf.sizeOf srow < n := by
      have h1 : SizeOf.sizeOf srow < SizeOf.sizeOf srows := List.sizeOf_lt_of_mem hsrow
      simp only [List.cons.sizeOf_spec, AV.imm.sizeOf_spec] at hsz2
      omega
     obtain ⟨l, y1, e1, w1, q1⟩ := d_parts n (by omega) (d_struct T_api_Selector_is (hsr srow hsrow))
     rw [sh_nil q1] at e1
     exact ⟨l, e1, w1.1, w1.2⟩
    refine ⟨.mk k a b ss, by rw [encPs_eq, hss]; rfl, ?_⟩
    rw [Ps.wf_iff]
    exact ⟨w1, w2, w3, by rw [hss, List.length_map] at hsm; exact hsm, hsp⟩
   refine ⟨.mk k (.mk t i c a ps), by rw [encPt_eq, encCp_eq, hps]; rfl, ?_⟩
   rw [Pt.wf_iff]
   exact ⟨w1, w2, w3, w4, w5.1, w5.2, by rw [hps, List.length_map] at hpm; exact hpm, hpp⟩
  exact ⟨l, ys, by rw [e, hl], ⟨by rw [hl] at hm; simpa using hm, hp⟩, hs⟩
theorem d_sel {ts : List Nat} {zs : List AV} (h : Sh tiT.get (T_api_Selector :: ts) zs) : ∃ (s : Sl) (ys : List AV), zs = encSl s ++ ys ∧ slWf Lmax s ∧ Sh tiT.get ts ys := by
 obtain ⟨l, ys, e, w, hs⟩ := d_parts _ (Nat.le_refl _) (d_struct T_api_Selector_is h)
 exact ⟨l, ys, e, w, hs⟩
theorem d_sels {ts : List Nat} {zs : List AV} (h : Sh tiT.get (T_sl_api_Selector :: ts) zs) : ∃ l ys, zs = sls l :: ys ∧ slsWf Lmax l ∧ Sh tiT.get ts ys := by
 obtain ⟨rows, ys, e, hr, hm, hs⟩ := d_slice T_sl_api_Selector_is (sz_of T_api_Selector_is) h
 obtain ⟨l, hl, hp⟩ := rows_map (f := encSl) (P := slWf Lmax) fun row hrow => by
  obtain ⟨s, y, e, w, hs⟩ := d_sel (hr row hrow)
  rw [sh_nil hs, List.append_nil] at e
  exact ⟨s, e, w⟩
 exact ⟨l, ys, by rw [e, hl]; rfl, ⟨by rw [hl] at hm; simpa using hm, hp⟩, hs⟩
def readB : List Nat := [T_int, T_string, T_bool, T_sl_string, T_sl_api_Attr, T_api_Attr, T_sl_api_Part, T_api_Part, T_api_Compound, T_sl_api_Pseudo, T_api_Pseudo, T_sl_api_Selector, T_api_Selector, T_sl_api_Node, T_api_Node, T_sl_api_Pair, T_api_Pair]
end Go.Proofs.Ytaoegkmfgfefgaa.Ev
namespace Go.Proofs.Ytaoegkmfgfefgaa.Ev
theorem v_one {t sz : Nat} {d : TD} (hT : ∃ i, tiT.get t = some i ∧ i.d = d ∧ i.size = sz) (ha : d.agg = false) {x : AV} (h : ShV tiT.get t x) : Sh tiT.get [t] [x] := by
 obtain ⟨i, hi, hd, _⟩ := hT
 unfold ShV at h
 rw [hi] at h
 simp only [hd, ha] at h
 exact h
end Go.Proofs.Ytaoegkmfgfefgaa.Ev
namespace Go.Proofs.Ytaoegkmfgfefgaa.Ev
theorem d_strR {ts : List Nat} {zs : List AV} (h : Sh tiT.get (T_string :: ts) zs) : ∃ s ys, zs = Sx s :: ys ∧ s.data.size ≤ reachBytes ∧ Sh tiT.get ts ys := by
 obtain ⟨i, hi, hd, _⟩ := T_string_is
 obtain ⟨s, ys, e, hw, hs⟩ := sh_str hi hd h
 exact ⟨s, ys, e, hw, hs⟩
theorem d_sliceB {t e sz B : Nat} (hT : ∃ i, tiT.get t = some i ∧ i.d = .slice e ∧ i.size = 1) (hE : ∃ i, tiT.get e = some i ∧ i.size = sz) (hB : (tiT.get e).map (·.bytes) = some B) {ts : List Nat} {zs : List AV} (h : Sh tiT.get (t :: ts) zs) :
  ∃ rows ys, zs = .imm sz rows :: ys ∧ (∀ row ∈ rows, Sh tiT.get [e] row) ∧ rows.length * B ≤ reachBytes ∧ Sh tiT.get ts ys := by
 obtain ⟨i, hi, hd, _⟩ := hT
 obtain ⟨j', hj', hs'⟩ := hE
 rw [hj'] at hB
 simp only [Option.map_some, Option.some.injEq] at hB
 cases h with
 | sl h' hd' he hc hl hm hb hs => rw [hi] at h'; cases h'; rw [hd] at hd'; cases hd'; rw [hj'] at he; cases he; exact ⟨_, _, by rw [hs'], hc, by rw [← hB]; exact hb, hs⟩
 | _ => simp_all
theorem d_strsR {ts : List Nat} {zs : List AV} (h : Sh tiT.get (T_sl_string :: ts) zs) : ∃ l ys, zs = strs l :: ys ∧ l.length * 16 ≤ reachBytes ∧ Sh tiT.get ts ys := by
 obtain ⟨rows, ys, e, hr, hm, hs⟩ := d_sliceB T_sl_string_is (sz_of T_string_is) (B := 16) (by kernel_rfl) h
 obtain ⟨l, hl, hp⟩ := rows_map (f := fun s => [Sx s]) (P := fun s => True) fun row hrow => by
  obtain ⟨s, ys, e, hw, hs⟩ := d_str (hr row hrow)
  rw [sh_nil hs] at e
  exact ⟨s, e, trivial⟩
 exact ⟨l, ys, by rw [e, hl]; rfl, by rw [hl] at hm; simpa using hm, hs⟩
theorem d_pairs {ts : List Nat} {zs : List AV} (h : Sh tiT.get (T_sl_api_Pair :: ts) zs) : ∃ (l : List (ByteArray × ByteArray)) (ys : List AV), zs = .imm 2 (l.map encPr) :: ys ∧ (l.length * 32 ≤ reachBytes ∧ ∀ x ∈ l, x.1.data.size ≤ reachBytes) ∧ Sh tiT.get ts ys := by
 obtain ⟨rows, ys, e, hr, hm, hs⟩ := d_sliceB T_sl_api_Pair_is (sz_of T_api_Pair_is) (B := 32) (by kernel_rfl) h
 obtain ⟨l, hl, hp⟩ := rows_map (f := encPr) (P := fun x => x.1.data.size ≤ reachBytes) fun row hrow => by
  obtain ⟨a, y1, e1, w1, h2⟩ := d_strR (d_struct T_api_Pair_is (hr row hrow))
  obtain ⟨b, y2, e2, w2, h3⟩ := d_strR h2
  rw [sh_nil h3] at e2
  exact ⟨⟨a, b⟩, by rw [e1, e2]; rfl, w1⟩
 exact ⟨l, ys, by rw [e, hl], ⟨by rw [hl] at hm; simpa using hm, hp⟩, hs⟩
theorem d_nodes {ts : List Nat} {zs : List AV} (h : Sh tiT.get (T_sl_api_Node :: ts) zs) : ∃ (l : List Nd) (ys : List AV), zs = nds l :: ys ∧ (∀ x ∈ l, NdWf x) ∧ l.length ≤ Lmax ∧ Sh tiT.get ts ys := by
 obtain ⟨rows, ys, e, hr, hm, hs⟩ := d_slice T_sl_api_Node_is (sz_of T_api_Node_is) h
 obtain ⟨l, hl, hp⟩ := rows_map (f := encNd) (P := NdWf) fun row hrow => by
  obtain ⟨p, y1, e1, w1, h2⟩ := d_int (d_struct T_api_Node_is (hr row hrow))
  obtain ⟨t, y2, e2, w2, h3⟩ := d_strR h2
  obtain ⟨i, y3, e3, w3, h4⟩ := d_strR h3
  obtain ⟨c, y4, e4, w4, h5⟩ := d_strsR h4
  obtain ⟨a, y5, e5, w5, h6⟩ := d_pairs h5
  rw [sh_nil h6] at e5
  exact ⟨⟨p, t, i, c, a⟩, by rw [e1, e2, e3, e4, e5]; rfl, w1, w2, w4, w5.1, w5.2⟩
 exact ⟨l, ys, by rw [e, hl]; rfl, hp, by rw [hl] at hm; simpa using hm, hs⟩
theorem v_nodes {x : AV} (h : ShV tiT.get T_sl_api_Node x) : ∃ l, x = nds l ∧ (∀ n ∈ l, NdWf n) ∧ l.length ≤ Lmax := by
 obtain ⟨l, ys, e, w, hl, hn⟩ := d_nodes (v_one T_sl_api_Node_is rfl h)
 cases e
 exact ⟨l, rfl, w, hl⟩
end Go.Proofs.Ytaoegkmfgfefgaa.Ev
namespace Go.Proofs.Ytaoegkmfgfefgaa.Ev
set_option linter.unusedVariables false
set_option linter.unusedSimpArgs false
theorem sum_bk {α : Type} {f : α → List AV} {g : α → Nat} : ∀ {l : List α}, (∀ x ∈ l, g x ≤ bkL (f x)) → (l.map g).sum ≤ bkLL (l.map f)
 | [], _ => by simp [bkLL]
 | x :: r, h => by
  have h1 := h x (by simp)
  have h2 := sum_bk (f := f) (g := g) (l := r) fun y hy => h y (by simp [hy])
  simp only [List.map_cons, List.sum_cons, bkLL]
  omega
theorem len_bk {α : Type} {f : α → List AV} {l : List α} (h : ∀ x ∈ l, 1 ≤ bkL (f x)) : l.length ≤ bkLL (l.map f) := by
 have h1 := sum_bk (f := f) (g := fun _ => 1) (l := l) h
 have h2 : ∀ l : List α, (l.map fun _ => 1).sum = l.length := by
  intro l
  induction l with
  | nil => rfl
  | cons a r ih => simp only [List.map_cons, List.sum_cons, List.length_cons, ih]; omega
 rw [h2] at h1
 exact h1
theorem mem_bk {α : Type} {f : α → List AV} {l : List α} {x : α} (h : x ∈ l) : bkL (f x) ≤ bkLL (l.map f) := bkLL_mem (List.mem_map_of_mem h)
theorem bk_S (s : ByteArray) : bk (Sx s) = s.data.size + 1 := by simp [bk]
theorem bk_I (n : Int) : bk (I n) = 1 := by simp [bk]
theorem bk_imm (sz : Nat) (rows : List (List AV)) : bk (.imm sz rows) = bkLL rows + 1 := by simp [bk]
theorem bk_strs (l : List ByteArray) : bk (strs l) = bkLL (l.map fun s => [Sx s]) + 1 := by unfold strs; rw [bk_imm]
theorem bk_cp (c : Cp) : bkL (encCp c) = (c.tag.data.size + 1) + ((bkLL (c.ids.map fun s => [Sx s]) + 1) + ((bkLL (c.classes.map fun s => [Sx s]) + 1) + ((bkLL (c.attrs.map encAt) + 1) + (bkLL (c.pseudos.map encPs) + 1)))) := by
 rw [encCp_eq]
 simp only [bkL, bk_S, bk_strs, bk_imm, Nat.add_zero]
theorem bk_pt (p : Pt) : bkL (encPt p) = 1 + bkL (encCp p.c) := by rw [encPt_eq]; simp only [bkL, bk_I]
theorem bk_ps (q : Ps) : bkL (encPs q) = 1 + (1 + (1 + (bkLL (q.list.map encSl) + 1))) := by rw [encPs_eq]; simp only [bkL, bk_I, bk_imm, Nat.add_zero]
theorem bk_sl (s : Sl) : bkL (encSl s) = bkLL (s.map encPt) + 1 := by unfold encSl; simp only [bkL, bk_imm, Nat.add_zero]
theorem bk_at (a : At) : bkL (encAt a) = (a.name.data.size + 1) + (1 + (a.text.data.size + 1)) := by unfold encAt; simp only [bkL, bk_S, bk_I, Nat.add_zero]
structure PtB (f : Nat) (p : Pt) : Prop where
 c : CpOk p.c
 ps : p.c.pseudos.length ≤ NB
 q : ∀ q ∈ p.c.pseudos, (i64 q.a ∧ i64 q.b) ∧ SlsOk f q.list
 tx : ∀ a ∈ p.c.attrs, a.text.data.size < 4294967281
 tq : ∀ q ∈ p.c.pseudos, TxL f q.list
 cnt : (p.c.pseudos.map fun q => cntF f q.list).sum + 6 ≤ bkL (encPt p)
theorem pt_bulk {f : Nat} (ih : ∀ l, slsWf Lmax l → FitL f l → bkLL (l.map encSl) ≤ NB → SlsOk f l ∧ TxL f l ∧ cntF f l ≤ bkLL (l.map encSl)) {p : Pt} (hw : CpWf Lmax p.c) (hf : FitP f p) (hb : bkL (encCp p.c) ≤ NB) : PtB f p := by
 have hN : NB = 1048576 := rfl
 have r : reachBytes = 140737488351232 := rfl
 rw [bk_cp, hN] at hb
 have l1 : p.c.ids.length ≤ bkLL (p.c.ids.map fun s => [Sx s]) := len_bk fun s _ => by simp only [bkL, bk_S]; omega
 have l2 : p.c.classes.length ≤ bkLL (p.c.classes.map fun s => [Sx s]) := len_bk fun s _ => by simp only [bkL, bk_S]; omega
 have l3 : p.c.attrs.length ≤ bkLL (p.c.attrs.map encAt) := len_bk fun s _ => by rw [bk_at]; omega
 have l4 : p.c.pseudos.length ≤ bkLL (p.c.pseudos.map encPs) := len_bk fun s _ => by rw [bk_ps]; omega
 have ht : ∀ a ∈ p.c.attrs, a.text.data.size ≤ 1048576 := fun a ha => by
  have h1 := mem_bk (f := encAt) ha
  rw [bk_at] at h1
  omega
 have hq : ∀ q ∈ p.c.pseudos, SlsOk f q.list ∧ TxL f q.list ∧ cntF f q.list ≤ bkLL (q.list.map encSl) := fun q hq => by
  have h1 := mem_bk (f := encPs) hq
  rw [bk_ps] at h1
  exact ih q.list (Ps.wf_iff.1 (hw.ps q hq)).2.2.2 (hf.2 q hq) (by rw [hN]; omega)
 refine ⟨⟨by omega, by omega, by omega, fun a ha => ⟨by have := ht a ha; omega⟩, by omega⟩, by omega, fun q h => ⟨⟨(Ps.wf_iff.1 (hw.ps q h)).2.1, (Ps.wf_iff.1 (hw.ps q h)).2.2.1⟩, (hq q h).1⟩, fun a ha => by have := ht a ha; omega, fun q h => (hq q h).2.1, ?_⟩
 have h5 : (p.c.pseudos.map fun q => cntF f q.list).sum ≤ bkLL (p.c.pseudos.map encPs) := sum_bk fun q h => by
  have := (hq q h).2.2
  rw [bk_ps]; omega
 rw [bk_pt, bk_cp]
 omega
theorem sls_bulk : ∀ (f : Nat) (l : List Sl), slsWf Lmax l → FitL f l → bkLL (l.map encSl) ≤ NB → SlsOk f l ∧ TxL f l ∧ cntF f l ≤ bkLL (l.map encSl)
 | 0, l, _, h, _ => h.elim
 | f + 1, l, hw, hf, hb => by
  have hN : NB = 1048576 := rfl
  have hl : l.length ≤ bkLL (l.map encSl) := len_bk fun s _ => by rw [bk_sl]; omega
  have hs : ∀ s ∈ l, s.length ≤ NB ∧ ∀ p ∈ s, PtB f p := fun s h => by
   have h1 := mem_bk (f := encSl) h
   rw [bk_sl] at h1
   have h2 : s.length ≤ bkLL (s.map encPt) := len_bk fun p _ => by rw [bk_pt]; omega
   refine ⟨by omega, fun p hp => ?_⟩
   have h3 := mem_bk (f := encPt) hp
   rw [bk_pt] at h3
   exact pt_bulk (sls_bulk f) (Pt.wf_iff.1 ((hw.2 s h).2 p hp)).2 ((hf s h).2 p hp) (by omega)
  refine ⟨⟨by omega, fun s h => ⟨(hs s h).1, fun p hp => ⟨((hs s h).2 p hp).c, ((hs s h).2 p hp).ps, ((hs s h).2 p hp).q⟩⟩⟩, fun s h p hp => ⟨((hs s h).2 p hp).tx, ((hs s h).2 p hp).tq⟩, ?_⟩
  rw [cntF]
  refine sum_bk fun s h => ?_
  rw [bk_sl]
  have : (s.map fun p => (p.c.pseudos.map fun q => cntF f q.list).sum).sum ≤ bkLL (s.map encPt) := sum_bk fun p hp => by
   have := ((hs s h).2 p hp).cnt
   omega
  omega
theorem sel_bulk {l : List Sl} (hw : slsWf Lmax l) (hf : FitL 11 l) (hb : bkLL (l.map encSl) ≤ NB) : SelOk 11 l ∧ TxL 11 l := by
 obtain ⟨h1, h2, h3⟩ := sls_bulk 11 l hw hf hb
 exact ⟨⟨hw, h1, hf.nest, by decide, by omega⟩, h2⟩
end Go.Proofs.Ytaoegkmfgfefgaa.Ev
namespace Go.Proofs.Ytaoegkmfgfefgaa.Ev
set_option linter.unusedVariables false
set_option linter.unusedSimpArgs false
variable {σ : Sig}
def needsPt (p : Pt) : Bool := decide (0 < p.c.attrs.length) || (decide (0 < p.c.pseudos.length) || (decide (p.comb = 3) || decide (p.comb = 4)))
def needs (s : Sl) : Bool := s.any needsPt
theorem needs_L0 (s : Sl) (hs : s.length < 9000000000000000000) {K : AV → Hp → Prop} : ∀ (d k : Nat) (H : Hp), s.length - k = d → k ≤ s.length → (∀ H', K (Bo ((s.drop k).any needsPt)) H') →
  reval_Needs.L0 σ K (.imm 6 (s.map encPt)) (I s.length) (I k) H := by
 intro d
 induction d with
 | zero =>
  intro k H hd hk hK
  have e : k = s.length := by omega
  subst e
  refine reval_Needs.L0_step ?_
  simpa using hK H
 | succ d ih =>
  intro k H hd hk hK
  have hlt : k < s.length := by omega
  obtain ⟨p, hp⟩ := get_lt hlt
  rw [drop_get hp] at hK
  refine reval_Needs.L0_step ?_
  have hi := fun H => ih (k + 1) H (by omega) (by omega)
  simp [ix_map hp, ldL_all, overlay_all, encPt_eq, encCp_eq, hlt, wr_succ (Nat.lt_trans hlt hs)]
  simp only [List.any_cons] at hK
  split
  ·simpa [needsPt, *] using hK _
  split
  ·simpa [needsPt, *] using hK _
  split
  ·simpa [needsPt, *] using hK _
  split
  ·simpa [needsPt, *] using hK _
  ·refine hi _ fun H' => ?_
   simpa [needsPt, *] using hK H'
theorem needs_ok (s : Sl) (hs : s.length < 9000000000000000000) (H : Hp) : Good Try.prog σ n_reval_Needs [.agg (encSl s)] H (Bo (needs s)) H := by
 refine good_pure (reval_Needs.run ?_) (by simp [noIds, noId, noId_Sl]) rfl H
 simp only [encSl]
 simp
 exact needs_L0 s hs _ 0 _ rfl (Nat.zero_le _) fun H' => rfl
end Go.Proofs.Ytaoegkmfgfefgaa.Ev
namespace Go.Proofs.Ytaoegkmfgfefgaa.Ev
set_option linter.unusedVariables false
set_option linter.unusedSimpArgs false
variable {σ : Sig}
def eqFrom {α : Type} [DecidableEq α] (a b : List α) (k : Nat) : Bool := decide (a.drop k = b.drop k)
theorem eqFrom_step {α : Type} [DecidableEq α] {a b : List α} {k : Nat} {x y : α} (hx : a[k]? = some x) (hy : b[k]? = some y) : eqFrom a b k = (decide (x = y) && eqFrom a b (k + 1)) := by
 unfold eqFrom
 rw [drop_get hx, drop_get hy, ← Bool.decide_and, decide_eq_decide, List.cons.injEq]
theorem eqFrom_end {α : Type} [DecidableEq α] {a b : List α} (h : a.length = b.length) : eqFrom a b a.length = true := by
 unfold eqFrom
 rw [List.drop_length, h, List.drop_length]
 rfl
theorem eqFrom_len {α : Type} [DecidableEq α] {a b : List α} (h : a.length ≠ b.length) : decide (a = b) = false := decide_eq_false fun e => h (by rw [e])
section
end
section
end
theorem ahead_fuel {L : List Nd} {d : List Nat} (hB : Built L L.length d) (g : Nat → Bool) (k : Int) : ∀ (f f' e : Nat), e < f → e < f' → e < L.length → aheadF g L k f e = aheadF g L k f' e
 | 0, f', e, h, _, _ => by omega
 | f + 1, 0, e, _, h, _ => by omega
 | f + 1, f' + 1, e, h, h', he => by
  rw [aheadF, aheadF]
  by_cases h0 : 0 ≤ standI L e k
  ·have hlt : (standI L e k).toNat < e := by
    unfold standI at h0 ⊢
    split
    ·rename_i hk
     rw [if_pos hk] at h0
     rcases par_bd hB he with h1 | ⟨p, h1, h2⟩ <;> omega
    ·rename_i hk
     rw [if_neg hk] at h0
     split
     ·rename_i hk2
      rw [if_pos hk2] at h0
      rcases rbefore_bd (L := L) e with h1 | ⟨p, h1, h2⟩ <;> omega
     ·rename_i hk2
      rw [if_neg hk2] at h0
      omega
   rw [ahead_fuel hB g k f f' _ (by omega) (by omega) (by omega)]
  ·simp [h0]
structure Alike (L : List Nd) (a b : Nat) : Prop where
 par : par L a = par L b
 tag : (lowN (ndAt L a)).tag = (lowN (ndAt L b)).tag
 id : (lowN (ndAt L a)).id = (lowN (ndAt L b)).id
 classes : (lowN (ndAt L a)).classes = (lowN (ndAt L b)).classes
theorem alike_comp {L : List Nd} {a b : Nat} (h : Alike L a b) (any : List Sl → Nat → Bool) {c : Cp} (ha : c.attrs = []) (hp : c.pseudos = []) : compB any L a c = compB any L b c := by
 unfold compB plainB tagB
 have hid : idB (lowN (ndAt L a)) = idB (lowN (ndAt L b)) := by
  funext x; unfold idB; rw [h.id]
 rw [ha, hp, h.tag, hid, h.classes]
 rfl
theorem needs_pt {s : Sl} (h : needs s = false) {p : Pt} (hp : p ∈ s) : p.c.attrs = [] ∧ p.c.pseudos = [] ∧ p.comb ≠ 3 ∧ p.comb ≠ 4 := by
 unfold needs at h
 have := List.any_eq_false.1 h p hp
 unfold needsPt at this
 simp only [Bool.or_eq_true, decide_eq_true_eq, not_or] at this
 exact ⟨List.length_eq_zero_iff.1 (by omega), List.length_eq_zero_iff.1 (by omega), this.2.2.1, this.2.2.2⟩
theorem alike_front {L : List Nd} {d : List Nat} (hB : Built L L.length d) {a b : Nat} (ha : a < L.length) (hb : b < L.length) (h : Alike L a b) (any : List Sl → Nat → Bool) {s : Sl} (hs : needs s = false) : ∀ i, frontB any L s i a = frontB any L s i b
 | 0 => by
  unfold frontB
  cases hp : s[0]? with
  | none => rfl
  | some p =>
   obtain ⟨h1, h2, _⟩ := needs_pt hs (List.mem_of_getElem? hp)
   exact alike_comp h any h1 h2
 | i + 1 => by
  unfold frontB
  cases hp : s[i + 1]? with
  | none => rfl
  | some p =>
   obtain ⟨h1, h2, h3, h4⟩ := needs_pt hs (List.mem_of_getElem? hp)
   simp only
   rw [alike_comp h any h1 h2]
   congr 1
   rw [aheadF, aheadF]
   have hst : standI L a p.comb = standI L b p.comb := by
    unfold standI
    split
    ·exact h.par
    ·rw [if_neg (by omega), if_neg (by omega)]
   rw [hst]
   by_cases h0 : 0 ≤ standI L b p.comb
   ·have hlt : (standI L b p.comb).toNat < b ∧ (standI L b p.comb).toNat < a := by
     have e : standI L b p.comb = par L b := by
      unfold standI at h0 ⊢
      split
      ·rfl
      ·rename_i hk
       rw [if_neg hk, if_neg (by omega)] at h0
       omega
     rw [e] at h0 ⊢
     have p1 := par_bd hB hb
     have p2 := par_bd hB ha
     rw [h.par] at p2
     constructor
     ·rcases p1 with q | ⟨x, q, r⟩ <;> omega
     ·rcases p2 with q | ⟨x, q, r⟩ <;> omega
    rw [ahead_fuel hB _ p.comb a b _ hlt.2 hlt.1 (by omega)]
   ·simp [h0]
theorem alike_sel {L : List Nd} {d : List Nat} (hB : Built L L.length d) {a b : Nat} (ha : a < L.length) (hb : b < L.length) (h : Alike L a b) {f : Nat} {s : Sl} (S : SelOk f [s]) (hs : needs s = false) : selB L f s (a : Int) = selB L f s (b : Int) := by
 unfold selB mayAny
 have i1 : (0 : Int) ≤ (a : Int) := by omega
 have i2 : (a : Int) < (L.length : Int) := by omega
 have i3 : (0 : Int) ≤ (b : Int) := by omega
 have i4 : (b : Int) < (L.length : Int) := by omega
 simp only [i1, i2, i3, i4, decide_true, Bool.and_self, Bool.true_and, Int.toNat_natCast, List.any_cons, List.any_nil, Bool.or_false]
 rw [frB_AA S.nest S.hf, frB_AA S.nest S.hf]
 unfold frB
 rw [alike_front hB ha hb h _ hs]
end Go.Proofs.Ytaoegkmfgfefgaa.Ev
namespace Go.Proofs.Ytaoegkmfgfefgaa.Ev
set_option linter.unusedVariables false
set_option maxRecDepth 100000
set_option maxHeartbeats 4000000
end Go.Proofs.Ytaoegkmfgfefgaa.Ev
namespace Go.Proofs.Ytaoegkmfgfefgaa.Ev
set_option maxRecDepth 100000
set_option maxHeartbeats 4000000
end Go.Proofs.Ytaoegkmfgfefgaa.Ev

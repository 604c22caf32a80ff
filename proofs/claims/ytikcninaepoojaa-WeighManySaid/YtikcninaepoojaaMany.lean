/- WeighMany. -/
import Derived.Test.YtikcninaepoojaaWeigh
import Derived.Test.YtikcninaepoojaaApp
import Derived.Test.YtikcninaepoojaaAlive11
import Derived.Test.YtikcninaepoojaaDecode
namespace Go.Proofs.Ytikcninaepoojaa.Ev
open Go.RowKit
set_option linter.unusedVariables false
set_option linter.unusedSimpArgs false
set_option maxRecDepth 100000
variable {σ : Sig}
def sA : ByteArray := ⟨#[97]⟩
def sX : ByteArray := ⟨#[120]⟩
def xs (k : Nat) : List (List AV) := List.replicate k [Sx sX]
def row1 : List AV := [I 1, Sx sA, .lit (.slice none 0 0), .lit (.slice none 0 0), .lit (.slice none 0 0), .lit (.slice none 0 0)]
def row0 (xi xc : AV) : List AV := [I 0, Sx sA, xi, xc, .lit (.slice none 0 0), .lit (.slice none 0 0)]
theorem xs_succ (k : Nat) : xs k ++ [[Sx sX]] = xs (k + 1) := by simp [xs, List.replicate_succ']
@[simp] theorem xs_len (k : Nat) : (xs k).length = k := by simp [xs]
def manyS (ids classes tags : Nat) : Sl := .mk 0 (.mk sA (List.replicate ids sX) (List.replicate classes sX) [] []) :: List.replicate tags (.mk 1 (.mk sA [] [] [] []))
theorem least_ok (n : Int) (H : Hp) : Good Try.prog σ n_law11_least [I n] H (I (lst n)) H := by
  refine good_by (fun K hK => law11_least.run ?_) rfl rfl H
  unfold lst at hK
  by_cases h : 255 < n
  · rw [if_pos h] at hK; simp [h]; exact hK _
  · rw [if_neg h] at hK; simp [h]; exact hK _
theorem cpW_tag (g : Sl → Int) (s : W3) : ∀ k : Nat, (List.replicate k (Pt.mk 1 (.mk sA [] [] [] []))).foldl (fun s p => cpW g false s p.c) s = ⟨s.a, s.b, s.c + k⟩
  | 0 => by simp
  | k + 1 => by
    rw [List.replicate_succ, List.foldl_cons, cpW_tag g _ k]
    have : sA ≠ ⟨#[]⟩ := by decide
    have e : cpW g false s (Pt.mk 1 (.mk sA [] [] [] [])).c = ⟨s.a, s.b, s.c + 1⟩ := by
      simp [cpW, Pt.c, Cp.pseudos, lensW, Cp.ids, Cp.classes, Cp.attrs, Cp.tag, this]
    rw [e]
    simp only [W3.mk.injEq, true_and]
    omega
theorem ofW_many (ids classes tags : Nat) : ofW 8 (manyS ids classes tags) = weightW ⟨ids, classes, tags + 1⟩ := by
  show slW (ofW 7) false (manyS ids classes tags) = _
  unfold slW manyS
  rw [List.foldl_cons, cpW_tag]
  have : sA ≠ ⟨#[]⟩ := by decide
  have e : cpW (ofW 7) false ⟨0, 0, 0⟩ (Pt.mk 0 (.mk sA (List.replicate ids sX) (List.replicate classes sX) [] [])).c = ⟨ids, classes, 1⟩ := by
    simp [cpW, Pt.c, Cp.pseudos, lensW, Cp.ids, Cp.classes, Cp.attrs, Cp.tag, this]
  rw [e]
  congr 1
  simp only [W3.mk.injEq, true_and]
  omega
theorem manyS_wf {ids classes tags : Nat} (h1 : ids ≤ 300) (h2 : classes ≤ 300) (h3 : tags ≤ 300) : slWf Lmax (manyS ids classes tags) := by
  have hL : 1000 ≤ Lmax := by decide
  have hx : sX.data.size ≤ Lmax := by have : sX.data.size = 1 := rfl; omega
  have ha : sA.data.size ≤ Lmax := by have : sA.data.size = 1 := rfl; omega
  have hs : ∀ k, k ≤ 300 → strsWf Lmax (List.replicate k sX) := fun k hk => ⟨by simp; omega, fun s hs => by rw [List.eq_of_mem_replicate hs]; exact hx⟩
  have cw : ∀ a b, a ≤ 300 → b ≤ 300 → CpWf Lmax (.mk sA (List.replicate a sX) (List.replicate b sX) [] []) := fun a b ha' hb => Cp.wf_iff.1 (by
    rw [Cp.wf]
    exact ⟨ha, hs _ ha', hs _ hb, ⟨by simp, fun x hx => by cases hx⟩, by simp, by rw [wfPss]; trivial⟩)
  refine ⟨by simp [manyS]; omega, fun p hp => ?_⟩
  unfold manyS at hp
  rcases List.mem_cons.1 hp with rfl | hp
  · exact Pt.wf_iff.2 ⟨by simp [Pt.comb, i64], cw _ _ h1 h2⟩
  · rw [List.eq_of_mem_replicate hp]
    exact Pt.wf_iff.2 ⟨by simp [Pt.comb, i64], cw 0 0 (by omega) (by omega)⟩

/-! ### what the law builds -/
/-- The part that is being built. -/
structure Part0 (H : Hp) (P : Nat) (xi xc : AV) (a b : Nat) : Prop where
  h0 : H.get 0 = some (.cells [.lit (.slice none 0 0)] true)
  hp : H.get P = some (.cells (row0 xi xc) true)
  gi : Gs 1 H xi (xs a)
  gc : Gs 1 H xc (xs b)
  oi : ∀ j, own xi j → P < j
  oc : ∀ j, own xc j → P < j
  ne : ∀ j, own xi j → ¬ own xc j
  p0 : 0 < P
  pl : P < H.n
theorem Part0.growI {H : Hp} {P : Nat} {xi xc : AV} {a b : Nat} (h : Part0 H P xi xc a b) {x' : AV} {H' : Hp} (g : Gs 1 H' x' (xs (a + 1))) (f : Fr H xi H' x') : Part0 (H'.set P (some (.cells (row0 x' xc) true))) P x' xc (a + 1) b := by
  obtain ⟨h0, hp, gi, gc, oi, oc, ne, p0, pl⟩ := h
  have hgr := f.grow
  have n0 : ¬ own xi 0 := fun h => by have := oi 0 h; omega
  have nP : ¬ own xi P := fun h => by have := oi P h; omega
  have ox : ∀ j, own x' j → P < j := fun j hj => by rcases f.mine j hj with h | h; exact oi j h; omega
  refine ⟨?_, by simp, g.keep (fun j hj => ?_) (by simp), gc.keep (fun j hj => ?_) (by simp; omega), ox, oc, fun j hj hc => ?_, p0, by simp; omega⟩
  · have e := f.same 0 (by omega) n0
    have : (0 : Nat) ≠ P := by omega
    simp [this, e, h0]
  · have := ox j hj
    have : j ≠ P := by omega
    simp [this]
  · have h1 := oc j hj
    have h2 : j ≠ P := by omega
    have e := f.same j (gc.lt hj) (fun hi => ne j hi hj)
    simp [h2, e]
  · rcases f.mine j hj with h | h
    · exact ne j h hc
    · have := gc.lt hc; omega
theorem Part0.growC {H : Hp} {P : Nat} {xi xc : AV} {a b : Nat} (h : Part0 H P xi xc a b) {x' : AV} {H' : Hp} (g : Gs 1 H' x' (xs (b + 1))) (f : Fr H xc H' x') : Part0 (H'.set P (some (.cells (row0 xi x') true))) P xi x' a (b + 1) := by
  obtain ⟨h0, hp, gi, gc, oi, oc, ne, p0, pl⟩ := h
  have hgr := f.grow
  have n0 : ¬ own xc 0 := fun h => by have := oc 0 h; omega
  have ox : ∀ j, own x' j → P < j := fun j hj => by rcases f.mine j hj with h | h; exact oc j h; omega
  refine ⟨?_, by simp, gi.keep (fun j hj => ?_) (by simp; omega), g.keep (fun j hj => ?_) (by simp), oi, ox, fun j hi hj => ?_, p0, by simp; omega⟩
  · have e := f.same 0 (by omega) n0
    have : (0 : Nat) ≠ P := by omega
    simp [this, e, h0]
  · have h1 := oi j hj
    have h2 : j ≠ P := by omega
    have e := f.same j (gi.lt hj) (fun hc => ne j hj hc)
    simp [h2, e]
  · have := ox j hj
    have : j ≠ P := by omega
    simp [this]
  · rcases f.mine j hj with h | h
    · exact ne j hi h
    · have := gi.lt hi; omega

/-- The selector, some parts of which are there. -/
structure Sel0 (H : Hp) (x xi xc : AV) (a b k : Nat) : Prop where
  h0 : H.get 0 = some (.cells [x] true)
  gx : Gs 6 H x (row0 xi xc :: List.replicate k row1)
  gi : Gs 1 H xi (xs a)
  gc : Gs 1 H xc (xs b)
  ox : ∀ j, own x j → 0 < j ∧ ¬ own xi j ∧ ¬ own xc j
  oi : ∀ j, own xi j → 0 < j
  oc : ∀ j, own xc j → 0 < j
  n0 : 0 < H.n
section
attribute [local irreducible] law11_WeighMany.L0 law11_WeighMany.L1 law11_WeighMany.L3 law11_WeighMany.J2
variable {ids classes tags : Nat} {K : AV → Hp → Prop}
theorem row1_bld : bldR [I 0, Sx ⟨#[]⟩, .lit (.slice none 0 0), .lit (.slice none 0 0), .lit (.slice none 0 0), .lit (.slice none 0 0)] [(0, 1, I 1), (1, 5, .agg [Sx sA, .lit (.slice none 0 0), .lit (.slice none 0 0), .lit (.slice none 0 0), .lit (.slice none 0 0)])] = some row1 := rfl
theorem cp_bld : bldR [Sx ⟨#[]⟩, .lit (.slice none 0 0), .lit (.slice none 0 0), .lit (.slice none 0 0), .lit (.slice none 0 0)] [(0, 1, Sx ⟨#[97]⟩)] = some [Sx sA, .lit (.slice none 0 0), .lit (.slice none 0 0), .lit (.slice none 0 0), .lit (.slice none 0 0)] := rfl
theorem row0_one {xi xc : AV} (hi : AV.one xi = true) (hc : AV.one xc = true) : (row0 xi xc).all AV.one = true := by simp [row0, hi, hc]
/-- One more part is appended. -/
theorem many_app {H : Hp} {P : Nat} {cs : List AV} {x : AV} {rows : List (List AV)} {y11 y12 : AV} {i : Nat} (h0 : H.get 0 = some (.cells [x] true)) (hp : H.get P = some (.cells cs true)) (hcl : cs.length = 6) (hone : cs.all AV.one = true) (gx : Gs 6 H x rows) (hr : rows.length ≤ 1000) (o0 : ∀ j, own x j → 0 < j) (hn : 0 < H.n) (hi : i ≤ 1000)
    (hK : ∀ x' H', H'.get 0 = some (.cells [x'] true) → Gs 6 H' x' (rows ++ [cs]) → (∀ j, 0 < j → j < H.n → ¬ own x j → H'.get j = H.get j) → H.n ≤ H'.n → (∀ j, own x' j → own x j ∨ H.n ≤ j) → law11_WeighMany.L0 σ K (I ids) (I classes) (I tags) (.ptr 0 0) (I ((i + 1 : Nat) : Int)) (.ptr P 0) y11 y12 H') :
    law11_WeighMany.J2 σ K (I ids) (I classes) (I tags) (.ptr 0 0) (I (i : Nat)) (.ptr P 0) y11 y12 H := by
  refine law11_WeighMany.J2_step ?_
  have hl6 : ldL true 6 cs = some (.agg cs) := ldL_all hcl
  simp only [sh_ptr, bnd_some, ld_ptr, h0, hp, ldO_cells, Nat.zero_add, List.drop_zero, ldL_one, hl6]
  refine bnd_app1 gx (by simpa using hcl) rfl (by simpa using hone) (by omega) (by omega) fun x' H' g f => ?_
  have n0 : ¬ own x 0 := fun h => by have := o0 0 h; omega
  have e0 := f.same 0 hn n0
  have hg := f.grow
  rw [g.st (H := H') (id := 0) (off := 0) (cs := [x]) (ex := true) (by rw [e0]; exact h0) (by simp)]
  simp only [bnd_some, b_add, List.set_cons_zero]
  rw [wr_succ (by omega)]
  have ox : ∀ j, own x' j → own x j ∨ H.n ≤ j := fun j hj => by rcases f.mine j hj with h | h; exact .inl h; exact .inr h.1
  have o1 : ∀ j, own x' j → j ≠ 0 := fun j hj => by rcases ox j hj with h | h; have := o0 j h; omega; omega
  refine hK x' _ (by simp) (g.keep (fun j hj => by simp [o1 j hj]) (by simp)) (fun j hj hjl hne => ?_) (by simpa using hg) ox
  have : j ≠ 0 := by omega
  simp only [hp_get_set, this, if_false]
  exact f.same j hjl hne
/-- The classes of the first part. -/
theorem many_L3 (hc : classes ≤ 300) {P : Nat} {xi : AV} {a : Nat} {y11 : AV} (hK : ∀ xc H, Part0 H P xi xc a classes → ∀ y12, law11_WeighMany.J2 σ K (I ids) (I classes) (I tags) (.ptr 0 0) (I 0) (.ptr P 0) y11 y12 H) : ∀ (m k : Nat) (xc : AV) (H : Hp), classes - k = m → k ≤ classes → Part0 H P xi xc a k →
    law11_WeighMany.L3 σ K (I ids) (I classes) (I tags) (.ptr 0 0) (I 0) (.ptr P 0) y11 (I (k : Nat)) H := by
  intro m
  induction m with
  | zero =>
    intro k xc H hm hk h
    have : k = classes := by omega
    subst this
    refine law11_WeighMany.L3_step ?_
    simp only [b_lss, bnd_some, Int.lt_irrefl, decide_false, ifB_lit, Bool.false_eq_true, if_false]
    exact hK xc H h _
  | succ m ih =>
    intro k xc H hm hk h
    have hlt : (k : Int) < classes := by omega
    refine law11_WeighMany.L3_step ?_
    have hl : ldL false 1 ((row0 xi xc).drop 3) = some xc := rfl
    simp only [b_lss, bnd_some, hlt, decide_true, ifB_lit, if_true, sh_ptr, ld_ptr, h.hp, ldO_cells, Nat.zero_add, Nat.reduceAdd, hl]
    refine bnd_app1 h.gc rfl rfl rfl (by simp; omega) (by simp; omega) fun x' H' g f => ?_
    have g' : Gs 1 H' x' (xs (k + 1)) := by rw [← xs_succ]; exact g
    have nP : ¬ own xc P := fun hh => by have := h.oc P hh; omega
    have eP := f.same P h.pl nP
    rw [g'.st (H := H') (id := P) (off := 3) (cs := row0 xi xc) (ex := true) (by rw [eP]; exact h.hp) (by simp [row0])]
    simp only [bnd_some, b_add]
    rw [wr_succ (by omega)]
    exact ih (k + 1) x' _ (by omega) (by omega) (h.growC g' f)
/-- Its IDs. -/
theorem many_L1 (ha : ids ≤ 300) {P : Nat} {xc : AV} {y12 : AV} (hK : ∀ xi H, Part0 H P xi xc ids 0 → ∀ y11, law11_WeighMany.L3 σ K (I ids) (I classes) (I tags) (.ptr 0 0) (I 0) (.ptr P 0) y11 (I 0) H) : ∀ (m k : Nat) (xi : AV) (H : Hp), ids - k = m → k ≤ ids → Part0 H P xi xc k 0 →
    law11_WeighMany.L1 σ K (I ids) (I classes) (I tags) (.ptr 0 0) (I 0) (.ptr P 0) (I (k : Nat)) y12 H := by
  intro m
  induction m with
  | zero =>
    intro k xi H hm hk h
    have : k = ids := by omega
    subst this
    refine law11_WeighMany.L1_step ?_
    simp only [b_lss, bnd_some, Int.lt_irrefl, decide_false, ifB_lit, Bool.false_eq_true, if_false]
    exact hK xi H h _
  | succ m ih =>
    intro k xi H hm hk h
    have hlt : (k : Int) < ids := by omega
    refine law11_WeighMany.L1_step ?_
    have hl : ldL false 1 ((row0 xi xc).drop 2) = some xi := rfl
    simp only [b_lss, bnd_some, hlt, decide_true, ifB_lit, if_true, sh_ptr, ld_ptr, h.hp, ldO_cells, Nat.zero_add, Nat.reduceAdd, hl]
    refine bnd_app1 h.gi rfl rfl rfl (by simp; omega) (by simp; omega) fun x' H' g f => ?_
    have g' : Gs 1 H' x' (xs (k + 1)) := by rw [← xs_succ]; exact g
    have nP : ¬ own xi P := fun hh => by have := h.oi P hh; omega
    have eP := f.same P h.pl nP
    rw [g'.st (H := H') (id := P) (off := 2) (cs := row0 xi xc) (ex := true) (by rw [eP]; exact h.hp) (by simp [row0])]
    simp only [bnd_some, b_add]
    rw [wr_succ (by omega)]
    exact ih (k + 1) x' _ (by omega) (by omega) (h.growI g' f)
/-- The further parts. -/
theorem many_L0 (ht : tags ≤ 300) {a b : Nat} (hK : ∀ x xi xc H y9 y10 y11 y12, Sel0 H x xi xc a b (tags - 1) → y9 = I (tags : Nat) → law11_WeighMany.L0 σ K (I ids) (I classes) (I tags) (.ptr 0 0) y9 y10 y11 y12 H) : ∀ (m i : Nat) (x xi xc : AV) (H : Hp) (y10 y11 y12 : AV), tags - i = m → 1 ≤ i → i ≤ tags → Sel0 H x xi xc a b (i - 1) →
    law11_WeighMany.L0 σ K (I ids) (I classes) (I tags) (.ptr 0 0) (I (i : Nat)) y10 y11 y12 H := by
  intro m
  induction m with
  | zero =>
    intro i x xi xc H y10 y11 y12 hm h1 hi h
    have : i = tags := by omega
    subst this
    exact hK x xi xc H _ _ _ _ h rfl
  | succ m ih =>
    intro i x xi xc H y10 y11 y12 hm h1 hi h
    have hlt : (i : Int) < tags := by omega
    have hi0 : ¬ (i : Int) = 0 := by omega
    refine law11_WeighMany.L0_step ?_
    have hst : stA 6 (H.new (.cells [I 0, .lit (.string ⟨#[]⟩), .lit (.slice none 0 0), .lit (.slice none 0 0), .lit (.slice none 0 0), .lit (.slice none 0 0)] true)) (.ptr H.n 0) (.agg row1) = some ((H.new (.cells [I 0, .lit (.string ⟨#[]⟩), .lit (.slice none 0 0), .lit (.slice none 0 0), .lit (.slice none 0 0), .lit (.slice none 0 0)] true)).set H.n (some (.cells row1 true))) := by
      simp [row1, overlay_all]
    have hcp := cp_bld
    have hr1 := row1_bld
    simp only [b_lss, bnd_some, hlt, decide_true, ifB_lit, if_true, hcp, hr1, allocK_eq, hst, b_eql, hi0, decide_false, Bool.false_eq_true, if_false]
    obtain ⟨H6, hH6⟩ : ∃ H6, H6 = (H.new (.cells [I 0, .lit (.string ⟨#[]⟩), .lit (.slice none 0 0), .lit (.slice none 0 0), .lit (.slice none 0 0), .lit (.slice none 0 0)] true)).set H.n (some (.cells row1 true)) := ⟨_, rfl⟩
    rw [← hH6]
    obtain ⟨h0, gx, gi, gc, ox, oi, oc, n0⟩ := h
    have z : (0 : Nat) ≠ H.n := by omega
    have keep : ∀ j, j < H.n → H6.get j = H.get j := fun j hj => by
      have : j ≠ H.n := by omega
      rw [hH6]; simp [this]
    have n6 : H6.n = H.n + 1 := by rw [hH6]; simp
    have lx : ∀ j, own x j → j < H.n := fun j hj => gx.lt hj
    refine many_app (cs := row1) (rows := row0 xi xc :: List.replicate (i - 1) row1) (by rw [keep 0 n0]; exact h0) (by rw [hH6]; simp) rfl rfl (gx.keep (fun j hj => keep j (lx j hj)) (by omega)) (by simp; omega) (fun j hj => (ox j hj).1) (by omega) (by omega) fun x' H' e0 g same grow mine => ?_
    refine ih (i + 1) x' xi xc H' _ _ _ (by omega) (by omega) (by omega) ⟨e0, ?_, gi.keep (fun j hj => ?_) (by omega), gc.keep (fun j hj => ?_) (by omega), fun j hj => ?_, oi, oc, by omega⟩
    · have : i + 1 - 1 = (i - 1) + 1 := by omega
      rw [this, List.replicate_succ', ← List.cons_append]
      exact g
    · have hl := gi.lt hj
      rw [same j (oi j hj) (by omega) (fun hx => (ox j hx).2.1 hj), keep j hl]
    · have hl := gc.lt hj
      rw [same j (oc j hj) (by omega) (fun hx => (ox j hx).2.2 hj), keep j hl]
    · rcases mine j hj with hx | hx
      · exact ox j hx
      · exact ⟨by omega, fun hi => by have := gi.lt hi; omega, fun hc => by have := gc.lt hc; omega⟩
theorem fz_xs {H : Hp} {x : AV} {k : Nat} (h : Gs 1 H x (xs k)) : Fz H x (strs (List.replicate k sX)) := by
  have e : strs (List.replicate k sX) = .imm 1 (xs k) := by simp [strs, xs]
  rw [e]
  exact h.fz (by
    have : ∀ k, noIdss (xs k) = true := by
      intro k
      induction k with
      | zero => rfl
      | succ k ih => simp [xs, List.replicate_succ, noIdss, noIds, noId] at ih ⊢; exact ih
    exact this k)
/-- What was built is read as a selector. -/
theorem Sel0.fz {H : Hp} {x xi xc : AV} {a b k : Nat} (h : Sel0 H x xi xc a b k) : FzL H [.agg [x]] [.agg (encSl (manyS a b k))] := by
  obtain ⟨h0, gx, gi, gc, ox, oi, oc, n0⟩ := h
  refine .cons (.aggL (.cons ?_ .nil)) .nil
  generalize hrows : row0 xi xc :: List.replicate k row1 = rows at gx
  cases gx with
  | nil => cases hrows
  | sl hlt hg hsz =>
    rename_i id ex
    subst hrows
    have hlen : (row0 xi xc :: List.replicate k row1).length = (manyS a b k).length := by simp [manyS]
    have e0 : encPt (.mk 0 (.mk sA (List.replicate a sX) (List.replicate b sX) [] [])) = [I 0, Sx sA, strs (List.replicate a sX), strs (List.replicate b sX), .imm 3 [], .imm 4 []] := by
      rw [encPt_eq, encCp_eq]; rfl
    have e1 : encPt (.mk 1 (.mk sA [] [] [] [])) = [I 1, Sx sA, strs [], strs [], .imm 3 [], .imm 4 []] := by
      rw [encPt_eq, encCp_eq]; rfl
    -- cell by cell
    have cell : ∀ (i j : Nat) (row enc : List AV) (y : AV), (row0 xi xc :: List.replicate k row1)[i]? = some row → ((manyS a b k).map encPt)[i]? = some enc → enc[j]? = some y → ∃ z, row[j]? = some z ∧ Fz H z y := by
      intro i j row enc y hr he hy
      have six : ∀ (r : List AV) (e : List AV), FzL H r e → e[j]? = some y → ∃ z, r[j]? = some z ∧ Fz H z y := fun r e hf hy => hf.get.2 j y hy
      cases i with
      | zero =>
        simp only [List.getElem?_cons_zero, Option.some.injEq, manyS, List.map_cons] at hr he
        subst hr
        rw [← he, e0] at hy
        exact six _ _ (.cons (.refl rfl) (.cons (.refl rfl) (.cons (fz_xs gi) (.cons (fz_xs gc) (.cons .nil (.cons .nil .nil)))))) hy
      | succ i =>
        simp only [List.getElem?_cons_succ, manyS, List.map_cons, List.map_replicate, List.getElem?_replicate] at hr he
        split at hr
        · rename_i hik
          rw [if_pos hik] at he
          simp only [Option.some.injEq] at hr he
          subst hr
          rw [← he, e1] at hy
          exact six _ _ (.cons (.refl rfl) (.cons (.refl rfl) (.cons .nil (.cons .nil (.cons .nil (.cons .nil .nil)))))) hy
        · cases hr
    refine .sl (fun i j => (((row0 xi xc :: List.replicate k row1)[i]?).getD [])[j]?.getD .any) hg (by simp [manyS]) (fun i row hi => ?_) (fun i row j y hi hj => ?_) (fun i row j y hi hj => ?_)
    · simp only [List.getElem?_map, Option.map_eq_some_iff] at hi
      obtain ⟨p, _, rfl⟩ := hi
      simp
    · have hil : i < (row0 xi xc :: List.replicate k row1).length := by have := (List.getElem?_eq_some_iff.1 hi).1; rw [hlen]; simpa using this
      obtain ⟨r, hr⟩ : ∃ r, (row0 xi xc :: List.replicate k row1)[i]? = some r := ⟨_, List.getElem?_eq_getElem hil⟩
      obtain ⟨z, hz, _⟩ := cell i j r row y hr hi hj
      have := rows_flat hsz i r j z hr hz
      rw [hr]
      simp only [Option.getD_some, hz, Nat.zero_add]
      exact this
    · have hil : i < (row0 xi xc :: List.replicate k row1).length := by have := (List.getElem?_eq_some_iff.1 hi).1; rw [hlen]; simpa using this
      obtain ⟨r, hr⟩ : ∃ r, (row0 xi xc :: List.replicate k row1)[i]? = some r := ⟨_, List.getElem?_eq_getElem hil⟩
      obtain ⟨z, hz, hf⟩ := cell i j r row y hr hi hj
      rw [hr]
      simp only [Option.getD_some, hz]
      exact hf

theorem shr_nat (n k : Nat) (hk : k ≤ 63) : binR .shr (I n) (.lit (.int .u64 k)) = some (I ((n / 2 ^ k : Nat) : Int)) := by
  have : min (k : Int).toNat (IntKind.bits .i64) = k := by simp [IntKind.bits]; omega
  have h2 : (2 : Int) ^ k = ((2 ^ k : Nat) : Int) := by simp
  have h3 : ¬ (k : Int) < 0 := by omega
  have h4 : (n : Int).fdiv ((2 : Int) ^ k) = ((n / 2 ^ k : Nat) : Int) := by
    rw [h2]
    generalize 2 ^ k = q
    rw [Int.fdiv_eq_ediv_of_nonneg _ (by omega)]
    rfl
  simp only [binR, lit?, sbin, h3, decide_false, cond_false, this, h4]
theorem and255 (n : Nat) (hn : n < 2 ^ 63) : binR .and (I n) (I 255) = some (I ((n % 256 : Nat) : Int)) := by
  have h1 : (BitVec.ofInt 64 (n : Int) &&& BitVec.ofInt 64 255).toNat = n % 256 := by
    rw [BitVec.toNat_and]
    have e1 : (BitVec.ofInt 64 (n : Int)).toNat = n := by
      rw [BitVec.toNat_ofInt]
      omega
    have e2 : (BitVec.ofInt 64 255).toNat = 255 := by decide
    rw [e1, e2]
    exact Nat.and_two_pow_sub_one_eq_mod n 8
  rw [b_and]
  have : IntKind.bits .i64 = 64 := rfl
  rw [this, h1, wr_nat (by omega)]
theorem lst_nat (n : Nat) : ∃ m : Nat, lst n = m ∧ m ≤ 255 := by
  unfold lst
  split
  · exact ⟨255, rfl, by omega⟩
  · exact ⟨n, rfl, by omega⟩
/-- The end of the law. -/
theorem many_end (hK : ∀ H, K (Bo true) H) (h1 : ids ≤ 300) (h2 : classes ≤ 300) (h3 : 1 ≤ tags ∧ tags ≤ 300) {x xi xc : AV} {H : Hp} {y10 y11 y12 : AV} (h : Sel0 H x xi xc ids classes (tags - 1)) : law11_WeighMany.L0 σ K (I ids) (I classes) (I tags) (.ptr 0 0) (I (tags : Nat)) y10 y11 y12 H := by
  refine law11_WeighMany.L0_step ?_
  have hl : ldL true 1 [x] = some (.agg [x]) := rfl
  simp only [b_lss, bnd_some, Int.lt_irrefl, decide_false, ifB_lit, Bool.false_eq_true, if_false, ld_ptr, h.h0, ldO_cells, List.drop_zero, hl]
  have hwf := manyS_wf h1 h2 (tags := tags - 1) (by omega)
  have hof : Good Try.prog σ n_weigh_Of [.agg (encSl (manyS ids classes (tags - 1)))] Hp.empty (I (ofW 8 (manyS ids classes (tags - 1)))) Hp.empty := by
    refine good_pure (weigh_Of.run ?_) (by simp [noIds, noId, noId_Sl]) rfl _
    simp
    have hmem : ∀ p ∈ manyS ids classes (tags - 1), WideC p.c ∧ p.c.pseudos = [] := by
      intro p hp
      unfold manyS at hp
      rcases List.mem_cons.1 hp with rfl | hp
      · exact ⟨⟨by simp [Pt.c, Cp.ids]; omega, by simp [Pt.c, Cp.classes]; omega, by simp [Pt.c, Cp.attrs], by simp [Pt.c, Cp.pseudos]⟩, rfl⟩
      · rw [List.eq_of_mem_replicate hp]
        exact ⟨⟨by simp [Pt.c, Cp.ids], by simp [Pt.c, Cp.classes], by simp [Pt.c, Cp.attrs], by simp [Pt.c, Cp.pseudos]⟩, rfl⟩
    have : ∀ H, Good Try.prog σ n_weigh_of [.agg (encSl (manyS ids classes (tags - 1))), I 8] H (I (ofW 8 (manyS ids classes (tags - 1)))) H := (of_step (σ := σ) (d := 8) (P := fun _ => False) (by omega) (g := ofW 7) (fun _ x hx => hx.elim) _ hwf (by simp [manyS]; omega) (fun p hp => (hmem p hp).1) (fun _ p hp q hq => by rw [(hmem p hp).2] at hq; cases hq)).1
    exact callK_of (this _) rfl
  refine callK_of (hof.frzA h.fz rfl) ?_
  rw [ofW_many]
  have ht : ((tags - 1 : Nat) : Int) + 1 = (tags : Int) := by omega
  rw [ht]
  obtain ⟨a, ea, la⟩ := lst_nat ids
  obtain ⟨b, eb, lb⟩ := lst_nat classes
  obtain ⟨c, ec, lc⟩ := lst_nat tags
  have ew : weightW ⟨ids, classes, tags⟩ = (((a * 256 + b) * 256 + c : Nat) : Int) := by
    unfold weightW
    rw [ea, eb, ec]
    omega
  rw [ew]
  have s16 := shr_nat ((a * 256 + b) * 256 + c) 16 (by omega)
  have s8 := shr_nat ((a * 256 + b) * 256 + c) 8 (by omega)
  have d16 : ((a * 256 + b) * 256 + c) / 2 ^ 16 = a := by omega
  have d8 : ((a * 256 + b) * 256 + c) / 2 ^ 8 = a * 256 + b := by omega
  rw [d16] at s16
  rw [d8] at s8
  have a8 := and255 (a * 256 + b) (by omega)
  have a0 := and255 ((a * 256 + b) * 256 + c) (by omega)
  have m8 : (a * 256 + b) % 256 = b := by omega
  have m0 : ((a * 256 + b) * 256 + c) % 256 = c := by omega
  rw [m8] at a8
  rw [m0] at a0
  have s16' : binR .shr (I (((a * 256 + b) * 256 + c : Nat) : Int)) (.lit (.int .u64 16)) = some (I (a : Int)) := s16
  have s8' : binR .shr (I (((a * 256 + b) * 256 + c : Nat) : Int)) (.lit (.int .u64 8)) = some (I ((a * 256 + b : Nat) : Int)) := s8
  simp only [s16', bnd_some]
  refine callK_of (least_ok _ _) ?_
  simp only [ea, b_eql, bnd_some, decide_true, ifB_lit, if_true, s8', a8]
  refine callK_of (least_ok _ _) ?_
  simp only [eb, b_eql, bnd_some, decide_true, ifB_lit, if_true, a0]
  refine callK_of (least_ok _ _) ?_
  simp only [ec, b_eql, bnd_some, decide_true]
  exact hK _
theorem WeighMany_good (ids classes tags : Int) : ∃ Hf, Good Try.prog σ n_law11_WeighMany [I ids, I classes, I tags] Hp.empty (Bo true) Hf := by
  refine ⟨Hp.empty, good_by (fun K hK => law11_WeighMany.run (callK_of (alive11 _) ?_)) (by simp [noIds, noId]) rfl _⟩
  simp only [u_not, bnd_some, Bool.not_true, ifB_lit, Bool.false_eq_true, if_false, b_lss, b_gtr]
  by_cases h1 : ids < 0
  · simp only [h1, decide_true, if_true]; exact hK _
  simp only [h1, decide_false, Bool.false_eq_true, if_false]
  by_cases h2 : 300 < ids
  · simp only [h2, decide_true, if_true]; exact hK _
  simp only [h2, decide_false, Bool.false_eq_true, if_false]
  by_cases h3 : classes < 0
  · simp only [h3, decide_true, if_true]; exact hK _
  simp only [h3, decide_false, Bool.false_eq_true, if_false]
  by_cases h4 : 300 < classes
  · simp only [h4, decide_true, if_true]; exact hK _
  simp only [h4, decide_false, Bool.false_eq_true, if_false]
  by_cases h5 : tags < 1
  · simp only [h5, decide_true, if_true]; exact hK _
  simp only [h5, decide_false, Bool.false_eq_true, if_false]
  by_cases h6 : 300 < tags
  · simp only [h6, decide_true, if_true]; exact hK _
  simp only [h6, decide_false, Bool.false_eq_true, if_false]
  obtain ⟨a, rfl⟩ : ∃ k : Nat, ids = k := ⟨ids.toNat, by omega⟩
  obtain ⟨b, rfl⟩ : ∃ k : Nat, classes = k := ⟨classes.toNat, by omega⟩
  obtain ⟨c, rfl⟩ : ∃ k : Nat, tags = k := ⟨tags.toNat, by omega⟩
  have la : a ≤ 300 := by omega
  have lb : b ≤ 300 := by omega
  have lc : 1 ≤ c ∧ c ≤ 300 := by omega
  simp only [allocK_eq]
  refine law11_WeighMany.L0_step ?_
  have hlt : (0 : Int) < c := by omega
  have n0 : Hp.empty.n = 0 := rfl
  have hcp := cp_bld
  have hr1 := row1_bld
  obtain ⟨H1, hH1⟩ : ∃ H1, H1 = Hp.empty.new (.cells [.lit (.slice none 0 0)] true) := ⟨_, rfl⟩
  have n1 : H1.n = 1 := by rw [hH1]; rfl
  have g0 : H1.get 0 = some (.cells [.lit (.slice none 0 0)] true) := by rw [hH1]; simp [n0]
  rw [← hH1]
  have hst : stA 6 (H1.new (.cells [I 0, .lit (.string ⟨#[]⟩), .lit (.slice none 0 0), .lit (.slice none 0 0), .lit (.slice none 0 0), .lit (.slice none 0 0)] true)) (.ptr H1.n 0) (.agg row1) = some ((H1.new (.cells [I 0, .lit (.string ⟨#[]⟩), .lit (.slice none 0 0), .lit (.slice none 0 0), .lit (.slice none 0 0), .lit (.slice none 0 0)] true)).set H1.n (some (.cells row1 true))) := by
    simp [row1, overlay_all]
  simp only [b_lss, bnd_some, hlt, decide_true, ifB_lit, if_true, hcp, hr1, allocK_eq, hst, b_eql, sh_ptr, st_int, hp_get_set, if_pos, stO_cells, n0]
  have hle : 0 + 0 + [I 0].length ≤ row1.length := by simp [row1]
  have hov : overlay row1 (0 + 0) [I 0] = row0 (.lit (.slice none 0 0)) (.lit (.slice none 0 0)) := rfl
  simp only [hle, List.all_cons, List.all_nil, one_int, Bool.and_self, and_self, if_true, bnd_some, hov]
  have fin : ∀ x xi xc H y9 y10 y11 y12, Sel0 H x xi xc a b (c - 1) → y9 = I (c : Nat) → law11_WeighMany.L0 σ K (I a) (I b) (I c) (.ptr 0 0) y9 y10 y11 y12 H := fun x xi xc H y9 y10 y11 y12 hs e => by
    rw [e]; exact many_end hK la lb lc hs
  refine many_L1 (classes := b) (tags := c) (ids := a) la (P := H1.n) (xc := .lit (.slice none 0 0)) (fun xi H hp y11 => ?_) _ 0 (.lit (.slice none 0 0)) _ rfl (by omega) ⟨?_, by simp, .nil, .nil, fun j hj => hj.elim, fun j hj => hj.elim, fun j hj => hj.elim, by omega, by simp⟩
  · refine many_L3 (classes := b) (tags := c) (ids := a) lb (fun xc H hp y12 => ?_) _ 0 (.lit (.slice none 0 0)) _ rfl (by omega) hp
    obtain ⟨h0, hpp, gi, gc, oi, oc, ne, p0, pl⟩ := hp
    refine many_app (i := 0) (rows := []) h0 hpp rfl (row0_one gi.one gc.one) .nil (by simp) (fun j hj => hj.elim) (by omega) (by omega) fun x' H' e0 g same grow mine => ?_
    refine many_L0 lc.2 (a := a) (b := b) fin _ 1 x' xi xc H' _ _ _ rfl (by omega) lc.1 ⟨e0, by simpa using g, gi.keep (fun j hj => ?_) grow, gc.keep (fun j hj => ?_) grow, fun j hj => ?_, fun j hj => by have := oi j hj; omega, fun j hj => by have := oc j hj; omega, by omega⟩
    · have := oi j hj
      exact same j (by omega) (gi.lt hj) (fun h => h.elim)
    · have := oc j hj
      exact same j (by omega) (gc.lt hj) (fun h => h.elim)
    · rcases mine j hj with h | h
      · exact h.elim
      · exact ⟨by omega, fun hi => by have := gi.lt hi; omega, fun hc => by have := gc.lt hc; omega⟩
  · have : (0 : Nat) ≠ H1.n := by omega
    simp [this, g0]
end
theorem WeighMany_walk {H : Type} {enc : TypeId × Value → H} (W : World) {v0 v1 v2 : Value} {r : Reach} {b0 base : Nat} {spare : Nat → Bool} {held : Bool} {d0 d1 d2 : DataW H} {p0 p1 p2 : List MemPlace}
    (e0 : Value.okWide Try.prog W r b0 T_int v0) (h0 : DataW.Trod enc Try.prog W base spare held T_int v0 d0 p0)
    (e1 : Value.okWide Try.prog W r b0 T_int v1) (h1 : DataW.Trod enc Try.prog W base spare held T_int v1 d1 p1)
    (e2 : Value.okWide Try.prog W r b0 T_int v2) (h2 : DataW.Trod enc Try.prog W base spare held T_int v2 d2 p2) :
    Calls Try.prog n_law11_WeighMany #[v0, v1, v2] W fun e W' => e = .returned (.bool true) ∧ Below W.heap.size W W' := by
  have σ : Sig := ⟨fun _ => 0, fun _ => false, fun _ => ⟨#[]⟩⟩
  obtain ⟨x0, r0, s0⟩ := read_arg (P := Try.prog) (ti := tiT.get) (S := readB) (t := T_int) (σ := σ) tiT_ok readB_closed (inB_mem (by kernel_rfl)) e0 h0
  obtain ⟨x1, r1, s1⟩ := read_arg (P := Try.prog) (ti := tiT.get) (S := readB) (t := T_int) (σ := σ) tiT_ok readB_closed (inB_mem (by kernel_rfl)) e1 h1
  obtain ⟨x2, r2, s2⟩ := read_arg (P := Try.prog) (ti := tiT.get) (S := readB) (t := T_int) (σ := σ) tiT_ok readB_closed (inB_mem (by kernel_rfl)) e2 h2
  obtain ⟨a, rfl, _⟩ := v_int s0
  obtain ⟨b, rfl, _⟩ := v_int s1
  obtain ⟨c, rfl, _⟩ := v_int s2
  obtain ⟨Hf, hg⟩ := WeighMany_good (σ := σ) a b c
  exact law_of_good (relL3 r0 r1 r2) hg
end Go.Proofs.Ytikcninaepoojaa.Ev

/- What package weigh computes. -/
import Derived.Test.YtikcninaepoojaaDc1
import Derived.Test.YtikcninaepoojaaDear
namespace Go.Proofs.Ytikcninaepoojaa.Ev
set_option linter.unusedVariables false
set_option linter.unusedSimpArgs false
variable {σ : Sig}

structure W3 where
  a : Int
  b : Int
  c : Int
def W3.cells (s : W3) : List AV := [I s.a, I s.b, I s.c]
def W3.Bd (M : Int) (s : W3) : Prop := (0 ≤ s.a ∧ s.a ≤ M) ∧ (0 ≤ s.b ∧ s.b ≤ M) ∧ 0 ≤ s.c ∧ s.c ≤ M

def lst (n : Int) : Int := if 255 < n then 255 else n
def weightW (s : W3) : Int := (lst s.a * 256 + lst s.b) * 256 + lst s.c
def addW (s : W3) (w : Int) : W3 := ⟨s.a + w / 256 / 256 % 256, s.b + w / 256 % 256, s.c + w % 256⟩
def topW (g : Sl → Int) (l : List Sl) (m : Int) : Int := l.foldl (fun m x => if m < g x then g x else m) m
def psW (g : Sl → Int) (last : Bool) (s : W3) (p : Ps) : W3 := if p.kind ≠ 7 ∧ p.kind ≠ 8 then ⟨s.a, s.b + 1, s.c⟩ else if last = true then s else addW s (topW g p.list 0)
def lensW (s : W3) (c : Cp) : W3 := ⟨s.a + c.ids.length, s.b + (c.classes.length + c.attrs.length), if c.tag ≠ ⟨#[]⟩ then s.c + 1 else s.c⟩
def cpW (g : Sl → Int) (last : Bool) (s : W3) (c : Cp) : W3 := c.pseudos.foldl (psW g last) (lensW s c)
def slW (g : Sl → Int) (last : Bool) (x : Sl) : Int := weightW (x.foldl (fun s p => cpW g last s p.c) ⟨0, 0, 0⟩)
def ofW : Nat → Sl → Int
  | 0, x => slW (fun _ => 0) true x
  | d + 1, x => slW (ofW d) false x

theorem lst_le (n : Int) (h : 0 ≤ n) : 0 ≤ lst n ∧ lst n ≤ 255 := by unfold lst; split <;> omega
theorem weightW_le {s : W3} {M : Int} (h : s.Bd M) : 0 ≤ weightW s ∧ weightW s ≤ 16777215 := by
  obtain ⟨⟨a0, _⟩, ⟨b0, _⟩, c0, _⟩ := h
  have := lst_le _ a0
  have := lst_le _ b0
  have := lst_le _ c0
  unfold weightW
  omega
theorem addW_bd {s : W3} {M w : Int} (h : s.Bd M) (h0 : 0 ≤ w) : (addW s w).Bd (M + 255) := by
  obtain ⟨⟨a0, a1⟩, ⟨b0, b1⟩, c0, c1⟩ := h
  unfold addW W3.Bd
  simp only
  omega

/-! ### add, weight -/
theorem capped_ok (n : Int) (H : Hp) : Good Try.prog σ n_weigh_capped_int [I n, I 255] H (I (lst n)) H :=
  good_pure (weigh_capped_int.run (by simp [minA, toI, minStep, lst])) rfl rfl H

theorem weight_ok {s : W3} {M : Int} (h : s.Bd M) (H : Hp) : Good Try.prog σ n_weigh_sums_weight [.agg s.cells] H (I (weightW s)) H := by
  obtain ⟨⟨a0, _⟩, ⟨b0, _⟩, c0, _⟩ := h
  have ha := lst_le _ a0
  have hb := lst_le _ b0
  have hc := lst_le _ c0
  refine good_pure (weigh_sums_weight.run ?_) (by simp [noIds, noId, W3.cells]) rfl H
  simp [W3.cells, ldL_all]
  refine weigh_sums_weight.L0_step ?_
  simp [ixArr, intA, wr64]
  refine callK_of (capped_ok _ _) ?_
  simp
  rw [wr64 (by omega) (by omega)]
  refine weigh_sums_weight.L0_step ?_
  simp [ixArr, intA, wr64]
  rw [wr64 (by omega) (by omega)]
  refine callK_of (capped_ok _ _) ?_
  simp
  rw [wr64 (by omega) (by omega)]
  refine weigh_sums_weight.L0_step ?_
  simp [ixArr, intA, wr64]
  rw [wr64 (by omega) (by omega)]
  refine callK_of (capped_ok _ _) ?_
  simp
  rw [wr64 (by omega) (by omega)]
  refine weigh_sums_weight.L0_step ?_
  simp [weightW]

theorem add_ok {s : W3} {M w : Int} (h : s.Bd M) (hM : M ≤ 1000000000) (h0 : 0 ≤ w) (h1 : w ≤ 16777215) {H : Hp} {id : Nat} (hid : H.get id = some (.cells s.cells true)) :
    ∃ H', Good Try.prog σ n_weigh_sums_add [.ptr id 0, I w] H (.tup []) H' ∧ H'.get id = some (.cells (addW s w).cells true) ∧ (∀ j, j ≠ id → H'.get j = H.get j) ∧ H'.n = H.n := by
  obtain ⟨⟨a0, a1⟩, ⟨b0, b1⟩, c0, c1⟩ := h
  have t1 : w.tmod 256 = w % 256 := Int.tmod_eq_emod_of_nonneg h0
  have t2 : w.tdiv 256 = w / 256 := Int.tdiv_eq_ediv_of_nonneg h0
  have t3 : (w / 256).tmod 256 = w / 256 % 256 := Int.tmod_eq_emod_of_nonneg (by omega)
  have t4 : (w / 256).tdiv 256 = w / 256 / 256 := Int.tdiv_eq_ediv_of_nonneg (by omega)
  have t5 : (w / 256 / 256).tmod 256 = w / 256 / 256 % 256 := Int.tmod_eq_emod_of_nonneg (by omega)
  have t6 : (w / 256 / 256).tdiv 256 = w / 256 / 256 / 256 := Int.tdiv_eq_ediv_of_nonneg (by omega)
  have run : ∃ r H', Good Try.prog σ n_weigh_sums_add [.ptr id 0, I w] H r H' ∧ (r = .tup [] ∧ H'.get id = some (.cells (addW s w).cells true) ∧ (∀ j, j ≠ id → H'.get j = H.get j) ∧ H'.n = H.n) := by
    refine weigh_sums_add.run ?_
    refine weigh_sums_add.L0_step ?_
    simp [ixaArr, intA, hid, W3.cells, b_rem, b_quo, t1, t2]
    rw [wr64 (by omega) (by omega), wr64 (by omega) (by omega), wr64 (by omega) (by omega)]
    refine weigh_sums_add.L0_step ?_
    simp [ixaArr, intA, hid, W3.cells, b_rem, b_quo, t3, t4]
    rw [wr64 (by omega) (by omega), wr64 (by omega) (by omega), wr64 (by omega) (by omega)]
    refine weigh_sums_add.L0_step ?_
    simp [ixaArr, intA, hid, W3.cells, b_rem, b_quo, t5, t6]
    rw [wr64 (by omega) (by omega), wr64 (by omega) (by omega), wr64 (by omega) (by omega)]
    refine weigh_sums_add.L0_step ?_
    simp [addW]
    intro j hj
    simp [hj]
  obtain ⟨r, H', hg, rfl, hh⟩ := run
  exact ⟨H', hg, hh⟩

theorem topW_le {g : Sl → Int} : ∀ (l : List Sl) (m : Int), 0 ≤ m → m ≤ 16777215 → (∀ x ∈ l, 0 ≤ g x ∧ g x ≤ 16777215) → 0 ≤ topW g l m ∧ topW g l m ≤ 16777215
  | [], m, h0, h1, _ => ⟨h0, h1⟩
  | x :: r, m, h0, h1, h => by
    have := h x (by simp)
    show 0 ≤ topW g r (if m < g x then g x else m) ∧ _
    refine topW_le r _ ?_ ?_ fun y hy => h y (by simp [hy])
    · split <;> omega
    · split <;> omega

/-- What stands in the sums' block; all else is as it was. -/
def SumI (H : Hp) (id : Nat) (s : W3) (H' : Hp) : Prop := H'.get id = some (.cells s.cells true) ∧ (∀ j, j ≠ id → j < H.n → H'.get j = H.get j) ∧ H.n ≤ H'.n

/-- Not too many things in a compound. -/
def WideC (c : Cp) : Prop := c.ids.length ≤ 400 ∧ c.classes.length ≤ 400 ∧ c.attrs.length ≤ 400 ∧ c.pseudos.length ≤ 5
theorem FitC.wide {c : Cp} (h : FitC c) : WideC c := ⟨by have := h.1; omega, by have := h.2.1; omega, by have := h.2.2.1; omega, h.2.2.2⟩

theorem compound_ok {d : Nat} (hd : d ≤ 8) {g : Sl → Int} {P : Sl → Prop} (hg : d ≠ 0 → ∀ x, P x → (∀ H, Good Try.prog σ n_weigh_of [.agg (encSl x), I ((d - 1 : Nat) : Int)] H (I (g x)) H) ∧ 0 ≤ g x ∧ g x ≤ 16777215)
    {c : Cp} (hc : CpWf Lmax c) (hfit : WideC c) (hP : d ≠ 0 → ∀ q ∈ c.pseudos, ∀ x ∈ q.list, P x) {s : W3} {M : Int} (hs : s.Bd M) (hM : M ≤ 100000000) {H : Hp} {id : Nat} (hid : H.get id = some (.cells s.cells true)) (hlt : id < H.n) :
    ∃ H', Good Try.prog σ n_weigh_sums_compound [.ptr id 0, .agg (encCp c), I (d : Int)] H (.tup []) H' ∧ SumI H id (cpW g (decide (d = 0)) s c) H' ∧ (cpW g (decide (d = 0)) s c).Bd (M + 3000) := by
  obtain ⟨f1, f2, f3, f4⟩ := hfit
  have hls : (lensW s c).Bd (M + 900) := by
    obtain ⟨⟨a0, a1⟩, ⟨b0, b1⟩, c0, c1⟩ := hs
    unfold lensW W3.Bd
    simp only
    refine ⟨by omega, by omega, ?_⟩
    split <;> omega
  let K : AV → Hp → Prop := fun r H' => r = .tup [] ∧ SumI H id (cpW g (decide (d = 0)) s c) H' ∧ (cpW g (decide (d = 0)) s c).Bd (M + 3000)
  -- the pseudo-classes
  have L1 : ∀ (n k : Nat) (H' : Hp) (s' : W3) (y4 y8 y70 y71 y72 : AV), c.pseudos.length - k = n → k ≤ c.pseudos.length → s' = (c.pseudos.take k).foldl (psW g (decide (d = 0))) (lensW s c) → s'.Bd (M + 900 + 255 * k) → SumI H id s' H' →
      weigh_sums_compound.L1 σ K (.ptr id 0) (I (d : Int)) y4 y8 (.imm 4 (c.pseudos.map encPs)) (I c.pseudos.length) (I k) y70 y71 y72 H' := by
    intro n
    induction n with
    | zero =>
      intro k H' s' y4 y8 y70 y71 y72 hn hk hs' hb hI
      have e : k = c.pseudos.length := by omega
      subst e
      refine weigh_sums_compound.L1_step ?_
      simp
      have e2 : s' = cpW g (decide (d = 0)) s c := by rw [hs', List.take_length]; rfl
      rw [e2] at hI hb
      refine ⟨rfl, hI, ?_⟩
      obtain ⟨⟨a0, a1⟩, ⟨b0, b1⟩, c0, c1⟩ := hb
      exact ⟨⟨a0, by omega⟩, ⟨b0, by omega⟩, c0, by omega⟩
    | succ n ih =>
      intro k H' s' y4 y8 y70 y71 y72 hn hk hs' hb hI
      have hklt : k < c.pseudos.length := by omega
      obtain ⟨q, hq⟩ := get_lt hklt
      have hqw := (Ps.wf_iff.1 (hc.ps q (List.mem_of_getElem? hq))).2.2.2
      obtain ⟨hI1, hI2, hI3⟩ := hI
      obtain ⟨⟨a0, a1⟩, ⟨b0, b1⟩, c0, c1⟩ := hb
      have hne : id ≠ H'.n := by omega
      have hfold : (c.pseudos.take (k + 1)).foldl (psW g (decide (d = 0))) (lensW s c) = psW g (decide (d = 0)) s' q := by
        rw [List.take_add_one, hq]
        simp only [Option.toList_some, List.foldl_append, List.foldl_cons, List.foldl_nil]
        rw [← hs']
      have next : ∀ (H2 : Hp) (s2 : W3) (y4 y8 y70 y71 y72 : AV), s2 = psW g (decide (d = 0)) s' q → s2.Bd (M + 900 + 255 * k + 255) → SumI H id s2 H2 →
          weigh_sums_compound.J2 σ K (.ptr id 0) (I (d : Int)) y4 y8 (.imm 4 (c.pseudos.map encPs)) (I c.pseudos.length) (I k) y70 y71 y72 H2 := by
        intro H2 s2 y4 y8 y70 y71 y72 e1 e2 e3
        refine weigh_sums_compound.J2_step ?_
        simp
        rw [wr_succL hklt hc.psL]
        refine ih (k + 1) H2 s2 _ _ _ _ _ (by omega) (by omega) (by rw [hfold]; exact e1) ?_ e3
        obtain ⟨⟨a0, a1⟩, ⟨b0, b1⟩, c0, c1⟩ := e2
        exact ⟨⟨a0, by omega⟩, ⟨b0, by omega⟩, c0, by omega⟩
      -- a list of selectors
      have L3 : q.kind = 7 ∨ q.kind = 8 → d ≠ 0 → ∀ (n3 i : Nat) (H2 : Hp) (m : Int) (y4 : AV), q.list.length - i = n3 → i ≤ q.list.length → m = topW g (q.list.take i) 0 → SumI H id s' H2 →
          weigh_sums_compound.L3 σ K (.ptr id 0) (I (d : Int)) y4 (I m) (.imm 4 (c.pseudos.map encPs)) (I c.pseudos.length) (I k) (.imm 1 (q.list.map encSl)) (I q.list.length) (I i) H2 := by
        intro hk78 hd0 n3
        have hPq := hP hd0 q (List.mem_of_getElem? hq)
        induction n3 with
        | zero =>
          intro i H2 m y4 hn3 hi hm hI2'
          have e : i = q.list.length := by omega
          subst e
          rw [List.take_length] at hm
          have hmb := topW_le (g := g) q.list 0 (by omega) (by omega) fun x hx => (hg hd0 x (hPq x hx)).2
          rw [← hm] at hmb
          obtain ⟨j1, j2, j3⟩ := hI2'
          obtain ⟨H3, hg3, r1, r2, r3⟩ := add_ok (σ := σ) (M := M + 900 + 255 * k) ⟨⟨a0, a1⟩, ⟨b0, b1⟩, c0, c1⟩ (by omega) hmb.1 hmb.2 j1
          refine weigh_sums_compound.L3_step ?_
          simp
          refine callK_of hg3 ?_
          refine next H3 (addW s' m) _ _ _ _ _ ?_ (addW_bd ⟨⟨a0, a1⟩, ⟨b0, b1⟩, c0, c1⟩ hmb.1) ⟨r1, fun j hj hjl => by rw [r2 j hj]; exact j2 j hj hjl, by rw [r3]; exact j3⟩
          unfold psW
          rw [if_neg (by omega), if_neg (by simpa using hd0), hm]
        | succ n3 ih3 =>
          intro i H2 m y4 hn3 hi hm hI2'
          have hilt : i < q.list.length := by omega
          obtain ⟨x, hx⟩ := get_lt hilt
          obtain ⟨hgx, _, _⟩ := hg hd0 x (hPq x (List.mem_of_getElem? hx))
          obtain ⟨j1, j2, j3⟩ := hI2'
          have hne2 : id ≠ H2.n := by omega
          refine weigh_sums_compound.L3_step ?_
          have e1 : wr .i64 ((d : Int) - 1) = ((d - 1 : Nat) : Int) := by rw [wr64 (by omega) (by omega)]; omega
          simp [ix_map hx, ldL_all, overlay_all, hilt, e1, wr_succL hilt hqw.1]
          refine callK_of (hgx _) ?_
          simp [maxA, toI, maxStep]
          refine ih3 (i + 1) _ _ _ (by omega) (by omega) ?_ ⟨by simp [hne2, j1], fun j hj hjl => ?_, by simp; omega⟩
          · rw [List.take_add_one, hx, hm]
            simp only [topW, Option.toList_some, List.foldl_append, List.foldl_cons, List.foldl_nil]
            rfl
          · have : j ≠ H2.n := by omega
            simp [this]
            exact j2 j hj hjl
      refine weigh_sums_compound.L1_step ?_
      simp [ix_map hq, ldL_all, overlay_all, encPs_eq, hklt]
      have hne' : ∀ j, j < H.n → j ≠ H'.n := fun j hj => by omega
      have tolist : q.kind = 7 ∨ q.kind = 8 → ∀ (b : Blk) (o : Option Blk), (if d = 0 then weigh_sums_compound.J2 σ K (.ptr id 0) (I (d : Int)) y4 y8 (.imm 4 (c.pseudos.map encPs)) (I c.pseudos.length) (I k) y70 y71 y72 ((H'.new b).set H'.n o)
          else weigh_sums_compound.L3 σ K (.ptr id 0) (I (d : Int)) y4 (I 0) (.imm 4 (c.pseudos.map encPs)) (I c.pseudos.length) (I k) (.imm 1 (q.list.map encSl)) (I q.list.length) (I 0) ((H'.new b).set H'.n o)) := by
        intro hk78 b o
        have hI' : SumI H id s' ((H'.new b).set H'.n o) := ⟨by simp [hne, hI1], fun j hj hjl => by simp [hne' j hjl]; exact hI2 j hj hjl, by simp; omega⟩
        split
        · rename_i hd0
          refine next _ s' _ _ _ _ _ ?_ ⟨⟨a0, by omega⟩, ⟨b0, by omega⟩, c0, by omega⟩ hI'
          unfold psW
          rw [if_neg (by omega), if_pos (by simpa using hd0)]
        · rename_i hd0
          exact L3 hk78 hd0 _ 0 _ 0 _ rfl (Nat.zero_le _) rfl hI'
      split
      · exact tolist (.inl (by assumption)) _ _
      split
      · exact tolist (.inr (by assumption)) _ _
      · simp [ixaArr, intA, hne, hI1, W3.cells]
        rw [wr64 (by omega) (by omega)]
        refine next _ ⟨s'.a, s'.b + 1, s'.c⟩ _ _ _ _ _ ?_ ⟨⟨a0, by simp only; omega⟩, ⟨by simp only; omega, by simp only; omega⟩, c0, by simp only; omega⟩ ⟨by simp [W3.cells], fun j hj hjl => by simp [hne' j hjl, hj]; exact hI2 j hj hjl, by simp; omega⟩
        unfold psW
        rw [if_pos ⟨by assumption, by assumption⟩]
  obtain ⟨⟨a0, a1⟩, ⟨b0, b1⟩, c0, c1⟩ := hs
  have hne : id ≠ H.n := by omega
  have fin : ∀ H', SumI H id (lensW s c) H' → H'.get H.n = some (.cells (encCp c) true) → weigh_sums_compound.J0 σ K (.ptr id 0) (I (d : Int)) (.ptr H.n 0) (.lit undef) (.lit undef) (.lit undef) (.lit undef) (.lit undef) (.lit undef) (.lit undef) H' := by
    intro H' hI hc1
    refine weigh_sums_compound.J0_step ?_
    simp [hc1, encCp_eq]
    exact L1 _ 0 H' (lensW s c) _ _ _ _ _ rfl (Nat.zero_le _) rfl (by simpa using hls) hI
  have run : ∃ r H', Good Try.prog σ n_weigh_sums_compound [.ptr id 0, .agg (encCp c), I (d : Int)] H r H' ∧ K r H' := by
    refine weigh_sums_compound.run ?_
    simp [encCp_eq, ixaArr, intA, hne, Ne.symm hne, hid, W3.cells]
    have e1 : wr .i64 (s.a + c.ids.length) = s.a + c.ids.length := wr64 (by omega) (by omega)
    have e2 : wr .i64 ((c.classes.length : Int) + c.attrs.length) = c.classes.length + c.attrs.length := wr64 (by omega) (by omega)
    have e3 : wr .i64 (s.b + ((c.classes.length : Int) + c.attrs.length)) = s.b + (c.classes.length + c.attrs.length) := wr64 (by omega) (by omega)
    have e4 : wr .i64 (s.c + 1) = s.c + 1 := wr64 (by omega) (by omega)
    simp only [e1, e2, e3, e4]
    have hj' : ∀ j, j < H.n → j ≠ H.n := fun j hj => by omega
    split
    · rename_i ht
      exact fin _ ⟨by simp [W3.cells, lensW, ht], fun j hj hjl => by simp [hj, hj' j hjl], by simp⟩ (by simp [encCp_eq, Ne.symm hne])
    · rename_i ht
      exact fin _ ⟨by simp [W3.cells, lensW, ht], fun j hj hjl => by simp [hj, hj' j hjl], by simp⟩ (by simp [encCp_eq, Ne.symm hne])
  obtain ⟨r, H', hg', rfl, hh⟩ := run
  exact ⟨H', hg', hh⟩

theorem of_step {d : Nat} (hd : d ≤ 8) {g : Sl → Int} {P : Sl → Prop} (hg : d ≠ 0 → ∀ x, P x → (∀ H, Good Try.prog σ n_weigh_of [.agg (encSl x), I ((d - 1 : Nat) : Int)] H (I (g x)) H) ∧ 0 ≤ g x ∧ g x ≤ 16777215)
    (x : Sl) (hw : slWf Lmax x) (h60 : x.length ≤ 400) (hfit : ∀ p ∈ x, WideC p.c) (hP : d ≠ 0 → ∀ p ∈ x, ∀ q ∈ p.c.pseudos, ∀ y ∈ q.list, P y) :
    (∀ H, Good Try.prog σ n_weigh_of [.agg (encSl x), I (d : Int)] H (I (slW g (decide (d = 0)) x)) H) ∧ 0 ≤ slW g (decide (d = 0)) x ∧ slW g (decide (d = 0)) x ≤ 16777215 := by
  let F : Nat → W3 := fun k => (x.take k).foldl (fun s p => cpW g (decide (d = 0)) s p.c) ⟨0, 0, 0⟩
  let K : AV → Hp → Prop := fun r _ => r = I (slW g (decide (d = 0)) x) ∧ 0 ≤ slW g (decide (d = 0)) x ∧ slW g (decide (d = 0)) x ≤ 16777215
  have L0 : ∀ (n k : Nat) (H : Hp) (id : Nat), x.length - k = n → k ≤ x.length → (F k).Bd (3000 * k) → H.get id = some (.cells (F k).cells true) → id < H.n →
      weigh_of.L0 σ K (I (d : Int)) (.ptr id 0) (.imm 6 (x.map encPt)) (I x.length) (I k) H := by
    intro n
    induction n with
    | zero =>
      intro k H id hn hk hb hid hlt
      have e : k = x.length := by omega
      subst e
      refine weigh_of.L0_step ?_
      simp [hid, ldL_all, W3.cells]
      refine callK_of (weight_ok hb _) ?_
      have e2 : weightW (F x.length) = slW g (decide (d = 0)) x := by simp only [F, List.take_length]; rfl
      have := weightW_le hb
      rw [e2] at this
      exact ⟨by rw [e2], this⟩
    | succ n ih =>
      intro k H id hn hk hb hid hlt
      have hklt : k < x.length := by omega
      obtain ⟨p, hp⟩ := get_lt hklt
      have hmem := List.mem_of_getElem? hp
      have hpw := (Pt.wf_iff.1 (hw.2 p hmem)).2
      have hne : id ≠ H.n := by omega
      refine weigh_of.L0_step ?_
      simp [ix_map hp, overlay_all, hklt]
      obtain ⟨H', hg', hI, hb'⟩ := compound_ok (σ := σ) hd hg hpw (hfit p hmem) (fun h0 q hq y hy => hP h0 p hmem q hq y hy) hb (by omega) (H := (H.new (.cells [I 0, .lit (.string ⟨#[]⟩), .lit (.slice none 0 0), .lit (.slice none 0 0), .lit (.slice none 0 0), .lit (.slice none 0 0)] true)).set H.n (some (.cells (encPt p) true))) (id := id) (by simp [hne, hid]) (by simp; omega)
      refine callK_of hg' ?_
      rw [wr_succL hklt hw.1]
      have hF : F (k + 1) = cpW g (decide (d = 0)) (F k) p.c := by
        simp only [F]
        rw [List.take_add_one, hp]
        simp only [Option.toList_some, List.foldl_append, List.foldl_cons, List.foldl_nil]
      obtain ⟨i1, i2, i3⟩ := hI
      refine ih (k + 1) H' id (by omega) (by omega) ?_ (by rw [hF]; exact i1) (by simp at i3; omega)
      rw [hF]
      obtain ⟨⟨a0, a1⟩, ⟨b0, b1⟩, c0, c1⟩ := hb'
      exact ⟨⟨a0, by omega⟩, ⟨b0, by omega⟩, c0, by omega⟩
  have run : ∃ r H1, Good Try.prog σ n_weigh_of [.agg (encSl x), I (d : Int)] Hp.empty r H1 ∧ K r H1 := by
    refine weigh_of.run ?_
    simp [encSl]
    refine L0 _ 0 _ _ rfl (Nat.zero_le _) ⟨⟨by simp [F], by simp [F]⟩, ⟨by simp [F], by simp [F]⟩, by simp [F], by simp [F]⟩ ?_ (by simp)
    simp [F, W3.cells]
  obtain ⟨r, H1, hg', rfl, hb⟩ := run
  exact ⟨fun H => hg'.over (by simp [noIds, noId, noId_Sl]) rfl H, hb⟩

theorem of_ok : ∀ (d : Nat), d ≤ 8 → ∀ (f : Nat) (x : Sl), d ≤ f → slWf Lmax x → FitS f x → (∀ H, Good Try.prog σ n_weigh_of [.agg (encSl x), I (d : Int)] H (I (ofW d x)) H) ∧ 0 ≤ ofW d x ∧ ofW d x ≤ 16777215
  | 0, hd, f, x, hf, hw, hfit => of_step (P := fun _ => False) hd (g := fun _ => 0) (fun h => absurd rfl h) x hw (by have := hfit.1; omega) (fun p hp => (hfit.2 p hp).1.wide) (fun h => absurd rfl h)
  | d + 1, hd, f, x, hf, hw, hfit => by
    refine of_step (d := d + 1) (P := fun y => slWf Lmax y ∧ FitS (f - 1) y) hd (g := ofW d) (fun _ y hy => of_ok d (by omega) (f - 1) y (by omega) hy.1 hy.2) x hw (by have := hfit.1; omega) (fun p hp => (hfit.2 p hp).1.wide) (fun _ p hp q hq y hy => ?_)
    have hpw := (Pt.wf_iff.1 (hw.2 p hp)).2
    have hqw := (Ps.wf_iff.1 (hpw.ps q hq)).2.2.2
    refine ⟨hqw.2 y hy, ?_⟩
    have := (hfit.2 p hp).2 q hq
    obtain ⟨f', rfl⟩ : ∃ f', f = f' + 1 := ⟨f - 1, by omega⟩
    exact this y hy

theorem Of_ok {f : Nat} {x : Sl} (hf : 8 ≤ f) (hw : slWf Lmax x) (hfit : FitS f x) (H : Hp) : Good Try.prog σ n_weigh_Of [.agg (encSl x)] H (I (ofW 8 x)) H := by
  refine good_pure (weigh_Of.run ?_) (by simp [noIds, noId, noId_Sl]) rfl H
  simp
  exact callK_of ((of_ok 8 (by omega) f x hf hw hfit).1 _) rfl
end Go.Proofs.Ytikcninaepoojaa.Ev

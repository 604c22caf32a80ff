/- The walks, part 7: the evaluator, the functions, the laws. Conditions: none. -/
import Derived.Test.YtaoegkmfgfefgaaGreatZ6
namespace Go.Proofs.YtaoegkmfgfefgaaGreat.Ev
set_option linter.unusedVariables false
set_option linter.unusedSimpArgs false
variable {σ : Sig}
theorem blank_ok (c : UInt8) (H : Hp) : Good Tryz.prog σ n_ref9_blank [.lit (.int .u8 c.toNat)] H (Bo (wht c)) H := by
  refine good_by (fun K hK => ref9_blank.run ?_) (by simp [noIds, noId]) rfl H
  have hK := hK Hp.empty
  simp only [b_eql, bnd_some, ifB_lit, decide_eq_true_eq]
  split
  · rename_i h
    rwa [show wht c = true by have : c.toNat = 9 := by omega
                              simp [wht, this]] at hK
  rename_i h9
  split
  · rename_i h
    rwa [show wht c = true by have : c.toNat = 10 := by omega
                              simp [wht, this]] at hK
  rename_i h10
  split
  · rename_i h
    rwa [show wht c = true by have : c.toNat = 12 := by omega
                              simp [wht, this]] at hK
  rename_i h12
  split
  · rename_i h
    rwa [show wht c = true by have : c.toNat = 13 := by omega
                              simp [wht, this]] at hK
  rename_i h13
  have e : wht c = decide ((c.toNat : Int) = 32) := by
    have a9 : ¬ c.toNat = 9 := by omega
    have a10 : ¬ c.toNat = 10 := by omega
    have a12 : ¬ c.toNat = 12 := by omega
    have a13 : ¬ c.toNat = 13 := by omega
    by_cases h : c.toNat = 32
    · simp [wht, h]
    · have h' : ¬ ((c.toNat : Int) = 32) := by omega
      simp [wht, a9, a10, a12, a13, h, h']
  rwa [e] at hK
theorem begins_ok (s p : ByteArray) (H : Hp) : Good Tryz.prog σ n_ref9_begins [Sx s, Sx p] H (Bo (preB (tl s) (tl p))) H := by
 refine good_by (fun K hK => ref9_begins.run ?_) (by simp [noIds, noId]) rfl H
 simp only [len_str, bnd_some, b_geq, ifB_lit, decide_eq_true_eq]
 split
 ·rename_i h
  rw [sl_str0 (by omega), bnd_some]
  simp only [b_seql, bnd_some]
  have := pre_take (tl s) (tl p) (by rw [tl_len, tl_len]; omega)
  rw [tl_len, mk_tl] at this
  rw [this]
  exact hK _
 ·rename_i h
  have := pre_long (s := tl s) (p := tl p) (by rw [tl_len, tl_len]; omega)
  rw [this] at hK
  exact hK _
theorem ends_ok (s p : ByteArray) (hs : s.data.size < 9000000000000000000) (H : Hp) : Good Tryz.prog σ n_ref9_ends [Sx s, Sx p] H (Bo (sufB (tl s) (tl p))) H := by
 refine good_by (fun K hK => ref9_ends.run ?_) (by simp [noIds, noId]) rfl H
 simp only [len_str, bnd_some, b_geq, ifB_lit, decide_eq_true_eq]
 split
 ·rename_i h
  simp only [b_sub, bnd_some]
  have e : wr .i64 ((s.data.size : Int) - p.data.size) = ((s.data.size - p.data.size : Nat) : Int) := by rw [wr64 (by omega) (by omega)]; omega
  rw [e, sl_strE (by omega), bnd_some]
  simp only [b_seql, bnd_some]
  have := suf_drop (tl s) (tl p) (by rw [tl_len, tl_len]; omega)
  rw [tl_len, tl_len, mk_tl] at this
  rw [this]
  exact hK _
 ·rename_i h
  have := suf_long (s := tl s) (p := tl p) (by rw [tl_len, tl_len]; omega)
  rw [this] at hK
  exact hK _
theorem rhas_L0 {l : List ByteArray} (hl : l.length ≤ reachBytes) {s : ByteArray} {K : AV → Hp → Prop} : ∀ (m k : Nat) (H : Hp), l.length - m = k → m ≤ l.length → (∀ H, K (Bo (hasB (l.drop m) s)) H) → ref9_has.L0 σ K (strs l) (Sx s) (I m) H := by
 intro m k
 revert m
 induction k with
 | zero =>
  intro m H hk hm hK
  have : m = l.length := by omega
  subst this
  refine ref9_has.L0_step ?_
  simp [strs]
  simpa [hasB] using hK H
 | succ k ih =>
  intro m H hk hm hK
  have hlt : m < l.length := by omega
  obtain ⟨x, hx⟩ := get_lt hlt
  rw [drop_get hx] at hK
  refine ref9_has.L0_step ?_
  simp [strs, hlt, ix_map hx]
  split
  ·rename_i h
   have := hK H
   simpa [hasB, h] using this
  ·rename_i h
   rw [wr_succL hlt hl (by decide)]
   refine ih (m + 1) H (by omega) (by omega) fun H' => ?_
   have := hK H'
   simpa [hasB, h] using this
theorem rhas_ok (l : List ByteArray) (hl : l.length ≤ reachBytes) (s : ByteArray) (H : Hp) : Good Tryz.prog σ n_ref9_has [strs l, Sx s] H (Bo (hasB l s)) H := by
 refine good_by (fun K hK => ref9_has.run ?_) (by simp [noIds, noId]) rfl H
 exact rhas_L0 hl 0 _ _ rfl (Nat.zero_le _) (by simpa using hK)
theorem far_ok {p a b : Int} (hp : i64 p) (ha : i64 a) (hb : i64 b) (h0 : a ≠ 0) (H : Hp) : Good Tryz.prog σ n_ref9_far [I p, I a, I b] H (Bo (nthB p a b)) H := by
 refine good_by (fun K hK => ref9_far.run ?_) (by simp [noIds, noId]) rfl H
 unfold i64 at hp ha hb
 unfold nthB at hK
 rw [if_neg h0] at hK
 simp
 split
 ·rename_i h
  subst h
  split at hK
  ·simpa using hK _
  ·simpa using hK _
 rename_i hne
 by_cases hb' : b < p <;> by_cases h3 : 0 < a
 ·simp only [hb', h3, decide_true, not_true, if_true, if_false]
  have h2 : ¬ (a < 0) := by omega
  rw [if_pos h3] at hK
  have e1 : wr .u64 a = a := wrU_in (by omega) (by omega)
  have e2 : (p - b) % 18446744073709551616 = p - b := by omega
  rw [if_neg h2]
  rw [subU, e1, e2]
  refine ref9_far.J0_step ?_
  rw [b_rem _ _ _ h0, bnd_some, b_eql, bnd_some]
  have e3 : (p - b).tmod a = (p - b) % a := Int.tmod_eq_emod_of_nonneg (by omega)
  rw [e3]
  have h5 : b ≤ p := by omega
  simpa [h5] using hK Hp.empty
 ·have hbp : ¬ (p ≤ b) := by omega
  rw [if_neg h3] at hK
  simp [hb', h3]
  simpa [hbp] using hK Hp.empty
 ·have hbp : ¬ (b ≤ p) := by omega
  rw [if_pos h3] at hK
  simp [hb', h3]
  simpa [hbp] using hK Hp.empty
 ·simp only [hb', h3, decide_false, not_true, if_true, if_false]
  have h2 : a < 0 := by omega
  rw [if_neg h3] at hK
  have e1 : wr .u64 (-wr .u64 a) = -a := by rw [wrU, wrU]; omega
  have e2 : (b - p) % 18446744073709551616 = b - p := by omega
  have h3' : (-a) ≠ 0 := by omega
  rw [if_pos h2]
  rw [subU, e2, e1]
  refine ref9_far.J0_step ?_
  rw [b_rem _ _ _ h3', bnd_some, b_eql, bnd_some]
  have e3 : (b - p).tmod (-a) = (b - p) % (-a) := Int.tmod_eq_emod_of_nonneg (by omega)
  rw [e3]
  have h5 : p ≤ b := by omega
  simpa [h5] using hK Hp.empty
theorem nthQ {p a b : Int} (h0 : a ≠ 0) : nthB p a b = (decide ((p - b).tmod a = 0) && decide (0 ≤ (p - b).tdiv a)) := by
 unfold nthB
 rw [if_neg h0]
 by_cases hdv : a ∣ p - b
 ·obtain ⟨q, hq⟩ := hdv
  have e1 : (p - b).tmod a = 0 := Int.tmod_eq_zero_of_dvd ⟨q, hq⟩
  have e2 : (p - b).tdiv a = q := by rw [hq]; exact Int.mul_tdiv_cancel_left q h0
  have e3 : (p - b) % a = 0 := Int.emod_eq_zero_of_dvd ⟨q, hq⟩
  have e4 : (b - p) % (-a) = 0 := Int.emod_eq_zero_of_dvd ⟨q, by rw [Int.neg_mul, ← hq]; omega⟩
  rw [e1, e2, e3, e4]
  simp only [decide_true, Bool.and_true, Bool.true_and]
  split
  ·rename_i h
   by_cases h2 : 0 ≤ q
   ·have := Int.mul_nonneg (by omega : 0 ≤ a) h2
    simp [h2]; omega
   ·have := Int.mul_neg_of_pos_of_neg h (by omega : q < 0)
    simp [h2]; omega
  ·rename_i h
   by_cases h2 : 0 ≤ q
   ·have := Int.mul_nonneg (by omega : 0 ≤ -a) h2
    rw [Int.neg_mul] at this
    simp [h2]; omega
   ·have := Int.mul_neg_of_pos_of_neg (by omega : 0 < -a) (by omega : q < 0)
    rw [Int.neg_mul] at this
    simp [h2]; omega
 ·have e1 : ¬ ((p - b).tmod a = 0) := fun h => hdv (Int.dvd_of_tmod_eq_zero h)
  have e3 : ¬ ((p - b) % a = 0) := fun h => hdv (Int.dvd_of_emod_eq_zero h)
  have e4 : ¬ ((b - p) % (-a) = 0) := fun h => hdv (by
   obtain ⟨q, hq⟩ := Int.dvd_of_emod_eq_zero h
   exact ⟨q, by rw [Int.neg_mul] at hq; omega⟩)
  have e5 : ¬ ((b - p) % a = 0) := fun h => e4 (by rw [Int.emod_neg]; exact h)
  simp [e1, e3, e5]
theorem rnth_ok {p a b : Int} (hp : 0 ≤ p ∧ p ≤ 5000) (ha : i64 a) (hb : i64 b) (H : Hp) : Good Tryz.prog σ n_ref9_nth [I p, I a, I b] H (Bo (nthB p a b)) H := by
 refine good_by (fun K hK => ref9_nth.run ?_) (by simp [noIds, noId]) rfl H
 have hp64 : i64 p := ⟨by omega, by omega⟩
 simp only [b_eql, bnd_some, ifB_lit, decide_eq_true_eq, b_gtr, b_lss]
 split
 ·rename_i h
  have := hK Hp.empty
  rwa [show nthB p a b = decide (p = b) by unfold nthB; rw [if_pos h]] at this
 rename_i h0
 split
 ·exact callK_of (far_ok hp64 ha hb h0 _) (hK _)
 rename_i h1
 split
 ·exact callK_of (far_ok hp64 ha hb h0 _) (hK _)
 rename_i h2
 split
 ·exact callK_of (far_ok hp64 ha hb h0 _) (hK _)
 rename_i h3
 split
 ·exact callK_of (far_ok hp64 ha hb h0 _) (hK _)
 rename_i h4
 have e1 : wr .i64 (p - b) = p - b := by rw [wr64 (by omega) (by omega)]
 have hq : wr .i64 ((p - b).tdiv a) = (p - b).tdiv a := by
  have hn : ((p - b).tdiv a).natAbs ≤ (p - b).natAbs := by
   rw [Int.natAbs_tdiv]
   exact Nat.div_le_self _ _
  rw [wr64 (by omega) (by omega)]
 simp only [b_sub, bnd_some, e1]
 rw [b_rem _ _ _ h0, bnd_some, b_eql, bnd_some]
 have hK := hK Hp.empty
 rw [nthQ h0] at hK
 simp only [ifB_lit, decide_eq_true_eq]
 split
 ·rename_i h5
  rw [b_quo _ _ _ h0, bnd_some, hq]
  simpa [h5] using hK
 ·rename_i h5
  simpa [h5] using hK
end Go.Proofs.YtaoegkmfgfefgaaGreat.Ev
namespace Go.Proofs.YtaoegkmfgfefgaaGreat.Ev
set_option linter.unusedVariables false
set_option linter.unusedSimpArgs false
variable {σ : Sig}
theorem in_ok (s x : ByteArray) (hs : s.data.size < 4294967281) (hx : x.data.size ≤ reachBytes) (h0 : tl x ≠ []) (H : Hp) : Good Tryz.prog σ n_ref9_in [Sx s, Sx x] H (Bo (decide (0 ≤ Go.Lib.index (tl s) (tl x)))) H := by
 refine good_by (fun K hK => ref9_in.run ?_) (by simp [noIds, noId]) rfl H
 have hr := reach_eq
 have L0 : ∀ (k m : Nat) (H : Hp), s.data.size + 1 - m = k → m ≤ s.data.size + 1 → (∀ j, j < m → Go.Lib.occAt (tl s) (tl x) j = false) → ref9_in.L0 σ K (Sx s) (Sx x) (I (m : Int)) H := by
  intro k
  induction k with
  | zero =>
   intro m H hk hm hall
   have e1 : wr .i64 ((m : Int) + (x.data.size : Int)) = (m : Int) + x.data.size := by rw [wr64 (by omega) (by omega)]
   refine ref9_in.L0_step ?_
   have hn : ¬ ((m : Int) + x.data.size ≤ s.data.size) := by omega
   simp only [len_str, bnd_some, b_add, e1, b_leq, hn, decide_false, ifB_lit, Bool.false_eq_true, if_false]
   have := Go.Lib.index_none (s := tl s) (sub := tl x) fun j hj => hall j (by rw [tl_len] at hj; omega)
   rw [this] at hK
   exact hK _
  | succ k ih =>
   intro m H hk hm hall
   have e1 : wr .i64 ((m : Int) + (x.data.size : Int)) = ((m + x.data.size : Nat) : Int) := by rw [wr64 (by omega) (by omega)]; omega
   refine ref9_in.L0_step ?_
   by_cases hle : m + x.data.size ≤ s.data.size
   ·have hle' : ((m + x.data.size : Nat) : Int) ≤ (s.data.size : Int) := by omega
    simp only [len_str, bnd_some, b_add, e1, b_leq, hle', decide_true, ifB_lit, if_true]
    rw [sl_str (by omega) hle, bnd_some]
    simp only [b_seql, bnd_some, ifB_lit, decide_eq_true_eq]
    have ho := Go.Lib.occAt_iff_take (tl s) (tl x) m (by rw [tl_len, tl_len]; exact hle)
    rw [show m + x.data.size - m = x.data.size by omega]
    rw [tl_len] at ho
    split
    ·rename_i h
     have h2 : ((tl s).drop m).take x.data.size = tl x := by
      have := congrArg tl h
      rwa [tl_mk] at this
     rw [h2] at ho
     have := Go.Lib.index_first (s := tl s) (sub := tl x) (i := m) (by rw [tl_len]; omega) (by rw [ho]; simp) hall
     rw [this] at hK
     simpa using hK H
    ·rename_i h
     have h2 : ¬ ((tl s).drop m).take x.data.size = tl x := fun e => h (by rw [e, mk_tl])
     rw [wr_succ (by omega)]
     refine ih (m + 1) H (by omega) (by omega) fun j hj => ?_
     by_cases hjm : j < m
     ·exact hall j hjm
     ·have : j = m := by omega
      subst this
      rw [ho]
      simpa using h2
   ·have hle' : ¬ ((m + x.data.size : Nat) : Int) ≤ (s.data.size : Int) := by omega
    simp only [len_str, bnd_some, b_add, e1, b_leq, hle', decide_false, ifB_lit, Bool.false_eq_true, if_false]
    have := Go.Lib.index_none (s := tl s) (sub := tl x) fun j hj => by
     by_cases hjm : j < m
     ·exact hall j hjm
     ·cases ho : Go.Lib.occAt (tl s) (tl x) j with
      | false => rfl
      | true =>
       rcases Go.Lib.occAt_room ho with h | h
       ·rw [tl_len, tl_len] at h; omega
       ·exact absurd h h0
    rw [this] at hK
    exact hK _
 exact L0 _ 0 _ rfl (Nat.zero_le _) fun j hj => by omega
theorem wl_all : ∀ {l : List UInt8} {n : Nat}, (∀ k, k < n → ∃ c, l[k]? = some c ∧ wht c = false) → (∀ c, l[n]? = some c → wht c = true) → wl l = n
 | [], n, h, _ => by
  cases n with
  | zero => rfl
  | succ n =>
   obtain ⟨c, hc, _⟩ := h 0 (by omega)
   simp at hc
 | c :: l, 0, _, h => by
  have := h c (by simp)
  simp [wl, List.takeWhile, nw, this]
 | c :: l, n + 1, h, h2 => by
  obtain ⟨c', hc, hw⟩ := h 0 (by omega)
  simp at hc
  subst hc
  have ih := wl_all (l := l) (n := n) (fun k hk => by
   obtain ⟨c', h1, h2⟩ := h (k + 1) (by omega)
   exact ⟨c', by simpa using h1, h2⟩) fun c' hc' => h2 c' (by simpa using hc')
  unfold wl at ih ⊢
  rw [List.takeWhile_cons]
  simp [nw, hw] at ih ⊢
  exact ih
def encW (w : List UInt8) : List AV := [Sx (mk w)]
theorem rwords_ok (s : ByteArray) (hs : s.data.size < 4294967281) (H : Hp) : Good Tryz.prog σ n_ref9_words [Sx s] H (.imm 1 ((wordsB (tl s)).map encW)) H := by
 obtain ⟨Q, hQ⟩ : ∃ Q : AV → Hp → Prop, ∀ r H1, Q r H1 ↔ Gs 1 H1 r ((wordsB (tl s)).map encW) := ⟨_, fun _ _ => Iff.rfl⟩
 have run : ∃ r H1, Good Tryz.prog σ n_ref9_words [Sx s] Hp.empty r H1 ∧ Q r H1 := by
  refine ref9_words.run ?_
  have L0 : ∀ (k i fr : Nat) (H : Hp) (y3 : AV) (out : List (List UInt8)), s.data.size + 1 - i = k → i ≤ s.data.size + 1 → fr ≤ i → Gs 1 H y3 (out.map encW) → out.length ≤ fr → wordsB (tl s) = out ++ wordsB ((tl s).drop fr) → (∀ j, fr ≤ j → j < i → ∃ c, (tl s)[j]? = some c ∧ wht c = false) → ref9_words.L0 σ Q (Sx s) y3 (I (fr : Int)) (I (i : Int)) H := by
   intro k
   induction k with
   | zero =>
    intro i fr H y3 out hk hi hfr hg ho hw hall
    have : i = s.data.size + 1 := by omega
    subst this
    refine ref9_words.L0_step ?_
    have hn : ¬ (((s.data.size + 1 : Nat) : Int) ≤ (s.data.size : Int)) := by omega
    simp only [len_str, bnd_some, b_leq, hn, decide_false, ifB_lit, Bool.false_eq_true, if_false]
    by_cases hf : fr ≤ s.data.size
    ·obtain ⟨c, hc, _⟩ := hall s.data.size hf (by omega)
     have := (List.getElem?_eq_some_iff.1 hc).1
     rw [tl_len] at this
     omega
    ·rw [List.drop_eq_nil_of_le (by rw [tl_len]; omega), wordsB_nil, List.append_nil] at hw
     rw [hQ, hw]
     exact hg
   | succ k ih =>
    intro i fr H y3 out hk hi hfr hg ho hw hall
    have hle : (i : Int) ≤ (s.data.size : Int) := by omega
    have fin : ∀ (H : Hp), Gs 1 H y3 (out.map encW) → (∀ c, (tl s)[i]? = some c → wht c = true) → ifB (Bo (decide ((fr : Int) < (i : Int)))) (bnd (slStr (Sx s) (some (I (fr : Int))) (some (I (i : Int)))) fun x6 => bnd (bldSlR [.string ⟨#[]⟩] 1 1 H [(0, 1, x6)]) fun p7 => bnd (appR false 1 16 p7.2 y3 p7.1) fun p8 => ref9_words.J1 σ Q (Sx s) p8.1 (I (fr : Int)) (I (i : Int)) p8.2) (ref9_words.J1 σ Q (Sx s) y3 (I (fr : Int)) (I (i : Int)) H) := by
     intro H hg hend
     have hwl : wl ((tl s).drop fr) = i - fr := wl_all (fun k hk => by
      rw [List.getElem?_drop]
      exact hall (fr + k) (by omega) (by omega)) fun c hc => hend c (by
       rw [List.getElem?_drop] at hc
       rwa [show fr + (i - fr) = i by omega] at hc)
     simp only [ifB_lit, decide_eq_true_eq]
     split
     ·rename_i hlt
      have hlt' : fr < i := by omega
      have hne : (tl s).drop fr ≠ [] := by
       intro e
       have := congrArg List.length e
       rw [List.length_drop, tl_len, List.length_nil] at this
       omega
      have hwe := wordsB_eq hne
      rw [hwl, if_neg (by omega), List.drop_drop, show fr + (i - fr + 1) = i + 1 by omega] at hwe
      rw [sl_str (by omega) (by omega), bnd_some]
      refine bnd_app1 (y := Sx (mk (((tl s).drop fr).take (i - fr)))) hg rfl rfl rfl (by simp; omega) (by simp; omega) fun y3' H' hg' _ => ?_
      refine ref9_words.J1_step ?_
      simp only [b_add, bnd_some]
      rw [wr_succ (by omega)]
      refine ref9_words.J2_step ?_
      simp only [b_add, bnd_some]
      rw [wr_succ (by omega)]
      refine ih (i + 1) (i + 1) H' y3' (out ++ [((tl s).drop fr).take (i - fr)]) (by omega) (by omega) (Nat.le_refl _) (by rw [List.map_append]; exact hg') (by simp; omega) ?_ fun j h1 h2 => by omega
      rw [hw, hwe]
      simp
     ·rename_i hlt
      have hfi : fr = i := by omega
      subst hfi
      refine ref9_words.J1_step ?_
      simp only [b_add, bnd_some]
      rw [wr_succ (by omega)]
      refine ref9_words.J2_step ?_
      simp only [b_add, bnd_some]
      rw [wr_succ (by omega)]
      refine ih (fr + 1) (fr + 1) H y3 out (by omega) (by omega) (Nat.le_refl _) hg (by omega) ?_ fun j h1 h2 => by omega
      rw [hw]
      congr 1
      by_cases hne : (tl s).drop fr = []
      ·have : (tl s).drop (fr + 1) = [] := by rw [← List.drop_drop, hne]; rfl
       rw [hne, this]
      ·rw [wordsB_eq hne, hwl, if_pos (by omega), List.drop_drop]
    refine ref9_words.L0_step ?_
    simp only [len_str, bnd_some, b_leq, hle, decide_true, ifB_lit, if_true, b_eql, decide_eq_true_eq, b_gtr]
    split
    ·rename_i he
     have he' : i = s.data.size := by omega
     have := fin H hg fun c hc => by
      have := (List.getElem?_eq_some_iff.1 hc).1
      rw [tl_len] at this
      omega
     simpa only [ifB_lit, decide_eq_true_eq] using this
    ·rename_i he
     have hlt : i < (tl s).length := by rw [tl_len]; omega
     obtain ⟨c, hc⟩ := get_lt hlt
     rw [ix_str hc, bnd_some]
     refine callK_of (blank_ok c _) ?_
     simp only [ifB_lit]
     cases hwc : wht c with
     | true =>
      have := fin H hg fun c' hc' => by rw [hc] at hc'; cases hc'; exact hwc
      simpa only [ifB_lit, decide_eq_true_eq, if_true] using this
     | false =>
      simp only [Bool.false_eq_true, if_false]
      refine ref9_words.J2_step ?_
      simp only [b_add, bnd_some]
      rw [wr_succ (by omega)]
      refine ih (i + 1) fr H y3 out (by omega) (by omega) (by omega) hg ho hw fun j h1 h2 => ?_
      by_cases hj : j < i
      ·exact hall j h1 hj
      ·have : j = i := by omega
       subst this
       exact ⟨c, hc, hwc⟩
  exact L0 _ 0 0 _ _ [] rfl (Nat.zero_le _) (Nat.le_refl _) .nil (Nat.le_refl _) (by simp) fun j h1 h2 => by omega
 obtain ⟨r, H1, hg, hr⟩ := run
 rw [hQ] at hr
 exact hg.frzR (by simp [noIds, noId]) (hr.fz (noIds_map _ (fun _ => rfl) _)) H
end Go.Proofs.YtaoegkmfgfefgaaGreat.Ev
namespace Go.Proofs.YtaoegkmfgfefgaaGreat.Ev
set_option linter.unusedVariables false
set_option linter.unusedSimpArgs false
variable {σ : Sig}
theorem words_mem : ∀ (n : Nat) (l : List UInt8), l.length ≤ n → (wordsB l).length ≤ l.length ∧ ∀ w ∈ wordsB l, w ≠ [] ∧ ∀ c ∈ w, wht c = false
 | 0, l, h => by
  have : l = [] := List.length_eq_zero_iff.1 (by omega)
  subst this
  rw [wordsB_nil]
  exact ⟨Nat.le_refl _, fun w hw => by cases hw⟩
 | n + 1, l, h => by
  by_cases hl : l = []
  ·subst hl
   rw [wordsB_nil]
   exact ⟨Nat.le_refl _, fun w hw => by cases hw⟩
  ·have hpos := List.length_pos_iff.2 hl
   rw [wordsB_eq hl]
   split
   ·obtain ⟨h1, h2⟩ := words_mem n (l.drop 1) (by rw [List.length_drop]; omega)
    rw [List.length_drop] at h1
    exact ⟨by omega, h2⟩
   ·rename_i hw
    obtain ⟨h1, h2⟩ := words_mem n (l.drop (wl l + 1)) (by rw [List.length_drop]; omega)
    rw [List.length_drop] at h1
    refine ⟨by rw [List.length_cons]; omega, fun w hm => ?_⟩
    rcases List.mem_cons.1 hm with rfl | hm
    ·refine ⟨fun e => ?_, fun c hc => ?_⟩
     ·have := congrArg List.length e
      rw [List.length_take, List.length_nil] at this
      have := wl_le l
      omega
     ·obtain ⟨i, hi⟩ := List.getElem?_of_mem hc
      rw [List.getElem?_take] at hi
      split at hi
      ·rename_i hlt
       obtain ⟨c', h3, h4⟩ := wl_lt hlt
       rw [h3] at hi
       cases hi
       exact h4
      ·cases hi
    ·exact h2 w hm
theorem words_one {w : List UInt8} (h0 : w ≠ []) (h : ∀ c ∈ w, wht c = false) : wordsB w = [w] := by
 have hpos := List.length_pos_iff.2 h0
 have hwl : wl w = w.length := wl_all (fun k hk => ⟨w[k], List.getElem?_eq_getElem hk, h _ (List.getElem_mem hk)⟩) fun c hc => by
  have := (List.getElem?_eq_some_iff.1 hc).1
  omega
 rw [wordsB_eq h0, hwl, if_neg (by omega), List.take_length, List.drop_eq_nil_of_le (by omega), wordsB_nil]
theorem words_q (s t : ByteArray) : (match wordsB (tl t) with | [w] => decide (mk w = t) && hasB ((wordsB (tl s)).map mk) t | _ => false) = (!decide (t = emp) && wordB s t) := by
 have hin : hasB ((wordsB (tl s)).map mk) t = wordB s t := by
  unfold hasB wordB
  rw [Bool.eq_iff_iff, List.any_eq_true, decide_eq_true_eq]
  constructor
  ·rintro ⟨x, hx, hd⟩
   obtain ⟨w, hw, rfl⟩ := List.mem_map.1 hx
   rw [decide_eq_true_eq] at hd
   rw [← hd, tl_mk]
   exact hw
  ·exact fun h => ⟨t, List.mem_map.2 ⟨tl t, h, mk_tl t⟩, by simp⟩
 rw [hin]
 by_cases hw : tl t ∈ wordsB (tl s)
 ·obtain ⟨h1, h2⟩ := (words_mem _ (tl s) (Nat.le_refl _)).2 _ hw
  rw [words_one h1 h2]
  have : t ≠ emp := fun e => h1 (by rw [e]; rfl)
  simp [mk_tl, this]
 ·have : wordB s t = false := by unfold wordB; simpa using hw
  rw [this]
  split <;> simp
theorem strs_words (l : List (List UInt8)) : (.imm 1 (l.map encW) : AV) = strs (l.map mk) := by unfold strs; rw [List.map_map]; rfl
theorem rattr_L0 {n : Nd} (hl : n.attrs.length ≤ reachBytes) (ht : ∀ p ∈ n.attrs, p.2.data.size < 4294967281) {a : At} (ha : a.text.data.size < 4294967281) {K : AV → Hp → Prop} {b2 b3 : Nat} : ∀ (k m : Nat) (H : Hp), n.attrs.length - m = k → m ≤ n.attrs.length → H.get b2 = some (.cells (encNd n) true) → H.get b3 = some (.cells (encAt a) true) → (∀ H, K (Bo (attrB (n.attrs.drop m) a)) H) → ref9_attr.L0 σ K (.ptr b2 0) (.ptr b3 0) (I (m : Int)) H := by
 have hre := reach_eq
 intro k
 induction k with
 | zero =>
  intro m H hk hm h2 h3 hK
  have : m = n.attrs.length := by omega
  subst this
  have c2 : ldA false 1 H (.ptr b2 4) = some (.imm 2 (n.attrs.map encPr)) := by simp [h2, encNd]
  refine ref9_attr.L0_step ?_
  simp only [sh_ptr, Nat.zero_add, bnd_some, c2, len_imm, List.length_map, b_lss, Int.lt_irrefl, decide_false, ifB_lit, Bool.false_eq_true, if_false]
  simpa [attrB] using hK H
 | succ k ih =>
  intro m H hk hm h2 h3 hK
  have hlt : m < n.attrs.length := by omega
  obtain ⟨x, hx⟩ := get_lt hlt
  have hxl := ht x (List.mem_of_getElem? hx)
  rw [drop_get hx] at hK
  have h1 : (m : Int) < n.attrs.length := by omega
  have c2 : ldA false 1 H (.ptr b2 4) = some (.imm 2 (n.attrs.map encPr)) := by simp [h2, encNd]
  have d0 : ldA false 1 H (.ptr b3 0) = some (Sx a.name) := by simp [h3]
  have d1 : ldA false 1 H (.ptr b3 1) = some (I a.op) := by simp [h3]
  have d2 : ldA false 1 H (.ptr b3 2) = some (Sx a.text) := by simp [h3, encAt]
  have s0 : shiftA (.ip (encPr x)) 0 = some (.ip (encPr x)) := rfl
  have s1 : shiftA (.ip (encPr x)) 1 = some (.ip [Sx x.2]) := rfl
  have l0 : ldA false 1 H (.ip (encPr x)) = some (Sx x.1) := rfl
  have l1 : ldA false 1 H (.ip [Sx x.2]) = some (Sx x.2) := rfl
  refine ref9_attr.L0_step ?_
  simp only [sh_ptr, Nat.zero_add, bnd_some, c2, len_imm, List.length_map, b_lss, h1, decide_true, ifB_lit, if_true, ix_map hx, s0, s1, l0, l1, d0, d1, d2, b_sneq, b_eql, b_seql, decide_eq_true_eq]
  by_cases hn : x.1 = a.name
  ·have hat : attrB (x :: n.attrs.drop (m + 1)) a = soB x.2 a := by simp [attrB, hn]
   rw [hat] at hK
   simp only [hn, decide_true, Bool.not_true, Bool.false_eq_true, if_false]
   unfold soB at hK
   split
   ·rename_i h; simp only [h, if_true] at hK; exact hK _
   rename_i h0
   simp only [h0, if_false] at hK
   split
   ·rename_i h; simp only [h, if_true] at hK; exact hK _
   rename_i h1
   simp only [h1, if_false] at hK
   split
   ·rename_i h
    simp only [h, if_true] at hK
    rw [← words_q] at hK
    refine callK_of (rwords_ok a.text ha _) ?_
    rw [len_imm, bnd_some, b_eql, bnd_some, List.length_map]
    simp only [ifB_lit, decide_eq_true_eq]
    split
    ·rename_i hl1
     obtain ⟨w, hw⟩ : ∃ w, wordsB (tl a.text) = [w] := List.length_eq_one_iff.1 (by omega)
     rw [hw] at hK
     have hix : ixaSl 1 (.imm 1 ((wordsB (tl a.text)).map encW)) (I 0) = some (.ip (encW w)) := by
      have : (wordsB (tl a.text))[(0 : Nat)]? = some w := by rw [hw]; rfl
      exact ix_map this
     have hlw : ldA false 1 H (.ip (encW w)) = some (Sx (mk w)) := rfl
     rw [hix, bnd_some, hlw, bnd_some, d2, bnd_some, b_seql, bnd_some]
     simp only [ifB_lit, decide_eq_true_eq]
     split
     ·rename_i hq
      refine callK_of (rwords_ok x.2 hxl _) ⟨rfl, ?_⟩
      rw [d2, bnd_some, strs_words]
      have hlen := (words_mem _ (tl x.2) (Nat.le_refl _)).1
      rw [tl_len] at hlen
      refine callK_of (rhas_ok _ (by rw [List.length_map]; omega) _ _) ?_
      simpa [hq] using hK H
     ·rename_i hq
      simpa [hq] using hK H
    ·rename_i hl1
     have : ∀ b : List UInt8 → Bool, (match wordsB (tl a.text) with | [w] => b w | _ => false) = false := fun b => by
      split
      ·rename_i w hw; rw [hw] at hl1; simp at hl1
      ·rfl
     rw [this] at hK
     exact hK _
   rename_i h2'
   simp only [h2', if_false] at hK
   split
   ·rename_i h
    simp only [h, if_true] at hK
    split
    ·rename_i he
     simp [he] at hK
     exact hK _
    ·rename_i he
     simp [he] at hK
     rw [b_sadd (by show a.text.data.size + 1 ≤ _; omega), bnd_some]
     refine callK_of (begins_ok _ _ _) ?_
     rw [tl_mk]
     exact hK _
   rename_i h3'
   simp only [h3', if_false] at hK
   split
   ·rename_i h
    simp only [h, if_true] at hK
    by_cases he : a.text = emp
    ·have he' : a.text = ⟨#[]⟩ := he
     simp [he'] at hK ⊢
     simpa [emp] using hK H
    ·have he' : ¬ (a.text = ⟨#[]⟩) := he
     simp [he'] at hK ⊢
     refine callK_of (begins_ok _ _ _) ?_
     simpa [he] using hK H
   rename_i h4'
   simp only [h4', if_false] at hK
   split
   ·rename_i h
    simp only [h, if_true] at hK
    by_cases he : a.text = emp
    ·have he' : a.text = ⟨#[]⟩ := he
     simp [he'] at hK ⊢
     simpa [emp] using hK H
    ·have he' : ¬ (a.text = ⟨#[]⟩) := he
     simp [he'] at hK ⊢
     refine callK_of (ends_ok _ _ (by omega) _) ?_
     simpa [he] using hK H
   rename_i h5'
   simp only [h5', if_false] at hK
   split
   ·rename_i h
    simp only [h, if_true] at hK
    by_cases he : a.text = emp
    ·have he' : a.text = ⟨#[]⟩ := he
     simp [he'] at hK ⊢
     simpa [emp] using hK H
    ·have he' : ¬ (a.text = ⟨#[]⟩) := he
     simp [he'] at hK ⊢
     refine callK_of (in_ok _ _ hxl (by omega) (fun e => he (tl_inj e)) _) ?_
     simpa [he] using hK H
   ·rename_i h
    simp only [h, if_false] at hK
    exact hK _
  ·have hat : attrB (x :: n.attrs.drop (m + 1)) a = attrB (n.attrs.drop (m + 1)) a := by simp [attrB, hn]
   rw [hat] at hK
   simp only [hn, decide_false, Bool.not_false, if_true, b_add, bnd_some]
   rw [wr_succL hlt hl (by decide)]
   exact ih (m + 1) H (by omega) (by omega) h2 h3 hK
theorem rattr_ok (n : Nd) (hl : n.attrs.length ≤ reachBytes) (ht : ∀ p ∈ n.attrs, p.2.data.size < 4294967281) (a : At) (ha : a.text.data.size < 4294967281) (H : Hp) : Good Tryz.prog σ n_ref9_attr [.agg (encNd n), .agg (encAt a)] H (Bo (attrB n.attrs a)) H := by
 refine good_by (fun K hK => ref9_attr.run ?_) (by simp [noIds, noId, noId_At, noId_Nd]) rfl H
 simp only [boxK_agg]
 exact rattr_L0 hl ht ha _ 0 _ rfl (Nat.zero_le _) (by simp) (by simp) (by simpa using hK)
end Go.Proofs.YtaoegkmfgfefgaaGreat.Ev
namespace Go.Proofs.YtaoegkmfgfefgaaGreat.Ev
set_option linter.unusedVariables false
set_option linter.unusedSimpArgs false
variable {σ : Sig}
theorem root_eq {L : List Nd} {d : List Nat} (hB : Built L L.length d) {e : Nat} (he : e < L.length) : decide ((e : Int) = 0) = decide (par L e < 0) := by
 by_cases h0 : e = 0
 ·subst h0
  rw [(hB.root he).1]
  rfl
 ·obtain ⟨p, x, h1, _⟩ := hB.step e (by omega) he
  rw [h1]
  have a1 : ¬ ((e : Int) = 0) := by omega
  have a2 : ¬ ((p : Int) < 0) := by omega
  simp only [a1, a2]
theorem empty_eq (L : List Nd) (e : Nat) : decide (((kids L L.length e).length : Int) = 0) = decide (childI L e 0 < 0) := by
 unfold childI
 cases kids L L.length e with
 | nil => rfl
 | cons x l =>
  have a1 : ¬ (((x :: l).length : Int) = 0) := by simp; omega
  have a2 : ¬ ((x : Int) < 0) := by omega
  simp only [a1, decide_false, List.getElem?_cons_zero, a2]
theorem rpseudo_ok {L : List Nd} {d : List Nat} (hB : Built L L.length d) (hN : L.length ≤ 4096) {e : Nat} (he : e < L.length) {q : Ps} (hq : i64 q.a ∧ i64 q.b) {dp : Nat} (hd : dp ≤ 100)
  (hA : (q.kind = 7 ∨ q.kind = 8) → ∀ H, Good Tryz.prog σ n_ref9_Tree_any [refT L d, I (e : Int), sls q.list, I ((dp + 1 : Nat) : Int)] H (Bo (AA L q.list e)) H) (H : Hp) :
  Good Tryz.prog σ n_ref9_Tree_pseudo [refT L d, I (e : Int), .agg (encPs q), I (dp : Int)] H (Bo (pseudoB (AA L) L e q)) H := by
 refine good_by (fun K hK => ref9_Tree_pseudo.run ?_) (by simp [noIds, noId, noId_refT, noId_Ps]) rfl H
 have hpl := place_bd L e
 obtain ⟨H1, hH1⟩ : ∃ H1, H1 = Hp.empty.new (.cells (encPs q) true) := ⟨_, rfl⟩
 have hg : H1.get Hp.empty.n = some (.cells (encPs q) true) := by rw [hH1]; simp
 simp only [boxK_agg]
 rw [← hH1]
 generalize Hp.empty.n = b at hg
 have d0 : ldA false 1 H1 (.ptr b 0) = some (I q.kind) := by simp [hg]
 have d1 : ldA false 1 H1 (.ptr b 1) = some (I q.a) := by simp [hg]
 have d2 : ldA false 1 H1 (.ptr b 2) = some (I q.b) := by simp [hg]
 have d3 : ldA false 1 H1 (.ptr b 3) = some (sls q.list) := by simp [hg]; rfl
 simp only [sh_ptr, Nat.zero_add, bnd_some, d0, d1, d2, b_eql, ifB_lit, decide_eq_true_eq]
 unfold pseudoB at hK
 split
 ·rename_i h
  simp only [h, if_true] at hK
  rw [root_eq hB he]
  exact hK _
 rename_i h1
 simp only [h1, if_false] at hK
 split
 ·rename_i h
  simp only [h, if_true] at hK
  refine callK_of (rPlace_ok L d hN he _) ?_
  rw [b_eql, bnd_some]
  exact hK _
 rename_i h2
 simp only [h2, if_false] at hK
 split
 ·rename_i h
  simp only [h, if_true] at hK
  exact callK_of (rlast_ok L d hB hN he _) (hK _)
 rename_i h3
 simp only [h3, if_false] at hK
 split
 ·rename_i h
  simp only [h, if_true] at hK
  refine callK_of (rPlace_ok L d hN he _) ?_
  simp only [b_eql, bnd_some, ifB_lit, decide_eq_true_eq]
  split
  ·rename_i hp
   refine callK_of (rlast_ok L d hB hN he _) ?_
   simpa [hp] using hK H1
  ·rename_i hp
   simpa [hp] using hK H1
 rename_i h4
 simp only [h4, if_false] at hK
 split
 ·rename_i h
  simp only [h, if_true] at hK
  refine callK_of (rChildren_ok L d hB hN he _) ?_
  have : lenSl (ints (kids L L.length e)) = some (I ((kids L L.length e).length : Int)) := by unfold ints; simp
  rw [this, bnd_some, b_eql, bnd_some, empty_eq]
  exact hK _
 rename_i h5
 simp only [h5, if_false] at hK
 split
 ·rename_i h
  simp only [h, if_true] at hK
  refine callK_of (rPlace_ok L d hN he _) ⟨rfl, ?_⟩
  rw [d1, bnd_some]
  refine ⟨rfl, ?_⟩
  rw [d2, bnd_some]
  exact callK_of (rnth_ok (by omega) hq.1 hq.2 _) (hK _)
 rename_i h6
 simp only [h6, if_false] at hK
 have J0 : ∀ c : Bool, (c = true ↔ (q.kind = 7 ∨ q.kind = 8)) → ref9_Tree_pseudo.J0 σ K (refT L d) (I (e : Int)) (I (dp : Int)) (.ptr b 0) (Bo c) H1 := by
  intro c hc
  refine ref9_Tree_pseudo.J0_step ?_
  simp only [ifB_lit]
  by_cases hk : q.kind = 7 ∨ q.kind = 8
  ·rw [hc.2 hk]
   simp only [if_true, sh_ptr, Nat.zero_add, bnd_some, d3, b_add]
   rw [wr_succ (by omega)]
   refine callK_of (hA hk _) ?_
   simp only [d0, bnd_some, b_eql]
   by_cases h7 : q.kind = 7
   ·have h8 : ¬ (q.kind = 8) := by omega
    simp only [h7, if_true] at hK
    have := hK H1
    simp only [h8, decide_false]
    cases hb : AA L q.list e <;> simpa [hb] using this
   ·have h8 : q.kind = 8 := by omega
    simp only [h7, h8, if_false, if_true] at hK
    have := hK H1
    simp only [h8, decide_true]
    cases hb : AA L q.list e <;> simpa [hb] using this
  ·have : c = false := by
    cases c with
    | false => rfl
    | true => exact absurd (hc.1 rfl) hk
   subst this
   have h7 : ¬ (q.kind = 7) := fun h => hk (.inl h)
   have h8 : ¬ (q.kind = 8) := fun h => hk (.inr h)
   simp only [h7, h8, if_false] at hK
   simpa using hK H1
 split
 ·rename_i h
  exact J0 _ (by simp [h])
 ·rename_i h
  exact J0 _ (by simp [h])
end Go.Proofs.YtaoegkmfgfefgaaGreat.Ev
namespace Go.Proofs.YtaoegkmfgfefgaaGreat.Ev
set_option linter.unusedVariables false
set_option linter.unusedSimpArgs false
variable {σ : Sig}
section
variable {L : List Nd} {d : List Nat} {e : Nat} {c : Cp} {n : Nd} {dp : Nat} {b6 b9 : Nat} {K : AV → Hp → Prop}
theorem rc_L3 (hps : c.pseudos.length ≤ reachBytes) (hP : ∀ q ∈ c.pseudos, ∀ H, Good Tryz.prog σ n_ref9_Tree_pseudo [refT L d, I (e : Int), .agg (encPs q), I (dp : Int)] H (Bo (pseudoB (AA L) L e q)) H) {y10 y11 y12 : AV} : ∀ (k m : Nat) (H : Hp), c.pseudos.length - m = k → m ≤ c.pseudos.length → H.get b6 = some (.cells (encCp c) true) → (∀ H, K (Bo ((c.pseudos.drop m).all (pseudoB (AA L) L e))) H) →
  ref9_Tree_compound.L3 σ K (refT L d) (I (e : Int)) (I (dp : Int)) (.ptr b6 0) (.ptr b9 0) y10 y11 y12 (I (m : Int)) H := by
 intro k
 induction k with
 | zero =>
  intro m H hk hm h6 hK
  have : m = c.pseudos.length := by omega
  subst this
  have d4 : ldA false 1 H (.ptr b6 4) = some (.imm 4 (c.pseudos.map encPs)) := by simp [h6]
  refine ref9_Tree_compound.L3_step ?_
  simp only [sh_ptr, Nat.zero_add, bnd_some, d4, len_imm, List.length_map, b_lss, Int.lt_irrefl, decide_false, ifB_lit, Bool.false_eq_true, if_false]
  simpa using hK H
 | succ k ih =>
  intro m H hk hm h6 hK
  have hlt : m < c.pseudos.length := by omega
  obtain ⟨q, hq⟩ := get_lt hlt
  rw [drop_get hq, List.all_cons] at hK
  have hlt' : (m : Int) < c.pseudos.length := by omega
  have d4 : ldA false 1 H (.ptr b6 4) = some (.imm 4 (c.pseudos.map encPs)) := by simp [h6]
  refine ref9_Tree_compound.L3_step ?_
  simp only [sh_ptr, Nat.zero_add, bnd_some, d4, len_imm, List.length_map, b_lss, hlt', decide_true, ifB_lit, if_true, ix_map hq, ld_ip, ldL_ps]
  refine callK_of (hP q (List.mem_of_getElem? hq) _) ?_
  simp only [u_not, bnd_some, ifB_lit]
  cases hb : pseudoB (AA L) L e q with
  | false => rw [hb] at hK; simpa using hK H
  | true =>
   rw [hb] at hK
   simp only [Bool.not_true, Bool.false_eq_true, if_false, b_add, bnd_some]
   rw [wr_succL hlt hps (by decide)]
   exact ih (m + 1) H (by omega) (by omega) h6 (by simpa using hK)
theorem rc_L2 (has : c.attrs.length ≤ reachBytes) (hps : c.pseudos.length ≤ reachBytes) (hn : SmN n) (ha : ∀ a ∈ c.attrs, a.text.data.size < 4294967281) (hP : ∀ q ∈ c.pseudos, ∀ H, Good Tryz.prog σ n_ref9_Tree_pseudo [refT L d, I (e : Int), .agg (encPs q), I (dp : Int)] H (Bo (pseudoB (AA L) L e q)) H) {y10 y11 y14 : AV} : ∀ (k m : Nat) (H : Hp), c.attrs.length - m = k → m ≤ c.attrs.length → H.get b6 = some (.cells (encCp c) true) → H.get b9 = some (.cells (encNd n) true) → (∀ H, K (Bo ((c.attrs.drop m).all (attrB n.attrs) && c.pseudos.all (pseudoB (AA L) L e))) H) →
  ref9_Tree_compound.L2 σ K (refT L d) (I (e : Int)) (I (dp : Int)) (.ptr b6 0) (.ptr b9 0) y10 y11 (I (m : Int)) y14 H := by
 intro k
 induction k with
 | zero =>
  intro m H hk hm h6 h9 hK
  have : m = c.attrs.length := by omega
  subst this
  have d3 : ldA false 1 H (.ptr b6 3) = some (.imm 3 (c.attrs.map encAt)) := by simp [h6]
  refine ref9_Tree_compound.L2_step ?_
  simp only [sh_ptr, Nat.zero_add, bnd_some, d3, len_imm, List.length_map, b_lss, Int.lt_irrefl, decide_false, ifB_lit, Bool.false_eq_true, if_false]
  exact rc_L3 hps hP _ 0 H rfl (Nat.zero_le _) h6 (by simpa using hK)
 | succ k ih =>
  intro m H hk hm h6 h9 hK
  have hlt : m < c.attrs.length := by omega
  obtain ⟨a, hq⟩ := get_lt hlt
  rw [drop_get hq, List.all_cons] at hK
  have hlt' : (m : Int) < c.attrs.length := by omega
  have d3 : ldA false 1 H (.ptr b6 3) = some (.imm 3 (c.attrs.map encAt)) := by simp [h6]
  have d9 : ldA true 5 H (.ptr b9 0) = some (.agg (encNd n)) := by simp only [ld_ptr, h9, ldO_cells, List.drop_zero, ldL_nd]
  refine ref9_Tree_compound.L2_step ?_
  simp only [sh_ptr, Nat.zero_add, bnd_some, d3, d9, len_imm, List.length_map, b_lss, hlt', decide_true, ifB_lit, if_true, ix_map hq, ld_ip, ldL_at]
  refine callK_of (rattr_ok n hn.attrs hn.texts a (ha a (List.mem_of_getElem? hq)) _) ?_
  simp only [u_not, bnd_some, ifB_lit]
  cases hb : attrB n.attrs a with
  | false => rw [hb] at hK; simpa using hK H
  | true =>
   rw [hb] at hK
   simp only [Bool.not_true, Bool.false_eq_true, if_false, b_add, bnd_some]
   rw [wr_succL hlt has (by decide)]
   exact ih (m + 1) H (by omega) (by omega) h6 h9 (by simpa using hK)
structure RcOk (c : Cp) : Prop where
 ids : c.ids.length ≤ reachBytes
 classes : c.classes.length ≤ reachBytes
 attrs : c.attrs.length ≤ reachBytes
 ps : c.pseudos.length ≤ reachBytes
 texts : ∀ a ∈ c.attrs, a.text.data.size < 4294967281
theorem rc_L1 (hc : RcOk c) (hn : SmN n) (hP : ∀ q ∈ c.pseudos, ∀ H, Good Tryz.prog σ n_ref9_Tree_pseudo [refT L d, I (e : Int), .agg (encPs q), I (dp : Int)] H (Bo (pseudoB (AA L) L e q)) H) {y10 y12 y14 : AV} : ∀ (k m : Nat) (H : Hp), c.classes.length - m = k → m ≤ c.classes.length → H.get b6 = some (.cells (encCp c) true) → H.get b9 = some (.cells (encNd n) true) → (∀ H, K (Bo ((c.classes.drop m).all (hasB n.classes) && (c.attrs.all (attrB n.attrs) && c.pseudos.all (pseudoB (AA L) L e)))) H) →
  ref9_Tree_compound.L1 σ K (refT L d) (I (e : Int)) (I (dp : Int)) (.ptr b6 0) (.ptr b9 0) y10 (I (m : Int)) y12 y14 H := by
 intro k
 induction k with
 | zero =>
  intro m H hk hm h6 h9 hK
  have : m = c.classes.length := by omega
  subst this
  have d2 : ldA false 1 H (.ptr b6 2) = some (.imm 1 (c.classes.map fun s => [Sx s])) := by simp [h6, encCp_eq, strs]
  refine ref9_Tree_compound.L1_step ?_
  simp only [sh_ptr, Nat.zero_add, bnd_some, d2, len_imm, List.length_map, b_lss, Int.lt_irrefl, decide_false, ifB_lit, Bool.false_eq_true, if_false]
  exact rc_L2 hc.attrs hc.ps hn hc.texts hP _ 0 H rfl (Nat.zero_le _) h6 h9 (by simpa using hK)
 | succ k ih =>
  intro m H hk hm h6 h9 hK
  have hlt : m < c.classes.length := by omega
  obtain ⟨x, hq⟩ := get_lt hlt
  rw [drop_get hq, List.all_cons] at hK
  have hlt' : (m : Int) < c.classes.length := by omega
  have d2 : ldA false 1 H (.ptr b6 2) = some (.imm 1 (c.classes.map fun s => [Sx s])) := by simp [h6, encCp_eq, strs]
  have d9 : ldA false 1 H (.ptr b9 3) = some (strs n.classes) := by simp [h9, encNd]
  have lx : ldA false 1 H (.ip [Sx x]) = some (Sx x) := rfl
  have hix : ixaSl 1 (.imm 1 (c.classes.map fun s => [Sx s])) (I (m : Int)) = some (.ip [Sx x]) := ix_map hq
  refine ref9_Tree_compound.L1_step ?_
  simp only [sh_ptr, Nat.zero_add, bnd_some, d2, d9, len_imm, List.length_map, b_lss, hlt', decide_true, ifB_lit, if_true, hix, lx]
  refine callK_of (rhas_ok n.classes hn.classes x _) ?_
  simp only [u_not, bnd_some, ifB_lit]
  cases hb : hasB n.classes x with
  | false => rw [hb] at hK; simpa using hK H
  | true =>
   rw [hb] at hK
   simp only [Bool.not_true, Bool.false_eq_true, if_false, b_add, bnd_some]
   rw [wr_succL hlt hc.classes (by decide)]
   exact ih (m + 1) H (by omega) (by omega) h6 h9 (by simpa using hK)
theorem rc_L0 (hc : RcOk c) (hn : SmN n) (hP : ∀ q ∈ c.pseudos, ∀ H, Good Tryz.prog σ n_ref9_Tree_pseudo [refT L d, I (e : Int), .agg (encPs q), I (dp : Int)] H (Bo (pseudoB (AA L) L e q)) H) {y11 y12 y14 : AV} : ∀ (k m : Nat) (H : Hp), c.ids.length - m = k → m ≤ c.ids.length → H.get b6 = some (.cells (encCp c) true) → H.get b9 = some (.cells (encNd n) true) → (∀ H, K (Bo ((c.ids.drop m).all (idB n) && (c.classes.all (hasB n.classes) && (c.attrs.all (attrB n.attrs) && c.pseudos.all (pseudoB (AA L) L e))))) H) →
  ref9_Tree_compound.L0 σ K (refT L d) (I (e : Int)) (I (dp : Int)) (.ptr b6 0) (.ptr b9 0) (I (m : Int)) y11 y12 y14 H := by
 intro k
 induction k with
 | zero =>
  intro m H hk hm h6 h9 hK
  have : m = c.ids.length := by omega
  subst this
  have d2 : ldA false 1 H (.ptr b6 1) = some (.imm 1 (c.ids.map fun s => [Sx s])) := by simp [h6, encCp_eq, strs]
  refine ref9_Tree_compound.L0_step ?_
  simp only [sh_ptr, Nat.zero_add, bnd_some, d2, len_imm, List.length_map, b_lss, Int.lt_irrefl, decide_false, ifB_lit, Bool.false_eq_true, if_false]
  exact rc_L1 hc hn hP _ 0 H rfl (Nat.zero_le _) h6 h9 (by simpa using hK)
 | succ k ih =>
  intro m H hk hm h6 h9 hK
  have hlt : m < c.ids.length := by omega
  obtain ⟨x, hq⟩ := get_lt hlt
  rw [drop_get hq, List.all_cons] at hK
  have hlt' : (m : Int) < c.ids.length := by omega
  have d2 : ldA false 1 H (.ptr b6 1) = some (.imm 1 (c.ids.map fun s => [Sx s])) := by simp [h6, encCp_eq, strs]
  have d9 : ldA false 1 H (.ptr b9 2) = some (Sx n.id) := by simp [h9, encNd]
  have lx : ldA false 1 H (.ip [Sx x]) = some (Sx x) := rfl
  have hix : ixaSl 1 (.imm 1 (c.ids.map fun s => [Sx s])) (I (m : Int)) = some (.ip [Sx x]) := ix_map hq
  refine ref9_Tree_compound.L0_step ?_
  simp only [sh_ptr, Nat.zero_add, bnd_some, d2, d9, len_imm, List.length_map, b_lss, hlt', decide_true, ifB_lit, if_true, hix, lx, b_sneq, b_seql]
  by_cases h1 : x = n.id
  ·by_cases h2 : n.id = emp
   ·have h2' : n.id = ⟨#[]⟩ := h2
    have hid : idB n x = false := by unfold idB; rw [h1, h2]; simp
    rw [hid] at hK
    simp only [h1, h2', decide_true, Bool.not_true, Bool.false_eq_true, if_false, if_true]
    simpa using hK H
   ·have h2' : ¬ (n.id = ⟨#[]⟩) := h2
    have hid : idB n x = true := by unfold idB; rw [h1]; simp [h2]
    rw [hid] at hK
    simp only [h1, h2', decide_true, decide_false, Bool.not_true, Bool.false_eq_true, if_false, b_add, bnd_some]
    rw [wr_succL hlt hc.ids (by decide)]
    exact ih (m + 1) H (by omega) (by omega) h6 h9 (by simpa using hK)
  ·have hid : idB n x = false := by unfold idB; simp [h1]
   rw [hid] at hK
   simp only [h1, decide_false, Bool.not_false, if_true]
   simpa using hK H
end
end Go.Proofs.YtaoegkmfgfefgaaGreat.Ev
namespace Go.Proofs.YtaoegkmfgfefgaaGreat.Ev
set_option linter.unusedVariables false
set_option linter.unusedSimpArgs false
variable {σ : Sig}
section
attribute [local irreducible] ref9_Tree_compound.L0
theorem rcomp_ok {L : List Nd} {d : List Nat} (hB : Built L L.length d) (hN : L.length ≤ 4096) {e : Nat} (he : e < L.length) (hn : SmN (lowN (ndAt L e))) {c : Cp} (hc : RcOk c) (hq : ∀ q ∈ c.pseudos, i64 q.a ∧ i64 q.b) {dp : Nat} (hd : dp ≤ 100)
  (hA : ∀ q ∈ c.pseudos, (q.kind = 7 ∨ q.kind = 8) → ∀ H, Good Tryz.prog σ n_ref9_Tree_any [refT L d, I (e : Int), sls q.list, I ((dp + 1 : Nat) : Int)] H (Bo (AA L q.list e)) H) (H : Hp) :
  Good Tryz.prog σ n_ref9_Tree_compound [refT L d, I (e : Int), .agg (encCp c), I (dp : Int)] H (Bo (compB (AA L) L e c)) H := by
 refine good_by (fun K hK => ref9_Tree_compound.run ?_) (by simp [noIds, noId, noId_refT, noId_Cp]) rfl H
 have hP : ∀ q ∈ c.pseudos, ∀ H, Good Tryz.prog σ n_ref9_Tree_pseudo [refT L d, I (e : Int), .agg (encPs q), I (dp : Int)] H (Bo (pseudoB (AA L) L e q)) H := fun q h => rpseudo_ok hB hN he (hq q h) hd (hA q h)
 simp only [boxK_agg]
 refine callK_of (ris_t L d he _) ?_
 simp only [u_not, bnd_some, ifB_lit, Bool.not_true, Bool.false_eq_true, if_false, rnilp, rsh, rld, rix he, ld_ip, ldL_nd, allocK_eq, st_agg, len_encNd, if_true]
 rw [hp_get_new, if_pos rfl]
 simp only [stO_cells, len_encNd, one_Nd]
 rw [if_pos ⟨by decide, trivial⟩]
 rw [overlay_all (by rfl)]
 simp only [bnd_some]
 obtain ⟨H3, hH3⟩ : ∃ H3, H3 = ((Hp.empty.new (.cells (encCp c) true)).new (.cells [I 0, .lit (.string ⟨#[]⟩), .lit (.string ⟨#[]⟩), .lit (.slice none 0 0), .lit (.slice none 0 0)] true)).set (Hp.empty.new (.cells (encCp c) true)).n (some (.cells (encNd (lowN (ndAt L e))) true)) := ⟨_, rfl⟩
 have h6 : H3.get Hp.empty.n = some (.cells (encCp c) true) := by rw [hH3]; simp
 have h9 : H3.get (Hp.empty.new (.cells (encCp c) true)).n = some (.cells (encNd (lowN (ndAt L e))) true) := by rw [hH3]; simp
 rw [← hH3]
 generalize Hp.empty.n = b6 at h6
 generalize (Hp.empty.new (.cells (encCp c) true)).n = b9 at h9
 have d0 : ldA false 1 H3 (.ptr b6 0) = some (Sx c.tag) := by simp [h6]
 have d1 : ldA false 1 H3 (.ptr b9 1) = some (Sx (lowN (ndAt L e)).tag) := by simp [h9]
 simp only [sh_ptr, Nat.zero_add, bnd_some, d0, d1, b_sneq, ifB_lit]
 have hK' : ∀ H, K (Bo (tagB (lowN (ndAt L e)) c && (c.ids.all (idB (lowN (ndAt L e))) && (c.classes.all (hasB (lowN (ndAt L e)).classes) && (c.attrs.all (attrB (lowN (ndAt L e)).attrs) && c.pseudos.all (pseudoB (AA L) L e)))))) H := by
  intro H
  have := hK H
  unfold compB plainB at this
  simpa only [Bool.and_assoc] using this
 have go : tagB (lowN (ndAt L e)) c = true → ref9_Tree_compound.L0 σ K (refT L d) (I (e : Int)) (I (dp : Int)) (.ptr b6 0) (.ptr b9 0) (I 0) (.lit undef) (.lit undef) (.lit undef) H3 := by
  intro ht
  refine rc_L0 hc hn hP _ 0 H3 rfl (Nat.zero_le _) h6 h9 fun H => ?_
  have := hK' H
  rw [ht, Bool.true_and] at this
  exact this
 by_cases ht : c.tag = ⟨#[]⟩
 ·simp only [ht, decide_true, Bool.not_true, Bool.false_eq_true, if_false]
  exact go (by unfold tagB emp; simp [ht])
 ·by_cases ht2 : c.tag = (lowN (ndAt L e)).tag
  ·simp only [ht, ht2, decide_true, decide_false, Bool.not_true, Bool.not_false, Bool.false_eq_true, if_true, if_false]
   have hne : ¬ ((lowN (ndAt L e)).tag = ⟨#[]⟩) := by rw [← ht2]; exact ht
   simp only [hne, decide_false, Bool.not_false, if_true]
   exact go (by unfold tagB; simp [ht2])
  ·simp only [ht, ht2, decide_false, Bool.not_false, if_true]
   have := hK' H3
   have hb : tagB (lowN (ndAt L e)) c = false := by unfold tagB emp; simp [ht, ht2]
   rw [hb] at this
   simpa using this
end
structure Kn (L : List Nd) (s : Sl) (kb M : Nat) (H : Hp) : Prop where
 lt : kb < H.n
 get : ∃ ks, H.get kb = some (.cells ks true) ∧ ks.length = M ∧ ∀ e k, e < L.length → k < s.length → ∃ v : Int, ks[e * s.length + k]? = some (I v) ∧ (v = 0 ∨ (v = 1 ∧ frontB (AA L) L s k e = true) ∨ (v = 2 ∧ frontB (AA L) L s k e = false))
theorem Kn.keep {L : List Nd} {s : Sl} {kb M : Nat} {H H' : Hp} (h : Kn L s kb M H) (hn : H.n ≤ H'.n) (hg : H'.get kb = H.get kb) : Kn L s kb M H' := by
 obtain ⟨ks, h1, h2, h3⟩ := h.get
 exact ⟨Nat.lt_of_lt_of_le h.lt hn, ks, by rw [hg]; exact h1, h2, h3⟩
theorem Kn.new {L : List Nd} {s : Sl} {kb M : Nat} {H : Hp} (h : Kn L s kb M H) (b : Blk) : Kn L s kb M (H.new b) := by
 refine h.keep (by simp) ?_
 have : kb ≠ H.n := by have := h.lt; omega
 simp [this]
theorem idx_inj {n a b x y : Nat} (hx : x < n) (hy : y < n) (h : a * n + x = b * n + y) : a = b ∧ x = y := by
 have h1 : (a * n + x) / n = (b * n + y) / n := by rw [h]
 have hn : 0 < n := by omega
 rw [Nat.mul_comm a, Nat.mul_comm b, Nat.mul_add_div hn, Nat.mul_add_div hn, Nat.div_eq_of_lt hx, Nat.div_eq_of_lt hy] at h1
 simp only [Nat.add_zero] at h1
 subst h1
 exact ⟨rfl, by omega⟩
theorem ov_set : ∀ (cs : List AV) (i : Nat) (x : AV), i < cs.length → overlay cs i [x] = cs.set i x := by
 intro cs
 induction cs with
 | nil => intro i x hi; simp at hi
 | cons c r ih =>
  intro i x hi
  cases i with
  | zero => simp
  | succ i => rw [overlay_s, List.set_cons_succ, ih i x (by simpa using hi)]
theorem Kn.put {L : List Nd} {s : Sl} {kb M : Nat} {H : Hp} (h : Kn L s kb M H) {e k : Nat} (he : e < L.length) (hk : k < s.length) {v : Int} (hv : v = 0 ∨ (v = 1 ∧ frontB (AA L) L s k e = true) ∨ (v = 2 ∧ frontB (AA L) L s k e = false)) :
  ∃ H', stA 1 H (.ptr kb (e * s.length + k)) (I v) = some H' ∧ Kn L s kb M H' ∧ Kp kb H H' ∧ ldA false 1 H' (.ptr kb (e * s.length + k)) = some (I v) := by
 obtain ⟨ks, h1, h2, h3⟩ := h.get
 obtain ⟨v0, hv0, _⟩ := h3 e k he hk
 have hlt := (List.getElem?_eq_some_iff.1 hv0).1
 refine ⟨H.set kb (some (.cells (ks.set (e * s.length + k) (I v)) true)), ?_, ⟨by simpa using h.lt, _, by simp; rfl, by simpa using h2, fun e' k' he' hk' => ?_⟩, ⟨by simp, fun j hj hne => by simp [hne]⟩, ?_⟩
 ·have hlt' : e * s.length + k + [I v].length ≤ ks.length := by simp; omega
  rw [st_int, h1]
  simp only [stO_cells]
  rw [if_pos ⟨hlt', rfl⟩, ov_set _ _ _ hlt]
 ·by_cases hi : e * s.length + k = e' * s.length + k'
  ·obtain ⟨rfl, rfl⟩ := idx_inj hk hk' hi
   exact ⟨v, by simp [hlt], hv⟩
  ·obtain ⟨w, hw, hw'⟩ := h3 e' k' he' hk'
   exact ⟨w, by simp [List.getElem?_set, hi, hw], hw'⟩
 ·simp only [ld_ptr, hp_get_set, if_true, ldO_cells]
  rw [List.drop_eq_getElem_cons (by simpa using hlt), ldL_one]
  simp
theorem Kn.put2 {L : List Nd} {s : Sl} {kb M : Nat} {H : Hp} (h : Kn L s kb M H) {e k : Nat} (he : e < L.length) (hk : k < s.length) {v w : Int} (hv : v = 0 ∨ (v = 1 ∧ frontB (AA L) L s k e = true) ∨ (v = 2 ∧ frontB (AA L) L s k e = false)) :
  ∃ H1 H', stA 1 H (.ptr kb (e * s.length + k)) (I w) = some H1 ∧ stA 1 H1 (.ptr kb (e * s.length + k)) (I v) = some H' ∧ Kn L s kb M H' ∧ Kp kb H H' ∧ ldA false 1 H' (.ptr kb (e * s.length + k)) = some (I v) := by
 obtain ⟨ks, h1, h2, h3⟩ := h.get
 obtain ⟨v0, hv0, _⟩ := h3 e k he hk
 have hlt := (List.getElem?_eq_some_iff.1 hv0).1
 refine ⟨H.set kb (some (.cells (ks.set (e * s.length + k) (I w)) true)), H.set kb (some (.cells (ks.set (e * s.length + k) (I w)) true)) |>.set kb (some (.cells ((ks.set (e * s.length + k) (I w)).set (e * s.length + k) (I v)) true)), ?_, ?_, ⟨by simpa using h.lt, _, by simp; rfl, by simpa using h2, fun e' k' he' hk' => ?_⟩, ⟨by simp, fun j hj hne => by simp [hne]⟩, ?_⟩
 ·have hlt' : e * s.length + k + [I w].length ≤ ks.length := by simp; omega
  rw [st_int, h1]
  simp only [stO_cells]
  rw [if_pos ⟨hlt', rfl⟩, ov_set _ _ _ hlt]
 ·have hlt' : e * s.length + k + [I v].length ≤ (ks.set (e * s.length + k) (I w)).length := by simp; omega
  rw [st_int]
  simp only [hp_get_set, if_true, stO_cells]
  rw [if_pos ⟨hlt', rfl⟩, ov_set _ _ _ (by simpa using hlt)]
 ·by_cases hi : e * s.length + k = e' * s.length + k'
  ·obtain ⟨rfl, rfl⟩ := idx_inj hk hk' hi
   exact ⟨v, by simp [hlt], hv⟩
  ·obtain ⟨w, hw, hw'⟩ := h3 e' k' he' hk'
   exact ⟨w, by simp [List.getElem?_set, hi, hw], hw'⟩
 ·simp only [ld_ptr, hp_get_set, if_true, ldO_cells]
  rw [List.drop_eq_getElem_cons (by simpa using hlt), ldL_one]
  simp
structure RSl (L : List Nd) (s : Sl) : Prop where
 len : s.length ≤ 50
 c : ∀ p ∈ s, RcOk p.c
 q : ∀ p ∈ s, ∀ q ∈ p.c.pseudos, i64 q.a ∧ i64 q.b
theorem rbefore_bd {L : List Nd} (e : Nat) : before L e = -1 ∨ ∃ p : Nat, before L e = p ∧ p < e := by
 unfold before lastI
 cases h : (sibs L e).getLast? with
 | none => exact .inl rfl
 | some j =>
  refine .inr ⟨j, rfl, ?_⟩
  have := List.mem_of_getLast? h
  unfold sibs at this
  simp only [List.mem_filter, List.mem_range] at this
  exact this.1
section
attribute [local irreducible] ref9_Tree_hangs.L0 ref9_Tree_hangs.L1 ref9_Tree_hangs.J2 ref9_Tree_front.J0
def FrOk (σ : Sig) (L : List Nd) (d : List Nat) (s : Sl) (dp kb M : Nat) (cap : Option Nat) (i : Nat) : Prop := ∀ (e : Nat) (H : Hp) (K : AV → Hp → Prop), e < L.length → Kn L s kb M H → (∀ H', Kn L s kb M H' → Kp kb H H' → K (Bo (frontB (AA L) L s i e)) H') →
 callK Tryz.prog σ n_ref9_Tree_front [refT L d, I (e : Int), .agg (encSl s), I ((i + 1 : Nat) : Int), I (dp : Int), .sl kb 0 1 M cap] H K
variable {L : List Nd} {d : List Nat} {s : Sl} {dp kb M : Nat} {cap : Option Nat}
theorem hangs_L0 (hB : Built L L.length d) (hN : L.length ≤ 4096) {i b8 : Nat} (hi : i < 100) (ih : FrOk σ L d s dp kb M cap i) {K : AV → Hp → Prop} {y15 : AV} : ∀ (f : Nat) (x : Int) (H : Hp), (x = -1 ∨ ∃ p : Nat, x = p ∧ p < f ∧ p < L.length) → Kn L s kb M H → b8 < H.n → b8 ≠ kb → H.get b8 = some (.cells (encSl s) true) →
  (∀ H', Kn L s kb M H' → Kp kb H H' → K (Bo (decide (0 ≤ x) && (frontB (AA L) L s i x.toNat || aheadF (frontB (AA L) L s i) L 1 f x.toNat))) H') →
  ref9_Tree_hangs.L0 σ K (refT L d) (I ((i + 1 + 1 : Nat) : Int)) (I (dp : Int)) (.sl kb 0 1 M cap) (.ptr b8 0) (I x) y15 H := by
 intro f
 induction f with
 | zero =>
  intro x H hx hk h8 hne hg hK
  obtain rfl : x = -1 := by rcases hx with h | ⟨p, _, h, _⟩ <;> omega
  refine ref9_Tree_hangs.L0_step ?_
  simp only [b_geq, bnd_some, ifB_lit, show ¬ ((0 : Int) ≤ -1) from by decide, decide_false, Bool.false_eq_true, if_false]
  exact ref9_Tree_hangs.J2_step (by simpa using hK H hk (Kp.refl _ _))
 | succ f ihf =>
  intro x H hx hk h8 hne hg hK
  refine ref9_Tree_hangs.L0_step ?_
  rcases hx with rfl | ⟨p, rfl, hpf, hpL⟩
  ·simp only [b_geq, bnd_some, ifB_lit, show ¬ ((0 : Int) ≤ -1) from by decide, decide_false, Bool.false_eq_true, if_false]
   exact ref9_Tree_hangs.J2_step (by simpa using hK H hk (Kp.refl _ _))
  have hl : ldA true 1 H (.ptr b8 0) = some (.agg (encSl s)) := by simp [hg]
  have hsub : wr .i64 (((i + 1 + 1 : Nat) : Int) - 1) = ((i + 1 : Nat) : Int) := by rw [wr64 (by omega) (by omega)]; omega
  simp only [b_geq, bnd_some, ifB_lit, Int.natCast_nonneg, decide_true, if_true, hl, b_sub, hsub]
  refine ih p H _ hpL hk fun H1 hk1 hp1 => ?_
  simp only [ifB_lit]
  simp only [Int.natCast_nonneg, decide_true, Bool.true_and, Int.toNat_natCast] at hK
  cases hb : frontB (AA L) L s i p with
  | true =>
   simp only [if_true]
   have := hK H1 hk1 hp1
   rw [hb] at this
   simpa using this
  | false =>
   simp only [Bool.false_eq_true, if_false]
   refine callK_of (rParent_ok L d hpL _) ?_
   have hpb := par_bd hB hpL
   refine ihf (par L p) H1 ?_ hk1 (Nat.lt_of_lt_of_le h8 hp1.up) hne (by rw [hp1.get _ h8 hne]; exact hg) fun H2 hk2 hp2 => ?_
   ·rcases hpb with h | ⟨q, h, hq⟩
    ·exact .inl h
    ·exact .inr ⟨q, h, by omega, by omega⟩
   have := hK H2 hk2 (hp1.trans hp2)
   rw [hb] at this
   have e1 : aheadF (frontB (AA L) L s i) L 1 (f + 1) p = (decide (0 ≤ par L p) && (frontB (AA L) L s i (par L p).toNat || aheadF (frontB (AA L) L s i) L 1 f (par L p).toNat)) := by
    rw [aheadF]
    have : standI L p 1 = par L p := by unfold standI; simp
    rw [this]
    have : farB 1 = true := rfl
    rw [this, Bool.true_and]
   rw [← e1]
   simpa using this
theorem hangs_L1 (hB : Built L L.length d) (hN : L.length ≤ 4096) {i b8 : Nat} (hi : i < 100) (ih : FrOk σ L d s dp kb M cap i) {K : AV → Hp → Prop} {y13 : AV} : ∀ (f : Nat) (x : Int) (H : Hp), (x = -1 ∨ ∃ p : Nat, x = p ∧ p < f ∧ p < L.length) → Kn L s kb M H → b8 < H.n → b8 ≠ kb → H.get b8 = some (.cells (encSl s) true) →
  (∀ H', Kn L s kb M H' → Kp kb H H' → K (Bo (decide (0 ≤ x) && (frontB (AA L) L s i x.toNat || aheadF (frontB (AA L) L s i) L 4 f x.toNat))) H') →
  ref9_Tree_hangs.L1 σ K (refT L d) (I ((i + 1 + 1 : Nat) : Int)) (I (dp : Int)) (.sl kb 0 1 M cap) (.ptr b8 0) y13 (I x) H := by
 intro f
 induction f with
 | zero =>
  intro x H hx hk h8 hne hg hK
  obtain rfl : x = -1 := by rcases hx with h | ⟨p, _, h, _⟩ <;> omega
  refine ref9_Tree_hangs.L1_step ?_
  simp only [b_geq, bnd_some, ifB_lit, show ¬ ((0 : Int) ≤ -1) from by decide, decide_false, Bool.false_eq_true, if_false]
  exact ref9_Tree_hangs.J2_step (by simpa using hK H hk (Kp.refl _ _))
 | succ f ihf =>
  intro x H hx hk h8 hne hg hK
  refine ref9_Tree_hangs.L1_step ?_
  rcases hx with rfl | ⟨p, rfl, hpf, hpL⟩
  ·simp only [b_geq, bnd_some, ifB_lit, show ¬ ((0 : Int) ≤ -1) from by decide, decide_false, Bool.false_eq_true, if_false]
   exact ref9_Tree_hangs.J2_step (by simpa using hK H hk (Kp.refl _ _))
  have hl : ldA true 1 H (.ptr b8 0) = some (.agg (encSl s)) := by simp [hg]
  have hsub : wr .i64 (((i + 1 + 1 : Nat) : Int) - 1) = ((i + 1 : Nat) : Int) := by rw [wr64 (by omega) (by omega)]; omega
  simp only [b_geq, bnd_some, ifB_lit, Int.natCast_nonneg, decide_true, if_true, hl, b_sub, hsub]
  refine ih p H _ hpL hk fun H1 hk1 hp1 => ?_
  simp only [ifB_lit]
  simp only [Int.natCast_nonneg, decide_true, Bool.true_and, Int.toNat_natCast] at hK
  cases hb : frontB (AA L) L s i p with
  | true =>
   simp only [if_true]
   have := hK H1 hk1 hp1
   rw [hb] at this
   simpa using this
  | false =>
   simp only [Bool.false_eq_true, if_false]
   refine callK_of (rBefore_ok L d hN hpL _) ?_
   have hpb := rbefore_bd (L := L) p
   refine ihf (before L p) H1 ?_ hk1 (Nat.lt_of_lt_of_le h8 hp1.up) hne (by rw [hp1.get _ h8 hne]; exact hg) fun H2 hk2 hp2 => ?_
   ·rcases hpb with h | ⟨q, h, hq⟩
    ·exact .inl h
    ·exact .inr ⟨q, h, by omega, by omega⟩
   have := hK H2 hk2 (hp1.trans hp2)
   rw [hb] at this
   have e1 : aheadF (frontB (AA L) L s i) L 4 (f + 1) p = (decide (0 ≤ before L p) && (frontB (AA L) L s i (before L p).toNat || aheadF (frontB (AA L) L s i) L 4 f (before L p).toNat)) := by
    rw [aheadF]
    have : standI L p 4 = before L p := by unfold standI; simp
    rw [this]
    have : farB 4 = true := rfl
    rw [this, Bool.true_and]
   rw [← e1]
   simpa using this
theorem hangs_sp (hB : Built L L.length d) (hN : L.length ≤ 4096) {i : Nat} (hi : i < 100) (ih : FrOk σ L d s dp kb M cap i) {p : Pt} (hp : s[i + 1]? = some p) {e : Nat} (he : e < L.length) {H : Hp} (hk : Kn L s kb M H) {K : AV → Hp → Prop}
  (hK : ∀ H', Kn L s kb M H' → Kp kb H H' → K (Bo (aheadF (frontB (AA L) L s i) L p.comb (e + 1) e)) H') :
  callK Tryz.prog σ n_ref9_Tree_hangs [refT L d, I (e : Int), .agg (encSl s), I ((i + 1 + 1 : Nat) : Int), I (dp : Int), .sl kb 0 1 M cap] H K := by
 refine ref9_Tree_hangs.run ?_
 simp only [boxK_agg]
 have hk2 := hk.new (.cells (encSl s) true)
 have hkp := Kp.new kb H (.cells (encSl s) true)
 obtain ⟨H2, hH2⟩ : ∃ H2, H2 = H.new (.cells (encSl s) true) := ⟨_, rfl⟩
 have h8 : H2.get H.n = some (.cells (encSl s) true) := by rw [hH2]; simp
 have hb8 : H.n < H2.n := by rw [hH2]; simp
 have hne : H.n ≠ kb := by have := hk.lt; omega
 rw [← hH2] at hk2 hkp ⊢
 clear hH2
 generalize H.n = b8 at h8 hb8 hne ⊢
 have hsub : wr .i64 (((i + 1 + 1 : Nat) : Int) - 1) = ((i + 1 : Nat) : Int) := by rw [wr64 (by omega) (by omega)]; omega
 have hl0 : ldA false 1 H2 (.ptr b8 0) = some (.imm 6 (s.map encPt)) := by simp [h8, encSl]
 have hl : ldA true 1 H2 (.ptr b8 0) = some (.agg (encSl s)) := by simp [h8]
 have hix : ixaSl 6 (.imm 6 (s.map encPt)) (I ((i + 1 : Nat) : Int)) = some (.ip (encPt p)) := ix_map hp
 simp only [sh_ptr, Nat.zero_add, bnd_some, hl0, b_sub, hsub, hix, sh_ip, List.drop_zero, ld_ip, f_encPt0, b_eql, ifB_lit, decide_eq_true_eq]
 have K2 : ∀ H', Kn L s kb M H' → Kp kb H2 H' → K (Bo (aheadF (frontB (AA L) L s i) L p.comb (e + 1) e)) H' := fun H' a b => hK H' a (hkp.trans b)
 rw [aheadF] at K2
 split
 ·rename_i hc
  refine callK_of (rParent_ok L d he _) ?_
  have hpb := par_bd hB he
  refine hangs_L0 hB hN hi ih e (par L e) H2 ?_ hk2 hb8 hne h8 fun H3 a b => ?_
  ·rcases hpb with h | ⟨q, h, hq⟩
   ·exact .inl h
   ·exact .inr ⟨q, h, by omega, by omega⟩
  have := K2 H3 a b
  rw [hc] at this
  have e1 : standI L e 1 = par L e := by unfold standI; simp
  have e2 : farB 1 = true := rfl
  rw [e1, e2, Bool.true_and] at this
  exact this
 rename_i hc1
 split
 ·rename_i hc
  refine callK_of (rParent_ok L d he _) ?_
  have hpb := par_bd hB he
  have e1 : standI L e 2 = par L e := by unfold standI; simp
  have e2 : farB 2 = false := rfl
  rw [hc, e1, e2, Bool.false_and, Bool.or_false] at K2
  simp only [b_geq, bnd_some, ifB_lit, decide_eq_true_eq]
  rcases hpb with h | ⟨q, h, hq⟩
  ·rw [h] at K2 ⊢
   simp only [show ¬ ((0 : Int) ≤ -1) from by decide, if_false]
   simpa using K2 H2 hk2 (Kp.refl _ _)
  ·rw [h] at K2
   simp only [h, Int.natCast_nonneg, if_true]
   refine callK_of (rParent_ok L d he _) ?_
   rw [kp_ptr]
   refine ⟨rfl, ?_⟩
   simp only [hl, bnd_some]
   rw [h]
   refine ih q H2 _ (by omega) hk2 fun H3 a b => ?_
   simpa using K2 H3 a b
 rename_i hc2
 split
 ·rename_i hc
  refine callK_of (rBefore_ok L d hN he _) ?_
  have hpb := rbefore_bd (L := L) e
  have e1 : standI L e 3 = before L e := by unfold standI; simp
  have e2 : farB 3 = false := rfl
  rw [hc, e1, e2, Bool.false_and, Bool.or_false] at K2
  simp only [b_geq, bnd_some, ifB_lit, decide_eq_true_eq]
  rcases hpb with h | ⟨q, h, hq⟩
  ·rw [h] at K2 ⊢
   simp only [show ¬ ((0 : Int) ≤ -1) from by decide, if_false]
   simpa using K2 H2 hk2 (Kp.refl _ _)
  ·rw [h] at K2
   simp only [h, Int.natCast_nonneg, if_true]
   refine callK_of (rBefore_ok L d hN he _) ?_
   rw [kp_ptr]
   refine ⟨rfl, ?_⟩
   simp only [hl, bnd_some]
   rw [h]
   refine ih q H2 _ (by omega) hk2 fun H3 a b => ?_
   simpa using K2 H3 a b
 rename_i hc3
 split
 ·rename_i hc
  refine callK_of (rBefore_ok L d hN he _) ?_
  have hpb := rbefore_bd (L := L) e
  refine hangs_L1 hB hN hi ih e (before L e) H2 ?_ hk2 hb8 hne h8 fun H3 a b => ?_
  ·rcases hpb with h | ⟨q, h, hq⟩
   ·exact .inl h
   ·exact .inr ⟨q, h, by omega, by omega⟩
  have := K2 H3 a b
  rw [hc] at this
  have e1 : standI L e 4 = before L e := by unfold standI; simp
  have e2 : farB 4 = true := rfl
  rw [e1, e2, Bool.true_and] at this
  exact this
 rename_i hc4
 refine ref9_Tree_hangs.J2_step ?_
 have e1 : standI L e p.comb = -1 := by unfold standI; rw [if_neg (by omega), if_neg (by omega)]
 rw [e1] at K2
 simpa using K2 H2 hk2 (Kp.refl _ _)
def AnyR (σ : Sig) (L : List Nd) (d : List Nat) (s : Sl) (dp : Nat) : Prop := ∀ p ∈ s, ∀ q ∈ p.c.pseudos, (q.kind = 7 ∨ q.kind = 8) → ∀ (e : Nat) (H : Hp), e < L.length → Good Tryz.prog σ n_ref9_Tree_any [refT L d, I (e : Int), sls q.list, I ((dp + 1 : Nat) : Int)] H (Bo (AA L q.list e)) H
theorem fr_step (hB : Built L L.length d) (hN : L.length ≤ 4096) (hsm : ∀ e, e < L.length → SmN (lowN (ndAt L e))) (hs : RSl L s) (hd : dp ≤ 100) (hM : M = L.length * s.length) (hA : AnyR σ L d s dp) {i : Nat} (hi : i < s.length)
  (ih : ∀ j, i = j + 1 → FrOk σ L d s dp kb M cap j) : FrOk σ L d s dp kb M cap i := by
 intro e H K he hk hK
 refine ref9_Tree_front.run ?_
 simp only [boxK_agg]
 have hk2 := hk.new (.cells (encSl s) true)
 have hkp := Kp.new kb H (.cells (encSl s) true)
 obtain ⟨H2, hH2⟩ : ∃ H2, H2 = H.new (.cells (encSl s) true) := ⟨_, rfl⟩
 have h8 : H2.get H.n = some (.cells (encSl s) true) := by rw [hH2]; simp
 have hb8 : H.n < H2.n := by rw [hH2]; simp
 have hne : H.n ≠ kb := by have := hk.lt; omega
 rw [← hH2] at hk2 hkp ⊢
 clear hH2
 generalize H.n = b8 at h8 hb8 hne ⊢
 have hl50 := hs.len
 have hmul : e * s.length ≤ 4096 * 50 := Nat.mul_le_mul (by omega) hl50
 have e1 : wr .i64 ((e : Int) * (s.length : Int)) = ((e * s.length : Nat) : Int) := by
  have : (e : Int) * (s.length : Int) = ((e * s.length : Nat) : Int) := by simp
  rw [this, wr64 (by omega) (by omega)]
 have e2 : wr .i64 (((e * s.length : Nat) : Int) + ((i + 1 : Nat) : Int)) = ((e * s.length + i + 1 : Nat) : Int) := by rw [wr64 (by omega) (by omega)]; omega
 have e3 : wr .i64 (((e * s.length + i + 1 : Nat) : Int) - 1) = ((e * s.length + i : Nat) : Int) := by rw [wr64 (by omega) (by omega)]; omega
 have e4 : wr .i64 (((i + 1 : Nat) : Int) - 1) = (i : Int) := by rw [wr64 (by omega) (by omega)]; omega
 have hlt : e * s.length + i < M := by
  rw [hM]
  have h1 : (e + 1) * s.length ≤ L.length * s.length := Nat.mul_le_mul_right _ he
  rw [Nat.succ_mul] at h1
  omega
 have hl0 : ldA false 1 H2 (.ptr b8 0) = some (.imm 6 (s.map encPt)) := by simp [h8, encSl]
 have hl : ldA true 1 H2 (.ptr b8 0) = some (.agg (encSl s)) := by simp [h8]
 have hix : ixaSl 1 (.sl kb 0 1 M cap) (I ((e * s.length + i : Nat) : Int)) = some (.ptr kb (e * s.length + i)) := by
  have a1 : ((e * s.length + i : Nat) : Int) < (M : Int) := by omega
  have a2 : (0 : Int) ≤ ((e * s.length + i : Nat) : Int) := by omega
  simp only [ixaSl, intA, a1, a2, decide_true, Bool.and_self, cond_true, Int.toNat_natCast, Nat.zero_add, Nat.mul_one]
 obtain ⟨p, hp⟩ := get_lt hi
 have hixp : ixaSl 6 (.imm 6 (s.map encPt)) (I (i : Int)) = some (.ip (encPt p)) := ix_map hp
 obtain ⟨ks, g1, g2, g3⟩ := hk2.get
 obtain ⟨v, hv, hv'⟩ := g3 e i he hi
 have hld : ldA false 1 H2 (.ptr kb (e * s.length + i)) = some (I v) := by
  rw [ld_ptr, g1, ldO_cells, drop_get hv, ldL_one]
 simp only [sh_ptr, Nat.zero_add, bnd_some, hl0, len_imm, List.length_map, b_mul, b_add, b_sub, e1, e2, e3, e4, hix, hld, b_eql, ifB_lit, decide_eq_true_eq]
 have K2 : ∀ H', Kn L s kb M H' → Kp kb H2 H' → K (Bo (frontB (AA L) L s i e)) H' := fun H' a b => hK H' a (hkp.trans b)
 have fin : ∀ (H3 : Hp) (w : Int), Kn L s kb M H3 → Kp kb H2 H3 → ldA false 1 H3 (.ptr kb (e * s.length + i)) = some (I w) → decide (w = 1) = frontB (AA L) L s i e →
   ref9_Tree_front.J0 σ K (.sl kb 0 1 M cap) (I ((e * s.length + i : Nat) : Int)) H3 := by
  intro H3 w a b c hw
  refine ref9_Tree_front.J0_step ?_
  simp only [hix, bnd_some, c, b_eql]
  rw [hw]
  exact K2 H3 a b
 have put2 : ∀ (H3 : Hp) (w : Int) (A : Hp → Prop), Kn L s kb M H3 → Kp kb H2 H3 → (w = 0 ∨ (w = 1 ∧ frontB (AA L) L s i e = true) ∨ (w = 2 ∧ frontB (AA L) L s i e = false)) →
   (∀ H4, Kn L s kb M H4 → Kp kb H2 H4 → ldA false 1 H4 (.ptr kb (e * s.length + i)) = some (I w) → A H4) → bnd (stA 1 H3 (.ptr kb (e * s.length + i)) (I w)) A := by
  intro H3 w A a b hw hA
  obtain ⟨H4, q1, q2, q3, q4⟩ := a.put he hi hw
  rw [q1, bnd_some]
  exact hA H4 q2 (b.trans q3) q4
 by_cases hv0 : v = 0
 ·simp only [hv0, if_true]
  have hld5 : ldA true 5 H2 (.ip ((encPt p).drop 1)) = some (.agg (encCp p.c)) := by rw [encPt_eq]; simp
  simp only [hixp, bnd_some, sh_ip, hld5]
  have hpm := List.mem_of_getElem? hp
  refine callK_of (rcomp_ok hB hN he (hsm e he) (hs.c p hpm) (hs.q p hpm) hd (fun q hq hkd H => hA p hpm q hq hkd e H he) _) ?_
  simp only [ifB_lit]
  cases hcB : compB (AA L) L e p.c with
  | false =>
   have hf : frontB (AA L) L s i e = false := by
    cases i with
    | zero => simp only [frontB, hp]; exact hcB
    | succ i => simp only [frontB, hp, hcB, Bool.false_and]
   simp only [Bool.false_eq_true, if_false]
   refine put2 H2 2 _ hk2 (Kp.refl _ _) (.inr (.inr ⟨rfl, hf⟩)) fun H4 a b c => ?_
   exact fin H4 2 a b c (by rw [hf]; rfl)
  | true =>
   simp only [if_true]
   cases i with
   | zero =>
    have hf : frontB (AA L) L s 0 e = true := by simp only [frontB, hp]; exact hcB
    have : ((0 + 1 : Nat) : Int) = 1 := rfl
    simp only [this, if_true]
    have bad : ∀ (H3 : Hp) (w : Int) (A : Hp → Prop), Kn L s kb M H3 → Kp kb H2 H3 → (∀ H5 H6, stA 1 H3 (.ptr kb (e * s.length + 0)) (I 2) = some H5 → stA 1 H5 (.ptr kb (e * s.length + 0)) (I 1) = some H6 → Kn L s kb M H6 → Kp kb H2 H6 → ldA false 1 H6 (.ptr kb (e * s.length + 0)) = some (I 1) → A H6) →
      bnd (stA 1 H3 (.ptr kb (e * s.length + 0)) (I 2)) fun H5 => bnd (stA 1 H5 (.ptr kb (e * s.length + 0)) (I 1)) A := by
     intro H3 w A a b h
     obtain ⟨H5, H6, q1, q2, q3, q4, q5⟩ := a.put2 he hi (v := 1) (w := 2) (.inr (.inl ⟨rfl, hf⟩))
     rw [q1, bnd_some, q2, bnd_some]
     exact h H5 H6 q1 q2 q3 (b.trans q4) q5
    refine bad H2 1 _ hk2 (Kp.refl _ _) fun H5 H6 _ _ a b c => ?_
    exact fin H6 1 a b c (by rw [hf]; rfl)
   | succ i =>
    have hne1 : ¬ (((i + 1 + 1 : Nat) : Int) = 1) := by omega
    simp only [hne1, if_false, hl, bnd_some]
    refine hangs_sp hB hN (by omega) (ih i rfl) hp he hk2 fun H3 hk3 hp3 => ?_
    have hfr : frontB (AA L) L s (i + 1) e = aheadF (frontB (AA L) L s i) L p.comb (e + 1) e := by simp only [frontB, hp, hcB, Bool.true_and]
    rw [← hfr]
    simp only [ifB_lit]
    cases hf : frontB (AA L) L s (i + 1) e with
    | true =>
     obtain ⟨H5, H6, q1, q2, q3, q4, q5⟩ := hk3.put2 he hi (v := 1) (w := 2) (.inr (.inl ⟨rfl, hf⟩))
     rw [q1, bnd_some]
     simp only [if_true]
     rw [q2, bnd_some]
     exact fin H6 1 q3 (hp3.trans q4) q5 (by rw [hf]; rfl)
    | false =>
     refine put2 H3 2 _ hk3 hp3 (.inr (.inr ⟨rfl, hf⟩)) fun H4 a b c => ?_
     simp only [Bool.false_eq_true, if_false]
     exact fin H4 2 a b c (by rw [hf]; rfl)
 ·simp only [hv0, if_false]
  refine fin H2 v hk2 (Kp.refl _ _) hld ?_
  rcases hv' with h | ⟨h, hf⟩ | ⟨h, hf⟩
  ·exact absurd h hv0
  ·rw [h, hf]; rfl
  ·rw [h, hf]; rfl
theorem fr_ok (hB : Built L L.length d) (hN : L.length ≤ 4096) (hsm : ∀ e, e < L.length → SmN (lowN (ndAt L e))) (hs : RSl L s) (hd : dp ≤ 100) (hM : M = L.length * s.length) (hA : AnyR σ L d s dp) : ∀ (i : Nat), i < s.length → FrOk σ L d s dp kb M cap i := by
 intro i
 induction i with
 | zero => exact fun hi => fr_step hB hN hsm hs hd hM hA hi (fun j h => absurd h (by omega))
 | succ i ih =>
  intro hi
  refine fr_step hB hN hsm hs hd hM hA hi fun j h => ?_
  have : j = i := by omega
  subst this
  exact ih (by omega)
end
end Go.Proofs.YtaoegkmfgfefgaaGreat.Ev
namespace Go.Proofs.YtaoegkmfgfefgaaGreat.Ev
set_option linter.unusedVariables false
set_option linter.unusedSimpArgs false
variable {σ : Sig} {L : List Nd} {d : List Nat}
def RsOk : Nat → List Sl → Prop
 | 0, _ => False
 | f + 1, l => l.length ≤ reachBytes ∧ ∀ s ∈ l, s.length ≤ 50 ∧ ∀ p ∈ s, RcOk p.c ∧ ∀ q ∈ p.c.pseudos, (i64 q.a ∧ i64 q.b) ∧ ((q.kind = 7 ∨ q.kind = 8) → RsOk f q.list)
def frB (L : List Nd) (s : Sl) (e : Nat) : Bool := !decide (s.length = 0) && frontB (AA L) L s (s.length - 1) e
theorem rsel_ok (hB : Built L L.length d) (hN : L.length ≤ 4096) (hsm : ∀ e, e < L.length → SmN (lowN (ndAt L e))) {s : Sl} (hs : RSl L s) {dp : Nat} (hd : dp ≤ 100) (hA : AnyR σ L d s dp) {e : Int} (H : Hp) :
  Good Tryz.prog σ n_ref9_Tree_selector [refT L d, I e, .agg (encSl s), I (dp : Int)] H (Bo (decide (0 ≤ e) && decide (e < L.length) && frB L s e.toNat)) H := by
 refine good_by (fun K hK => ref9_Tree_selector.run ?_) (by simp [noIds, noId, noId_refT, noId_Sl]) rfl H
 simp only [boxK_agg]
 refine callK_of (ris_ok L d e _) ?_
 simp only [u_not, bnd_some, ifB_lit]
 cases hin : (decide (0 ≤ e) && decide (e < L.length)) with
 | false => rw [hin] at hK; simpa using hK _
 | true =>
 rw [hin] at hK
 simp only [Bool.true_and] at hK
 simp only [Bool.and_eq_true, decide_eq_true_eq] at hin
 obtain ⟨en, rfl⟩ : ∃ en : Nat, e = (en : Int) := ⟨e.toNat, by omega⟩
 have he : en < L.length := by omega
 rw [Int.toNat_natCast] at hK
 obtain ⟨H2, hH2⟩ : ∃ H2, H2 = Hp.empty.new (.cells (encSl s) true) := ⟨_, rfl⟩
 have h1 : H2.get Hp.empty.n = some (.cells (encSl s) true) := by rw [hH2]; simp
 have hlt : Hp.empty.n < H2.n := by rw [hH2]; simp
 rw [← hH2]
 generalize Hp.empty.n = b1 at h1 hlt ⊢
 have hl0 : ldA false 1 H2 (.ptr b1 0) = some (.imm 6 (s.map encPt)) := by simp [h1, encSl]
 simp only [Bool.not_true, Bool.false_eq_true, if_false, sh_ptr, Nat.zero_add, bnd_some, hl0, len_imm, List.length_map, b_eql, ifB_lit, decide_eq_true_eq]
 split
 ·rename_i h0
  have h0' : s.length = 0 := by omega
  have : frB L s en = false := by unfold frB; simp [h0']
  rw [this] at hK
  exact hK _
 rename_i h0
 have h0' : ¬ s.length = 0 := by omega
 have hl50 := hs.len
 have hmul : L.length * s.length ≤ 4096 * 50 := Nat.mul_le_mul hN hl50
 have e1 : wr .i64 ((L.length : Int) * (s.length : Int)) = ((L.length * s.length : Nat) : Int) := by
  have : (L.length : Int) * (s.length : Int) = ((L.length * s.length : Nat) : Int) := by simp
  rw [this, wr64 (by omega) (by omega)]
 obtain ⟨M, hM⟩ : ∃ M, M = L.length * s.length := ⟨_, rfl⟩
 rw [← hM] at e1 hmul
 have e3 : mkSlR [.int .i64 0] 1 8 H2 (I (M : Int)) (I (M : Int)) = some (.sl H2.n 0 1 M (some M), H2.new (.cells (zrow [.int .i64 0] (M * 1)) true)) := by
  have a : (0 : Int) ≤ M := by omega
  have b : M ≤ 9223372036854775807 := by omega
  have c : 8 * M ≤ 281474976710656 := by omega
  simp [mkSlR, intA, a, bleN, b, c]
 simp only [rnilp, rsh, rld, rlen, bnd_some, b_mul, e1, e3]
 have g1 : ldA true 1 (H2.new (.cells (zrow [.int .i64 0] (M * 1)) true)) (.ptr b1 0) = some (.agg (encSl s)) := by
  have : b1 ≠ H2.n := by omega
  simp [this, h1]
 have g0 : ldA false 1 (H2.new (.cells (zrow [.int .i64 0] (M * 1)) true)) (.ptr b1 0) = some (.imm 6 (s.map encPt)) := by
  have : b1 ≠ H2.n := by omega
  simp [this, h1, encSl]
 simp only [g1, g0, bnd_some, len_imm, List.length_map]
 have hkn : Kn L s H2.n M (H2.new (.cells (zrow [.int .i64 0] (M * 1)) true)) := by
  refine ⟨by simp, _, by simp; rfl, by simp [zrow], fun e k he hk => ⟨0, ?_, .inl rfl⟩⟩
  have h2 : (e + 1) * s.length ≤ L.length * s.length := Nat.mul_le_mul_right _ he
  rw [Nat.succ_mul] at h2
  have h3 : e * s.length + k < M := by omega
  unfold zrow
  rw [List.getElem?_map, List.getElem?_range (by omega)]
  simp [Nat.mod_one]
 have hn1 : (s.length : Int) = ((s.length - 1 + 1 : Nat) : Int) := by omega
 rw [hn1]
 refine fr_ok hB hN hsm hs hd hM hA (s.length - 1) (by omega) en _ _ he hkn fun H4 _ _ => ?_
 have : frB L s en = frontB (AA L) L s (s.length - 1) en := by unfold frB; simp [h0']
 rw [← this]
 exact hK _
section
attribute [local irreducible] ref9_Tree_any.L0
theorem rany_ok (hB : Built L L.length d) (hN : L.length ≤ 4096) (hsm : ∀ e, e < L.length → SmN (lowN (ndAt L e))) : ∀ (f : Nat) (l : List Sl) (dp : Nat), f ≤ 12 → RsOk f l → Nest f l → dp + f ≤ 100 →
  (∀ s ∈ l, RSl L s ∧ AnyR σ L d s dp) ∧ ∀ (e : Nat) (H : Hp), e < L.length → Good Tryz.prog σ n_ref9_Tree_any [refT L d, I (e : Int), sls l, I (dp : Int)] H (Bo (AA L l e)) H := by
 intro f
 induction f with
 | zero => intro l dp _ h; exact h.elim
 | succ f ih =>
  intro l dp hf hl hn hd
  have hb : ∀ s ∈ l, RSl L s ∧ AnyR σ L d s dp := by
   intro s hs
   have h1 := hl.2 s hs
   refine ⟨⟨h1.1, fun p hp => (h1.2 p hp).1, fun p hp q hq => ((h1.2 p hp).2 q hq).1⟩, fun p hp q hq hk e H he => ?_⟩
   exact (ih q.list (dp + 1) (by omega) (((h1.2 p hp).2 q hq).2 hk) (hn s hs p hp q hq) (by omega)).2 e H he
  refine ⟨hb, fun e H he => ?_⟩
  refine good_by (fun K hK => ref9_Tree_any.run ?_) (by simp [noIds, noId, noId_refT, noId_sls]) rfl H
  rw [← AA_eq hn hf] at hK
  have L0 : ∀ (k m : Nat) (H : Hp), l.length - m = k → m ≤ l.length → (∀ H, K (Bo ((l.drop m).any fun s => frB L s e)) H) → ref9_Tree_any.L0 σ K (refT L d) (I (e : Int)) (sls l) (I (dp : Int)) (I (m : Int)) H := by
   intro k
   induction k with
   | zero =>
    intro m H hk hm hK
    have : m = l.length := by omega
    subst this
    refine ref9_Tree_any.L0_step ?_
    simp
    simpa using hK H
   | succ k ihk =>
    intro m H hk hm hK
    have hlt : m < l.length := by omega
    obtain ⟨s, hs⟩ := get_lt hlt
    rw [drop_get hs, List.any_cons] at hK
    have hlt' : (m : Int) < l.length := by omega
    have hix : ixaSl 1 (sls l) (I (m : Int)) = some (.ip (encSl s)) := ix_map hs
    refine ref9_Tree_any.L0_step ?_
    simp only [len_sls, bnd_some, b_lss, hlt', decide_true, ifB_lit, if_true, hix, ld_ip, ldL_sl]
    have h1 := hb s (List.mem_of_getElem? hs)
    refine callK_of (rsel_ok hB hN hsm h1.1 (by omega) h1.2 _) ?_
    have i1 : (0 : Int) ≤ (e : Int) := by omega
    have i2 : (e : Int) < (L.length : Int) := by omega
    simp only [i1, i2, decide_true, Bool.and_self, Bool.true_and, Int.toNat_natCast]
    cases hb : frB L s e with
    | true => rw [hb] at hK; simpa using hK H
    | false =>
     rw [hb] at hK
     simp only [ifB_lit, Bool.false_eq_true, if_false, b_add, bnd_some]
     rw [wr_succL hlt hl.1 (by decide)]
     exact ihk (m + 1) H (by omega) (by omega) (by simpa using hK)
  exact L0 _ 0 _ rfl (Nat.zero_le _) hK
end
end Go.Proofs.YtaoegkmfgfefgaaGreat.Ev
namespace Go.Proofs.YtaoegkmfgfefgaaGreat.Ev
set_option linter.unusedVariables false
set_option linter.unusedSimpArgs false
inductive Sk where
 | same
 | sl (sz : Nat) (row : List Sk)
 | agg (row : List Sk)
 | ptr (row : List Sk)
def frzRows (sz : Nat) (g : List AV → Option (List AV)) : Nat → List AV → Option (List (List AV))
 | 0, _ => some []
 | n + 1, l => match g (l.take sz) with
  | some r => match frzRows sz g n (l.drop sz) with
   | some rs => some (r :: rs)
   | none => none
  | none => none
mutual
def frzS (H : Hp) : Sk → AV → Option AV
 | .same, x => bif noId x then some x else none
 | .sl sz row, x => match x with
  | .lit (.slice none 0 0) => some (.imm sz [])
  | .emp => some (.imm sz [])
  | .se _ _ _ => some (.imm sz [])
  | .imm s rows => bif noId (.imm s rows) then some (.imm s rows) else none
  | .sl id off s len _ => bif Nat.beq s sz then match H.get id with
    | some (.cells cs _) => match frzRows sz (fun l => frzR H row l) len (cs.drop off) with
     | some rows => bif Nat.beq row.length sz then some (.imm sz rows) else none
     | none => none
    | _ => none
   else none
  | _ => none
 | .agg row, x => match x with
  | .agg xs => match frzR H row xs with
   | some ys => some (.agg ys)
   | none => none
  | _ => none
 | .ptr row, x => match x with
  | .ptr id off => match H.get id with
   | some (.cells cs _) => match frzR H row ((cs.drop off).take row.length) with
    | some ys => some (.ip ys)
    | none => none
   | _ => none
  | _ => none
def frzR (H : Hp) : List Sk → List AV → Option (List AV)
 | [], xs => match xs with
  | [] => some []
  | _ => none
 | k :: ks, xs => match xs with
  | x :: xs => match frzS H k x with
   | some y => match frzR H ks xs with
    | some ys => some (y :: ys)
    | none => none
   | none => none
  | [] => none
end
theorem FzL.len {H : Hp} {xs ys : List AV} (h : FzL H xs ys) : xs.length = ys.length := h.get.1
end Go.Proofs.YtaoegkmfgfefgaaGreat.Ev
namespace Go.Proofs.YtaoegkmfgfefgaaGreat.Ev
theorem Good.conv {P : Program} {σ : Sig} {f : Nat} {xs ys : List AV} {r : AV} {H H2 H3 : Hp} (k : Wk σ ys H xs H2) (h : Good P σ f xs H2 r H3) : Good P σ f ys H r H3 := by
 refine ⟨h.1, fun B w0 E w vs hσ hst hxs => ?_⟩
 obtain ⟨E2, h1, h2, h3⟩ := k hσ hst hxs
 refine (h.2 B w0 E2 w vs hσ h2 h3).mono fun e w' hh => ?_
 obtain ⟨E', v, rfl, hext, st2, hrel⟩ := hh
 exact ⟨E', v, rfl, h1.trans hext, st2, hrel⟩
def Hp.bare (n : Nat) : Hp := ⟨n, .leaf⟩
@[simp] theorem Hp.bare_n (n : Nat) : (Hp.bare n).n = n := rfl
@[simp] theorem Hp.bare_get (n j : Nat) : (Hp.bare n).get j = none := by simp [Hp.bare, Hp.get, Tr.get]
theorem FzL.t {H : Hp} {xs ys : List AV} (h : FzL H xs ys) : FzT H xs ys := by
 induction h with
 | nil => exact .nil
 | cons h hs ih => exact .fz h ih
theorem Good.drop {P : Program} {σ : Sig} {f : Nat} {xs ys : List AV} {r : AV} {H : Hp} (h : ∀ H, Good P σ f xs H r H) (hx : FzL H ys xs) : Good P σ f ys H r (Hp.bare H.n) :=
 Good.conv (Wk.frz (H2 := Hp.bare H.n) (Hd := H) rfl rfl (fun id k hk => ⟨hk, by simp⟩) (fun id k2 hk => by simp at hk) hx.t) (h _)
theorem bnd_of {α : Type} {o : Option α} {x : α} {K : α → Prop} (h : o = some x) (k : K x) : bnd o K := by rw [h]; exact k
end Go.Proofs.YtaoegkmfgfefgaaGreat.Ev
namespace Go.Proofs.YtaoegkmfgfefgaaGreat.Ev
set_option linter.unusedVariables false
set_option linter.unusedSimpArgs false
inductive Gsc (sz : Nat) (H : Hp) : AV → List (List AV) → Prop where
 | gs {x : AV} {rows : List (List AV)} (h : Gs sz H x rows) : Gsc sz H x rows
 | full {id : Nat} {ex : Bool} {rows : List (List AV)} (hlt : id < H.n) (hg : H.get id = some (.cells rows.flatten ex)) (hsz : ∀ row ∈ rows, row.length = sz) (h0 : rows ≠ []) : Gsc sz H (.sl id 0 sz rows.length (some rows.length)) rows
theorem Gsc.lit {sz : Nat} {H : Hp} {row : List AV} (hl : row.length = sz) : Gsc sz (H.new (.cells row true)) (.sl H.n 0 sz 1 (some 1)) [row] := by
 refine .full (id := H.n) (rows := [row]) (by simp) (by simp; rfl) (by simp [hl]) (by simp)
theorem LoopP.drop {P : Program} {C : Ctx P} {c : Code} {T T2 : List AV} {H : Hp} {Q : Exit → List AV → Hp → Prop} (hT : FzT H T T2) (h : LoopP C c T2 (Hp.bare H.n) Q) : LoopP C c T H Q :=
 LoopP.conv (Wk.frz (H2 := Hp.bare H.n) (Hd := H) rfl rfl (fun id k hk => ⟨hk, by simp⟩) (fun id k2 hk => by simp at hk) hT) h
end Go.Proofs.YtaoegkmfgfefgaaGreat.Ev
namespace Go.Proofs.YtaoegkmfgfefgaaGreat.Ev
end Go.Proofs.YtaoegkmfgfefgaaGreat.Ev
namespace Go.Proofs.YtaoegkmfgfefgaaGreat.Ev
set_option linter.unusedVariables false
set_option linter.unusedSimpArgs false
variable {σ : Sig} {L : List Nd} {d : List Nat}
def TxL : Nat → List Sl → Prop
 | 0, _ => False
 | f + 1, l => ∀ s ∈ l, ∀ p ∈ s, (∀ a ∈ p.c.attrs, a.text.data.size < 4294967281) ∧ ∀ q ∈ p.c.pseudos, TxL f q.list
theorem TxL.one {f : Nat} {l : List Sl} (h : TxL f l) {s : Sl} (hs : s ∈ l) : TxL f [s] := by
 cases f with
 | zero => exact h
 | succ f => exact fun s' hs' => by rw [List.mem_singleton.1 hs']; exact h s hs
theorem RcOk.of {c : Cp} (h : CpOk c) (ht : ∀ a ∈ c.attrs, a.text.data.size < 4294967281) : RcOk c := ⟨h.ids, h.classes, h.attrs, h.ps, ht⟩
theorem rs_of : ∀ (f : Nat) (l : List Sl) (dp : Nat), SlsOk f l → TxL f l → mayF f l dp = true → RsOk f l
 | 0, l, dp, h, _, _ => h
 | f + 1, l, dp, h, ht, hm => by
  refine ⟨Nat.le_trans h.1 (by decide), fun s hs => ?_⟩
  have h1 := h.2 s hs
  have h2 := List.all_eq_true.1 hm s hs
  unfold mayS at h2
  simp only [Bool.and_eq_true, decide_eq_true_eq] at h2
  refine ⟨h2.1, fun p hp => ?_⟩
  have h3 := h1.2 p hp
  have h4 := ht s hs p hp
  refine ⟨.of h3.1 h4.1, fun q hq => ⟨(h3.2.2 q hq).1, fun hk => ?_⟩⟩
  have h5 := List.all_eq_true.1 (List.all_eq_true.1 h2.2 p hp) q hq
  unfold mayQ at h5
  rw [if_pos hk] at h5
  simp only [Bool.and_eq_true] at h5
  exact rs_of f q.list (dp - 1) (h3.2.2 q hq).2 (h4.2 q hq) h5.2
theorem frB_AA {f : Nat} {s : Sl} (hn : Nest f [s]) (hf : f ≤ 12) (e : Nat) : AA L [s] e = frB L s e := by
 rw [← AA_eq hn hf]
 simp [anyS, frB]
theorem mayF_one {f : Nat} {s : Sl} {dp : Nat} : mayF (f + 1) [s] dp = mayS (mayF f) dp s := by simp [mayF]
theorem rTopSel_ok (M : McT σ L d) {f : Nat} {s : Sl} (S : SelOk (f + 1) [s]) (ht : TxL (f + 1) [s]) (e : Int) (H : Hp) : Good Tryz.prog σ n_ref9_Tree_Selector [refT L d, I e, .agg (encSl s)] H (Bo (selB L (f + 1) s e)) H := by
 refine good_by (fun K hK => ref9_Tree_Selector.run ?_) (by simp [noIds, noId, noId_refT, noId_Sl]) rfl H
 have hwf := S.wf.2 s (by simp)
 have hn := S.nest
 simp only [boxK_agg]
 have hl : ldA true 1 (Hp.empty.new (.cells (encSl s) true)) (.ptr Hp.empty.n 0) = some (.agg (encSl s)) := by simp
 simp only [hl, bnd_some]
 refine callK_of (ds_ok f s 0 _ hwf (fun p hp q hq => hn s (by simp) p hp q hq) (by decide)) ?_
 simp only [u_not, Bool.not_not, bnd_some, ifB_lit, Nat.sub_zero]
 unfold selB mayAny at hK
 simp only [List.any_cons, List.any_nil, Bool.or_false, mayF_one] at hK
 cases hm : mayS (mayF f) 8 s with
 | false => rw [hm] at hK; simpa using hK _
 | true =>
  rw [hm] at hK
  simp only [if_true, hl, bnd_some]
  have hm' : mayF (f + 1) [s] 8 = true := by rw [mayF_one]; exact hm
  have hr := rs_of (f + 1) [s] 8 S.ok ht hm'
  have h1 := (rany_ok (σ := σ) M.hB M.hN M.sm (f + 1) [s] 0 S.hf hr hn (by have := S.hf; omega)).1 s (by simp)
  refine callK_of (rsel_ok M.hB M.hN M.sm h1.1 (by decide) h1.2 _) ?_
  rw [frB_AA hn S.hf, Bool.true_and] at hK
  exact hK _
end Go.Proofs.YtaoegkmfgfefgaaGreat.Ev
namespace Go.Proofs.YtaoegkmfgfefgaaGreat.Ev
set_option linter.unusedVariables false
set_option linter.unusedSimpArgs false
variable {σ : Sig}
def bigS (s : ByteArray) : Bool := decide (60 < (s.data.size : Int))
def bigP (p : ByteArray × ByteArray) : Bool := bigS p.1 || decide (100 < (p.2.data.size : Int))
def bigN (n : Nd) : Bool := decide (8 < (n.classes.length : Int)) || (decide (8 < (n.attrs.length : Int)) || (bigS n.tag || (bigS n.id || (n.classes.any bigS || n.attrs.any bigP))))
def bigT (L : List Nd) : Bool := if 40 < L.length then (if L.length ≤ 4096 then true else decide (4100 < L.length)) else decide (4100 < L.length)
def bigR (L : List Nd) (m : Nat) : Bool := ((L.drop m).take (100 - m)).any bigN || bigT L
structure NdSm (n : Nd) : Prop where
 classes : n.classes.length ≤ 8
 attrs : n.attrs.length ≤ 8
 tag : n.tag.data.size ≤ 60
 id : n.id.data.size ≤ 60
 cl : ∀ s ∈ n.classes, s.data.size ≤ 60
 at' : ∀ p ∈ n.attrs, p.1.data.size ≤ 60 ∧ p.2.data.size ≤ 100
theorem NdSm.of {n : Nd} (h : bigN n = false) : NdSm n := by
 unfold bigN bigP bigS at h
 simp only [Bool.or_eq_false_iff, decide_eq_false_iff_not, List.any_eq_false, Bool.or_eq_true, decide_eq_true_eq, not_or] at h
 obtain ⟨h1, h2, h3, h4, h5, h6⟩ := h
 exact ⟨by omega, by omega, by omega, by omega, fun s hs => by have := h5 s hs; omega, fun p hp => by have := h6 p hp; omega⟩
theorem bigR_step {L : List Nd} {m : Nat} {n : Nd} (h : L[m]? = some n) (hm : m < 100) : bigR L m = (bigN n || bigR L (m + 1)) := by
 unfold bigR
 obtain ⟨j, hj⟩ : ∃ j, 100 - m = j + 1 := ⟨99 - m, by omega⟩
 rw [drop_get h, hj, List.take_succ_cons, List.any_cons, Bool.or_assoc, show 100 - (m + 1) = j by omega]
section
attribute [local irreducible] law9_Big.L0 law9_Big.L1 law9_Big.L2
theorem big_L2 {L : List Nd} {m : Nat} {n : Nd} (hn : L[m]? = some n) (hm : m < 100) {K : AV → Hp → Prop} {y4 : AV} (hl : n.attrs.length ≤ 8)
  (h0 : ∀ H y4 y5, (∀ H, K (Bo (bigR L (m + 1))) H) → law9_Big.L0 σ K (nds L) (I ((m + 1 : Nat) : Int)) y4 y5 H) : ∀ (f k : Nat) (H : Hp), n.attrs.length - k = f → k ≤ n.attrs.length → (∀ H, K (Bo ((n.attrs.drop k).any bigP || bigR L (m + 1))) H) →
  law9_Big.L2 σ K (nds L) (I (m : Int)) y4 (I (k : Int)) H := by
 have hix : ixaSl 5 (nds L) (I (m : Int)) = some (.ip (encNd n)) := ix_map hn
 intro f
 induction f with
 | zero =>
  intro k H hf hk hK
  have : k = n.attrs.length := by omega
  subst this
  refine law9_Big.L2_step ?_
  have hw : wr .i64 ((m : Int) + 1) = ((m + 1 : Nat) : Int) := wr_succ (by omega)
  simp only [hix, bnd_some, sh_ip, ld_ip, f_encNd4, len_imm, List.length_map, b_lss, Int.lt_irrefl, decide_false, ifB_lit, Bool.false_eq_true, if_false, b_add, hw]
  refine h0 _ _ _ ?_
  simpa using hK
 | succ f ih =>
  intro k H hf hk hK
  have hlt : k < n.attrs.length := by omega
  obtain ⟨p, hp⟩ := get_lt hlt
  rw [drop_get hp, List.any_cons] at hK
  have hlt' : (k : Int) < n.attrs.length := by omega
  have hixp : ixaSl 2 (.imm 2 (n.attrs.map encPr)) (I (k : Int)) = some (.ip (encPr p)) := ix_map hp
  have hw : wr .i64 ((k : Int) + 1) = ((k + 1 : Nat) : Int) := wr_succ (by omega)
  refine law9_Big.L2_step ?_
  simp only [hix, bnd_some, sh_ip, ld_ip, f_encNd4, len_imm, List.length_map, b_lss, hlt', decide_true, ifB_lit, if_true, hixp, List.drop_zero, f_encPr0, f_encPr1', len_str, b_gtr, decide_eq_true_eq, b_add, hw]
  split
  ·rename_i h
   have : bigP p = true := by unfold bigP bigS; rw [decide_eq_true h, Bool.true_or]
   rw [this] at hK
   simpa using hK H
  rename_i h1
  split
  ·rename_i h
   have : bigP p = true := by unfold bigP; rw [decide_eq_true h, Bool.or_true]
   rw [this] at hK
   simpa using hK H
  ·rename_i h
   have : bigP p = false := by unfold bigP bigS; rw [decide_eq_false h, decide_eq_false h1]; rfl
   rw [this] at hK
   exact ih (k + 1) H (by omega) (by omega) (by simpa using hK)
theorem big_L1 {L : List Nd} {m : Nat} {n : Nd} (hn : L[m]? = some n) (hm : m < 100) {K : AV → Hp → Prop} {y5 : AV} (hl : n.attrs.length ≤ 8) (hl2 : n.classes.length ≤ 8)
  (h0 : ∀ H y4 y5, (∀ H, K (Bo (bigR L (m + 1))) H) → law9_Big.L0 σ K (nds L) (I ((m + 1 : Nat) : Int)) y4 y5 H) : ∀ (f k : Nat) (H : Hp), n.classes.length - k = f → k ≤ n.classes.length → (∀ H, K (Bo ((n.classes.drop k).any bigS || (n.attrs.any bigP || bigR L (m + 1)))) H) →
  law9_Big.L1 σ K (nds L) (I (m : Int)) (I (k : Int)) y5 H := by
 have hix : ixaSl 5 (nds L) (I (m : Int)) = some (.ip (encNd n)) := ix_map hn
 intro f
 induction f with
 | zero =>
  intro k H hf hk hK
  have : k = n.classes.length := by omega
  subst this
  refine law9_Big.L1_step ?_
  simp only [hix, bnd_some, sh_ip, ld_ip, f_encNd3, len_strs, b_lss, Int.lt_irrefl, decide_false, ifB_lit, Bool.false_eq_true, if_false]
  exact big_L2 hn hm hl h0 _ 0 H rfl (Nat.zero_le _) (by simpa using hK)
 | succ f ih =>
  intro k H hf hk hK
  have hlt : k < n.classes.length := by omega
  obtain ⟨p, hp⟩ := get_lt hlt
  rw [drop_get hp, List.any_cons] at hK
  have hlt' : (k : Int) < n.classes.length := by omega
  have hixp : ixaSl 1 (strs n.classes) (I (k : Int)) = some (.ip [Sx p]) := ix_map hp
  have lx : ∀ H, ldA false 1 H (.ip [Sx p]) = some (Sx p) := fun _ => rfl
  have hw : wr .i64 ((k : Int) + 1) = ((k + 1 : Nat) : Int) := wr_succ (by omega)
  refine law9_Big.L1_step ?_
  simp only [hix, bnd_some, sh_ip, ld_ip, f_encNd3, len_strs, b_lss, hlt', decide_true, ifB_lit, if_true, hixp, ldL_one, len_str, b_gtr, decide_eq_true_eq, b_add, hw]
  split
  ·rename_i h
   have : bigS p = true := decide_eq_true h
   rw [this] at hK
   simpa using hK H
  ·rename_i h
   have : bigS p = false := decide_eq_false h
   rw [this] at hK
   exact ih (k + 1) H (by omega) (by omega) (by simpa using hK)
theorem big_end {L : List Nd} {K : AV → Hp → Prop} {H : Hp} (hK : ∀ H, K (Bo (bigT L)) H) : bnd (lenSl (nds L)) fun x24 => bnd (binR .gtr x24 (I 40)) fun x25 => ifB x25 (bnd (lenSl (nds L)) fun x26 => bnd (binR .leq x26 (I 4096)) fun x27 => ifB x27 (K (Bo true) H) (bnd (lenSl (nds L)) fun x28 => bnd (binR .gtr x28 (I 4100)) fun x29 => K x29 H)) (bnd (lenSl (nds L)) fun x30 => bnd (binR .gtr x30 (I 4100)) fun x31 => K x31 H) := by
 simp only [len_nds, bnd_some, b_gtr, b_leq, ifB_lit, decide_eq_true_eq]
 have e : decide ((4100 : Int) < (L.length : Int)) = decide (4100 < L.length) := by rw [decide_eq_decide]; omega
 rw [e]
 unfold bigT at hK
 by_cases h1 : 40 < L.length
 ·have h1' : (40 : Int) < (L.length : Int) := by omega
  rw [if_pos h1] at hK
  rw [if_pos h1']
  by_cases h2 : L.length ≤ 4096
  ·have h2' : (L.length : Int) ≤ 4096 := by omega
   rw [if_pos h2] at hK
   rw [if_pos h2']
   exact hK H
  ·have h2' : ¬ (L.length : Int) ≤ 4096 := by omega
   rw [if_neg h2] at hK
   rw [if_neg h2']
   exact hK H
 ·have h1' : ¬ (40 : Int) < (L.length : Int) := by omega
  rw [if_neg h1] at hK
  rw [if_neg h1']
  exact hK H
theorem Big_ok (L : List Nd) (H : Hp) : Good Tryz.prog σ n_law9_Big [nds L] H (Bo (bigR L 0)) H := by
 refine good_by (fun K hK => law9_Big.run ?_) (by simp [noIds, noId]) rfl H
 have L0 : ∀ (f m : Nat) (H : Hp) (y4 y5 : AV), 100 - m = f → m ≤ L.length → m ≤ 100 → (∀ H, K (Bo (bigR L m)) H) → law9_Big.L0 σ K (nds L) (I (m : Int)) y4 y5 H := by
  intro f
  induction f with
  | zero =>
   intro m H y4 y5 hf hm hm2 hK
   obtain rfl : m = 100 := by omega
   have hK : ∀ H, K (Bo (bigT L)) H := by simpa [bigR] using hK
   refine law9_Big.L0_step ?_
   have e0 : ¬ (((100 : Nat) : Int) < 100) := by decide
   by_cases h : ((100 : Nat) : Int) < L.length
   ·simp only [len_nds, bnd_some, b_lss, h, decide_true, ifB_lit, if_true, e0, decide_false, Bool.false_eq_true, if_false]
    have hE := big_end (H := H) hK
    simp only [len_nds, bnd_some, b_gtr, b_leq] at hE ⊢
    exact hE
   ·simp only [len_nds, bnd_some, b_lss, h, decide_false, ifB_lit, Bool.false_eq_true, if_false]
    have hE := big_end (H := H) hK
    simp only [len_nds, bnd_some, b_gtr, b_leq] at hE ⊢
    exact hE
  | succ f ih =>
   intro m H y4 y5 hf hm hm2 hK
   refine law9_Big.L0_step ?_
   have e0 : ((m : Nat) : Int) < 100 := by omega
   by_cases h : m < L.length
   ·have h' : (m : Int) < L.length := by omega
    obtain ⟨n, hn⟩ := get_lt h
    rw [bigR_step hn (by omega)] at hK
    have hix : ixaSl 5 (nds L) (I (m : Int)) = some (.ip (encNd n)) := ix_map hn
    simp only [len_nds, bnd_some, b_lss, h', decide_true, ifB_lit, if_true, e0, hix, sh_ip, ld_ip, f_encNd3, f_encNd4, f_encNd1', f_encNd2, len_strs, len_imm, List.length_map, len_str, b_gtr, decide_eq_true_eq]
    unfold bigN at hK
    split
    ·rename_i h1; simp only [h1, decide_true, Bool.true_or] at hK; exact hK H
    rename_i h1
    split
    ·rename_i h2; simp only [h2, decide_true, Bool.true_or, Bool.or_true] at hK; exact hK H
    rename_i h2
    split
    ·rename_i h3
     have : bigS n.tag = true := decide_eq_true h3
     simp only [this, Bool.true_or, Bool.or_true] at hK; exact hK H
    rename_i h3
    split
    ·rename_i h4
     have : bigS n.id = true := decide_eq_true h4
     simp only [this, Bool.true_or, Bool.or_true] at hK; exact hK H
    rename_i h4
    have t3 : bigS n.tag = false := decide_eq_false h3
    have t4 : bigS n.id = false := decide_eq_false h4
    simp only [h1, h2, t3, t4, decide_false, Bool.false_or, Bool.or_assoc] at hK
    exact big_L1 hn (by omega) (by omega) (by omega) (fun H y4 y5 hK' => ih (m + 1) H y4 y5 (by omega) (by omega) (by omega) hK') _ 0 H rfl (Nat.zero_le _) (by simpa using hK)
   ·have h' : ¬ (m : Int) < L.length := by omega
    have : m = L.length := by omega
    subst this
    have hK : ∀ H, K (Bo (bigT L)) H := by simpa [bigR] using hK
    simp only [len_nds, bnd_some, b_lss, h', decide_false, ifB_lit, Bool.false_eq_true, if_false]
    have hE := big_end (H := H) hK
    simp only [len_nds, bnd_some, b_gtr, b_leq] at hE ⊢
    exact hE
 exact L0 _ 0 _ _ _ rfl (Nat.zero_le _) (by decide) hK
end
theorem good_byI {P : Program} {σ : Sig} {f : Nat} {xs : List AV} {r : AV} (h : ∀ K : AV → Hp → Prop, (∀ H, K r H) → ∃ r' H1, Good P σ f xs Hp.empty r' H1 ∧ K r' H1) (hx : noIds xs = true) (hr : noId r = true) (H : Hp) : Good P σ f xs H r H := by
 obtain ⟨r', H1, hg, e⟩ := h (fun r' _ => r' = r) (fun _ => rfl)
 subst e
 exact hg.frzR hx (.refl hr) H
structure TreeOk (L : List Nd) (d : List Nat) : Prop where
 len : L.length ≤ 40
 hB : Built L L.length d
 sm : ∀ n ∈ L, NdSm n
theorem trees_ok (L : List Nd) (hW : ∀ n ∈ L, NdWf n) : (∀ H, Good Tryz.prog σ n_law11_trees [nds L] H (.tup [.lit (.pointer none), .lit (.pointer none), Bo false]) H) ∨
  (∃ d, TreeOk L d ∧ ∀ H, Good Tryz.prog σ n_law11_trees [nds L] H (.tup [domT L d, refT L d, Bo true]) H) := by
 rcases refNew_ok (σ := σ) L hW with ⟨_, e, he, hg⟩ | ⟨d, hN, hB, hg⟩
 ·refine .inl fun H => good_by (fun K hK => law11_trees.run (callK_of (Big_ok L _) (callK_of (hg _) ?_))) (by simp [noIds, noId]) rfl H
  simp only [x_tup, List.getElem?_cons_zero, List.getElem?_cons_succ, bnd_some, ifB_lit, b_neq, he, decide_false, Bool.not_false, if_true]
  cases bigR L 0 <;> simp only [Bool.false_eq_true, if_true, if_false] <;> exact hK _
 ·cases hb : bigR L 0 with
  | true =>
   refine .inl fun H => good_by (fun K hK => law11_trees.run (callK_of (Big_ok L _) (callK_of (hg _) ?_))) (by simp [noIds, noId]) rfl H
   simp only [x_tup, List.getElem?_cons_zero, List.getElem?_cons_succ, bnd_some, hb, ifB_lit, if_true]
   exact hK _
  | false =>
   have hT : TreeOk L d := by
    unfold bigR bigT at hb
    simp only [Bool.or_eq_false_iff, List.drop_zero] at hb
    have hl : L.length ≤ 40 := by
     have h2 := hb.2
     by_cases h : 40 < L.length
     ·rw [if_pos h, if_pos hN] at h2; cases h2
     ·omega
    refine ⟨hl, hB, fun n hn => NdSm.of ?_⟩
    have := List.any_eq_false.1 hb.1 n (by rw [List.take_of_length_le (by omega)]; exact hn)
    simpa using this
   refine .inr ⟨d, hT, fun H => good_byI (fun K hK => law11_trees.run (callK_of (Big_ok L _) (callK_of (hg _) ?_))) (by simp [noIds, noId]) ?_ H⟩
   ·simp only [x_tup, List.getElem?_cons_zero, List.getElem?_cons_succ, bnd_some, hb, ifB_lit, b_neq, decide_true, Bool.not_true, Bool.false_eq_true, if_false]
    refine callK_of (domNew_ok hB hW hN _) ?_
    simp only [x_tup, List.getElem?_cons_zero, List.getElem?_cons_succ, bnd_some]
    exact hK _
   ·simp [noId, noIds, noId_domT, noId_refT]
end Go.Proofs.YtaoegkmfgfefgaaGreat.Ev
namespace Go.Proofs.YtaoegkmfgfefgaaGreat.Ev
set_option linter.unusedVariables false
set_option linter.unusedSimpArgs false
theorem rows_map {α : Type} {f : α → List AV} {P : α → Prop} : ∀ {rows : List (List AV)}, (∀ row ∈ rows, ∃ x, row = f x ∧ P x) → ∃ l : List α, rows = l.map f ∧ ∀ x ∈ l, P x
 | [], _ => ⟨[], rfl, fun x hx => by cases hx⟩
 | r :: rs, h => by
  obtain ⟨x, hx, px⟩ := h r (by simp)
  obtain ⟨l, hl, pl⟩ := rows_map (rows := rs) fun row hr => h row (by simp [hr])
  refine ⟨x :: l, by rw [hx, hl]; rfl, fun y hy => ?_⟩
  rcases List.mem_cons.1 hy with rfl | hy
  ·exact px
  ·exact pl y hy
theorem d_int {ts : List Nat} {zs : List AV} (h : Sh tiT.get (T_int :: ts) zs) : ∃ n ys, zs = I n :: ys ∧ i64 n ∧ Sh tiT.get ts ys := by
 obtain ⟨i, hi, hd, _⟩ := T_int_is
 obtain ⟨n, ys, e, hw, hs⟩ := sh_int hi hd h
 refine ⟨n, ys, e, ?_, hs⟩
 simp [Lit.wf, IntKind.min, IntKind.max, IntKind.signed, IntKind.bits] at hw
 unfold i64
 omega
theorem d_str {ts : List Nat} {zs : List AV} (h : Sh tiT.get (T_string :: ts) zs) : ∃ s ys, zs = Sx s :: ys ∧ s.data.size ≤ Lmax ∧ Sh tiT.get ts ys := by
 obtain ⟨i, hi, hd, _⟩ := T_string_is
 obtain ⟨s, ys, e, hw, hs⟩ := sh_str hi hd h
 exact ⟨s, ys, e, Nat.le_trans hw (by decide), hs⟩
theorem d_slice {t e sz : Nat} (hT : ∃ i, tiT.get t = some i ∧ i.d = .slice e ∧ i.size = 1) (hE : ∃ i, tiT.get e = some i ∧ i.size = sz) {ts : List Nat} {zs : List AV} (h : Sh tiT.get (t :: ts) zs) :
  ∃ rows ys, zs = .imm sz rows :: ys ∧ (∀ row ∈ rows, Sh tiT.get [e] row) ∧ rows.length ≤ Lmax ∧ Sh tiT.get ts ys := by
 obtain ⟨i, hi, hd, _⟩ := hT
 obtain ⟨j', hj', hs'⟩ := hE
 rcases sh_slice hi hd h with ⟨ys, _, _⟩ | ⟨j, rows, ys, hj, e, hr, hl, hm, _, hs⟩
 ·cases h with
  | sl h' hd' he hc hl hm hb hs => rw [hi] at h'; cases h'; rw [hd] at hd'; cases hd'; rw [hj'] at he; cases he; exact ⟨_, _, by rw [hs'], hc, hm, hs⟩
  | _ => simp_all
 ·rw [hj'] at hj
  cases hj
  rw [hs'] at e
  exact ⟨rows, ys, e, hr, hm, hs⟩
theorem d_struct {t : Nat} {fs : List (Nat × Nat)} {sz : Nat} (hT : ∃ i, tiT.get t = some i ∧ i.d = .struct fs ∧ i.size = sz) {ts : List Nat} {zs : List AV} (h : Sh tiT.get (t :: ts) zs) : Sh tiT.get (fs.map (·.2) ++ ts) zs := by
 obtain ⟨i, hi, hd, _⟩ := hT
 exact sh_struct hi hd h
theorem sz_of {t sz : Nat} {d : TD} (h : ∃ i, tiT.get t = some i ∧ i.d = d ∧ i.size = sz) : ∃ i, tiT.get t = some i ∧ i.size = sz := by
 obtain ⟨i, a, _, b⟩ := h
 exact ⟨i, a, b⟩
theorem d_strs {ts : List Nat} {zs : List AV} (h : Sh tiT.get (T_sl_string :: ts) zs) : ∃ l ys, zs = strs l :: ys ∧ strsWf Lmax l ∧ Sh tiT.get ts ys := by
 obtain ⟨rows, ys, e, hr, hm, hs⟩ := d_slice T_sl_string_is (sz_of T_string_is) h
 obtain ⟨l, hl, hp⟩ := rows_map (f := fun s => [Sx s]) (P := fun s => s.data.size ≤ Lmax) fun row hrow => by
  obtain ⟨s, ys, e, hw, hs⟩ := d_str (hr row hrow)
  rw [sh_nil hs] at e
  exact ⟨s, e, hw⟩
 exact ⟨l, ys, by rw [e, hl]; rfl, ⟨by rw [hl] at hm; simpa using hm, hp⟩, hs⟩
theorem d_attrs {ts : List Nat} {zs : List AV} (h : Sh tiT.get (T_sl_api_Attr :: ts) zs) : ∃ (l : List At) (ys : List AV), zs = .imm 3 (l.map encAt) :: ys ∧ (l.length ≤ Lmax ∧ ∀ x ∈ l, x.name.data.size ≤ Lmax ∧ i64 x.op ∧ x.text.data.size ≤ Lmax) ∧ Sh tiT.get ts ys := by
 obtain ⟨rows, ys, e, hr, hm, hs⟩ := d_slice T_sl_api_Attr_is (sz_of T_api_Attr_is) h
 obtain ⟨l, hl, hp⟩ := rows_map (f := encAt) (P := fun x => x.name.data.size ≤ Lmax ∧ i64 x.op ∧ x.text.data.size ≤ Lmax) fun row hrow => by
  have h1 := d_struct T_api_Attr_is (hr row hrow)
  obtain ⟨a, y1, e1, w1, h2⟩ := d_str h1
  obtain ⟨b, y2, e2, w2, h3⟩ := d_int h2
  obtain ⟨c, y3, e3, w3, h4⟩ := d_str h3
  rw [sh_nil h4] at e3
  exact ⟨⟨a, b, c⟩, by rw [e1, e2, e3]; rfl, w1, w2, w3⟩
 exact ⟨l, ys, by rw [e, hl], ⟨by rw [hl] at hm; simpa using hm, hp⟩, hs⟩
theorem d_parts : ∀ (n : Nat) {ts : List Nat} {zs : List AV}, SizeOf.sizeOf zs ≤ n → Sh tiT.get (T_sl_api_Part :: ts) zs → ∃ (l : List Pt) (ys : List AV), zs = .imm 6 (l.map encPt) :: ys ∧ (l.length ≤ Lmax ∧ ∀ p ∈ l, Pt.wf Lmax p) ∧ Sh tiT.get ts ys
 | 0, ts, zs, hn, h => by cases zs <;> simp at hn
 | n + 1, ts, zs, hn, h => by
  obtain ⟨rows, ys, e, hr, hm, hs⟩ := d_slice T_sl_api_Part_is (sz_of T_api_Part_is) h
  obtain ⟨l, hl, hp⟩ := rows_map (f := encPt) (P := fun p => Pt.wf Lmax p) fun row hrow => by
   have hsz : SizeOf.sizeOf row < n := by
    have h1 : SizeOf.sizeOf row < SizeOf.sizeOf rows := List.sizeOf_lt_of_mem hrow
    rw [e] at hn
    simp only [List.cons.sizeOf_spec, AV.imm.sizeOf_spec] at hn
    omega
   obtain ⟨k, y1, e1, w1, h1⟩ := d_int (d_struct T_api_Part_is (hr row hrow))
   have h1 := d_struct T_api_Compound_is h1
   obtain ⟨t, y2, e2, w2, h2⟩ := d_str h1
   obtain ⟨i, y3, e3, w3, h3⟩ := d_strs h2
   obtain ⟨c, y4, e4, w4, h4⟩ := d_strs h3
   obtain ⟨a, y5, e5, w5, h5⟩ := d_attrs h4
   obtain ⟨prows, y6, e6, hpr, hpm, h6⟩ := d_slice T_sl_api_Pseudo_is (sz_of T_api_Pseudo_is) h5
   rw [sh_nil h6] at e6
   subst e6 e5 e4 e3 e2 e1
   obtain ⟨ps, hps, hpp⟩ := rows_map (f := encPs) (P := fun p => Ps.wf Lmax p) fun prow hprow => by
    have hsz2 : SizeOf.sizeOf prow < n := by
     have h1 : SizeOf.sizeOf prow < SizeOf.sizeOf prows := List.sizeOf_lt_of_mem hprow
     simp only [List.cons.sizeOf_spec, AV.imm.sizeOf_spec] at hsz
     omega
    have g1 := d_struct T_api_Pseudo_is (hpr prow hprow)
    obtain ⟨k, y1, e1, w1, g2⟩ := d_int g1
    obtain ⟨a, y2, e2, w2, g3⟩ := d_int g2
    obtain ⟨b, y3, e3, w3, g4⟩ := d_int g3
    obtain ⟨srows, y4, e4, hsr, hsm, g5⟩ := d_slice T_sl_api_Selector_is (sz_of T_api_Selector_is) g4
    rw [sh_nil g5] at e4
    subst e4 e3 e2 e1
    obtain ⟨ss, hss, hsp⟩ := rows_map (f := encSl) (P := slWf Lmax) fun srow hsrow => by
     have hsz3 : SizeOf.sizeOf srow < n := by
      have h1 : SizeOf.sizeOf srow < SizeOf.sizeOf srows := List.sizeOf_lt_of_mem hsrow
      simp only [List.cons.sizeOf_spec, AV.imm.sizeOf_spec] at hsz2
      omega
     obtain ⟨l, y1, e1, w1, q1⟩ := d_parts n (by omega) (d_struct T_api_Selector_is (hsr srow hsrow))
     rw [sh_nil q1] at e1
     exact ⟨l, e1, w1.1, w1.2⟩
    refine ⟨.mk k a b ss, by rw [encPs_eq, hss]; rfl, ?_⟩
    rw [Ps.wf_iff]
    exact ⟨w1, w2, w3, by rw [hss, List.length_map] at hsm; exact hsm, hsp⟩
   refine ⟨.mk k (.mk t i c a ps), by rw [encPt_eq, encCp_eq, hps]; rfl, ?_⟩
   rw [Pt.wf_iff]
   exact ⟨w1, w2, w3, w4, w5.1, w5.2, by rw [hps, List.length_map] at hpm; exact hpm, hpp⟩
  exact ⟨l, ys, by rw [e, hl], ⟨by rw [hl] at hm; simpa using hm, hp⟩, hs⟩
theorem d_sel {ts : List Nat} {zs : List AV} (h : Sh tiT.get (T_api_Selector :: ts) zs) : ∃ (s : Sl) (ys : List AV), zs = encSl s ++ ys ∧ slWf Lmax s ∧ Sh tiT.get ts ys := by
 obtain ⟨l, ys, e, w, hs⟩ := d_parts _ (Nat.le_refl _) (d_struct T_api_Selector_is h)
 exact ⟨l, ys, e, w, hs⟩
theorem d_sels {ts : List Nat} {zs : List AV} (h : Sh tiT.get (T_sl_api_Selector :: ts) zs) : ∃ l ys, zs = sls l :: ys ∧ slsWf Lmax l ∧ Sh tiT.get ts ys := by
 obtain ⟨rows, ys, e, hr, hm, hs⟩ := d_slice T_sl_api_Selector_is (sz_of T_api_Selector_is) h
 obtain ⟨l, hl, hp⟩ := rows_map (f := encSl) (P := slWf Lmax) fun row hrow => by
  obtain ⟨s, y, e, w, hs⟩ := d_sel (hr row hrow)
  rw [sh_nil hs, List.append_nil] at e
  exact ⟨s, e, w⟩
 exact ⟨l, ys, by rw [e, hl]; rfl, ⟨by rw [hl] at hm; simpa using hm, hp⟩, hs⟩
def readB : List Nat := [T_int, T_string, T_bool, T_sl_string, T_sl_api_Attr, T_api_Attr, T_sl_api_Part, T_api_Part, T_api_Compound, T_sl_api_Pseudo, T_api_Pseudo, T_sl_api_Selector, T_api_Selector, T_sl_api_Node, T_api_Node, T_sl_api_Pair, T_api_Pair]
theorem readB_closed : closedB tiT.get readB = true := by kernel_rfl
end Go.Proofs.YtaoegkmfgfefgaaGreat.Ev
namespace Go.Proofs.YtaoegkmfgfefgaaGreat.Ev
theorem v_one {t sz : Nat} {d : TD} (hT : ∃ i, tiT.get t = some i ∧ i.d = d ∧ i.size = sz) (ha : d.agg = false) {x : AV} (h : ShV tiT.get t x) : Sh tiT.get [t] [x] := by
 obtain ⟨i, hi, hd, _⟩ := hT
 unfold ShV at h
 rw [hi] at h
 simp only [hd, ha] at h
 exact h
theorem v_sels {x : AV} (h : ShV tiT.get T_sl_api_Selector x) : ∃ l, x = sls l ∧ slsWf Lmax l := by
 obtain ⟨l, ys, e, w, hn⟩ := d_sels (v_one T_sl_api_Selector_is rfl h)
 cases e
 exact ⟨l, rfl, w⟩
end Go.Proofs.YtaoegkmfgfefgaaGreat.Ev
namespace Go.Proofs.YtaoegkmfgfefgaaGreat.Ev
theorem d_strR {ts : List Nat} {zs : List AV} (h : Sh tiT.get (T_string :: ts) zs) : ∃ s ys, zs = Sx s :: ys ∧ s.data.size ≤ reachBytes ∧ Sh tiT.get ts ys := by
 obtain ⟨i, hi, hd, _⟩ := T_string_is
 obtain ⟨s, ys, e, hw, hs⟩ := sh_str hi hd h
 exact ⟨s, ys, e, hw, hs⟩
theorem d_sliceB {t e sz B : Nat} (hT : ∃ i, tiT.get t = some i ∧ i.d = .slice e ∧ i.size = 1) (hE : ∃ i, tiT.get e = some i ∧ i.size = sz) (hB : (tiT.get e).map (·.bytes) = some B) {ts : List Nat} {zs : List AV} (h : Sh tiT.get (t :: ts) zs) :
  ∃ rows ys, zs = .imm sz rows :: ys ∧ (∀ row ∈ rows, Sh tiT.get [e] row) ∧ rows.length * B ≤ reachBytes ∧ Sh tiT.get ts ys := by
 obtain ⟨i, hi, hd, _⟩ := hT
 obtain ⟨j', hj', hs'⟩ := hE
 rw [hj'] at hB
 simp only [Option.map_some, Option.some.injEq] at hB
 cases h with
 | sl h' hd' he hc hl hm hb hs => rw [hi] at h'; cases h'; rw [hd] at hd'; cases hd'; rw [hj'] at he; cases he; exact ⟨_, _, by rw [hs'], hc, by rw [← hB]; exact hb, hs⟩
 | _ => simp_all
theorem d_strsR {ts : List Nat} {zs : List AV} (h : Sh tiT.get (T_sl_string :: ts) zs) : ∃ l ys, zs = strs l :: ys ∧ l.length * 16 ≤ reachBytes ∧ Sh tiT.get ts ys := by
 obtain ⟨rows, ys, e, hr, hm, hs⟩ := d_sliceB T_sl_string_is (sz_of T_string_is) (B := 16) (by kernel_rfl) h
 obtain ⟨l, hl, hp⟩ := rows_map (f := fun s => [Sx s]) (P := fun s => True) fun row hrow => by
  obtain ⟨s, ys, e, hw, hs⟩ := d_str (hr row hrow)
  rw [sh_nil hs] at e
  exact ⟨s, e, trivial⟩
 exact ⟨l, ys, by rw [e, hl]; rfl, by rw [hl] at hm; simpa using hm, hs⟩
theorem d_pairs {ts : List Nat} {zs : List AV} (h : Sh tiT.get (T_sl_api_Pair :: ts) zs) : ∃ (l : List (ByteArray × ByteArray)) (ys : List AV), zs = .imm 2 (l.map encPr) :: ys ∧ (l.length * 32 ≤ reachBytes ∧ ∀ x ∈ l, x.1.data.size ≤ reachBytes) ∧ Sh tiT.get ts ys := by
 obtain ⟨rows, ys, e, hr, hm, hs⟩ := d_sliceB T_sl_api_Pair_is (sz_of T_api_Pair_is) (B := 32) (by kernel_rfl) h
 obtain ⟨l, hl, hp⟩ := rows_map (f := encPr) (P := fun x => x.1.data.size ≤ reachBytes) fun row hrow => by
  obtain ⟨a, y1, e1, w1, h2⟩ := d_strR (d_struct T_api_Pair_is (hr row hrow))
  obtain ⟨b, y2, e2, w2, h3⟩ := d_strR h2
  rw [sh_nil h3] at e2
  exact ⟨⟨a, b⟩, by rw [e1, e2]; rfl, w1⟩
 exact ⟨l, ys, by rw [e, hl], ⟨by rw [hl] at hm; simpa using hm, hp⟩, hs⟩
theorem d_nodes {ts : List Nat} {zs : List AV} (h : Sh tiT.get (T_sl_api_Node :: ts) zs) : ∃ (l : List Nd) (ys : List AV), zs = nds l :: ys ∧ (∀ x ∈ l, NdWf x) ∧ l.length ≤ Lmax ∧ Sh tiT.get ts ys := by
 obtain ⟨rows, ys, e, hr, hm, hs⟩ := d_slice T_sl_api_Node_is (sz_of T_api_Node_is) h
 obtain ⟨l, hl, hp⟩ := rows_map (f := encNd) (P := NdWf) fun row hrow => by
  obtain ⟨p, y1, e1, w1, h2⟩ := d_int (d_struct T_api_Node_is (hr row hrow))
  obtain ⟨t, y2, e2, w2, h3⟩ := d_strR h2
  obtain ⟨i, y3, e3, w3, h4⟩ := d_strR h3
  obtain ⟨c, y4, e4, w4, h5⟩ := d_strsR h4
  obtain ⟨a, y5, e5, w5, h6⟩ := d_pairs h5
  rw [sh_nil h6] at e5
  exact ⟨⟨p, t, i, c, a⟩, by rw [e1, e2, e3, e4, e5]; rfl, w1, w2, w4, w5.1, w5.2⟩
 exact ⟨l, ys, by rw [e, hl]; rfl, hp, by rw [hl] at hm; simpa using hm, hs⟩
theorem v_nodes {x : AV} (h : ShV tiT.get T_sl_api_Node x) : ∃ l, x = nds l ∧ (∀ n ∈ l, NdWf n) ∧ l.length ≤ Lmax := by
 obtain ⟨l, ys, e, w, hl, hn⟩ := d_nodes (v_one T_sl_api_Node_is rfl h)
 cases e
 exact ⟨l, rfl, w, hl⟩
end Go.Proofs.YtaoegkmfgfefgaaGreat.Ev
namespace Go.Proofs.YtaoegkmfgfefgaaGreat.Ev
set_option linter.unusedVariables false
set_option linter.unusedSimpArgs false
theorem sum_bk {α : Type} {f : α → List AV} {g : α → Nat} : ∀ {l : List α}, (∀ x ∈ l, g x ≤ bkL (f x)) → (l.map g).sum ≤ bkLL (l.map f)
 | [], _ => by simp [bkLL]
 | x :: r, h => by
  have h1 := h x (by simp)
  have h2 := sum_bk (f := f) (g := g) (l := r) fun y hy => h y (by simp [hy])
  simp only [List.map_cons, List.sum_cons, bkLL]
  omega
theorem len_bk {α : Type} {f : α → List AV} {l : List α} (h : ∀ x ∈ l, 1 ≤ bkL (f x)) : l.length ≤ bkLL (l.map f) := by
 have h1 := sum_bk (f := f) (g := fun _ => 1) (l := l) h
 have h2 : ∀ l : List α, (l.map fun _ => 1).sum = l.length := by
  intro l
  induction l with
  | nil => rfl
  | cons a r ih => simp only [List.map_cons, List.sum_cons, List.length_cons, ih]; omega
 rw [h2] at h1
 exact h1
theorem mem_bk {α : Type} {f : α → List AV} {l : List α} {x : α} (h : x ∈ l) : bkL (f x) ≤ bkLL (l.map f) := bkLL_mem (List.mem_map_of_mem h)
theorem bk_S (s : ByteArray) : bk (Sx s) = s.data.size + 1 := by simp [bk]
theorem bk_I (n : Int) : bk (I n) = 1 := by simp [bk]
theorem bk_imm (sz : Nat) (rows : List (List AV)) : bk (.imm sz rows) = bkLL rows + 1 := by simp [bk]
theorem bk_strs (l : List ByteArray) : bk (strs l) = bkLL (l.map fun s => [Sx s]) + 1 := by unfold strs; rw [bk_imm]
theorem bk_cp (c : Cp) : bkL (encCp c) = (c.tag.data.size + 1) + ((bkLL (c.ids.map fun s => [Sx s]) + 1) + ((bkLL (c.classes.map fun s => [Sx s]) + 1) + ((bkLL (c.attrs.map encAt) + 1) + (bkLL (c.pseudos.map encPs) + 1)))) := by
 rw [encCp_eq]
 simp only [bkL, bk_S, bk_strs, bk_imm, Nat.add_zero]
theorem bk_pt (p : Pt) : bkL (encPt p) = 1 + bkL (encCp p.c) := by rw [encPt_eq]; simp only [bkL, bk_I]
theorem bk_ps (q : Ps) : bkL (encPs q) = 1 + (1 + (1 + (bkLL (q.list.map encSl) + 1))) := by rw [encPs_eq]; simp only [bkL, bk_I, bk_imm, Nat.add_zero]
theorem bk_sl (s : Sl) : bkL (encSl s) = bkLL (s.map encPt) + 1 := by unfold encSl; simp only [bkL, bk_imm, Nat.add_zero]
theorem bk_at (a : At) : bkL (encAt a) = (a.name.data.size + 1) + (1 + (a.text.data.size + 1)) := by unfold encAt; simp only [bkL, bk_S, bk_I, Nat.add_zero]
structure PtB (f : Nat) (p : Pt) : Prop where
 c : CpOk p.c
 ps : p.c.pseudos.length ≤ NB
 q : ∀ q ∈ p.c.pseudos, (i64 q.a ∧ i64 q.b) ∧ SlsOk f q.list
 tx : ∀ a ∈ p.c.attrs, a.text.data.size < 4294967281
 tq : ∀ q ∈ p.c.pseudos, TxL f q.list
 cnt : (p.c.pseudos.map fun q => cntF f q.list).sum + 6 ≤ bkL (encPt p)
theorem pt_bulk {f : Nat} (ih : ∀ l, slsWf Lmax l → FitL f l → bkLL (l.map encSl) ≤ NB → SlsOk f l ∧ TxL f l ∧ cntF f l ≤ bkLL (l.map encSl)) {p : Pt} (hw : CpWf Lmax p.c) (hf : FitP f p) (hb : bkL (encCp p.c) ≤ NB) : PtB f p := by
 have hN : NB = 1048576 := rfl
 have r : reachBytes = 140737488351232 := rfl
 rw [bk_cp, hN] at hb
 have l1 : p.c.ids.length ≤ bkLL (p.c.ids.map fun s => [Sx s]) := len_bk fun s _ => by simp only [bkL, bk_S]; omega
 have l2 : p.c.classes.length ≤ bkLL (p.c.classes.map fun s => [Sx s]) := len_bk fun s _ => by simp only [bkL, bk_S]; omega
 have l3 : p.c.attrs.length ≤ bkLL (p.c.attrs.map encAt) := len_bk fun s _ => by rw [bk_at]; omega
 have l4 : p.c.pseudos.length ≤ bkLL (p.c.pseudos.map encPs) := len_bk fun s _ => by rw [bk_ps]; omega
 have ht : ∀ a ∈ p.c.attrs, a.text.data.size ≤ 1048576 := fun a ha => by
  have h1 := mem_bk (f := encAt) ha
  rw [bk_at] at h1
  omega
 have hq : ∀ q ∈ p.c.pseudos, SlsOk f q.list ∧ TxL f q.list ∧ cntF f q.list ≤ bkLL (q.list.map encSl) := fun q hq => by
  have h1 := mem_bk (f := encPs) hq
  rw [bk_ps] at h1
  exact ih q.list (Ps.wf_iff.1 (hw.ps q hq)).2.2.2 (hf.2 q hq) (by rw [hN]; omega)
 refine ⟨⟨by omega, by omega, by omega, fun a ha => ⟨by have := ht a ha; omega⟩, by omega⟩, by omega, fun q h => ⟨⟨(Ps.wf_iff.1 (hw.ps q h)).2.1, (Ps.wf_iff.1 (hw.ps q h)).2.2.1⟩, (hq q h).1⟩, fun a ha => by have := ht a ha; omega, fun q h => (hq q h).2.1, ?_⟩
 have h5 : (p.c.pseudos.map fun q => cntF f q.list).sum ≤ bkLL (p.c.pseudos.map encPs) := sum_bk fun q h => by
  have := (hq q h).2.2
  rw [bk_ps]; omega
 rw [bk_pt, bk_cp]
 omega
theorem sls_bulk : ∀ (f : Nat) (l : List Sl), slsWf Lmax l → FitL f l → bkLL (l.map encSl) ≤ NB → SlsOk f l ∧ TxL f l ∧ cntF f l ≤ bkLL (l.map encSl)
 | 0, l, _, h, _ => h.elim
 | f + 1, l, hw, hf, hb => by
  have hN : NB = 1048576 := rfl
  have hl : l.length ≤ bkLL (l.map encSl) := len_bk fun s _ => by rw [bk_sl]; omega
  have hs : ∀ s ∈ l, s.length ≤ NB ∧ ∀ p ∈ s, PtB f p := fun s h => by
   have h1 := mem_bk (f := encSl) h
   rw [bk_sl] at h1
   have h2 : s.length ≤ bkLL (s.map encPt) := len_bk fun p _ => by rw [bk_pt]; omega
   refine ⟨by omega, fun p hp => ?_⟩
   have h3 := mem_bk (f := encPt) hp
   rw [bk_pt] at h3
   exact pt_bulk (sls_bulk f) (Pt.wf_iff.1 ((hw.2 s h).2 p hp)).2 ((hf s h).2 p hp) (by omega)
  refine ⟨⟨by omega, fun s h => ⟨(hs s h).1, fun p hp => ⟨((hs s h).2 p hp).c, ((hs s h).2 p hp).ps, ((hs s h).2 p hp).q⟩⟩⟩, fun s h p hp => ⟨((hs s h).2 p hp).tx, ((hs s h).2 p hp).tq⟩, ?_⟩
  rw [cntF]
  refine sum_bk fun s h => ?_
  rw [bk_sl]
  have : (s.map fun p => (p.c.pseudos.map fun q => cntF f q.list).sum).sum ≤ bkLL (s.map encPt) := sum_bk fun p hp => by
   have := ((hs s h).2 p hp).cnt
   omega
  omega
theorem sel_bulk {l : List Sl} (hw : slsWf Lmax l) (hf : FitL 11 l) (hb : bkLL (l.map encSl) ≤ NB) : SelOk 11 l ∧ TxL 11 l := by
 obtain ⟨h1, h2, h3⟩ := sls_bulk 11 l hw hf hb
 exact ⟨⟨hw, h1, hf.nest, by decide, by omega⟩, h2⟩
end Go.Proofs.YtaoegkmfgfefgaaGreat.Ev
namespace Go.Proofs.YtaoegkmfgfefgaaGreat.Ev
set_option linter.unusedVariables false
set_option linter.unusedSimpArgs false
variable {σ : Sig}
end Go.Proofs.YtaoegkmfgfefgaaGreat.Ev
namespace Go.Proofs.YtaoegkmfgfefgaaGreat.Ev
set_option linter.unusedVariables false
set_option linter.unusedSimpArgs false
variable {σ : Sig}
section
end
section
end
end Go.Proofs.YtaoegkmfgfefgaaGreat.Ev
namespace Go.Proofs.YtaoegkmfgfefgaaGreat.Ev
set_option linter.unusedVariables false
set_option maxRecDepth 100000
set_option maxHeartbeats 4000000
def isT : Option (AV × Hp) → Bool
 | some (.lit (.bool b), _) => b
 | _ => false
theorem good_of_isT {P : Program} (C : Ctx P) (hm : P.follows .mixedOrders = true) {funs : Nat → Option Func} {ov : Nat → List AV → Hp → Option (AV × Hp)} (hov : ∀ f xs H r H', ov f xs H = some (r, H') → Good P C.σ f xs H r H')
  (hfuns : ∀ f fn, funs f = some fn → P.funcs[f]? = some fn ∧ (fn.name == "runtime.NumGoroutine") = false) {L d f : Nat} {xs : List AV} (hx : noIds xs = true) (h : isT (evF C funs ov L d f xs Hp.empty) = true) (H : Hp) : Good P C.σ f xs H (.lit (.bool true)) H := by
 cases he : evF C funs ov L d f xs Hp.empty with
 | none => rw [he] at h; cases h
 | some p =>
  obtain ⟨r, H'⟩ := p
  have hg := evF_ok C hm hov hfuns L d f xs Hp.empty r H' he
  rw [he] at h
  unfold isT at h
  split at h
  ·rename_i e; cases e; subst h; exact hg.over hx rfl H
  ·cases h
theorem alive_of {σ : Sig} {f : Nat} (h : isT (evF (CZ σ) fnT.get noOv 1000 60 f [] Hp.empty) = true) (H : Hp) : Good Tryz.prog σ f [] H (.lit (.bool true)) H :=
 good_of_isT (CZ σ) mixed noOv_ok fnT_ok (L := 1000) (d := 60) rfl h H
end Go.Proofs.YtaoegkmfgfefgaaGreat.Ev
namespace Go.Proofs.YtaoegkmfgfefgaaGreat.Ev
set_option maxRecDepth 100000
set_option maxHeartbeats 4000000
end Go.Proofs.YtaoegkmfgfefgaaGreat.Ev

/- The walks, part 5: the evaluator, the functions, the laws. Conditions: none. -/
import Derived.Test.YthmaggcfghjmfaaZ4
namespace Go.Proofs.Ythmaggcfghjmfaa.Ev
set_option linter.unusedVariables false
set_option linter.unusedSimpArgs false
variable {σ : Sig}
theorem frz_res {sz : Nat} {H : Hp} {x : AV} {rows : List (List AV)} (hg : Gs sz H x rows) (hn : noIdss rows = true) :
    ∃ Hd H2 : Hp, Hd.n = H.n ∧ H2.n = H.n ∧ (∀ id k, Hd.get id = some k → H.get id = some k ∧ H2.get id = none) ∧ (∀ id k2, H2.get id = some k2 → ∃ k1, H.get id = some k1 ∧ FzB Hd k1 k2) ∧ Fz Hd x (.imm sz rows) ∧ ∀ j, ¬ own x j → H2.get j = H.get j := by
  cases hg with
  | nil =>
    let Hd : Hp := ⟨H.n, Hp.empty.t⟩
    have hd0 : ∀ id, Hd.get id = none := fun id => by simp [Hd, Hp.empty, Hp.get, Tr.get]
    exact ⟨Hd, H, rfl, rfl, fun id k h => (by rw [hd0] at h; cases h), fun id k2 h => ⟨k2, h, .refl _ _⟩, .nil, fun j _ => rfl⟩
  | sl hlt hg hsz =>
    rename_i id exx
    let Hd : Hp := (⟨H.n, Hp.empty.t⟩ : Hp).set id (some (.cells rows.flatten exx))
    have hd0 : ∀ j, Hd.get j = if j = id then some (.cells rows.flatten exx) else none := fun j => by
      show ((⟨H.n, Hp.empty.t⟩ : Hp).set id _).get j = _
      rw [hp_get_set]
      split
      · rfl
      · simp [Hp.empty, Hp.get, Tr.get]
    have hf : Fz Hd (.sl id 0 sz rows.length none) (.imm sz rows) := .rows (cs := rows.flatten) (ex := exx) (by rw [hd0, if_pos rfl]) hsz (by rw [List.drop_zero]; exact List.take_of_length_le (by rw [flatten_len hsz]; exact Nat.le_refl _)) hn
    refine ⟨Hd, H.set id none, rfl, rfl, fun j k h => ?_, fun j k2 h => ?_, hf, fun j ho => ?_⟩
    · rw [hd0] at h
      split at h
      · rename_i e; subst e; cases h
        exact ⟨hg, by simp⟩
      · cases h
    · rw [hp_get_set] at h
      split at h
      · cases h
      · exact ⟨k2, h, .refl _ _⟩
    · have : j ≠ id := fun e => ho (by rw [e]; rfl)
      simp [this]
theorem add_sp {f : Nat} {l : List Sl} (hl : SlsOk f l) {t : AV} {C : List (List Lk)} {ab mb : Nat} {cs : AV} {H : Hp} {K : AV → Hp → Prop} (hA : AddH t C ab mb cs H) (hc : C.length + cntF f l ≤ NB)
    (hK : ∀ (H' : Hp) (cs' : AV) (C2 : List (List Lk)) (ns : List Nat), AddH t (C ++ C2) ab mb cs' H' → Rep (C ++ C2) f l ns → C2.length = cntF f l → (∀ c ∈ C2, ChOk c) → AFr H cs ab H' cs' → K (ints ns) H') : callK Try.prog σ n_match_asked_add [.ptr ab 0, sls l] H K := by
  obtain ⟨r, H1, hg, cs', C2, ns, h1, h2, h3, h4, h5, h6, h7⟩ := add_ok (σ := σ) f l hl t C ab mb cs H (fun r H' => ∃ cs' C2 ns, AddH t (C ++ C2) ab mb cs' H' ∧ Rep (C ++ C2) f l ns ∧ C2.length = cntF f l ∧ (∀ c ∈ C2, ChOk c) ∧ Gs 1 H' r (ns.map encN) ∧ (∀ j, own r j → H.n ≤ j ∧ ¬ own cs' j) ∧ AFr H cs ab H' cs') hA hc fun H' cs' C2 r ns a b c d e f g => ⟨cs', C2, ns, a, b, c, d, e, f, g⟩
  obtain ⟨Hd, H2, a1, a2, a3, a4, a5, a6⟩ := frz_res h5 (noIds_map _ (fun _ => rfl) ns)
  have hab := hA.nab
  refine callK_of (hg.frzH a2 a1 a3 a4 (.inr a5)) (hK H2 cs' C2 ns (h1.loc (by omega) (a6 _ fun h => ?_) fun j hj => a6 _ fun h => (h6 j h).2 hj) h2 h3 h4 (h7.loc (by omega) fun j hj => a6 _ fun h => ?_))
  · have := (h6 _ h).1; omega
  · have := (h6 _ h).1; omega
theorem selC_app {C D : List (List Lk)} {n : Nat} (h : n < C.length) : selC (C ++ D) n = selC C n := by
  unfold selC
  rw [List.getD_eq_getElem?_getD, List.getD_eq_getElem?_getD, List.getElem?_append_left h]
theorem tru_app {L : List Nd} {C D : List (List Lk)} {n : Nat} (h : n < C.length) (i e : Nat) (a : Bool) : Tru L (C ++ D) n i e a = Tru L C n i e a := by
  unfold Tru
  rw [selC_app h]
theorem MemoOk.app {L : List Nd} {C D : List (List Lk)} {es : List (AV × AV)} (h : MemoOk C.length (Tru L C) es) : MemoOk (C ++ D).length (Tru L (C ++ D)) es := fun p hp => by
  obtain ⟨n, i, e, a, h1, h2, h3⟩ := h p hp
  exact ⟨n, i, e, a, by rw [List.length_append]; omega, by rw [tru_app h1]; exact h2, h3⟩
theorem cntF_cons (f : Nat) (s : Sl) (l : List Sl) : cntF f (s :: l) = cntF f [s] + cntF f l := by
  cases f with
  | zero => rfl
  | succ f => simp [cntF]
theorem Nest.one {f : Nat} {l : List Sl} (h : Nest f l) {s : Sl} (hs : s ∈ l) : Nest f [s] := by
  cases f with
  | zero => exact h
  | succ f => exact fun s' hs' => by rw [List.mem_singleton.1 hs']; exact h s hs
theorem SlsOk.one {f : Nat} {l : List Sl} (h : SlsOk f l) {s : Sl} (hs : s ∈ l) : SlsOk f [s] := by
  cases f with
  | zero => exact h
  | succ f => exact ⟨(by show 1 ≤ NB; decide), fun s' hs' => by rw [List.mem_singleton.1 hs']; exact h.2 s hs⟩
theorem sl_one {l : List Sl} {m : Nat} {s : Sl} (h : l[m]? = some s) : slSl 1 (sls l) (some (I (m : Int))) (some (I ((m + 1 : Nat) : Int))) none = some (sls [s]) := by
  have hlt := (List.getElem?_eq_some_iff.1 h).1
  have e1 : ((m : Int) + 1) ≤ l.length := by omega
  have e2 : (0 : Int) ≤ (m : Int) + 1 := by omega
  have e3 : ((m : Int) + 1).toNat = m + 1 := by omega
  have e4 : (List.drop m (l.map encSl)).take 1 = [encSl s] := by
    rw [← List.map_drop, drop_get h]; rfl
  simp [slSl, intO, intA, slSl0, sls, boundsA, boundA, beqN, e1, e2, e3, e4, show ((m : Int) ≤ (m : Int) + 1) from by omega]
def mayAny (L : List Nd) (f : Nat) (l : List Sl) (e : Nat) : Bool := l.any fun s => mayF f [s] 8 && AA L [s] e
structure McT (σ : Sig) (L : List Nd) (d : List Nat) : Prop where
  hC : HasC σ
  hB : Built L L.length d
  hN : L.length ≤ 4096
  sm : ∀ e, e < L.length → SmN (lowN (ndAt L e))
structure SelOk (f : Nat) (l : List Sl) : Prop where
  wf : slsWf Lmax l
  ok : SlsOk f l
  nest : Nest f l
  hf : f ≤ 12
  cnt : cntF f l ≤ NB
section
attribute [local irreducible] match_Any.L0
theorem Any_ok {L : List Nd} {d : List Nat} (M : McT σ L d) {f : Nat} {l : List Sl} (S : SelOk f l) (e : Int) (H : Hp) :
    Good Try.prog σ n_match_Any [domT L d, I e, sls l] H (Bo (decide (0 ≤ e) && decide (e < L.length) && mayAny L f l e.toNat)) H := by
  have hNB : NB = 1048576 := rfl
  refine good_by (fun K hK => match_Any.run (callK_of (is_ok L d e _) ?_)) (by simp [noIds, noId, noId_domT, noId_sls]) rfl H
  simp only [u_not, bnd_some, ifB_lit]
  cases hin : (decide (0 ≤ e) && decide (e < L.length)) with
  | false => rw [hin] at hK; simpa using hK _
  | true =>
  rw [hin] at hK
  simp only [Bool.true_and] at hK
  simp only [Bool.and_eq_true, decide_eq_true_eq] at hin
  obtain ⟨en, rfl⟩ : ∃ en : Nat, e = (en : Int) := ⟨e.toNat, by omega⟩
  have he : en < L.length := by omega
  rw [Int.toNat_natCast] at hK
  simp only [Bool.not_true, Bool.false_eq_true, if_false]
  have hlen : lenSl (sls l) = some (I (l.length : Int)) := by unfold sls; simp
  have hlw : l.length ≤ NB := by
    have := S.ok
    revert this
    cases f with
    | zero => exact fun h => h.elim
    | succ f => exact fun h => h.1
  have L0 : ∀ (k m : Nat) (H1 : Hp) (C : List (List Lk)) (ab mb : Nat) (cs : AV), l.length - m = k → m ≤ l.length → Asks (domT L d) C (Tru L C) ab mb cs H1 → ¬ own cs ab → Mc σ L d C → C.length + cntF f (l.drop m) ≤ NB → (∀ H, K (Bo (mayAny L f (l.drop m) en)) H) →
      match_Any.L0 σ K (I (en : Int)) (sls l) (.ptr ab 0) (I l.length) (I (m : Int)) H1 := by
    intro k
    induction k with
    | zero =>
      intro m H1 C ab mb cs hk hm hA hcs hM hc hK
      have : m = l.length := by omega
      subst this
      refine match_Any.L0_step ?_
      simp
      simpa [mayAny] using hK H1
    | succ k ih =>
      intro m H1 C ab mb cs hk hm hA hcs hM hc hK
      have hlt : m < l.length := by omega
      obtain ⟨s, hs⟩ := get_lt hlt
      have hsm := List.mem_of_getElem? hs
      have hlt' : (m : Int) < l.length := by omega
      rw [drop_get hs] at hK hc
      rw [cntF_cons] at hc
      have hwf : slsWf Lmax [s] := ⟨(by show 1 ≤ Lmax; decide), fun s' h => by rw [List.mem_singleton.1 h]; exact S.wf.2 s hsm⟩
      have hn1 := S.nest.one hsm
      have hcons : mayAny L f (s :: l.drop (m + 1)) en = ((mayF f [s] 8 && AA L [s] en) || mayAny L f (l.drop (m + 1)) en) := by simp [mayAny]
      rw [hcons] at hK
      refine match_Any.L0_step ?_
      simp only [b_lss, hlt', decide_true, bnd_some, ifB_lit, if_true, b_add, wr_succ (show m < 9000000000000000000 by omega), sl_one hs]
      refine callK_of (may_ok f [s] 8 _ hwf hn1 (by omega)) ?_
      simp only [ifB_lit]
      cases hmay : mayF f [s] 8 with
      | false =>
        rw [hmay] at hK
        simp only [Bool.false_and, Bool.false_or] at hK
        simp only [Bool.false_eq_true, if_false]
        exact ih (m + 1) H1 C ab mb cs (by omega) (by omega) hA hcs hM (by omega) hK
      | true =>
        rw [hmay] at hK
        simp only [Bool.true_and] at hK
        simp only [if_true]
        have nmb := hA.nmb
        have nab := hA.nab
        refine add_sp (S.ok.one hsm) ⟨hA.gab, hA.nab, hA.gcs, hcs⟩ (by omega) fun H' cs' C2 ns b1 b2 b3 b4 b5 => ?_
        have up := b5.up
        have hA' : Asks (domT L d) (C ++ C2) (Tru L (C ++ C2)) ab mb cs' H' := by
          obtain ⟨es, g1, g2⟩ := hA.memo
          refine ⟨b1.gab, b1.nab, by omega, hA.ne, b1.gcs, fun h => ?_, es, by rw [b5.get mb nmb hA.ne.symm hA.csm]; exact g1, g2.app⟩
          rcases b5.mine mb h with h | h
          · exact hA.csm h
          · omega
        have hM' : Mc σ L d (C ++ C2) := by
          have hre : NB ≤ reachBytes := by rw [reach_eq]; decide
          refine ⟨M.hC, M.hB, M.hN, M.sm, ?_, fun c hc' => ?_, fun c hc' => ?_⟩
          · rw [List.length_append, b3]; omega
          · rcases List.mem_append.1 hc' with h | h
            · exact hM.ll c h
            · exact Nat.le_trans (b4 c h).len hre
          · rcases List.mem_append.1 hc' with h | h
            · exact hM.lk c h
            · exact (b4 c h).lk
        have hns : ns.length ≤ reachBytes := by
          have : ns.length = 1 := by
            have := b2
            revert this
            cases f with
            | zero => exact fun h => h.elim
            | succ f => exact fun h => h.1
          rw [this]; decide
        refine any_ok hM' f S.hf [s] ns b2 hn1 S.hf hns en he ab mb cs' H' _ hA' fun H2 h2 kp2 => ?_
        simp only [ifB_lit]
        cases haa : AA L [s] en with
        | true =>
          rw [haa] at hK
          simpa using hK H2
        | false =>
          rw [haa] at hK
          simp only [Bool.false_or] at hK
          simp only [Bool.false_eq_true, if_false]
          exact ih (m + 1) H2 (C ++ C2) ab mb cs' (by omega) (by omega) h2 b1.csab hM' (by rw [List.length_append, b3]; omega) hK
  refine match_begin.run ?_
  have hb : bldR [.lit (.pointer none), .lit (.slice none 0 0), .lit (.map none)] [(0, 1, domT L d), (2, 1, .mp Hp.empty.n)] = some [domT L d, .lit (.slice none 0 0), .mp Hp.empty.n] := rfl
  simp only [hb, bnd_some, boxK_agg, hlen]
  refine L0 l.length 0 _ [] _ Hp.empty.n (.lit (.slice none 0 0)) (by omega) (Nat.zero_le _) ⟨?_, ?_, ?_, ?_, .nil, fun h => h.elim, [], ?_, fun p hp => by cases hp⟩ (fun h => h.elim) ⟨M.hC, M.hB, M.hN, M.sm, Nat.zero_le _, fun c hc => (by cases hc), fun c hc => (by cases hc)⟩ (by simpa using S.cnt) (by simpa using hK)
  · simp
  · simp
  · simp only [Hp.n_new]; omega
  · simp
  · simp
end
end Go.Proofs.Ythmaggcfghjmfaa.Ev
namespace Go.Proofs.Ythmaggcfghjmfaa.Ev
set_option linter.unusedVariables false
set_option linter.unusedSimpArgs false
variable {σ : Sig}
theorem fz_sl1 {H : Hp} {id : Nat} {s : Sl} {ex : Bool} {cap : Option Nat} (hg : H.get id = some (.cells (encSl s) ex)) : Fz H (.sl id 0 1 1 cap) (sls [s]) := by
  have h1 : (encSl s).length = 1 := rfl
  have : Fz H (.sl id 0 1 [encSl s].length cap) (.imm 1 [encSl s]) := .rows hg (by simp [h1]) (by simp; exact List.take_of_length_le (by rw [h1]; exact Nat.le_refl _)) (by simp [noIdss, noId_Sl])
  exact this
def selB (L : List Nd) (f : Nat) (s : Sl) (e : Int) : Bool := decide (0 ≤ e) && decide (e < L.length) && mayAny L f [s] e.toNat
theorem Sel_ok {L : List Nd} {d : List Nat} (M : McT σ L d) {f : Nat} {s : Sl} (S : SelOk f [s]) (e : Int) (H : Hp) : Good Try.prog σ n_match_Selector [domT L d, I e, .agg (encSl s)] H (Bo (selB L f s e)) H := by
  refine good_by (fun K hK => match_Selector.run ?_) (by simp [noIds, noId, noId_domT, noId_Sl]) rfl H
  have hb : ∀ H : Hp, bldSlR [.slice none 0 0] 1 1 H [(0, 1, .agg (encSl s))] = some (.sl H.n 0 1 1 (some 1), H.new (.cells (encSl s) true)) := fun H => by
    unfold bldSlR encSl; rfl
  have hl : ∀ H : Hp, ldA true 1 (H.new (.cells (encSl s) true)) (.ptr H.n 0) = some (.agg (encSl s)) := fun H => by
    simp only [ld_ptr, hp_get_new, if_true, ldO_cells, List.drop_zero, ldL_sl]
  simp only [boxK_agg, hl, hb, bnd_some]
  refine callK_of ((Any_ok M S e Hp.empty).frzA (.cons (.refl (noId_domT L d)) (.cons (.refl rfl) (.cons (fz_sl1 (ex := true) (by simp)) .nil))) rfl) ?_
  exact hK _
end Go.Proofs.Ythmaggcfghjmfaa.Ev
namespace Go.Proofs.Ythmaggcfghjmfaa.Ev
set_option linter.unusedVariables false
set_option linter.unusedSimpArgs false
variable {σ : Sig}
section
end
end Go.Proofs.Ythmaggcfghjmfaa.Ev
namespace Go.Proofs.Ythmaggcfghjmfaa.Ev
set_option linter.unusedVariables false
set_option linter.unusedSimpArgs false
variable {σ : Sig}
end Go.Proofs.Ythmaggcfghjmfaa.Ev
namespace Go.Proofs.Ythmaggcfghjmfaa.Ev
set_option linter.unusedVariables false
set_option linter.unusedSimpArgs false
variable {σ : Sig}
end Go.Proofs.Ythmaggcfghjmfaa.Ev
namespace Go.Proofs.Ythmaggcfghjmfaa.Ev
set_option linter.unusedVariables false
set_option linter.unusedSimpArgs false
variable {σ : Sig}
end Go.Proofs.Ythmaggcfghjmfaa.Ev
namespace Go.Proofs.Ythmaggcfghjmfaa.Ev
set_option linter.unusedVariables false
set_option linter.unusedSimpArgs false
variable {σ : Sig}
end Go.Proofs.Ythmaggcfghjmfaa.Ev
namespace Go.Proofs.Ythmaggcfghjmfaa.Ev
set_option linter.unusedVariables false
set_option linter.unusedSimpArgs false
variable {σ : Sig}
end Go.Proofs.Ythmaggcfghjmfaa.Ev
namespace Go.Proofs.Ythmaggcfghjmfaa.Ev
set_option linter.unusedVariables false
set_option linter.unusedSimpArgs false
variable {σ : Sig}
end Go.Proofs.Ythmaggcfghjmfaa.Ev
namespace Go.Proofs.Ythmaggcfghjmfaa.Ev
set_option linter.unusedVariables false
set_option linter.unusedSimpArgs false
variable {σ : Sig}
section
variable {L : List Nd} {d : List Nat} {e : Nat} {c : Cp} {n : Nd} {dp : Nat} {b6 b9 : Nat} {K : AV → Hp → Prop}
structure RcOk (c : Cp) : Prop where
  ids : c.ids.length ≤ reachBytes
  classes : c.classes.length ≤ reachBytes
  attrs : c.attrs.length ≤ reachBytes
  ps : c.pseudos.length ≤ reachBytes
  texts : ∀ a ∈ c.attrs, a.text.data.size < 4294967281
end
end Go.Proofs.Ythmaggcfghjmfaa.Ev
namespace Go.Proofs.Ythmaggcfghjmfaa.Ev
set_option linter.unusedVariables false
set_option linter.unusedSimpArgs false
variable {σ : Sig}
section
end
structure Kn (L : List Nd) (s : Sl) (kb M : Nat) (H : Hp) : Prop where
  lt : kb < H.n
  get : ∃ ks, H.get kb = some (.cells ks true) ∧ ks.length = M ∧ ∀ e k, e < L.length → k < s.length → ∃ v : Int, ks[e * s.length + k]? = some (I v) ∧ (v = 0 ∨ (v = 1 ∧ frontB (AA L) L s k e = true) ∨ (v = 2 ∧ frontB (AA L) L s k e = false))
theorem Kn.keep {L : List Nd} {s : Sl} {kb M : Nat} {H H' : Hp} (h : Kn L s kb M H) (hn : H.n ≤ H'.n) (hg : H'.get kb = H.get kb) : Kn L s kb M H' := by
  obtain ⟨ks, h1, h2, h3⟩ := h.get
  exact ⟨Nat.lt_of_lt_of_le h.lt hn, ks, by rw [hg]; exact h1, h2, h3⟩
theorem Kn.new {L : List Nd} {s : Sl} {kb M : Nat} {H : Hp} (h : Kn L s kb M H) (b : Blk) : Kn L s kb M (H.new b) := by
  refine h.keep (by simp) ?_
  have : kb ≠ H.n := by have := h.lt; omega
  simp [this]
theorem idx_inj {n a b x y : Nat} (hx : x < n) (hy : y < n) (h : a * n + x = b * n + y) : a = b ∧ x = y := by
  have h1 : (a * n + x) / n = (b * n + y) / n := by rw [h]
  have hn : 0 < n := by omega
  rw [Nat.mul_comm a, Nat.mul_comm b, Nat.mul_add_div hn, Nat.mul_add_div hn, Nat.div_eq_of_lt hx, Nat.div_eq_of_lt hy] at h1
  simp only [Nat.add_zero] at h1
  subst h1
  exact ⟨rfl, by omega⟩
theorem ov_set : ∀ (cs : List AV) (i : Nat) (x : AV), i < cs.length → overlay cs i [x] = cs.set i x := by
  intro cs
  induction cs with
  | nil => intro i x hi; simp at hi
  | cons c r ih =>
    intro i x hi
    cases i with
    | zero => simp
    | succ i => rw [overlay_s, List.set_cons_succ, ih i x (by simpa using hi)]
theorem Kn.put {L : List Nd} {s : Sl} {kb M : Nat} {H : Hp} (h : Kn L s kb M H) {e k : Nat} (he : e < L.length) (hk : k < s.length) {v : Int} (hv : v = 0 ∨ (v = 1 ∧ frontB (AA L) L s k e = true) ∨ (v = 2 ∧ frontB (AA L) L s k e = false)) :
    ∃ H', stA 1 H (.ptr kb (e * s.length + k)) (I v) = some H' ∧ Kn L s kb M H' ∧ Kp kb H H' ∧ ldA false 1 H' (.ptr kb (e * s.length + k)) = some (I v) := by
  obtain ⟨ks, h1, h2, h3⟩ := h.get
  obtain ⟨v0, hv0, _⟩ := h3 e k he hk
  have hlt := (List.getElem?_eq_some_iff.1 hv0).1
  refine ⟨H.set kb (some (.cells (ks.set (e * s.length + k) (I v)) true)), ?_, ⟨by simpa using h.lt, _, by simp; rfl, by simpa using h2, fun e' k' he' hk' => ?_⟩, ⟨by simp, fun j hj hne => by simp [hne]⟩, ?_⟩
  · have hlt' : e * s.length + k + [I v].length ≤ ks.length := by simp; omega
    rw [st_int, h1]
    simp only [stO_cells]
    rw [if_pos ⟨hlt', rfl⟩, ov_set _ _ _ hlt]
  · by_cases hi : e * s.length + k = e' * s.length + k'
    · obtain ⟨rfl, rfl⟩ := idx_inj hk hk' hi
      exact ⟨v, by simp [hlt], hv⟩
    · obtain ⟨w, hw, hw'⟩ := h3 e' k' he' hk'
      exact ⟨w, by simp [List.getElem?_set, hi, hw], hw'⟩
  · simp only [ld_ptr, hp_get_set, if_true, ldO_cells]
    rw [List.drop_eq_getElem_cons (by simpa using hlt), ldL_one]
    simp
section
variable {L : List Nd} {d : List Nat} {s : Sl} {dp kb M : Nat} {cap : Option Nat}
end
end Go.Proofs.Ythmaggcfghjmfaa.Ev
namespace Go.Proofs.Ythmaggcfghjmfaa.Ev
set_option linter.unusedVariables false
set_option linter.unusedSimpArgs false
variable {σ : Sig} {L : List Nd} {d : List Nat}
def frB (L : List Nd) (s : Sl) (e : Nat) : Bool := !decide (s.length = 0) && frontB (AA L) L s (s.length - 1) e
section
end
end Go.Proofs.Ythmaggcfghjmfaa.Ev
namespace Go.Proofs.Ythmaggcfghjmfaa.Ev
set_option linter.unusedVariables false
set_option linter.unusedSimpArgs false
inductive Sk where
  | same
  | sl (sz : Nat) (row : List Sk)
  | agg (row : List Sk)
def frzRows (sz : Nat) (g : List AV → Option (List AV)) : Nat → List AV → Option (List (List AV))
  | 0, _ => some []
  | n + 1, l => match g (l.take sz) with
    | some r => match frzRows sz g n (l.drop sz) with
      | some rs => some (r :: rs)
      | none => none
    | none => none
mutual
def frzS (H : Hp) : Sk → AV → Option AV
  | .same, x => bif noId x then some x else none
  | .sl sz row, x => match x with
    | .lit (.slice none 0 0) => some (.imm sz [])
    | .emp => some (.imm sz [])
    | .se _ _ _ => some (.imm sz [])
    | .imm s rows => bif noId (.imm s rows) then some (.imm s rows) else none
    | .sl id off s len _ => bif Nat.beq s sz then match H.get id with
        | some (.cells cs _) => match frzRows sz (fun l => frzR H row l) len (cs.drop off) with
          | some rows => bif Nat.beq row.length sz then some (.imm sz rows) else none
          | none => none
        | _ => none
      else none
    | _ => none
  | .agg row, x => match x with
    | .agg xs => match frzR H row xs with
      | some ys => some (.agg ys)
      | none => none
    | _ => none
def frzR (H : Hp) : List Sk → List AV → Option (List AV)
  | [], xs => match xs with
    | [] => some []
    | _ => none
  | k :: ks, xs => match xs with
    | x :: xs => match frzS H k x with
      | some y => match frzR H ks xs with
        | some ys => some (y :: ys)
        | none => none
      | none => none
    | [] => none
end
theorem frzRows_ok {sz : Nat} {g : List AV → Option (List AV)} {H : Hp} (hg : ∀ l r, g l = some r → FzL H l r) : ∀ (n : Nat) (l : List AV) (rows : List (List AV)), frzRows sz g n l = some rows → rows.length = n ∧ ∀ (i : Nat) (row : List AV), rows[i]? = some row → FzL H ((l.drop (i * sz)).take sz) row
  | 0, l, rows, h => by
    simp only [frzRows, Option.some.injEq] at h
    subst h
    exact ⟨rfl, fun i row h => by simp at h⟩
  | n + 1, l, rows, h => by
    simp only [frzRows] at h
    split at h
    case h_2 => cases h
    rename_i r hr
    split at h
    case h_2 => cases h
    rename_i rs hrs
    simp only [Option.some.injEq] at h
    subst h
    obtain ⟨h1, h2⟩ := frzRows_ok hg n _ _ hrs
    refine ⟨by simp [h1], fun i row hi => ?_⟩
    cases i with
    | zero =>
      simp at hi
      subst hi
      simpa using hg _ _ hr
    | succ i =>
      simp at hi
      have := h2 i row hi
      rw [List.drop_drop] at this
      rw [Nat.succ_mul, Nat.add_comm]
      exact this
theorem FzL.len {H : Hp} {xs ys : List AV} (h : FzL H xs ys) : xs.length = ys.length := h.get.1
mutual
theorem frzS_ok {H : Hp} : ∀ (k : Sk) (x y : AV), frzS H k x = some y → Fz H x y
  | .same, x, y, h => by
    simp only [frzS] at h
    cases hn : noId x with
    | false => rw [hn] at h; cases h
    | true => rw [hn] at h; cases h; exact .refl hn
  | .sl sz row, x, y, h => by
    simp only [frzS] at h
    split at h
    · cases h; exact .nil
    · cases h; exact .emp
    · cases h; exact .se
    · rename_i s rows
      cases hn : noId (.imm s rows) with
      | false => rw [hn] at h; cases h
      | true => rw [hn] at h; cases h; exact .refl hn
    · rename_i id off s len cap
      cases hs : Nat.beq s sz with
      | false => rw [hs] at h; cases h
      | true =>
        rw [hs] at h
        have := Nat.eq_of_beq_eq_true hs
        subst this
        simp only [cond_true] at h
        split at h
        case h_2 => cases h
        rename_i cs ex hg
        split at h
        case h_2 => cases h
        rename_i rows hr
        cases hl : Nat.beq row.length s with
        | false => rw [hl] at h; cases h
        | true =>
          rw [hl] at h
          cases h
          have hlen := Nat.eq_of_beq_eq_true hl
          obtain ⟨h1, h2⟩ := frzRows_ok (fun l r hh => frzR_ok row l r hh) _ _ _ hr
          have hrow : ∀ (i : Nat) (r : List AV), rows[i]? = some r → r.length = s := by
            intro i r hi
            obtain ⟨_, hh⟩ := frzRows_ok (g := fun l => frzR H row l) (fun l r hh => frzR_ok row l r hh) _ _ _ hr
            exact frzRows_len (fun l r hh => by rw [← hlen]; exact frzR_len row l r hh) _ _ _ hr i r hi
          refine .sl (fun i j => cs.getD (off + (i * s + j)) .any) hg h1 hrow (fun i r j y hi hy => ?_) (fun i r j y hi hy => ?_)
          · obtain ⟨x, hx, _⟩ := (h2 i r hi).get.2 j y hy
            have hj : j < s := by rw [← hrow i r hi]; exact (List.getElem?_eq_some_iff.1 hy).1
            rw [List.getElem?_take, if_pos hj, List.getElem?_drop, List.getElem?_drop] at hx
            simp [hx]
          · obtain ⟨x, hx, hf⟩ := (h2 i r hi).get.2 j y hy
            have hj : j < s := by rw [← hrow i r hi]; exact (List.getElem?_eq_some_iff.1 hy).1
            rw [List.getElem?_take, if_pos hj, List.getElem?_drop, List.getElem?_drop] at hx
            simp [hx]
            exact hf
    · cases h
  | .agg row, x, y, h => by
    simp only [frzS] at h
    split at h
    case h_2 => cases h
    split at h
    case h_2 => cases h
    rename_i hr
    cases h
    exact Fz.aggL (frzR_ok row _ _ hr)
theorem frzR_ok {H : Hp} : ∀ (ks : List Sk) (xs ys : List AV), frzR H ks xs = some ys → FzL H xs ys
  | [], xs, ys, h => by
    simp only [frzR] at h
    split at h
    · cases h; exact .nil
    · cases h
  | k :: ks, xs, ys, h => by
    simp only [frzR] at h
    split at h
    case h_2 => cases h
    rename_i x xs
    split at h
    case h_2 => cases h
    rename_i y hy
    split at h
    case h_2 => cases h
    rename_i zs hz
    cases h
    exact .cons (frzS_ok k x y hy) (frzR_ok ks xs zs hz)
theorem frzR_len {H : Hp} : ∀ (ks : List Sk) (xs ys : List AV), frzR H ks xs = some ys → ys.length = ks.length
  | [], xs, ys, h => by
    simp only [frzR] at h
    split at h
    · cases h; rfl
    · cases h
  | k :: ks, xs, ys, h => by
    simp only [frzR] at h
    split at h
    case h_2 => cases h
    split at h
    case h_2 => cases h
    split at h
    case h_2 => cases h
    rename_i zs hz
    cases h
    simp [frzR_len ks _ _ hz]
theorem frzRows_len {sz : Nat} {g : List AV → Option (List AV)} (hg : ∀ l r, g l = some r → r.length = sz) : ∀ (n : Nat) (l : List AV) (rows : List (List AV)), frzRows sz g n l = some rows → ∀ (i : Nat) (r : List AV), rows[i]? = some r → r.length = sz
  | 0, l, rows, h, i, r, hi => by
    simp only [frzRows, Option.some.injEq] at h
    subst h
    simp at hi
  | n + 1, l, rows, h, i, r, hi => by
    simp only [frzRows] at h
    split at h
    case h_2 => cases h
    rename_i r0 hr0
    split at h
    case h_2 => cases h
    rename_i rs hrs
    cases h
    cases i with
    | zero => simp at hi; subst hi; exact hg _ _ hr0
    | succ i => exact frzRows_len hg n _ _ hrs i r (by simpa using hi)
end
def skStrs : Sk := .sl 1 [.same]
def skAts : Sk := .sl 3 [.same, .same, .same]
def skPrs : Sk := .sl 2 [.same, .same]
def skNd : List Sk := [.same, .same, .same, skStrs, skPrs]
def skNds : Sk := .sl 5 skNd
def skCp (pss : Sk) : List Sk := [.same, skStrs, skStrs, skAts, pss]
def skPss : Nat → Sk
  | 0 => .same
  | n + 1 => .sl 4 [.same, .same, .same, .sl 1 [.sl 6 (.same :: skCp (skPss n))]]
def skPts (n : Nat) : Sk := .sl 6 (.same :: skCp (skPss n))
def skS (n : Nat) : Sk := .agg [skPts n]
end Go.Proofs.Ythmaggcfghjmfaa.Ev
namespace Go.Proofs.Ythmaggcfghjmfaa.Ev
theorem Good.conv {P : Program} {σ : Sig} {f : Nat} {xs ys : List AV} {r : AV} {H H2 H3 : Hp} (k : Wk σ ys H xs H2) (h : Good P σ f xs H2 r H3) : Good P σ f ys H r H3 := by
  refine ⟨h.1, fun B w0 E w vs hσ hst hxs => ?_⟩
  obtain ⟨E2, h1, h2, h3⟩ := k hσ hst hxs
  refine (h.2 B w0 E2 w vs hσ h2 h3).mono fun e w' hh => ?_
  obtain ⟨E', v, rfl, hext, st2, hrel⟩ := hh
  exact ⟨E', v, rfl, h1.trans hext, st2, hrel⟩
def Hp.bare (n : Nat) : Hp := ⟨n, .leaf⟩
@[simp] theorem Hp.bare_n (n : Nat) : (Hp.bare n).n = n := rfl
@[simp] theorem Hp.bare_get (n j : Nat) : (Hp.bare n).get j = none := by simp [Hp.bare, Hp.get, Tr.get]
theorem FzL.t {H : Hp} {xs ys : List AV} (h : FzL H xs ys) : FzT H xs ys := by
  induction h with
  | nil => exact .nil
  | cons h hs ih => exact .fz h ih
theorem Good.drop {P : Program} {σ : Sig} {f : Nat} {xs ys : List AV} {r : AV} {H : Hp} (h : ∀ H, Good P σ f xs H r H) (hx : FzL H ys xs) : Good P σ f ys H r (Hp.bare H.n) :=
  Good.conv (Wk.frz (H2 := Hp.bare H.n) (Hd := H) rfl rfl (fun id k hk => ⟨hk, by simp⟩) (fun id k2 hk => by simp at hk) hx.t) (h _)
theorem bnd_of {α : Type} {o : Option α} {x : α} {K : α → Prop} (h : o = some x) (k : K x) : bnd o K := by rw [h]; exact k
end Go.Proofs.Ythmaggcfghjmfaa.Ev

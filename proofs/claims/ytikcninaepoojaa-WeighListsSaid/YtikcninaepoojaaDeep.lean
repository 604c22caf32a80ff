/- ref9.DeepSel: what it computes. -/
import Derived.Test.YtikcninaepoojaaDc0
import Derived.Test.YtikcninaepoojaaDear
namespace Go.Proofs.Ytikcninaepoojaa.Ev
set_option linter.unusedVariables false
set_option linter.unusedSimpArgs false
variable {σ : Sig}

def isList (q : Ps) : Bool := decide (q.kind = 7) || decide (q.kind = 8)
def dpC (g : Option (Sl → Bool)) (c : Cp) : Bool := c.pseudos.any fun q => isList q && (match g with | none => true | some g => q.list.any g)
def dpS1 (g : Option (Sl → Bool)) (s : Sl) : Bool := decide (50 < s.length) || s.any fun p => dpC g p.c
/-- More than so many lists in each other, or a selector of more than 50 parts. -/
def dpS : Nat → Sl → Bool
  | 0 => dpS1 none
  | f + 1 => dpS1 (some (dpS f))
def dpG : Nat → Option (Sl → Bool)
  | 0 => none
  | f + 1 => some (dpS f)
theorem dpS_eq (f : Nat) : dpS f = dpS1 (dpG f) := by cases f <;> rfl

theorem Deep_step (f : Nat) (dp : Int) (hdp : dp = 8 - f) (hf : f ≤ 8) (ih : ∀ f', f = f' + 1 → ∀ s, slWf Lmax s → ∀ H, Good Try.prog σ n_ref9_DeepSel [.agg (encSl s), I (dp + 1)] H (Bo (dpS f' s)) H)
    (c : Cp) (hc : CpWf Lmax c) (H : Hp) : Good Try.prog σ n_ref9_Deep [.agg (encCp c), I dp] H (Bo (dpC (dpG f) c)) H := by
  have L0 : ∀ (n k : Nat) (H : Hp) (id : Nat) (y6 y7 : AV), c.pseudos.length - k = n → k ≤ c.pseudos.length → H.get id = some (.cells (encCp c) true) → id < H.n →
      dpC (dpG f) c = ((c.pseudos.drop k).any fun q => isList q && (match dpG f with | none => true | some g => q.list.any g)) →
      ref9_Deep.L0 σ (fun r _ => r = Bo (dpC (dpG f) c)) (I dp) (.ptr id 0) (I k) y6 y7 H := by
    intro n
    induction n with
    | zero =>
      intro k H id y6 y7 hn hk hid hlt hv
      have e : k = c.pseudos.length := by omega
      subst e
      refine ref9_Deep.L0_step ?_
      simp [hid]
      simp at hv
      rw [hv]
    | succ n ihn =>
      intro k H id y6 y7 hn hk hid hlt hv
      have hklt : k < c.pseudos.length := by omega
      obtain ⟨q, hq⟩ := get_lt hklt
      have hqw := (Ps.wf_iff.1 (hc.ps q (List.mem_of_getElem? hq))).2.2.2
      have hne : id ≠ H.n := by omega
      rw [drop_get hq, List.any_cons] at hv
      have next : ∀ (H2 : Hp) (y6 y7 : AV), H2.get id = some (.cells (encCp c) true) → id < H2.n → (isList q && (match dpG f with | none => true | some g => q.list.any g)) = false → ref9_Deep.J1 σ (fun r _ => r = Bo (dpC (dpG f) c)) (I dp) (.ptr id 0) (I k) y6 y7 H2 := by
        intro H2 y6 y7 h1 h2 h3
        refine ref9_Deep.J1_step ?_
        simp
        rw [wr_succL hklt hc.psL]
        refine ihn (k + 1) H2 id _ _ (by omega) (by omega) h1 h2 ?_
        rw [hv, h3, Bool.false_or]
      have lists : isList q = true → ∀ (H2 : Hp) (id2 : Nat) (y7 : AV), H2.get id = some (.cells (encCp c) true) → id < H2.n → H2.get id2 = some (.cells (encPs q) true) →
          (if 8 ≤ dp then (Bo true = Bo (dpC (dpG f) c)) else ref9_Deep.L2 σ (fun r _ => r = Bo (dpC (dpG f) c)) (I dp) (.ptr id 0) (I k) (.ptr id2 0) (I 0) H2) := by
        intro hl H2 id2 y7 h1 h2 h3
        rw [hl, Bool.true_and] at hv
        split
        · rename_i h8
          have : f = 0 := by omega
          subst this
          rw [hv]; simp [dpG]
        · rename_i h8
          obtain ⟨f', rfl⟩ : ∃ f', f = f' + 1 := ⟨f - 1, by omega⟩
          have L2 : ∀ (m i : Nat) (H2 : Hp), q.list.length - i = m → i ≤ q.list.length → H2.get id = some (.cells (encCp c) true) → id < H2.n → H2.get id2 = some (.cells (encPs q) true) → (q.list.any (dpS f') = (q.list.drop i).any (dpS f')) →
              ref9_Deep.L2 σ (fun r _ => r = Bo (dpC (dpG (f' + 1)) c)) (I dp) (.ptr id 0) (I k) (.ptr id2 0) (I i) H2 := by
            intro m
            induction m with
            | zero =>
              intro i H2 hm hi h1 h2 h3 h4
              have e : i = q.list.length := by omega
              subst e
              refine ref9_Deep.L2_step ?_
              simp [h3]
              refine next _ _ _ h1 h2 ?_
              simp only [dpG]
              rw [h4]; simp
            | succ m ihm =>
              intro i H2 hm hi h1 h2 h3 h4
              have hilt : i < q.list.length := by omega
              obtain ⟨x, hx⟩ := get_lt hilt
              refine ref9_Deep.L2_step ?_
              have e1 : wr .i64 (dp + 1) = dp + 1 := wr64 (by omega) (by omega)
              simp [h3, ix_map hx, hilt]
              rw [e1]
              refine callK_of (ih f' rfl x (hqw.2 x (List.mem_of_getElem? hx)) H2) ?_
              rw [drop_get hx, List.any_cons] at h4
              simp
              split
              · rename_i hb
                rw [hv]
                simp only [dpG]
                rw [h4, hb]; simp
              · rename_i hb
                rw [wr_succL hilt hqw.1]
                refine ihm (i + 1) H2 (by omega) (by omega) h1 h2 h3 ?_
                rw [h4]; simp [hb]
          exact L2 _ 0 H2 rfl (Nat.zero_le _) h1 h2 h3 rfl
      refine ref9_Deep.L0_step ?_
      simp [hid, ix_map hq, ov_Ps, hklt]
      have hg : ∀ b o, ((H.new b).set H.n o).get id = some (.cells (encCp c) true) := fun b o => by simp [hne, hid]
      split
      · rename_i h7
        have := lists (by simp [isList, h7]) ((H.new (.cells [I 0, I 0, I 0, .lit (.slice none 0 0)] true)).set H.n (some (.cells (encPs q) true))) H.n y7 (hg _ _) (by simp; omega) (by simp)
        simpa using this
      split
      · rename_i h8
        have := lists (by simp [isList, h8]) ((H.new (.cells [I 0, I 0, I 0, .lit (.slice none 0 0)] true)).set H.n (some (.cells (encPs q) true))) H.n y7 (hg _ _) (by simp; omega) (by simp)
        simpa using this
      · refine next _ _ _ (hg _ _) (by simp; omega) (by rename_i a b; simp [isList, a, b])
  refine good_pure (ref9_Deep.run ?_) (by simp only [noIds, noId, noId_Cp, Bool.and_self]) rfl H
  simp
  exact L0 _ 0 _ 0 _ _ rfl (Nat.zero_le _) (by simp [Hp.empty]) (by simp [Hp.empty]) rfl

theorem DeepSel_step (f : Nat) (dp : Int) (hC : ∀ c, CpWf Lmax c → ∀ H, Good Try.prog σ n_ref9_Deep [.agg (encCp c), I dp] H (Bo (dpC (dpG f) c)) H)
    (s : Sl) (hs : slWf Lmax s) (H : Hp) : Good Try.prog σ n_ref9_DeepSel [.agg (encSl s), I dp] H (Bo (dpS f s)) H := by
  refine good_pure (ref9_DeepSel.run ?_) (by simp [noIds, noId, noId_Sl]) rfl H
  rw [dpS_eq]
  obtain ⟨b, hbd⟩ : ∃ b, b = dpS1 (dpG f) s := ⟨_, rfl⟩
  rw [← hbd]
  have hdef : b = (decide (50 < s.length) || s.any fun p => dpC (dpG f) p.c) := hbd
  clear hbd
  simp [encSl]
  split
  · rename_i h
    have h' : 50 < s.length := by omega
    simp [hdef, h']
  · rename_i h50'
    have h50 : ¬ 50 < s.length := by omega
    have e0 : b = s.any fun p => dpC (dpG f) p.c := by rw [hdef]; simp only [h50, decide_false, Bool.false_or]
    have L0 : ∀ (n k : Nat) (H : Hp), s.length - k = n → k ≤ s.length → H.get 0 = some (.cells (encSl s) true) → b = ((s.drop k).any fun p => dpC (dpG f) p.c) →
        ref9_DeepSel.L0 σ (fun r _ => r = Bo b) (I dp) (.ptr 0 0) (I k) H := by
      intro n
      induction n with
      | zero =>
        intro k H hn hk hid hv
        have e : k = s.length := by omega
        subst e
        refine ref9_DeepSel.L0_step ?_
        simp [hid]
        simpa using hv
      | succ n ih =>
        intro k H hn hk hid hv
        have hklt : k < s.length := by omega
        obtain ⟨p, hp⟩ := get_lt hklt
        refine ref9_DeepSel.L0_step ?_
        simp [hid, ix_map hp, hklt]
        refine callK_of (hC p.c (Pt.wf_iff.1 (hs.2 p (List.mem_of_getElem? hp))).2 H) ?_
        rw [drop_get hp, List.any_cons] at hv
        simp
        split
        · rename_i hb
          rw [hb, Bool.true_or] at hv
          exact hv
        · rename_i hb
          rw [wr_succL hklt hs.1]
          exact ih (k + 1) H (by omega) (by omega) hid (by rw [hv]; simp [hb])
    exact L0 _ 0 _ rfl (Nat.zero_le _) (by simp [Hp.empty, encSl]) e0

theorem DeepSel_ok : ∀ (f : Nat), f ≤ 8 → ∀ (s : Sl), slWf Lmax s → ∀ H, Good Try.prog σ n_ref9_DeepSel [.agg (encSl s), I (8 - (f : Int))] H (Bo (dpS f s)) H
  | 0, hf, s, hs, H => DeepSel_step 0 _ (fun c hc H => Deep_step 0 _ rfl hf (fun f' h => by omega) c hc H) s hs H
  | f + 1, hf, s, hs, H => DeepSel_step (f + 1) _ (fun c hc H => Deep_step (f + 1) _ rfl hf (fun f' h => by
      have : f = f' := by omega
      subst this
      have := DeepSel_ok f (by omega)
      rwa [show 8 - (f : Int) = 8 - ((f + 1 : Nat) : Int) + 1 by omega] at this) c hc H) s hs H
end Go.Proofs.Ytikcninaepoojaa.Ev

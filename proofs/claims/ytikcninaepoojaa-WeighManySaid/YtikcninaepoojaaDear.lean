/- law10.dear: it ends, and what it tells bounds what it was handed. -/
import Derived.Test.YtikcninaepoojaaDc0
import Derived.Test.YtikcninaepoojaaData
namespace Go.Proofs.Ytikcninaepoojaa.Ev
set_option linter.unusedVariables false
set_option linter.unusedSimpArgs false
variable {σ : Sig}

def FitC (c : Cp) : Prop := c.ids.length ≤ 5 ∧ c.classes.length ≤ 5 ∧ c.attrs.length ≤ 5 ∧ c.pseudos.length ≤ 5
/-- Selectors that are none too great, in so many lists in each other. -/
def FitL : Nat → List Sl → Prop
  | 0, _ => False
  | f + 1, l => ∀ s ∈ l, s.length ≤ 60 ∧ ∀ p ∈ s, FitC p.c ∧ ∀ q ∈ p.c.pseudos, FitL f q.list
def FitS (f : Nat) (s : Sl) : Prop := s.length ≤ 60 ∧ ∀ p ∈ s, FitC p.c ∧ ∀ q ∈ p.c.pseudos, FitL f q.list
def FitP (f : Nat) (p : Pt) : Prop := FitC p.c ∧ ∀ q ∈ p.c.pseudos, FitL f q.list

def DearP (f : Nat) (l : List Sl) (n : Int) : Prop := 0 ≤ n ∧ n ≤ 200 * 4 ^ f ∧ (n ≤ 40 → FitL f l)

theorem dear_step (f : Nat) (hf : f ≤ 10) (ih : ∀ l, slsWf Lmax l → ∃ n, (∀ H, Good Try.prog σ n_law10_dear [sls l, I ((11 - f : Nat) : Int)] H (I n) H) ∧ DearP f l n) (l : List Sl) (hl : slsWf Lmax l) :
    ∃ n, (∀ H, Good Try.prog σ n_law10_dear [sls l, I ((10 - f : Nat) : Int)] H (I n) H) ∧ DearP (f + 1) l n := by
  have h4 : 4 ^ f ≥ 1 := Nat.one_le_pow _ _ (by omega)
  have h4b : 4 ^ f ≤ 1048576 := by
    calc 4 ^ f ≤ 4 ^ 10 := Nat.pow_le_pow_right (by omega) hf
      _ = 1048576 := by decide
  have hpow : (200 * 4 ^ (f + 1) : Int) = 800 * 4 ^ f := by rw [Int.pow_succ]; omega
  have cast4 : ((4 ^ f : Nat) : Int) = (4 : Int) ^ f := by simp
  -- the end
  let K : AV → Hp → Prop := fun r _ => ∃ n, r = I n ∧ DearP (f + 1) l n
  have stop : ∀ H, K (I 100) H := fun H => ⟨100, rfl, by omega, by rw [hpow]; omega, fun h => by omega⟩
  -- the loops, from the outer one on
  have L0 : ∀ (d k : Nat) (H : Hp) (n : Int) (y7 y8 y9 y10 : AV), l.length - k = d → k ≤ l.length → 0 ≤ n → n ≤ 200 * 4 ^ (f + 1) → (n ≤ 40 → ∀ s ∈ l.take k, FitS f s) →
      law10_dear.L0 σ K (sls l) (I ((10 - f : Nat) : Int)) (I n) (I k) y7 y8 y9 y10 H := by
    intro d
    induction d with
    | zero =>
      intro k H n y7 y8 y9 y10 hd hk hn hn2 hfit
      have e : k = l.length := by omega
      subst e
      refine law10_dear.L0_step ?_
      simp [sls]
      exact ⟨n, rfl, hn, hn2, fun h => by simpa [FitL, FitS] using hfit h⟩
    | succ d ihd =>
      intro k H n y7 y8 y9 y10 hd hk hn hn2 hfit
      have hlt : k < l.length := by omega
      obtain ⟨s, hs⟩ := get_lt hlt
      have hsw := hl.2 s (List.mem_of_getElem? hs)
      have htake : ∀ (P : Sl → Prop), (∀ x ∈ l.take k, P x) → P s → ∀ x ∈ l.take (k + 1), P x := by
        intro P h1 h2 x hx
        rw [List.take_add_one, hs] at hx
        simp only [Option.toList_some, List.mem_append, List.mem_singleton] at hx
        rcases hx with hx | rfl
        · exact h1 x hx
        · exact h2
      -- the parts
      have L1 : ∀ (d2 j : Nat) (H : Hp) (n : Int) (y9 y10 : AV), s.length - j = d2 → j ≤ s.length → s.length ≤ 60 → 0 ≤ n → n ≤ 200 * 4 ^ (f + 1) → (n ≤ 40 → (∀ s ∈ l.take k, FitS f s) ∧ ∀ p ∈ s.take j, FitP f p) →
          law10_dear.L1 σ K (sls l) (I ((10 - f : Nat) : Int)) (I n) (I k) (.imm 6 (s.map encPt)) (I j) y9 y10 H := by
        intro d2
        induction d2 with
        | zero =>
          intro j H n y9 y10 hd2 hj h60 hn hn2 hfit2
          have e : j = s.length := by omega
          subst e
          refine law10_dear.L1_step ?_
          simp
          rw [wr_succL hlt hl.1]
          exact ihd (k + 1) H n _ _ _ _ (by omega) (by omega) hn hn2 fun h => htake _ (hfit2 h).1 ⟨h60, by simpa [FitP] using (hfit2 h).2⟩
        | succ d2 ihd2 =>
          intro j H n y9 y10 hd2 hj h60 hn hn2 hfit2
          have hjlt : j < s.length := by omega
          obtain ⟨p, hp⟩ := get_lt hjlt
          have hpw := (Pt.wf_iff.1 (hsw.2 p (List.mem_of_getElem? hp))).2
          have htake2 : ∀ (P : Pt → Prop), (∀ x ∈ s.take j, P x) → P p → ∀ x ∈ s.take (j + 1), P x := by
            intro P h1 h2 x hx
            rw [List.take_add_one, hp] at hx
            simp only [Option.toList_some, List.mem_append, List.mem_singleton] at hx
            rcases hx with hx | rfl
            · exact h1 x hx
            · exact h2
          -- the pseudo-classes
          have L2 : ∀ (d3 i : Nat) (H : Hp) (n : Int) (id : Nat), H.get id = some (.cells (encCp p.c) true) → p.c.pseudos.length - i = d3 → i ≤ p.c.pseudos.length → FitC p.c → 0 ≤ n → n ≤ 200 * 4 ^ (f + 1) →
              (n ≤ 40 → (∀ s ∈ l.take k, FitS f s) ∧ (∀ p ∈ s.take j, FitP f p) ∧ ∀ q ∈ p.c.pseudos.take i, FitL f q.list) →
              law10_dear.L2 σ K (sls l) (I ((10 - f : Nat) : Int)) (I n) (I k) (.imm 6 (s.map encPt)) (I j) (.ptr id 0) (I i) H := by
            intro d3
            induction d3 with
            | zero =>
              intro i H n id hid hd3 hi hc hn hn2 hfit3
              have e : i = p.c.pseudos.length := by omega
              subst e
              refine law10_dear.L2_step ?_
              simp [hid, encCp_eq]
              rw [wr_succL hjlt hsw.1]
              exact ihd2 (j + 1) H n _ _ (by omega) (by omega) h60 hn hn2 fun h => ⟨(hfit3 h).1, htake2 _ (hfit3 h).2.1 ⟨hc, by simpa using (hfit3 h).2.2⟩⟩
            | succ d3 ihd3 =>
              intro i H n id hid hd3 hi hc hn hn2 hfit3
              have hilt : i < p.c.pseudos.length := by omega
              obtain ⟨q, hq⟩ := get_lt hilt
              have hqw := (Ps.wf_iff.1 (hpw.ps q (List.mem_of_getElem? hq))).2.2.2
              obtain ⟨m, hm, hm0, hm1, hm2⟩ := ih q.list hqw
              refine law10_dear.L2_step ?_
              have e1 : wr .i64 (((10 - f : Nat) : Int) + 1) = ((11 - f : Nat) : Int) := by rw [wr64 (by omega) (by omega)]; omega
              simp [hid, encCp_eq, ix_map hq, encPs_eq, hilt]
              split
              · rename_i hlt100
                refine callK_of (by rw [e1]; exact hm H) ?_
                simp only [b_mul, bnd_some, b_add]
                have e2 : wr .i64 (3 * m) = 3 * m := wr64 (by omega) (by omega)
                have e3 : wr .i64 (n + 3 * m) = n + 3 * m := wr64 (by omega) (by omega)
                rw [e2, e3, wr_succL hilt hpw.psL]
                refine ihd3 (i + 1) H (n + 3 * m) id hid (by omega) (by omega) hc (by omega) (by rw [hpow]; omega) fun h => ?_
                have := hfit3 (by omega)
                refine ⟨this.1, this.2.1, fun x hx => ?_⟩
                rw [List.take_add_one, hq] at hx
                simp only [Option.toList_some, List.mem_append, List.mem_singleton] at hx
                rcases hx with hx | rfl
                · exact this.2.2 x hx
                · exact hm2 (by omega)
              · rw [wr_succL hjlt hsw.1]
                refine ihd2 (j + 1) H n _ _ (by omega) (by omega) h60 hn hn2 fun h => by omega
          refine law10_dear.L1_step ?_
          simp [ix_map hp, ldL_all, overlay_all, encPt_eq, encCp_eq, hjlt]
          split
          · rename_i hlt100
            have e1 : wr .i64 (n + 1) = n + 1 := wr64 (by omega) (by omega)
            have e2 : wr .i64 (n + 1 + ((10 - f : Nat) : Int)) = n + 1 + ((10 - f : Nat) : Int) := wr64 (by omega) (by omega)
            simp only [e1, e2]
            split
            · exact stop Hp.empty
            split
            · exact stop Hp.empty
            split
            · exact stop Hp.empty
            split
            · exact stop Hp.empty
            · refine L2 _ 0 _ _ H.n ?_ rfl (Nat.zero_le _) ⟨by omega, by omega, by omega, by omega⟩ (by omega) (by rw [hpow]; omega) fun h => ?_
              · simp [encCp_eq]
              · have := hfit2 (by omega)
                exact ⟨this.1, this.2, fun x hx => by simp at hx⟩
          · rw [wr_succL hlt hl.1]
            exact ihd (k + 1) H n _ _ _ _ (by omega) (by omega) hn hn2 fun h => by omega
      refine law10_dear.L0_step ?_
      simp only [sls]
      simp [ix_map hs, encSl, hlt]
      have go : s.length ≤ 60 → ∀ H, law10_dear.L1 σ K (.imm 1 (l.map encSl)) (I ((10 - f : Nat) : Int)) (I n) (I k) (.imm 6 (s.map encPt)) (I 0) y9 y10 H :=
        fun h60 H => L1 _ 0 H n y9 y10 rfl (Nat.zero_le _) h60 hn hn2 fun h => ⟨hfit h, fun x hx => by simp at hx⟩
      split
      · split
        · split
          · exact stop Hp.empty
          · split
            · exact stop Hp.empty
            · exact go (by omega) _
        · split
          · exact stop Hp.empty
          · exact go (by omega) _
      · exact ⟨n, rfl, hn, hn2, fun h => by omega⟩
  have run : ∃ r H1, Good Try.prog σ n_law10_dear [sls l, I ((10 - f : Nat) : Int)] Hp.empty r H1 ∧ K r H1 := by
    refine law10_dear.run ?_
    simp
    rw [if_neg (by omega)]
    exact L0 _ 0 _ 0 _ _ _ _ rfl (Nat.zero_le _) (by omega) (by rw [hpow]; omega) fun _ x hx => by simp at hx
  obtain ⟨r, H1, hg, n, rfl, hd⟩ := run
  exact ⟨n, fun H => hg.over (by simp [noIds, noId]) rfl H, hd⟩

theorem dear_ok : ∀ (f : Nat), f ≤ 11 → ∀ (l : List Sl), slsWf Lmax l → ∃ n, (∀ H, Good Try.prog σ n_law10_dear [sls l, I ((11 - f : Nat) : Int)] H (I n) H) ∧ DearP f l n
  | 0, _, l, hl => by
    have run : ∃ r H1, Good Try.prog σ n_law10_dear [sls l, I ((11 - 0 : Nat) : Int)] Hp.empty r H1 ∧ r = I 100 := law10_dear.run (by simp)
    obtain ⟨r, H1, hg, rfl⟩ := run
    exact ⟨100, fun H => hg.over (by simp [noIds, noId]) rfl H, by omega, by simp, fun h => by omega⟩
  | f + 1, hf, l, hl => by
    have := dear_step f (by omega) (dear_ok f (by omega)) l hl
    rwa [show 10 - f = 11 - (f + 1) by omega] at this

/-- Dear: it ends; where it is false the selectors are none too great. -/
theorem Dear_ok (l : List Sl) (hl : slsWf Lmax l) : ∃ b, (∀ H, Good Try.prog σ n_law10_Dear [sls l] H (Bo b) H) ∧ (b = false → FitL 11 l) := by
  obtain ⟨n, hn, h0, h1, h2⟩ := dear_ok (σ := σ) 11 (by omega) l hl
  have run : ∃ r H1, Good Try.prog σ n_law10_Dear [sls l] Hp.empty r H1 ∧ r = Bo (decide (40 < n)) := by
    refine law10_Dear.run (callK_of (hn _) ?_)
    simp
  obtain ⟨r, H1, hg, rfl⟩ := run
  exact ⟨_, fun H => hg.over (by simp [noIds, noId]) rfl H, fun h => h2 (by simpa using h)⟩
end Go.Proofs.Ytikcninaepoojaa.Ev

/- The walks, part 5: the evaluator, the functions, the laws. Conditions: none. -/
import Derived.Test.YtaoegkmfgfefgaaZ4
namespace Go.Proofs.Ytaoegkmfgfefgaa.Ev
set_option linter.unusedVariables false
set_option linter.unusedSimpArgs false
variable {σ : Sig}
def FitC (c : Cp) : Prop := c.ids.length ≤ 5 ∧ c.classes.length ≤ 5 ∧ c.attrs.length ≤ 5 ∧ c.pseudos.length ≤ 5
def FitL : Nat → List Sl → Prop
  | 0, _ => False
  | f + 1, l => ∀ s ∈ l, s.length ≤ 60 ∧ ∀ p ∈ s, FitC p.c ∧ ∀ q ∈ p.c.pseudos, FitL f q.list
def FitS (f : Nat) (s : Sl) : Prop := s.length ≤ 60 ∧ ∀ p ∈ s, FitC p.c ∧ ∀ q ∈ p.c.pseudos, FitL f q.list
def FitP (f : Nat) (p : Pt) : Prop := FitC p.c ∧ ∀ q ∈ p.c.pseudos, FitL f q.list
def DearP (f : Nat) (l : List Sl) (n : Int) : Prop := 0 ≤ n ∧ n ≤ 200 * 4 ^ f ∧ (n ≤ 40 → FitL f l)
theorem dear_step (f : Nat) (hf : f ≤ 10) (ih : ∀ l, slsWf Lmax l → ∃ n, (∀ H, Good Try.prog σ n_law10_dear [sls l, I ((11 - f : Nat) : Int)] H (I n) H) ∧ DearP f l n) (l : List Sl) (hl : slsWf Lmax l) :
    ∃ n, (∀ H, Good Try.prog σ n_law10_dear [sls l, I ((10 - f : Nat) : Int)] H (I n) H) ∧ DearP (f + 1) l n := by
  have h4 : 4 ^ f ≥ 1 := Nat.one_le_pow _ _ (by omega)
  have h4b : 4 ^ f ≤ 1048576 := by
    calc 4 ^ f ≤ 4 ^ 10 := Nat.pow_le_pow_right (by omega) hf
      _ = 1048576 := by decide
  have hpow : (200 * 4 ^ (f + 1) : Int) = 800 * 4 ^ f := by rw [Int.pow_succ]; omega
  have cast4 : ((4 ^ f : Nat) : Int) = (4 : Int) ^ f := by simp
  let K : AV → Hp → Prop := fun r _ => ∃ n, r = I n ∧ DearP (f + 1) l n
  have stop : ∀ H, K (I 100) H := fun H => ⟨100, rfl, by omega, by rw [hpow]; omega, fun h => by omega⟩
  have L0 : ∀ (d k : Nat) (H : Hp) (n : Int) (y7 y8 y9 y10 : AV), l.length - k = d → k ≤ l.length → 0 ≤ n → n ≤ 200 * 4 ^ (f + 1) → (n ≤ 40 → ∀ s ∈ l.take k, FitS f s) →
      law10_dear.L0 σ K (sls l) (I ((10 - f : Nat) : Int)) (I n) (I k) y7 y8 y9 y10 H := by
    intro d
    induction d with
    | zero =>
      intro k H n y7 y8 y9 y10 hd hk hn hn2 hfit
      have e : k = l.length := by omega
      subst e
      refine law10_dear.L0_step ?_
      simp [sls]
      exact ⟨n, rfl, hn, hn2, fun h => by simpa [FitL, FitS] using hfit h⟩
    | succ d ihd =>
      intro k H n y7 y8 y9 y10 hd hk hn hn2 hfit
      have hlt : k < l.length := by omega
      obtain ⟨s, hs⟩ := get_lt hlt
      have hsw := hl.2 s (List.mem_of_getElem? hs)
      have htake : ∀ (P : Sl → Prop), (∀ x ∈ l.take k, P x) → P s → ∀ x ∈ l.take (k + 1), P x := by
        intro P h1 h2 x hx
        rw [List.take_add_one, hs] at hx
        simp only [Option.toList_some, List.mem_append, List.mem_singleton] at hx
        rcases hx with hx | rfl
        · exact h1 x hx
        · exact h2
      have L1 : ∀ (d2 j : Nat) (H : Hp) (n : Int) (y9 y10 : AV), s.length - j = d2 → j ≤ s.length → s.length ≤ 60 → 0 ≤ n → n ≤ 200 * 4 ^ (f + 1) → (n ≤ 40 → (∀ s ∈ l.take k, FitS f s) ∧ ∀ p ∈ s.take j, FitP f p) →
          law10_dear.L1 σ K (sls l) (I ((10 - f : Nat) : Int)) (I n) (I k) (.imm 6 (s.map encPt)) (I j) y9 y10 H := by
        intro d2
        induction d2 with
        | zero =>
          intro j H n y9 y10 hd2 hj h60 hn hn2 hfit2
          have e : j = s.length := by omega
          subst e
          refine law10_dear.L1_step ?_
          simp
          rw [wr_succL hlt hl.1]
          exact ihd (k + 1) H n _ _ _ _ (by omega) (by omega) hn hn2 fun h => htake _ (hfit2 h).1 ⟨h60, by simpa [FitP] using (hfit2 h).2⟩
        | succ d2 ihd2 =>
          intro j H n y9 y10 hd2 hj h60 hn hn2 hfit2
          have hjlt : j < s.length := by omega
          obtain ⟨p, hp⟩ := get_lt hjlt
          have hpw := (Pt.wf_iff.1 (hsw.2 p (List.mem_of_getElem? hp))).2
          have htake2 : ∀ (P : Pt → Prop), (∀ x ∈ s.take j, P x) → P p → ∀ x ∈ s.take (j + 1), P x := by
            intro P h1 h2 x hx
            rw [List.take_add_one, hp] at hx
            simp only [Option.toList_some, List.mem_append, List.mem_singleton] at hx
            rcases hx with hx | rfl
            · exact h1 x hx
            · exact h2
          have L2 : ∀ (d3 i : Nat) (H : Hp) (n : Int) (id : Nat), H.get id = some (.cells (encCp p.c) true) → p.c.pseudos.length - i = d3 → i ≤ p.c.pseudos.length → FitC p.c → 0 ≤ n → n ≤ 200 * 4 ^ (f + 1) →
              (n ≤ 40 → (∀ s ∈ l.take k, FitS f s) ∧ (∀ p ∈ s.take j, FitP f p) ∧ ∀ q ∈ p.c.pseudos.take i, FitL f q.list) →
              law10_dear.L2 σ K (sls l) (I ((10 - f : Nat) : Int)) (I n) (I k) (.imm 6 (s.map encPt)) (I j) (.ptr id 0) (I i) H := by
            intro d3
            induction d3 with
            | zero =>
              intro i H n id hid hd3 hi hc hn hn2 hfit3
              have e : i = p.c.pseudos.length := by omega
              subst e
              refine law10_dear.L2_step ?_
              simp [hid, encCp_eq]
              rw [wr_succL hjlt hsw.1]
              exact ihd2 (j + 1) H n _ _ (by omega) (by omega) h60 hn hn2 fun h => ⟨(hfit3 h).1, htake2 _ (hfit3 h).2.1 ⟨hc, by simpa using (hfit3 h).2.2⟩⟩
            | succ d3 ihd3 =>
              intro i H n id hid hd3 hi hc hn hn2 hfit3
              have hilt : i < p.c.pseudos.length := by omega
              obtain ⟨q, hq⟩ := get_lt hilt
              have hqw := (Ps.wf_iff.1 (hpw.ps q (List.mem_of_getElem? hq))).2.2.2
              obtain ⟨m, hm, hm0, hm1, hm2⟩ := ih q.list hqw
              refine law10_dear.L2_step ?_
              have e1 : wr .i64 (((10 - f : Nat) : Int) + 1) = ((11 - f : Nat) : Int) := by rw [wr64 (by omega) (by omega)]; omega
              simp [hid, encCp_eq, ix_map hq, encPs_eq, hilt]
              split
              · rename_i hlt100
                refine callK_of (by rw [e1]; exact hm H) ?_
                simp only [b_mul, bnd_some, b_add]
                have e2 : wr .i64 (3 * m) = 3 * m := wr64 (by omega) (by omega)
                have e3 : wr .i64 (n + 3 * m) = n + 3 * m := wr64 (by omega) (by omega)
                rw [e2, e3, wr_succL hilt hpw.psL]
                refine ihd3 (i + 1) H (n + 3 * m) id hid (by omega) (by omega) hc (by omega) (by rw [hpow]; omega) fun h => ?_
                have := hfit3 (by omega)
                refine ⟨this.1, this.2.1, fun x hx => ?_⟩
                rw [List.take_add_one, hq] at hx
                simp only [Option.toList_some, List.mem_append, List.mem_singleton] at hx
                rcases hx with hx | rfl
                · exact this.2.2 x hx
                · exact hm2 (by omega)
              · rw [wr_succL hjlt hsw.1]
                refine ihd2 (j + 1) H n _ _ (by omega) (by omega) h60 hn hn2 fun h => by omega
          refine law10_dear.L1_step ?_
          simp [ix_map hp, ldL_all, overlay_all, encPt_eq, encCp_eq, hjlt]
          split
          · rename_i hlt100
            have e1 : wr .i64 (n + 1) = n + 1 := wr64 (by omega) (by omega)
            have e2 : wr .i64 (n + 1 + ((10 - f : Nat) : Int)) = n + 1 + ((10 - f : Nat) : Int) := wr64 (by omega) (by omega)
            simp only [e1, e2]
            split
            · exact stop Hp.empty
            split
            · exact stop Hp.empty
            split
            · exact stop Hp.empty
            split
            · exact stop Hp.empty
            · refine L2 _ 0 _ _ H.n ?_ rfl (Nat.zero_le _) ⟨by omega, by omega, by omega, by omega⟩ (by omega) (by rw [hpow]; omega) fun h => ?_
              · simp [encCp_eq]
              · have := hfit2 (by omega)
                exact ⟨this.1, this.2, fun x hx => by simp at hx⟩
          · rw [wr_succL hlt hl.1]
            exact ihd (k + 1) H n _ _ _ _ (by omega) (by omega) hn hn2 fun h => by omega
      refine law10_dear.L0_step ?_
      simp only [sls]
      simp [ix_map hs, encSl, hlt]
      have go : s.length ≤ 60 → ∀ H, law10_dear.L1 σ K (.imm 1 (l.map encSl)) (I ((10 - f : Nat) : Int)) (I n) (I k) (.imm 6 (s.map encPt)) (I 0) y9 y10 H :=
        fun h60 H => L1 _ 0 H n y9 y10 rfl (Nat.zero_le _) h60 hn hn2 fun h => ⟨hfit h, fun x hx => by simp at hx⟩
      split
      · split
        · split
          · exact stop Hp.empty
          · split
            · exact stop Hp.empty
            · exact go (by omega) _
        · split
          · exact stop Hp.empty
          · exact go (by omega) _
      · exact ⟨n, rfl, hn, hn2, fun h => by omega⟩
  have run : ∃ r H1, Good Try.prog σ n_law10_dear [sls l, I ((10 - f : Nat) : Int)] Hp.empty r H1 ∧ K r H1 := by
    refine law10_dear.run ?_
    simp
    rw [if_neg (by omega)]
    exact L0 _ 0 _ 0 _ _ _ _ rfl (Nat.zero_le _) (by omega) (by rw [hpow]; omega) fun _ x hx => by simp at hx
  obtain ⟨r, H1, hg, n, rfl, hd⟩ := run
  exact ⟨n, fun H => hg.over (by simp [noIds, noId]) rfl H, hd⟩
theorem dear_ok : ∀ (f : Nat), f ≤ 11 → ∀ (l : List Sl), slsWf Lmax l → ∃ n, (∀ H, Good Try.prog σ n_law10_dear [sls l, I ((11 - f : Nat) : Int)] H (I n) H) ∧ DearP f l n
  | 0, _, l, hl => by
    have run : ∃ r H1, Good Try.prog σ n_law10_dear [sls l, I ((11 - 0 : Nat) : Int)] Hp.empty r H1 ∧ r = I 100 := law10_dear.run (by simp)
    obtain ⟨r, H1, hg, rfl⟩ := run
    exact ⟨100, fun H => hg.over (by simp [noIds, noId]) rfl H, by omega, by simp, fun h => by omega⟩
  | f + 1, hf, l, hl => by
    have := dear_step f (by omega) (dear_ok f (by omega)) l hl
    rwa [show 10 - f = 11 - (f + 1) by omega] at this
theorem Dear_ok (l : List Sl) (hl : slsWf Lmax l) : ∃ b, (∀ H, Good Try.prog σ n_law10_Dear [sls l] H (Bo b) H) ∧ (b = false → FitL 11 l) := by
  obtain ⟨n, hn, h0, h1, h2⟩ := dear_ok (σ := σ) 11 (by omega) l hl
  have run : ∃ r H1, Good Try.prog σ n_law10_Dear [sls l] Hp.empty r H1 ∧ r = Bo (decide (40 < n)) := by
    refine law10_Dear.run (callK_of (hn _) ?_)
    simp
  obtain ⟨r, H1, hg, rfl⟩ := run
  exact ⟨_, fun H => hg.over (by simp [noIds, noId]) rfl H, fun h => h2 (by simpa using h)⟩
end Go.Proofs.Ytaoegkmfgfefgaa.Ev
namespace Go.Proofs.Ytaoegkmfgfefgaa.Ev
set_option linter.unusedVariables false
set_option linter.unusedSimpArgs false
variable {σ : Sig}
structure Lk where
  part : Pt
  lists : List (List Nat)
def encN (n : Nat) : List AV := [I (n : Int)]
def ints (l : List Nat) : AV := .imm 1 (l.map encN)
def encLk (x : Lk) : List AV := encPt x.part ++ [.imm 1 (x.lists.map fun l => [ints l])]
def chainV (c : List Lk) : AV := .imm 7 (c.map encLk)
theorem noId_ints (l : List Nat) : noId (ints l) = true := by unfold ints; simp only [noId]; exact noIds_map _ (fun _ => rfl) _
theorem noId_lk (x : Lk) : noIds (encLk x) = true := by
  unfold encLk
  exact noIds_app (noId_Pt _) (by simp only [noIds, noId, noIds_map _ (show ∀ l, noIds [ints l] = true from fun l => by simp [noIds, noId_ints]), Bool.and_self])
@[simp] theorem len_lk (x : Lk) : (encLk x).length = 7 := by simp [encLk]
def encQ (n i e : Nat) (a : Bool) : List AV := [I (n : Int), I (i : Int), I (e : Int), Bo a]
abbrev qKK : List KK := [.int .i64, .int .i64, .int .i64, .bool]
theorem encQ_inj {n i e n' i' e' : Nat} {a a' : Bool} (h : encQ n i e a = encQ n' i' e' a') : n = n' ∧ i = i' ∧ e = e' ∧ a = a' := by
  simp only [encQ, List.cons.injEq, AV.lit.injEq, Value.int.injEq, Value.bool.injEq, true_and, and_true] at h
  exact ⟨by omega, by omega, by omega, h.2.2.2⟩
def MemoOk (N : Nat) (T : Nat → Nat → Nat → Bool → Bool) (es : List (AV × AV)) : Prop := ∀ p ∈ es, ∃ n i e a, n < N ∧ p = (.agg (encQ n i e a), Bo (T n i e a)) ∧ kOk true qKK p.1 = true
theorem memo_find {N : Nat} {T : Nat → Nat → Nat → Bool → Bool} : ∀ {es : List (AV × AV)}, MemoOk N T es → ∀ n i e a, mfind (.agg (encQ n i e a)) es = none ∨ mfind (.agg (encQ n i e a)) es = some (Bo (T n i e a))
  | [], _, n, i, e, a => .inl rfl
  | (x, y) :: r, h, n, i, e, a => by
    obtain ⟨n', i', e', a', _, hp, _⟩ := h (x, y) (by simp)
    cases hp
    unfold mfind
    by_cases he : AV.agg (encQ n' i' e' a') = .agg (encQ n i e a)
    · rw [if_pos he]
      obtain ⟨rfl, rfl, rfl, rfl⟩ := encQ_inj (AV.agg.inj he)
      exact .inr rfl
    · rw [if_neg he]
      exact memo_find (fun p hp => h p (by simp [hp])) n i e a
theorem memo_put {N : Nat} {T : Nat → Nat → Nat → Bool → Bool} {n i e : Nat} {a : Bool} (hnN : n < N) (hk : kOk true qKK (.agg (encQ n i e a)) = true) : ∀ {es : List (AV × AV)}, MemoOk N T es → MemoOk N T (mput (.agg (encQ n i e a)) (Bo (T n i e a)) es)
  | [], _ => fun p hp => by
    simp [mput] at hp
    subst hp
    exact ⟨n, i, e, a, hnN, rfl, hk⟩
  | (x, y) :: r, h => by
    obtain ⟨n', i', e', a', hn', hp, hk'⟩ := h (x, y) (by simp)
    cases hp
    unfold mput
    by_cases he : AV.agg (encQ n' i' e' a') = .agg (encQ n i e a)
    · rw [if_pos he]
      intro p hp
      rcases List.mem_cons.1 hp with rfl | hp
      · exact ⟨n, i, e, a, hnN, by rw [he], by rw [he]; exact hk⟩
      · exact h p (by simp [hp])
    · rw [if_neg he]
      intro p hp
      rcases List.mem_cons.1 hp with rfl | hp
      · exact ⟨n', i', e', a', hn', rfl, hk'⟩
      · exact memo_put hnN hk (fun p hp => h p (by simp [hp])) p hp
theorem memo_all {N : Nat} {T : Nat → Nat → Nat → Bool → Bool} {es : List (AV × AV)} (h : MemoOk N T es) : es.all (fun p => kOk true qKK p.1) = true := by
  rw [List.all_eq_true]
  intro p hp
  obtain ⟨n, i, e, a, _, _, hk⟩ := h p hp
  exact hk
structure Asks (t : AV) (C : List (List Lk)) (T : Nat → Nat → Nat → Bool → Bool) (ab mb : Nat) (cs : AV) (H : Hp) : Prop where
  gab : H.get ab = some (.cells [t, cs, .mp mb] true)
  nab : ab < H.n
  nmb : mb < H.n
  ne : ab ≠ mb
  gcs : Gs 1 H cs (C.map fun c => [chainV c])
  csm : ¬ own cs mb
  memo : ∃ es, H.get mb = some (.map es) ∧ MemoOk C.length T es
structure Kp (mb : Nat) (H H' : Hp) : Prop where
  up : H.n ≤ H'.n
  get : ∀ (j : Nat), j < H.n → j ≠ mb → H'.get j = H.get j
theorem Kp.refl (mb : Nat) (H : Hp) : Kp mb H H := ⟨Nat.le_refl _, fun _ _ _ => rfl⟩
theorem Kp.trans {mb : Nat} {H H1 H2 : Hp} (h : Kp mb H H1) (k : Kp mb H1 H2) : Kp mb H H2 := ⟨Nat.le_trans h.up k.up, fun j hj hne => by rw [k.get j (Nat.lt_of_lt_of_le hj h.up) hne, h.get j hj hne]⟩
theorem Kp.new (mb : Nat) (H : Hp) (b : Blk) : Kp mb H (H.new b) := by
  refine ⟨by simp, fun j hj _ => ?_⟩
  have : j ≠ H.n := by omega
  simp [this]
theorem Kp.setN {mb : Nat} {H H' : Hp} (h : Kp mb H H') {j : Nat} (hj : H.n ≤ j) (b : Option Blk) : Kp mb H (H'.set j b) := by
  refine ⟨by simpa using h.up, fun i hi hne => ?_⟩
  have : i ≠ j := by omega
  simp [this]; exact h.get i hi hne
theorem Asks.keep {t : AV} {C : List (List Lk)} {T : Nat → Nat → Nat → Bool → Bool} {ab mb : Nat} {cs : AV} {H H' : Hp} (h : Asks t C T ab mb cs H) (hn : H.n ≤ H'.n) (hg : ∀ j, j < H.n → H'.get j = H.get j) : Asks t C T ab mb cs H' := by
  obtain ⟨es, he, hm⟩ := h.memo
  exact ⟨by rw [hg _ h.nab]; exact h.gab, Nat.lt_of_lt_of_le h.nab hn, Nat.lt_of_lt_of_le h.nmb hn, h.ne, h.gcs.keep (fun j hj => hg j (h.gcs.lt hj)) hn, h.csm, es, by rw [hg _ h.nmb]; exact he, hm⟩
theorem Asks.new {t : AV} {C : List (List Lk)} {T : Nat → Nat → Nat → Bool → Bool} {ab mb : Nat} {cs : AV} {H : Hp} (h : Asks t C T ab mb cs H) (b : Blk) : Asks t C T ab mb cs (H.new b) := by
  refine h.keep (by simp) fun j hj => ?_
  have : j ≠ H.n := by omega
  simp [this]
theorem Asks.setN {t : AV} {C : List (List Lk)} {T : Nat → Nat → Nat → Bool → Bool} {ab mb : Nat} {cs : AV} {H0 H : Hp} (h0 : Asks t C T ab mb cs H0) (h : Asks t C T ab mb cs H) {j : Nat} (hj : H0.n ≤ j) (b : Option Blk) : Asks t C T ab mb cs (H.set j b) := by
  obtain ⟨es, he, hm⟩ := h.memo
  have a1 := h0.nab
  have a2 := h0.nmb
  have e1 : ab ≠ j := by omega
  have e2 : mb ≠ j := by omega
  refine ⟨by simp [e1, h.gab], by simpa using h.nab, by simpa using h.nmb, h.ne, h.gcs.keep (fun i hi => ?_) (by simp), h.csm, es, by simp [e2, he], hm⟩
  have := h0.gcs.lt hi
  have : i ≠ j := by omega
  simp [this]
theorem Asks.pure {L : List Nd} {d : List Nat} {C : List (List Lk)} {T : Nat → Nat → Nat → Bool → Bool} {ab mb : Nat} {cs : AV} {H : Hp} (h : Asks (domT L d) C T ab mb cs H) {f : Nat} {xs : List AV} {r : AV}
    (hg : Good Try.prog σ f (.ip (domT L d :: []) :: xs) Hp.empty r Hp.empty) (hx : noIds xs = true) (hr : plainV r = true) : Good Try.prog σ f (.ptr ab 0 :: xs) H r H := by
  refine hg.frzA (.cons (.ptr (fun _ => domT L d) h.gab (fun j y hj => ?_) (fun j y hj => ?_)) (FzL.refl hx)) hr
  · have : j = 0 := by have := (List.getElem?_eq_some_iff.1 hj).1; simp at this; omega
    subst this; simp
  · have : j = 0 := by have := (List.getElem?_eq_some_iff.1 hj).1; simp at this; omega
    subst this
    simp at hj; subst hj
    exact .refl (noId_domT L d)
theorem once_sp {t : AV} {C : List (List Lk)} {T : Nat → Nat → Nat → Bool → Bool} {ab mb : Nat} {cs : AV} {H : Hp} (h : Asks t C T ab mb cs H) {n i e : Nat} {a : Bool} (hnN : n < C.length) (hk : kOk true qKK (.agg (encQ n i e a)) = true) {fv : AV} {K : AV → Hp → Prop}
    (how : ∀ H1 (K1 : AV → Hp → Prop), Asks t C T ab mb cs H1 → Kp mb H H1 → (∀ H2, Asks t C T ab mb cs H2 → Kp mb H1 H2 → K1 (Bo (T n i e a)) H2) → callV Try.prog σ fv [] H1 K1)
    (hK : ∀ H', Asks t C T ab mb cs H' → Kp mb H H' → K (Bo (T n i e a)) H') : callK Try.prog σ n_match_asked_once [.ptr ab 0, .agg (encQ n i e a), fv] H K := by
  obtain ⟨es, hes, hm⟩ := h.memo
  have e1 : ab ≠ H.n := by have := h.nab; omega
  have e2 : mb ≠ H.n := by have := h.nmb; omega
  refine match_asked_once.run ?_
  have hl : ldL true 4 (encQ n i e a) = some (.agg (encQ n i e a)) := rfl
  simp only [boxK_agg, n_ptr, bnd_some, sh_ptr, Nat.zero_add, ld_ptr, hp_get_new, e1, if_false, if_true, h.gab, ldO_cells, List.drop_zero, hl]
  simp only [List.drop, ldL_one, bnd_some, lookR, hp_get_new, e2, if_false, hes, hk, memo_all hm, Bool.and_self, cond_true]
  rcases memo_find hm n i e a with hf | hf
  · rw [hf]
    simp [mres]
    refine how _ _ (h.new _) (Kp.new _ _ _) fun H2 h2 k2 => ?_
    obtain ⟨es2, hes2, hm2⟩ := h2.memo
    have hbox : H2.get H.n = some (.cells (encQ n i e a) true) := by rw [k2.get H.n (by simp) (Ne.symm e2)]; simp
    simp only [h2.gab, ldO_cells, List.drop_succ_cons, List.drop_zero, ldL_one, bnd_some, hbox, hl, putR, hes2, hk, memo_all hm2, isAny_lit, Bool.not_false, Bool.and_self, cond_true]
    refine hK _ ?_ ?_
    · refine ⟨by simp [h2.ne, h2.gab], by simpa using h2.nab, by simpa using h2.nmb, h2.ne, h2.gcs.keep (fun j hj => ?_) (by simp), h2.csm, _, by simp, memo_put hnN hk hm2⟩
      have : j ≠ mb := fun e => h2.csm (e ▸ hj)
      simp [this]
    · have := (Kp.new mb H (.cells (encQ n i e a) true)).trans k2
      exact ⟨by simpa using this.up, fun j hj hne => by simp [hne]; exact this.get j hj hne⟩
  · rw [hf]
    simp [mres]
    exact hK _ (h.new _) (Kp.new _ _ _)
end Go.Proofs.Ytaoegkmfgfefgaa.Ev
namespace Go.Proofs.Ytaoegkmfgfefgaa.Ev
set_option linter.unusedVariables false
set_option linter.unusedSimpArgs false
variable {σ : Sig}
def aheadF (g : Nat → Bool) (L : List Nd) (k : Int) : Nat → Nat → Bool
  | 0, _ => false
  | f + 1, e => decide (0 ≤ standI L e k) && (g (standI L e k).toNat || (farB k && aheadF g L k f (standI L e k).toNat))
def pseudoB (any : List Sl → Nat → Bool) (L : List Nd) (e : Nat) (q : Ps) : Bool :=
  if q.kind = 1 then decide (par L e < 0) else if q.kind = 2 then decide (place L e = 1) else if q.kind = 3 then lastB L e else if q.kind = 4 then decide (place L e = 1) && lastB L e
  else if q.kind = 5 then decide (childI L e 0 < 0) else if q.kind = 6 then nthB (place L e) q.a q.b else if q.kind = 7 then !any q.list e else if q.kind = 8 then any q.list e else false
def compB (any : List Sl → Nat → Bool) (L : List Nd) (e : Nat) (c : Cp) : Bool := plainB (lowN (ndAt L e)) c && c.pseudos.all (pseudoB any L e)
def frontB (any : List Sl → Nat → Bool) (L : List Nd) (s : Sl) : Nat → Nat → Bool
  | 0, e => match s[0]? with
    | some p => compB any L e p.c
    | none => false
  | i + 1, e => match s[i + 1]? with
    | some p => compB any L e p.c && aheadF (frontB any L s i) L p.comb (e + 1) e
    | none => false
def anyS (any : List Sl → Nat → Bool) (L : List Nd) (l : List Sl) (e : Nat) : Bool := l.any fun s => !decide (s.length = 0) && frontB any L s (s.length - 1) e
def anyB (L : List Nd) : Nat → List Sl → Nat → Bool
  | 0, _, _ => false
  | f + 1, l, e => anyS (anyB L f) L l e
def Nest : Nat → List Sl → Prop
  | 0, _ => False
  | f + 1, l => ∀ s ∈ l, ∀ p ∈ s, ∀ q ∈ p.c.pseudos, Nest f q.list
theorem FitL.nest : ∀ {f : Nat} {l : List Sl}, FitL f l → Nest f l
  | 0, l, h => h
  | f + 1, l, h => fun s hs p hp q hq => (((h s hs).2 p hp).2 q hq).nest
theorem compB_congr {any any' : List Sl → Nat → Bool} {L : List Nd} {c : Cp} (h : ∀ q ∈ c.pseudos, ∀ e, any q.list e = any' q.list e) (e : Nat) : compB any L e c = compB any' L e c := by
  unfold compB
  congr 1
  rw [Bool.eq_iff_iff, List.all_eq_true, List.all_eq_true]
  have : ∀ q ∈ c.pseudos, pseudoB any L e q = pseudoB any' L e q := fun q hq => by unfold pseudoB; rw [h q hq]
  exact ⟨fun h q hq => by rw [← this q hq]; exact h q hq, fun h q hq => by rw [this q hq]; exact h q hq⟩
theorem aheadF_congr {g g' : Nat → Bool} {L : List Nd} {k : Int} (h : ∀ e, g e = g' e) : ∀ (f e : Nat), aheadF g L k f e = aheadF g' L k f e
  | 0, e => rfl
  | f + 1, e => by unfold aheadF; rw [h, aheadF_congr h f]
theorem frontB_congr {any any' : List Sl → Nat → Bool} {L : List Nd} {s : Sl} (h : ∀ p ∈ s, ∀ q ∈ p.c.pseudos, ∀ e, any q.list e = any' q.list e) : ∀ (i e : Nat), frontB any L s i e = frontB any' L s i e
  | 0, e => by
    unfold frontB
    cases hs : s[0]? with
    | none => rfl
    | some p => exact compB_congr (h p (List.mem_of_getElem? hs)) e
  | i + 1, e => by
    unfold frontB
    cases hs : s[i + 1]? with
    | none => rfl
    | some p =>
      simp only
      rw [compB_congr (h p (List.mem_of_getElem? hs)) e, aheadF_congr (frontB_congr h i)]
theorem anyS_congr {any any' : List Sl → Nat → Bool} {L : List Nd} {l : List Sl} (h : ∀ s ∈ l, ∀ p ∈ s, ∀ q ∈ p.c.pseudos, ∀ e, any q.list e = any' q.list e) (e : Nat) : anyS any L l e = anyS any' L l e := by
  unfold anyS
  rw [Bool.eq_iff_iff, List.any_eq_true, List.any_eq_true]
  have : ∀ s ∈ l, (!decide (s.length = 0) && frontB any L s (s.length - 1) e) = (!decide (s.length = 0) && frontB any' L s (s.length - 1) e) := fun s hs => by rw [frontB_congr (h s hs)]
  exact ⟨fun ⟨s, hs, h⟩ => ⟨s, hs, by rw [← this s hs]; exact h⟩, fun ⟨s, hs, h⟩ => ⟨s, hs, by rw [this s hs]; exact h⟩⟩
theorem anyB_nest {L : List Nd} : ∀ (f g : Nat) (l : List Sl) (e : Nat), Nest f l → f ≤ g → anyB L g l e = anyB L f l e
  | 0, g, l, e, h, _ => h.elim
  | f + 1, 0, l, e, h, hfg => by omega
  | f + 1, g + 1, l, e, h, hfg => by
    unfold anyB
    exact anyS_congr (fun s hs p hp q hq e => anyB_nest f g q.list e (h s hs p hp q hq) (by omega)) e
def AA (L : List Nd) : List Sl → Nat → Bool := anyB L 12
theorem AA_eq {L : List Nd} {f : Nat} {l : List Sl} (h : Nest f l) (hf : f ≤ 12) (e : Nat) : anyS (AA L) L l e = AA L l e := by
  show anyB L 13 l e = anyB L 12 l e
  rw [anyB_nest f 13 l e h (by omega), anyB_nest f 12 l e h hf]
def selC (C : List (List Lk)) (n : Nat) : Sl := (C.getD n []).map (·.part)
def Tru (L : List Nd) (C : List (List Lk)) (n i e : Nat) : Bool → Bool
  | false => frontB (AA L) L (selC C n) i e
  | true => match (selC C n)[i]? with
    | some p => aheadF (frontB (AA L) L (selC C n) (i - 1)) L p.comb (e + 1) e
    | none => false
def RepC (R : List Sl → List Nat → Prop) (C : List (List Lk)) (s : Sl) (n : Nat) : Prop :=
  ∃ c, C[n]? = some c ∧ c.map (·.part) = s ∧ ∀ (k : Nat) (x : Lk), c[k]? = some x → x.lists.length = x.part.c.pseudos.length ∧ ∀ (j : Nat) (q : Ps) (ns : List Nat), x.part.c.pseudos[j]? = some q → x.lists[j]? = some ns → R q.list ns
def Rep (C : List (List Lk)) : Nat → List Sl → List Nat → Prop
  | 0, _, _ => False
  | f + 1, l, ns => ns.length = l.length ∧ ∀ (i : Nat) (s : Sl) (n : Nat), l[i]? = some s → ns[i]? = some n → RepC (Rep C f) C s n
theorem RepC.sel {R : List Sl → List Nat → Prop} {C : List (List Lk)} {s : Sl} {n : Nat} (h : RepC R C s n) : selC C n = s := by
  obtain ⟨c, hc, hs, _⟩ := h
  unfold selC
  rw [List.getD_eq_getElem?_getD, hc]
  exact hs
structure LkOk (x : Lk) : Prop where
  c : CpOk x.part.c
  ps : ∀ q ∈ x.part.c.pseudos, i64 q.a ∧ i64 q.b
  ls : ∀ l ∈ x.lists, l.length ≤ reachBytes
structure Mc (σ : Sig) (L : List Nd) (d : List Nat) (C : List (List Lk)) : Prop where
  hC : HasC σ
  hB : Built L L.length d
  hN : L.length ≤ 4096
  sm : ∀ e, e < L.length → SmN (lowN (ndAt L e))
  cl : C.length ≤ reachBytes
  ll : ∀ c ∈ C, c.length ≤ reachBytes
  lk : ∀ c ∈ C, ∀ x ∈ c, LkOk x
theorem Gs.ld1 {H : Hp} {x v : AV} {rows : List (List AV)} {n : Nat} (h : Gs 1 H x rows) (hn : rows[n]? = some [v]) : ∃ p, ixaSl 1 x (I (n : Int)) = some p ∧ ldA false 1 H p = some v := by
  have hlt := (List.getElem?_eq_some_iff.1 hn).1
  cases h with
  | nil => simp at hlt
  | sl hl hg hsz =>
    rename_i id ex
    refine ⟨.ptr id (0 + (n : Int).toNat * 1), ix_sl (by omega) (by omega), ?_⟩
    have := flat_drop hsz hlt
    rw [List.getElem?_eq_getElem hlt] at hn
    rw [Option.some.inj hn] at this
    simp [hg]
    rw [Nat.mul_one] at this
    rw [this]
    simp
section
variable {L : List Nd} {d : List Nat} {C : List (List Lk)}
def AskK (σ : Sig) (L : List Nd) (d : List Nat) (C : List (List Lk)) (f : Nat) (xs : List AV) (b : Bool) : Prop :=
  ∀ (ab mb : Nat) (cs : AV) (H : Hp) (K : AV → Hp → Prop), Asks (domT L d) C (Tru L C) ab mb cs H → (∀ H', Asks (domT L d) C (Tru L C) ab mb cs H' → Kp mb H H' → K (Bo b) H') → callK Try.prog σ f (.ptr ab 0 :: xs) H K
theorem AskK.pure {f : Nat} {xs : List AV} {b : Bool} (h : ∀ H, Good Try.prog σ f (.ip (domT L d :: []) :: xs) H (Bo b) H) (hx : noIds xs = true) : AskK σ L d C f xs b :=
  fun ab mb cs H K hA hK => callK_of (hA.pure (h Hp.empty) hx rfl) (hK H hA (.refl _ _))
def AnyOk (σ : Sig) (L : List Nd) (d : List Nat) (C : List (List Lk)) (f : Nat) : Prop := ∀ (l : List Sl) (ns : List Nat), Rep C f l ns → Nest f l → f ≤ 12 → ns.length ≤ reachBytes → ∀ e, e < L.length → AskK σ L d C n_match_asked_any [I (e : Int), ints ns] (AA L l e)
theorem pseudo_sp (M : Mc σ L d C) {f : Nat} (hA : AnyOk σ L d C f) (hf : f ≤ 12) {q : Ps} (hq : i64 q.a ∧ i64 q.b) {ns : List Nat} (hr : (q.kind = 7 ∨ q.kind = 8) → Rep C f q.list ns) (hnest : (q.kind = 7 ∨ q.kind = 8) → Nest f q.list) (hns : ns.length ≤ reachBytes) {e : Nat} (he : e < L.length) :
    AskK σ L d C n_match_asked_pseudo [I (e : Int), .agg (encPs q), ints ns] (pseudoB (AA L) L e q) := by
  intro ab mb cs H K hA0 hK
  have hpar := par_bd M.hB he
  have hpl := place_bd L e
  have e1 : ab ≠ H.n := by have := hA0.nab; omega
  have a1 := hA0.new (.cells (encPs q) true)
  have k1 := Kp.new mb H (.cells (encPs q) true)
  refine match_asked_pseudo.run ?_
  simp [encPs_eq, e1, hA0.gab]
  have e2 : ∀ Ks : AV → Hp → Prop, Ks = Ks := fun _ => rfl
  unfold pseudoB at hK
  have hH : Hp.new H (.cells [I q.kind, I q.a, I q.b, .imm 1 (q.list.map encSl)] true) = Hp.new H (.cells (encPs q) true) := by rw [encPs_eq]
  rw [hH]
  obtain ⟨H1, hH1⟩ : ∃ H1, H1 = H.new (.cells (encPs q) true) := ⟨_, rfl⟩
  have gq : H1.get H.n = some (.cells [I q.kind, I q.a, I q.b, .imm 1 (q.list.map encSl)] true) := by rw [hH1, ← encPs_eq]; simp
  rw [← hH1] at a1 k1 ⊢
  have pur : ∀ {g : Nat} {xs : List AV} {b : Bool}, (∀ H, Good Try.prog σ g (.ip (domT L d :: []) :: xs) H (Bo b) H) → noIds xs = true → Good Try.prog σ g (.ptr ab 0 :: xs) H1 (Bo b) H1 := fun h hx => a1.pure (h Hp.empty) hx rfl
  split
  · rename_i h
    rw [if_pos h] at hK
    refine callK_of (Parent_ok L d M.hN he _) ?_
    simpa using hK H1 a1 k1
  rename_i h1
  rw [if_neg h1] at hK
  split
  · rename_i h
    rw [if_pos h] at hK
    refine callK_of (Place_ok L d M.hN he _) ?_
    simpa using hK H1 a1 k1
  rename_i h2
  rw [if_neg h2] at hK
  split
  · rename_i h
    rw [if_pos h] at hK
    exact callK_of (pur (fun H => lastM_ok M.hB M.hN he [] rfl H) rfl) (hK H1 a1 k1)
  rename_i h3
  rw [if_neg h3] at hK
  split
  · rename_i h
    rw [if_pos h] at hK
    refine callK_of (Place_ok L d M.hN he _) ?_
    simp
    split
    · rename_i hp
      simp [hp] at hK
      exact callK_of (pur (fun H => lastM_ok M.hB M.hN he [] rfl H) rfl) (hK H1 a1 k1)
    · rename_i hp
      simp [hp] at hK
      exact hK H1 a1 k1
  rename_i h4
  rw [if_neg h4] at hK
  split
  · rename_i h
    rw [if_pos h] at hK
    have := Child_ok (σ := σ) L d M.hN (k := 0) he
    refine callK_of (this _) ?_
    simpa using hK H1 a1 k1
  rename_i h5
  rw [if_neg h5] at hK
  split
  · rename_i h
    rw [if_pos h] at hK
    refine callK_of (Place_ok L d M.hN he _) ?_
    simp [gq]
    refine callK_of (nth_ok ?_ hq.1 hq.2 _) (hK H1 a1 k1)
    have := M.hN
    unfold i64
    omega
  rename_i h6
  rw [if_neg h6] at hK
  split
  · rename_i h
    rw [if_pos h] at hK
    refine hA q.list ns (hr (.inl h)) (hnest (.inl h)) hf hns e he ab mb cs H1 _ a1 fun H2 a2 k2 => ?_
    simp
    exact hK H2 a2 (k1.trans k2)
  rename_i h7
  rw [if_neg h7] at hK
  split
  · rename_i h
    rw [if_pos h] at hK
    exact hA q.list ns (hr (.inr h)) (hnest (.inr h)) hf hns e he ab mb cs H1 _ a1 fun H2 a2 k2 => hK H2 a2 (k1.trans k2)
  · rename_i h
    rw [if_neg h] at hK
    exact hK H1 a1 k1
theorem lk_c (x : Lk) : ldL true 5 ((encLk x).drop 1) = some (.agg (encCp x.part.c)) := by
  have e : (encLk x).drop 1 = encCp x.part.c ++ [.imm 1 (x.lists.map fun l => [ints l])] := by
    unfold encLk; rw [encPt_eq]; rfl
  rw [e, ldL_agg (by simp)]
  rw [List.take_append_of_le_length (by simp), List.take_of_length_le (by simp)]
theorem lk_ps (x : Lk) : ldL false 1 ((encLk x).drop 5) = some (.imm 4 (x.part.c.pseudos.map encPs)) := by
  unfold encLk; rw [encPt_eq, encCp_eq]; rfl
theorem lk_ls (x : Lk) : ldL false 1 ((encLk x).drop 6) = some (.imm 1 (x.lists.map fun l => [ints l])) := by
  unfold encLk; rw [encPt_eq, encCp_eq]; rfl
theorem lk_comb (x : Lk) : ldL false 1 (encLk x) = some (I x.part.comb) := by
  unfold encLk; rw [encPt_eq]; rfl
section
attribute [local irreducible] match_asked_compound.L0
theorem compound_sp (M : Mc σ L d C) {f : Nat} (hA : AnyOk σ L d C f) (hf : f ≤ 12) {x : Lk} (hx : LkOk x) (hl : x.lists.length = x.part.c.pseudos.length) (hr : ∀ (j : Nat) (q : Ps) (ns : List Nat), x.part.c.pseudos[j]? = some q → x.lists[j]? = some ns → Rep C f q.list ns) (hn : ∀ q ∈ x.part.c.pseudos, Nest f q.list) {e : Nat} (he : e < L.length) :
    AskK σ L d C n_match_asked_compound [I (e : Int), .agg (encLk x)] (compB (AA L) L e x.part.c) := by
  intro ab mb cs H K hA0 hK
  have a1 := hA0.new (.cells (encLk x) true)
  have k1 := Kp.new mb H (.cells (encLk x) true)
  have hml : mb ≠ H.n := by have := hA0.nmb; omega
  have hm1 : mb < H.n := hA0.nmb
  have hps := hx.c.ps
  have L0 : ∀ (m k : Nat) (H1 : Hp), x.part.c.pseudos.length - m = k → m ≤ x.part.c.pseudos.length → Asks (domT L d) C (Tru L C) ab mb cs H1 → Kp mb (H.new (.cells (encLk x) true)) H1 →
      (∀ H', Asks (domT L d) C (Tru L C) ab mb cs H' → Kp mb H H' → K (Bo ((x.part.c.pseudos.drop m).all (pseudoB (AA L) L e))) H') → match_asked_compound.L0 σ K (.ptr ab 0) (I (e : Int)) (.ptr H.n 0) (.imm 4 (x.part.c.pseudos.map encPs)) (I x.part.c.pseudos.length) (I m) H1 := by
    intro m k
    revert m
    induction k with
    | zero =>
      intro m H1 hk hm h1 kp hK
      have : m = x.part.c.pseudos.length := by omega
      subst this
      refine match_asked_compound.L0_step ?_
      simp
      simpa using hK H1 h1 (k1.trans kp)
    | succ k ih =>
      intro m H1 hk hm h1 kp hK
      have hlt : m < x.part.c.pseudos.length := by omega
      obtain ⟨q, hq⟩ := get_lt hlt
      obtain ⟨ns, hns⟩ := get_lt (l := x.lists) (k := m) (by omega)
      have hqm := List.mem_of_getElem? hq
      rw [drop_get hq] at hK
      have hlt' : (m : Int) < x.part.c.pseudos.length := by omega
      have gx : H1.get H.n = some (.cells (encLk x) true) := by rw [kp.get H.n (by simp) (Ne.symm hml)]; simp
      have hup := kp.up
      simp at hup
      have n1 : H.n ≠ H1.n := by omega
      refine match_asked_compound.L0_step ?_
      have hls : ixaSl 1 (.imm 1 (x.lists.map fun l => [ints l])) (I (m : Int)) = some (.ip [ints ns]) := by
        have := ix_map (f := fun l : List Nat => [ints l]) (sz := 1) hns
        exact this
      simp only [b_lss, hlt', decide_true, bnd_some, ifB_lit, if_true, ix_map hq, ld_ip, ldL_ps, allocK_eq]
      have hst : stA 4 (H1.new (.cells [I 0, I 0, I 0, .lit (.slice none 0 0)] true)) (.ptr H1.n 0) (.agg (encPs q)) = some ((H1.new (.cells [I 0, I 0, I 0, .lit (.slice none 0 0)] true)).set H1.n (some (.cells (encPs q) true))) := by
        simp
        rw [ov_Ps q (by simp)]
      rw [hst, bnd_some]
      simp only [ld_ptr, hp_get_set, if_true, ldO_cells, List.drop_zero, ldL_ps, bnd_some, sh_ptr, Nat.zero_add, n1, if_false, hp_get_new, gx, lk_ls]
      rw [hls, bnd_some]
      simp only [ld_ip, ldL_one, bnd_some]
      have a2 := h1.setN (h1.new (.cells [I 0, I 0, I 0, .lit (.slice none 0 0)] true)) (Nat.le_refl H1.n) (some (.cells (encPs q) true))
      have k2 := (Kp.new mb H1 (.cells [I 0, I 0, I 0, .lit (.slice none 0 0)] true)).setN (Nat.le_refl H1.n) (some (.cells (encPs q) true))
      refine pseudo_sp M hA hf (hx.ps q hqm) (fun _ => hr m q ns hq hns) (fun _ => hn q hqm) (hx.ls ns (List.mem_of_getElem? hns)) he ab mb cs _ _ a2 fun H2 a3 k3 => ?_
      simp only [u_not, bnd_some, ifB_lit]
      cases hb : pseudoB (AA L) L e q with
      | false =>
        simp [hb] at hK
        simp
        exact hK H2 a3 (k1.trans (kp.trans (k2.trans k3)))
      | true =>
        simp [hb] at hK
        simp
        rw [wr_succL hlt hps (by decide)]
        exact ih (m + 1) H2 (by omega) (by omega) a3 (kp.trans (k2.trans k3)) (by simpa using hK)
  refine match_asked_compound.run ?_
  simp only [boxK_agg, sh_ptr, Nat.zero_add, ld_ptr, hp_get_new, if_true, ldO_cells, lk_c, bnd_some]
  refine callK_of (a1.pure (plain_ok M.hC M.hN he (M.sm e he) hx.c [] rfl Hp.empty) (by simp [noIds, noId, noId_Cp]) rfl) ?_
  simp only [u_not, bnd_some, ifB_lit]
  unfold compB at hK
  cases hb : plainB (lowN (ndAt L e)) x.part.c with
  | false =>
    simp [hb] at hK
    simp
    exact hK _ a1 k1
  | true =>
    simp [hb] at hK
    simp [lk_ps]
    exact L0 0 _ _ rfl (Nat.zero_le _) a1 (.refl _ _) (by simpa using hK)
end
theorem standI_lt (M : Mc σ L d C) {e : Nat} (he : e < L.length) (k : Int) : standI L e k < e := by
  unfold standI
  split
  · rcases par_bd M.hB he with h | ⟨p, h, hp⟩
    · omega
    · omega
  · split
    · unfold before lastI
      cases h : (sibs L e).getLast? with
      | none => simp <;> omega
      | some j =>
        have := List.mem_of_getLast? h
        unfold sibs at this
        simp only [List.mem_filter, List.mem_range] at this
        simp; omega
    · omega
theorem standI_ge (M : Mc σ L d C) {e : Nat} (he : e < L.length) (k : Int) : -1 ≤ standI L e k := by
  unfold standI
  split
  · rcases par_bd M.hB he with h | ⟨p, h, hp⟩
    · omega
    · omega
  · split
    · unfold before lastI
      cases h : (sibs L e).getLast? with
      | none => simp
      | some j => simp <;> omega
    · omega
theorem aheadF_fuel (M : Mc σ L d C) (g : Nat → Bool) (k : Int) : ∀ (f f' e : Nat), e < L.length → e < f → e < f' → aheadF g L k f e = aheadF g L k f' e
  | 0, f', e, _, h, _ => by omega
  | f + 1, 0, e, _, _, h => by omega
  | f + 1, f' + 1, e, he, h1, h2 => by
    unfold aheadF
    have := standI_lt M he k
    by_cases h : 0 ≤ standI L e k
    · rw [aheadF_fuel M g k f f' _ (by omega) (by omega) (by omega)]
    · simp [h]
theorem chain_at (M : Mc σ L d C) {ab mb : Nat} {cs : AV} {H : Hp} (hA : Asks (domT L d) C (Tru L C) ab mb cs H) {n i : Nat} {c : List Lk} {x : Lk} (hc : C[n]? = some c) (hx : c[i]? = some x) :
    ∃ p, ixaSl 1 cs (I (n : Int)) = some p ∧ ldA false 1 H p = some (chainV c) ∧ ixaSl 7 (chainV c) (I (i : Int)) = some (.ip (encLk x)) := by
  obtain ⟨p, h1, h2⟩ := hA.gcs.ld1 (n := n) (v := chainV c) (by rw [List.getElem?_map, hc]; rfl)
  exact ⟨p, h1, h2, ix_map hx⟩
theorem is_step (M : Mc σ L d C) {f : Nat} (hA : AnyOk σ L d C f) (hf : f ≤ 12) {n : Nat} {s : Sl} (hr : RepC (Rep C f) C s n) (hn : ∀ p ∈ s, ∀ q ∈ p.c.pseudos, Nest f q.list) (hn9 : n < 9000000000000000000) (i : Nat) (hi : i < s.length) (hi9 : i < 9000000000000000000)
    (hah : i ≠ 0 → ∀ e, e < L.length → AskK σ L d C n_match_asked_ahead [I (n : Int), I (i : Int), I (e : Int)] (Tru L C n i e true)) (e : Nat) (he : e < L.length) :
    AskK σ L d C n_match_asked_is [I (n : Int), I (i : Int), I (e : Int)] (Tru L C n i e false) := by
  intro ab mb cs H K hA0 hK
  obtain ⟨c, hc, hcs, hcl⟩ := hr
  have hsel : selC C n = s := RepC.sel ⟨c, hc, hcs, hcl⟩
  obtain ⟨x, hx⟩ := get_lt (l := c) (k := i) (by rw [← List.length_map (f := (·.part)), hcs]; exact hi)
  have hcm := List.mem_of_getElem? hc
  have hxm := List.mem_of_getElem? hx
  have hlk := M.lk c hcm x hxm
  obtain ⟨hl1, hl2⟩ := hcl i x hx
  have hsx : s[i]? = some x.part := by rw [← hcs, List.getElem?_map, hx]; rfl
  have hbx : ∀ (v : AV) (H : Hp) (K : AV → Hp → Prop), v.isAny = false → v.cells = [v] → boxK v H K = K (.ptr H.n 0) (H.new (.cells [v] true)) := fun v H K h1 h2 => boxK_one h1 h2 H K
  have tr : Tru L C n i e false = (compB (AA L) L e x.part.c && (decide (i = 0) || Tru L C n i e true)) := by
    unfold Tru
    simp only [hsel]
    cases i with
    | zero => unfold frontB; simp [hsx]
    | succ i => rw [frontB]; simp [hsx]
  refine match_asked_is.run ?_
  rw [hbx _ _ _ rfl rfl, hbx _ _ _ rfl rfl, hbx _ _ _ rfl rfl, hbx _ _ _ rfl rfl]
  obtain ⟨H4, hH4⟩ : ∃ H4, H4 = (((H.new (.cells [.ptr ab 0] true)).new (.cells [I (n : Int)] true)).new (.cells [I (i : Int)] true)).new (.cells [I (e : Int)] true) := ⟨_, rfl⟩
  have a4 : Asks (domT L d) C (Tru L C) ab mb cs H4 := by rw [hH4]; exact (((hA0.new _).new _).new _).new _
  have k4 : Kp mb H H4 := by rw [hH4]; exact (((Kp.new mb H _).trans (Kp.new mb _ _)).trans (Kp.new mb _ _)).trans (Kp.new mb _ _)
  have q1 : ¬ (H.n = H.n + 1 + 1 + 1) := by omega
  have q2 : ¬ (H.n = H.n + 1 + 1) := by omega
  have q3 : ¬ (H.n + 1 = H.n + 1 + 1 + 1) := by omega
  have g0 : H4.get H.n = some (.cells [.ptr ab 0] true) := by rw [hH4]; simp [q1, q2]
  have g1 : H4.get (H.n + 1) = some (.cells [I (n : Int)] true) := by rw [hH4]; simp [q3]
  have g2 : H4.get (H.n + 1 + 1) = some (.cells [I (i : Int)] true) := by rw [hH4]; simp
  have g3 : H4.get (H.n + 1 + 1 + 1) = some (.cells [I (e : Int)] true) := by rw [hH4]; simp
  have n4 : H4.n = H.n + 4 := by rw [hH4]; rfl
  rw [← hH4]
  simp only [Hp.n_new]
  rw [ld2 g0, bnd_some, ld2 g1, bnd_some, ld2 g2, bnd_some, ld2 g3, bnd_some]
  have hb : bldR [I 0, I 0, I 0, .lit (.bool false)] [(0, 1, I (n : Int)), (1, 1, I (i : Int)), (2, 1, I (e : Int)), (3, 1, Bo false)] = some (encQ n i e false) := rfl
  rw [hb, bnd_some]
  have mbl := hA0.nmb
  refine once_sp (n := n) (i := i) (e := e) (a := false) a4 (List.getElem?_eq_some_iff.1 hc).1 rfl (fun H1 K1 h1 kp1 hK1 => ?_) (fun H' h' kp' => hK H' h' (k4.trans kp'))
  have keep : ∀ {H2 : Hp}, Kp mb H4 H2 → ∀ {j : Nat} {v : AV}, H.n ≤ j → j < H.n + 4 → H4.get j = some (.cells [v] true) → H2.get j = some (.cells [v] true) := fun kp j v h1 h2 hg => by rw [kp.get j (by omega) (by omega)]; exact hg
  rw [callV_fn', List.nil_append]
  refine match_asked_is_1.run ?_
  obtain ⟨p, c1, c2, c3⟩ := chain_at M h1 hc hx
  have hlx : ldL true 7 (encLk x) = some (.agg (encLk x)) := ldL_all (len_lk x)
  have hcab : ldA false 1 H1 (.ptr ab 1) = some cs := by simp [h1.gab]
  rw [ld2 (keep kp1 (by omega) (by omega) g0), bnd_some, ld2 (keep kp1 (by omega) (by omega) g3), bnd_some, bnd_some, n_ptr, bnd_some, sh_ptr, bnd_some, hcab, bnd_some, ld2 (keep kp1 (by omega) (by omega) g1), bnd_some, c1, bnd_some, c2, bnd_some, ld2 (keep kp1 (by omega) (by omega) g2), bnd_some, c3, bnd_some, ld_ip, hlx, bnd_some]
  refine compound_sp M hA hf hlk hl1 hl2 (hn x.part (List.mem_of_getElem? hsx)) he ab mb cs H1 _ h1 fun H2 h2 kp2 => ?_
  simp only [ifB_lit]
  rw [tr] at hK1
  cases hcb : compB (AA L) L e x.part.c with
  | false =>
    simp [hcb] at hK1
    simp
    exact hK1 H2 h2 kp2
  | true =>
    simp [hcb] at hK1
    simp only [if_true]
    have kp12 := kp1.trans kp2
    rw [ld2 (keep kp12 (by omega) (by omega) g2), bnd_some, b_eql, bnd_some]
    simp only [ifB_lit, decide_eq_true_eq]
    split
    · rename_i h0
      have h0' : i = 0 := by omega
      simp [h0'] at hK1
      exact hK1 H2 h2 kp2
    · rename_i h0
      have h0' : i ≠ 0 := by omega
      simp [h0'] at hK1
      rw [ld2 (keep kp12 (by omega) (by omega) g0), bnd_some, ld2 (keep kp12 (by omega) (by omega) g1), bnd_some, bnd_some, ld2 (keep kp12 (by omega) (by omega) g3), bnd_some]
      exact hah h0' e he ab mb cs H2 _ h2 fun H3 h3 kp3 => hK1 H3 h3 (kp2.trans kp3)
theorem ahead_step (M : Mc σ L d C) {n : Nat} {c : List Lk} (hc : C[n]? = some c) (hn9 : n < 9000000000000000000) {i : Nat} {x : Lk} (hx : c[i + 1]? = some x) (hi9 : i + 1 < 9000000000000000000)
    (hsx : (selC C n)[i + 1]? = some x.part) (his : ∀ e, e < L.length → AskK σ L d C n_match_asked_is [I (n : Int), I (i : Int), I (e : Int)] (Tru L C n i e false)) :
    ∀ (m e : Nat), e < m → e < L.length → AskK σ L d C n_match_asked_ahead [I (n : Int), I ((i + 1 : Nat) : Int), I (e : Int)] (Tru L C n (i + 1) e true) := by
  intro m
  induction m with
  | zero => intro e h; omega
  | succ m ih =>
    intro e hem he ab mb cs H K hA0 hK
    have hlt := standI_lt M he x.part.comb
    have hge := standI_ge M he x.part.comb
    have trE : ∀ e, e < L.length → Tru L C n (i + 1) e true = aheadF (frontB (AA L) L (selC C n) i) L x.part.comb (e + 1) e := fun e he => by
      unfold Tru
      simp only [hsx, Nat.add_sub_cancel]
    have tr : Tru L C n (i + 1) e true = (decide (0 ≤ standI L e x.part.comb) && (Tru L C n i (standI L e x.part.comb).toNat false || (farB x.part.comb && Tru L C n (i + 1) (standI L e x.part.comb).toNat true))) := by
      rw [trE e he]
      by_cases h : 0 ≤ standI L e x.part.comb
      · rw [trE _ (by omega), aheadF]
        rw [aheadF_fuel M (frontB (AA L) L (selC C n) i) x.part.comb e ((standI L e x.part.comb).toNat + 1) (standI L e x.part.comb).toNat (by omega) (by omega) (by omega)]
        rfl
      · rw [aheadF]; simp [h]
    have hbx : ∀ (v : AV) (H : Hp) (K : AV → Hp → Prop), v.isAny = false → v.cells = [v] → boxK v H K = K (.ptr H.n 0) (H.new (.cells [v] true)) := fun v H K h1 h2 => boxK_one h1 h2 H K
    refine match_asked_ahead.run ?_
    rw [hbx _ _ _ rfl rfl, hbx _ _ _ rfl rfl, hbx _ _ _ rfl rfl]
    obtain ⟨H3, hH3⟩ : ∃ H3, H3 = ((H.new (.cells [.ptr ab 0] true)).new (.cells [I (n : Int)] true)).new (.cells [I ((i + 1 : Nat) : Int)] true) := ⟨_, rfl⟩
    have a3 : Asks (domT L d) C (Tru L C) ab mb cs H3 := by rw [hH3]; exact ((hA0.new _).new _).new _
    have k3 : Kp mb H H3 := by rw [hH3]; exact ((Kp.new mb H _).trans (Kp.new mb _ _)).trans (Kp.new mb _ _)
    have q2 : ¬ (H.n = H.n + 1 + 1) := by omega
    have g0 : H3.get H.n = some (.cells [.ptr ab 0] true) := by rw [hH3]; simp [q2]
    have g1 : H3.get (H.n + 1) = some (.cells [I (n : Int)] true) := by rw [hH3]; simp
    have g2 : H3.get (H.n + 1 + 1) = some (.cells [I ((i + 1 : Nat) : Int)] true) := by rw [hH3]; simp
    have n3 : H3.n = H.n + 1 + 1 + 1 := by rw [hH3]; rfl
    rw [← hH3]
    simp only [Hp.n_new]
    obtain ⟨p, c1, c2, c3⟩ := chain_at M a3 hc hx
    have hcab : ldA false 1 H3 (.ptr ab 1) = some cs := by simp [a3.gab]
    rw [ld2 g0, bnd_some, bnd_some, n_ptr, bnd_some, sh_ptr, bnd_some, hcab, bnd_some, ld2 g1, bnd_some, c1, bnd_some, c2, bnd_some, ld2 g2, bnd_some, c3, bnd_some, sh_ip, bnd_some, List.drop_zero, sh_ip, bnd_some, List.drop_zero, ld_ip, lk_comb, bnd_some]
    refine callK_of (a3.pure (stands_ok M.hN he x.part.comb [] rfl Hp.empty) rfl (by simp [plainV, plainVs])) ?_
    simp only [x_tup, List.getElem?_cons_zero, List.getElem?_cons_succ, bnd_some, allocK_eq, Hp.n_new]
    obtain ⟨H5, hH5⟩ : ∃ H5, H5 = (((H3.new (.cells [I 0] true)).new (.cells [Bo false] true)).set H3.n (some (.cells [I (standI L e x.part.comb)] true))).set (H3.n + 1) (some (.cells [Bo (farB x.part.comb)] true)) := ⟨_, rfl⟩
    have s1 : stA 1 ((H3.new (.cells [I 0] true)).new (.cells [Bo false] true)) (.ptr H3.n 0) (I (standI L e x.part.comb)) = some (((H3.new (.cells [I 0] true)).new (.cells [Bo false] true)).set H3.n (some (.cells [I (standI L e x.part.comb)] true))) := by simp
    have s2 : stA 1 (((H3.new (.cells [I 0] true)).new (.cells [Bo false] true)).set H3.n (some (.cells [I (standI L e x.part.comb)] true))) (.ptr (H3.n + 1) 0) (Bo (farB x.part.comb)) = some H5 := by rw [hH5]; simp
    rw [s1, bnd_some, s2, bnd_some]
    have a5 : Asks (domT L d) C (Tru L C) ab mb cs H5 := by
      rw [hH5]
      exact a3.setN (a3.setN ((a3.new _).new _) (Nat.le_refl _) _) (by omega) _
    have k5 : Kp mb H3 H5 := by
      rw [hH5]
      exact ((((Kp.new mb H3 _).trans (Kp.new mb _ _))).setN (Nat.le_refl _) _).setN (by omega) _
    have mbl := hA0.nmb
    have n5 : H5.n = H.n + 1 + 1 + 1 + 1 + 1 := by rw [hH5]; simp [n3]
    have r0 : H5.get H.n = some (.cells [.ptr ab 0] true) := by rw [k5.get _ (by omega) (by omega)]; exact g0
    have r1 : H5.get (H.n + 1) = some (.cells [I (n : Int)] true) := by rw [k5.get _ (by omega) (by omega)]; exact g1
    have r2 : H5.get (H.n + 1 + 1) = some (.cells [I ((i + 1 : Nat) : Int)] true) := by rw [k5.get _ (by omega) (by omega)]; exact g2
    have r3 : H5.get H3.n = some (.cells [I (standI L e x.part.comb)] true) := by rw [hH5]; simp
    have r4 : H5.get (H3.n + 1) = some (.cells [Bo (farB x.part.comb)] true) := by rw [hH5]; simp
    clear hH5 s1 s2
    rw [ld2 r3, bnd_some, b_geq, bnd_some]
    simp only [ifB_lit, decide_eq_true_eq]
    rw [tr] at hK
    split
    · rename_i h0
      rw [ld2 r0, bnd_some, ld2 r1, bnd_some, ld2 r2, bnd_some]
      have hb : bldR [I 0, I 0, I 0, .lit (.bool false)] [(0, 1, I (n : Int)), (1, 1, I ((i + 1 : Nat) : Int)), (2, 1, I (e : Int)), (3, 1, Bo true)] = some (encQ n (i + 1) e true) := rfl
      rw [hb, bnd_some]
      refine once_sp (n := n) (i := i + 1) (e := e) (a := true) a5 (List.getElem?_eq_some_iff.1 hc).1 rfl (fun H1 K1 h1 kp1 hK1 => ?_) (fun H' h' kp' => ?_)
      · have keep : ∀ {H2 : Hp}, Kp mb H5 H2 → ∀ {j : Nat} {v : AV}, H.n ≤ j → j < H.n + 5 → H5.get j = some (.cells [v] true) → H2.get j = some (.cells [v] true) := fun kp j v h1 h2 hg => by rw [kp.get j (by omega) (by omega)]; exact hg
        obtain ⟨x', hx'⟩ : ∃ k : Nat, standI L e x.part.comb = k := ⟨(standI L e x.part.comb).toNat, by omega⟩
        rw [tr, hx'] at hK1
        rw [hx'] at r3 hlt
        simp only [Int.toNat_natCast] at hK1
        rw [callV_fn', List.nil_append]
        refine match_asked_ahead_1.run ?_
        have e1 : wr .i64 (((i + 1 : Nat) : Int) - 1) = (i : Int) := by rw [wr64 (by omega) (by omega)]; omega
        rw [ld2 (keep kp1 (by omega) (by omega) r0), bnd_some, ld2 (keep kp1 (by omega) (by omega) r1), bnd_some, ld2 (keep kp1 (by omega) (by omega) r2), bnd_some, b_sub, bnd_some, e1, ld2 (keep kp1 (by omega) (by omega) r3), bnd_some]
        refine his x' (by omega) ab mb cs H1 _ h1 fun H2 h2 kp2 => ?_
        simp only [ifB_lit]
        have kp12 := kp1.trans kp2
        have h0' : (0 : Int) ≤ (x' : Int) := by omega
        cases hf : Tru L C n i x' false with
        | true =>
          simp [hf, h0'] at hK1
          simp
          exact hK1 H2 h2 kp2
        | false =>
          simp [hf, h0'] at hK1
          simp only [Bool.false_eq_true, if_false]
          rw [ld2 (keep kp12 (by omega) (by omega) r4), bnd_some]
          simp only [ifB_lit]
          cases hfar : farB x.part.comb with
          | false =>
            simp [hfar] at hK1
            simp
            exact hK1 H2 h2 kp2
          | true =>
            simp [hfar] at hK1
            simp only [if_true]
            rw [ld2 (keep kp12 (by omega) (by omega) r0), bnd_some, ld2 (keep kp12 (by omega) (by omega) r1), bnd_some, ld2 (keep kp12 (by omega) (by omega) r2), bnd_some, ld2 (keep kp12 (by omega) (by omega) r3), bnd_some]
            exact ih x' (by omega) (by omega) ab mb cs H2 _ h2 fun H3' h3 kp3 => hK1 H3' h3 (kp2.trans kp3)
      · rw [← tr] at hK
        exact hK H' h' (k3.trans (k5.trans kp'))
    · rename_i h0
      have : decide (0 ≤ standI L e x.part.comb) = false := by simpa using h0
      rw [this, Bool.false_and] at hK
      exact hK H5 a5 (k3.trans k5)
theorem is_sp (M : Mc σ L d C) {f : Nat} (hA : AnyOk σ L d C f) (hf : f ≤ 12) {n : Nat} {s : Sl} (hr : RepC (Rep C f) C s n) (hn : ∀ p ∈ s, ∀ q ∈ p.c.pseudos, Nest f q.list) (hn9 : n < 9000000000000000000) : ∀ (i : Nat), i < s.length → i < 9000000000000000000 → ∀ e, e < L.length →
    AskK σ L d C n_match_asked_is [I (n : Int), I (i : Int), I (e : Int)] (Tru L C n i e false)
  | 0, hi, hi9, e, he => is_step M hA hf hr hn hn9 0 hi hi9 (fun h => absurd rfl h) e he
  | i + 1, hi, hi9, e, he => by
    refine is_step M hA hf hr hn hn9 (i + 1) hi hi9 (fun _ e he => ?_) e he
    obtain ⟨c, hc, hcs, hcl⟩ := hr
    obtain ⟨x, hx⟩ := get_lt (l := c) (k := i + 1) (by rw [← List.length_map (f := (·.part)), hcs]; exact hi)
    have hsel : selC C n = s := RepC.sel ⟨c, hc, hcs, hcl⟩
    have hsx : (selC C n)[i + 1]? = some x.part := by rw [hsel, ← hcs, List.getElem?_map, hx]; rfl
    exact ahead_step M hc hn9 hx hi9 hsx (fun e he => is_sp M hA hf ⟨c, hc, hcs, hcl⟩ hn hn9 i (by omega) (by omega) e he) (e + 1) e (by omega) he
section
attribute [local irreducible] match_asked_any.L0
theorem any_step (M : Mc σ L d C) {f : Nat} (hA : AnyOk σ L d C f) (hf : f + 1 ≤ 12) : AnyOk σ L d C (f + 1) := by
  intro l ns hr hn _ hns e he ab mb cs H K hA0 hK
  rw [← AA_eq hn hf] at hK
  obtain ⟨hlen, hrep⟩ := hr
  have L0 : ∀ (m k : Nat) (H1 : Hp), ns.length - m = k → m ≤ ns.length → Asks (domT L d) C (Tru L C) ab mb cs H1 → Kp mb H H1 → (∀ H', Asks (domT L d) C (Tru L C) ab mb cs H' → Kp mb H H' → K (Bo (anyS (AA L) L (l.drop m) e)) H') →
      match_asked_any.L0 σ K (.ptr ab 0) (I (e : Int)) (ints ns) (I ns.length) (I m) H1 := by
    intro m k
    revert m
    induction k with
    | zero =>
      intro m H1 hk hm h1 kp hK
      have : m = ns.length := by omega
      subst this
      refine match_asked_any.L0_step ?_
      simp
      have := hK H1 h1 kp
      rw [hlen, List.drop_length] at this
      exact this
    | succ k ih =>
      intro m H1 hk hm h1 kp hK
      have hlt : m < ns.length := by omega
      obtain ⟨n, hnn⟩ := get_lt hlt
      obtain ⟨s, hs⟩ := get_lt (l := l) (k := m) (by omega)
      have hrc := hrep m s n hs hnn
      rw [drop_get hs] at hK
      have hlt' : (m : Int) < ns.length := by omega
      obtain ⟨c, hc, hcs, hcl⟩ := hrc
      have hcm := List.mem_of_getElem? hc
      have hcl2 : c.length = s.length := by rw [← hcs, List.length_map]
      obtain ⟨p, c1, c2⟩ := h1.gcs.ld1 (n := n) (v := chainV c) (by rw [List.getElem?_map, hc]; rfl)
      have hcab : ldA false 1 H1 (.ptr ab 1) = some cs := by simp [h1.gab]
      have hix : ixaSl 1 (ints ns) (I (m : Int)) = some (.ip (encN n)) := ix_map hnn
      have hllen : lenSl (chainV c) = some (I (s.length : Int)) := by unfold chainV; simp [hcl2]
      have hl9 := M.ll c hcm
      rw [reach_eq] at hl9 hns
      have hn9 : n < 9000000000000000000 := by
        have := (List.getElem?_eq_some_iff.1 hc).1
        have := M.cl
        rw [reach_eq] at this
        omega
      have hsel : selC C n = s := RepC.sel ⟨c, hc, hcs, hcl⟩
      refine match_asked_any.L0_step ?_
      have hle : ldL false 1 (encN n) = some (I (n : Int)) := rfl
      simp only [b_lss, hlt', decide_true, bnd_some, ifB_lit, if_true, hix, ld_ip, hle, n_ptr, sh_ptr, hcab, c1, c2, hllen, b_gtr, decide_eq_true_eq]
      have hcons : anyS (AA L) L (s :: l.drop (m + 1)) e = ((!decide (s.length = 0) && frontB (AA L) L s (s.length - 1) e) || anyS (AA L) L (l.drop (m + 1)) e) := by simp [anyS]
      rw [hcons] at hK
      split
      · rename_i h0
        have e1 : wr .i64 ((s.length : Int) - 1) = ((s.length - 1 : Nat) : Int) := by rw [wr64 (by omega) (by omega)]; omega
        simp only [b_sub, bnd_some, e1]
        refine is_sp M hA (by omega) ⟨c, hc, hcs, hcl⟩ (fun p hp q hq => hn s (List.mem_of_getElem? hs) p hp q hq) hn9 (s.length - 1) (by omega) (by omega) e he ab mb cs H1 _ h1 fun H2 h2 kp2 => ?_
        have htr : Tru L C n (s.length - 1) e false = frontB (AA L) L s (s.length - 1) e := by unfold Tru; simp only [hsel]
        rw [htr]
        have h0' : ¬ (s.length = 0) := by omega
        simp only [ifB_lit]
        cases hfr : frontB (AA L) L s (s.length - 1) e with
        | true =>
          rw [hfr] at hK
          simp [h0'] at hK
          simp
          exact hK H2 h2 (kp.trans kp2)
        | false =>
          rw [hfr] at hK
          simp at hK
          simp
          rw [wr_succ (by omega)]
          exact ih (m + 1) H2 (by omega) (by omega) h2 (kp.trans kp2) hK
      · rename_i h0
        have h0' : s.length = 0 := by omega
        simp [h0'] at hK
        simp only [b_add, bnd_some]
        rw [wr_succ (by omega)]
        exact ih (m + 1) H1 (by omega) (by omega) h1 kp hK
  refine match_asked_any.run ?_
  have : lenSl (ints ns) = some (I (ns.length : Int)) := by unfold ints; simp
  rw [this, bnd_some]
  exact L0 0 _ H rfl (Nat.zero_le _) hA0 (.refl _ _) (by simpa using hK)
theorem any_ok (M : Mc σ L d C) : ∀ (f : Nat), f ≤ 12 → AnyOk σ L d C f
  | 0, _ => fun l ns hr => hr.elim
  | f + 1, hf => any_step M (any_ok M f (by omega)) hf
end
end
end Go.Proofs.Ytaoegkmfgfefgaa.Ev
namespace Go.Proofs.Ytaoegkmfgfefgaa.Ev
set_option linter.unusedVariables false
set_option linter.unusedSimpArgs false
variable {σ : Sig}
def mayQ (g : List Sl → Nat → Bool) (dp : Nat) (q : Ps) : Bool := if q.kind = 7 ∨ q.kind = 8 then !decide (dp = 0) && g q.list (dp - 1) else true
def mayC (g : List Sl → Nat → Bool) (dp : Nat) (c : Cp) : Bool := c.pseudos.all (mayQ g dp)
def mayS (g : List Sl → Nat → Bool) (dp : Nat) (s : Sl) : Bool := decide (s.length ≤ 50) && s.all fun p => mayC g dp p.c
def mayF : Nat → List Sl → Nat → Bool
  | 0, _, _ => false
  | f + 1, l, dp => l.all (mayS (mayF f) dp)
section
attribute [local irreducible] match_may.L0 match_may.L1 match_mayCompound.L0 match_mayCompound.J1
def MayOk (σ : Sig) (f : Nat) : Prop := ∀ (l : List Sl) (dp : Nat) (H : Hp), slsWf Lmax l → Nest f l → dp ≤ 8 → Good Try.prog σ n_match_may [sls l, I (dp : Int)] H (Bo (mayF f l dp)) H
theorem mayC_ok {f : Nat} (ih : MayOk σ f) (c : Cp) (hc : CpWf Lmax c) (hn : ∀ q ∈ c.pseudos, Nest f q.list) (dp : Nat) (hd : dp ≤ 8) (H : Hp) : Good Try.prog σ n_match_mayCompound [.agg (encCp c), I (dp : Int)] H (Bo (mayC (mayF f) dp c)) H := by
  refine good_by (fun K hK => match_mayCompound.run ?_) (by simp [noIds, noId, noId_Cp]) rfl H
  have L0 : ∀ (m k : Nat) (H : Hp), c.pseudos.length - m = k → m ≤ c.pseudos.length → (∀ H, K (Bo ((c.pseudos.drop m).all (mayQ (mayF f) dp))) H) → match_mayCompound.L0 σ K (I (dp : Int)) (.imm 4 (c.pseudos.map encPs)) (I c.pseudos.length) (I m) H := by
    intro m k
    revert m
    induction k with
    | zero =>
      intro m H hk hm hK
      have : m = c.pseudos.length := by omega
      subst this
      refine match_mayCompound.L0_step ?_
      simp
      simpa using hK H
    | succ k ihk =>
      intro m H hk hm hK
      have hlt : m < c.pseudos.length := by omega
      obtain ⟨q, hq⟩ := get_lt hlt
      have hqm := List.mem_of_getElem? hq
      have hqw := (Ps.wf_iff.1 (hc.ps q hqm)).2.2.2
      rw [drop_get hq, List.all_cons] at hK
      have hlt' : (m : Int) < c.pseudos.length := by omega
      have next : ∀ H, mayQ (mayF f) dp q = true → match_mayCompound.J1 σ K (I (dp : Int)) (.imm 4 (c.pseudos.map encPs)) (I c.pseudos.length) (I m) H := by
        intro H ht
        refine match_mayCompound.J1_step ?_
        simp
        rw [wr_succL hlt hc.psL]
        refine ihk (m + 1) H (by omega) (by omega) fun H' => ?_
        have := hK H'
        rwa [ht, Bool.true_and] at this
      have ask : ∀ (H : Hp), (q.kind = 7 ∨ q.kind = 8) → H.get (H.n - 1) = some (.cells (encPs q) true) → ifB (Bo (decide ((dp : Int) = 0))) (K (Bo false) H) (bnd (ldA false 1 H (.ptr (H.n - 1) 3)) fun x22 => bnd (binR .sub (I (dp : Int)) (I 1)) fun x23 => callK Try.prog σ n_match_may [x22, x23] H fun x24 H25 => bnd (unR .not x24) fun x26 => ifB x26 (K (Bo false) H25) (match_mayCompound.J1 σ K (I (dp : Int)) (.imm 4 (c.pseudos.map encPs)) (I c.pseudos.length) (I m) H25)) := by
        intro H hkq hg
        simp only [ifB_lit, decide_eq_true_eq]
        have hQ : mayQ (mayF f) dp q = (!decide (dp = 0) && mayF f q.list (dp - 1)) := by unfold mayQ; rw [if_pos hkq]
        split
        · rename_i h0
          have h0' : dp = 0 := by omega
          have := hK H
          rw [hQ] at this
          simpa [h0'] using this
        · rename_i h0
          have h0' : ¬ (dp = 0) := by omega
          have e1 : wr .i64 ((dp : Int) - 1) = ((dp - 1 : Nat) : Int) := by rw [wr64 (by omega) (by omega)]; omega
          simp only [ld_ptr, hg, ldO_cells, f_encPs3, bnd_some, b_sub, e1]
          refine callK_of (ih q.list (dp - 1) H hqw (hn q hqm) (by omega)) ?_
          simp only [u_not, bnd_some, ifB_lit]
          cases hb : mayF f q.list (dp - 1) with
          | false =>
            have := hK H
            rw [hQ] at this
            simpa [h0', hb] using this
          | true =>
            simp
            exact next H (by rw [hQ]; simp [h0', hb])
      refine match_mayCompound.L0_step ?_
      have hst : stA 4 (H.new (.cells [I 0, I 0, I 0, .lit (.slice none 0 0)] true)) (.ptr H.n 0) (.agg (encPs q)) = some ((H.new (.cells [I 0, I 0, I 0, .lit (.slice none 0 0)] true)).set H.n (some (.cells (encPs q) true))) := by
        simp
        rw [ov_Ps q (by simp)]
      simp only [b_lss, hlt', decide_true, bnd_some, ifB_lit, if_true, ix_map hq, ld_ip, ldL_ps, allocK_eq, hst, sh_ptr, Nat.zero_add, ld_ptr, hp_get_set, ldO_cells, List.drop_zero, f_encPs0, b_neq]
      have hask := ask ((H.new (.cells [I 0, I 0, I 0, .lit (.slice none 0 0)] true)).set H.n (some (.cells (encPs q) true)))
      simp only [Hp.n_set, Hp.n_new, Nat.add_sub_cancel, ld_ptr, hp_get_set, if_true, ldO_cells] at hask
      by_cases h7 : q.kind = 7
      · simp only [h7, decide_true, Bool.not_true, Bool.false_eq_true, if_false, b_eql, bnd_some]
        exact hask (.inl h7) trivial
      · simp only [h7, decide_false, Bool.not_false, if_true]
        by_cases h8 : q.kind = 8
        · simp only [h8, decide_true, Bool.not_true, Bool.false_eq_true, if_false, b_eql, bnd_some]
          exact hask (.inr h8) trivial
        · simp only [h8, decide_false, Bool.not_false, if_true]
          exact next _ (by unfold mayQ; rw [if_neg (by omega)])
  simp only [boxK_agg, sh_ptr, bnd_some, Nat.zero_add, ld_ptr, hp_get_new, if_true, ldO_cells, f_encCp4, len_imm, List.length_map]
  exact L0 0 _ _ rfl (Nat.zero_le _) (by simpa [mayC] using hK)
theorem may_step {f : Nat} (ih : MayOk σ f) : MayOk σ (f + 1) := by
  intro l dp H hl hn hd
  refine good_by (fun K hK => match_may.run ?_) (by simp [noIds, noId]) rfl H
  have L0 : ∀ (m k : Nat) (H : Hp) (y20 y21 y22 : AV), l.length - m = k → m ≤ l.length → (∀ H, K (Bo ((l.drop m).all (mayS (mayF f) dp))) H) → match_may.L0 σ K (I (dp : Int)) (sls l) (I l.length) (I m) y20 y21 y22 H := by
    intro m k
    revert m
    induction k with
    | zero =>
      intro m H y20 y21 y22 hk hm hK
      have : m = l.length := by omega
      subst this
      refine match_may.L0_step ?_
      simp
      simpa using hK H
    | succ k ihk =>
      intro m H y20 y21 y22 hk hm hK
      have hlt : m < l.length := by omega
      obtain ⟨s, hs⟩ := get_lt hlt
      have hsm := List.mem_of_getElem? hs
      have hsw := hl.2 s hsm
      rw [drop_get hs, List.all_cons] at hK
      have hlt' : (m : Int) < l.length := by omega
      have L1 : ∀ (j k2 : Nat) (H : Hp), s.length - j = k2 → j ≤ s.length → (∀ H, K (Bo ((s.drop j).all (fun p => mayC (mayF f) dp p.c) && (l.drop (m + 1)).all (mayS (mayF f) dp))) H) →
          match_may.L1 σ K (I (dp : Int)) (sls l) (I l.length) (I m) (.imm 6 (s.map encPt)) (I s.length) (I j) H := by
        intro j k2
        revert j
        induction k2 with
        | zero =>
          intro j H hk2 hj hK
          have : j = s.length := by omega
          subst this
          refine match_may.L1_step ?_
          simp
          rw [wr_succL hlt hl.1]
          exact ihk (m + 1) H _ _ _ (by omega) (by omega) (by simpa using hK)
        | succ k2 ih2 =>
          intro j H hk2 hj hK
          have hjlt : j < s.length := by omega
          obtain ⟨p, hp⟩ := get_lt hjlt
          have hpm := List.mem_of_getElem? hp
          have hpw := (Pt.wf_iff.1 (hsw.2 p hpm)).2
          rw [drop_get hp, List.all_cons] at hK
          have hjlt' : (j : Int) < s.length := by omega
          have hst : stA 6 (H.new (.cells [I 0, Sx ⟨#[]⟩, .lit (.slice none 0 0), .lit (.slice none 0 0), .lit (.slice none 0 0), .lit (.slice none 0 0)] true)) (.ptr H.n 0) (.agg (encPt p)) = some ((H.new (.cells [I 0, Sx ⟨#[]⟩, .lit (.slice none 0 0), .lit (.slice none 0 0), .lit (.slice none 0 0), .lit (.slice none 0 0)] true)).set H.n (some (.cells (encPt p) true))) := by
            simp
            rw [ov_Pt p (by simp)]
          refine match_may.L1_step ?_
          have hd1 : (encPt p).drop 1 = encCp p.c := by rw [encPt_eq]; rfl
          simp only [b_lss, hjlt', decide_true, bnd_some, ifB_lit, if_true, ix_map hp, ld_ip, ldL_pt, allocK_eq, hst, sh_ptr, Nat.zero_add, ld_ptr, hp_get_set, ldO_cells, hd1, ldL_cp]
          refine callK_of (mayC_ok ih p.c hpw (fun q hq => hn s hsm p hpm q hq) dp hd _) ?_
          simp only [u_not, bnd_some, ifB_lit]
          cases hb : mayC (mayF f) dp p.c with
          | false =>
            rw [hb] at hK
            simpa using hK _
          | true =>
            rw [hb] at hK
            simp
            rw [wr_succL hjlt hsw.1]
            exact ih2 (j + 1) _ (by omega) (by omega) (by simpa using hK)
      refine match_may.L0_step ?_
      have hst : stA 1 (H.new (.cells [.lit (.slice none 0 0)] true)) (.ptr H.n 0) (.agg (encSl s)) = some ((H.new (.cells [.lit (.slice none 0 0)] true)).set H.n (some (.cells (encSl s) true))) := by
        simp [encSl]
      have hix : ixaSl 1 (sls l) (I (m : Int)) = some (.ip (encSl s)) := ix_map hs
      simp only [b_lss, hlt', decide_true, bnd_some, ifB_lit, if_true, hix, ld_ip, ldL_sl, allocK_eq, hst, sh_ptr, Nat.zero_add, ld_ptr, hp_get_set, ldO_cells, List.drop_zero, f_encSl0, len_imm, List.length_map, b_gtr, decide_eq_true_eq]
      have hS : mayS (mayF f) dp s = (decide (s.length ≤ 50) && s.all fun p => mayC (mayF f) dp p.c) := rfl
      rw [hS] at hK
      split
      · rename_i h50
        have : ¬ (s.length ≤ 50) := by omega
        simpa [this] using hK _
      · rename_i h50
        have : s.length ≤ 50 := by omega
        refine L1 0 _ _ rfl (Nat.zero_le _) ?_
        simpa [this] using hK
  simp
  exact L0 0 _ _ _ _ _ rfl (Nat.zero_le _) (by simpa [mayF] using hK)
theorem may_ok : ∀ (f : Nat), MayOk σ f
  | 0 => fun l dp H hl hn => hn.elim
  | f + 1 => may_step (may_ok f)
end
end Go.Proofs.Ytaoegkmfgfefgaa.Ev
namespace Go.Proofs.Ytaoegkmfgfefgaa.Ev
set_option linter.unusedVariables false
set_option linter.unusedSimpArgs false
variable {σ : Sig}
def HFz (H H2 : Hp) : Prop := ∃ Hd : Hp, H2.n = H.n ∧ Hd.n = H.n ∧ (∀ id k, Hd.get id = some k → H.get id = some k ∧ H2.get id = none) ∧ (∀ id k2, H2.get id = some k2 → ∃ k1, H.get id = some k1 ∧ FzB Hd k1 k2)
theorem FzT.refl {Hd : Hp} : ∀ (T : List AV), FzT Hd T T
  | [] => .nil
  | x :: T => .same (.refl T)
theorem HFz.wk {H H2 : Hp} (h : HFz H H2) (T : List AV) : Wk σ T H T H2 := by
  obtain ⟨Hd, h1, h2, h3, h4⟩ := h
  exact Wk.frz h1 h2 h3 h4 (.refl T)
theorem HFz.loop {P : Program} {C : Ctx P} {c : Code} {T : List AV} {H H2 : Hp} {Q : Exit → List AV → Hp → Prop} (k : HFz H H2) (h : LoopP C c T H2 Q) : LoopP C c T H Q := LoopP.conv (k.wk T) h
theorem frz_in {szc sz : Nat} {H : Hp} {y x : AV} {rows : List (List AV)} {row : List AV} {rs : List (List AV)} (hy : Gs szc H y (rows ++ [row])) (hx : Gs sz H x rs) (hn : noIdss rs = true) {j : Nat} (hj : row[j]? = some x) (hd : ∀ i, own y i → ¬ own x i) :
    ∃ H2, HFz H H2 ∧ H2.n = H.n ∧ Gs szc H2 y (rows ++ [row.set j (.imm sz rs)]) ∧ ∀ i, ¬ own y i → ¬ own x i → H2.get i = H.get i := by
  have hjl := (List.getElem?_eq_some_iff.1 hj).1
  generalize hr : rows ++ [row] = rr at hy
  cases hy with
  | nil => simp at hr
  | sl hlt hg hsz =>
    rename_i id ex
    have hrow : row.length = szc := hsz row (by rw [← hr]; simp)
    have hrr : rr.length = rows.length + 1 := by rw [← hr]; simp
    have hget : rr[rows.length]? = some row := by rw [← hr]; simp
    have hk := rows_flat hsz rows.length row j x hget hj
    obtain ⟨Hd, H2, h1, h2, h3, h4, h5, h6, h7⟩ := frz_one hx hn hg hk (hd id rfl)
    have hflat : rr.flatten.set (rows.length * szc + j) (.imm sz rs) = (rows ++ [row.set j (.imm sz rs)]).flatten := by
      have hkl := (List.getElem?_eq_some_iff.1 hk).1
      rw [← ovl_set hkl, flat_overlay (by simp; omega) hsz (by omega)]
      have e1 : rr[rows.length] = row := by
        rw [List.getElem?_eq_getElem (by omega)] at hget
        exact Option.some.inj hget
      have e2 : overlay row j [AV.imm sz rs] = row.set j (.imm sz rs) := ovl_set hjl
      simp only [e1, e2]
      rw [← hr]
      simp
    rw [hflat] at h6
    have hl : rr.length = (rows ++ [row.set j (.imm sz rs)]).length := by rw [hrr]; simp
    refine ⟨H2, ⟨Hd, h2, h1, h3, h4⟩, h2, ?_, fun i hi hi2 => h7 i (fun e => hi e.symm) hi2⟩
    rw [hl]
    exact .sl (by omega) h6 (fun r hr' => by
      rcases List.mem_append.1 hr' with h | h
      · exact hsz r (by rw [← hr]; simp [h])
      · simp at h; subst h; simpa using hrow)
abbrev NB : Nat := 1048576
def cntF : Nat → List Sl → Nat
  | 0, _ => 0
  | f + 1, l => (l.map fun s => 1 + (s.map fun p => (p.c.pseudos.map fun q => cntF f q.list).sum).sum).sum
def SlsOk : Nat → List Sl → Prop
  | 0, _ => False
  | f + 1, l => l.length ≤ NB ∧ ∀ s ∈ l, s.length ≤ NB ∧ ∀ p ∈ s, CpOk p.c ∧ p.c.pseudos.length ≤ NB ∧ ∀ q ∈ p.c.pseudos, (i64 q.a ∧ i64 q.b) ∧ SlsOk f q.list
structure ChOk (c : List Lk) : Prop where
  len : c.length ≤ NB
  lk : ∀ x ∈ c, LkOk x
theorem Rep.mono {C D : List (List Lk)} : ∀ {f : Nat} {l : List Sl} {ns : List Nat}, Rep C f l ns → Rep (C ++ D) f l ns
  | 0, l, ns, h => h
  | f + 1, l, ns, h => ⟨h.1, fun i s n hs hn => by
    obtain ⟨c, h1, h2, h3⟩ := h.2 i s n hs hn
    refine ⟨c, by rw [List.getElem?_append_left (List.getElem?_eq_some_iff.1 h1).1]; exact h1, h2, fun k x hx => ⟨(h3 k x hx).1, fun j q ns' hq hns => ((h3 k x hx).2 j q ns' hq hns).mono⟩⟩⟩
structure AddH (t : AV) (C : List (List Lk)) (ab mb : Nat) (cs : AV) (H : Hp) : Prop where
  gab : H.get ab = some (.cells [t, cs, .mp mb] true)
  nab : ab < H.n
  gcs : Gs 1 H cs (C.map fun c => [chainV c])
  csab : ¬ own cs ab
structure AFr (H : Hp) (cs : AV) (ab : Nat) (H' : Hp) (cs' : AV) : Prop where
  up : H.n ≤ H'.n
  get : ∀ (j : Nat), j < H.n → j ≠ ab → ¬ own cs j → H'.get j = H.get j
  mine : ∀ j, own cs' j → own cs j ∨ H.n ≤ j
theorem AFr.refl (H : Hp) (cs : AV) (ab : Nat) : AFr H cs ab H cs := ⟨Nat.le_refl _, fun _ _ _ _ => rfl, fun j h => .inl h⟩
theorem AFr.trans {H H1 H2 : Hp} {cs cs1 cs2 : AV} {ab : Nat} (h : AFr H cs ab H1 cs1) (k : AFr H1 cs1 ab H2 cs2) : AFr H cs ab H2 cs2 := by
  refine ⟨Nat.le_trans h.up k.up, fun j hj hne ho => ?_, fun j hj => ?_⟩
  · rw [k.get j (Nat.lt_of_lt_of_le hj h.up) hne (fun hc => by
      rcases h.mine j hc with h | h
      · exact ho h
      · omega), h.get j hj hne ho]
  · rcases k.mine j hj with h1 | h1
    · exact h.mine j h1
    · have := h.up; exact .inr (by omega)
theorem AFr.loc {H H1 H2 : Hp} {cs cs1 : AV} {ab : Nat} (h : AFr H cs ab H1 cs1) (hn : H1.n ≤ H2.n) (hg : ∀ j, j < H.n → H2.get j = H1.get j) : AFr H cs ab H2 cs1 :=
  ⟨Nat.le_trans h.up hn, fun j hj hne ho => by rw [hg j hj, h.get j hj hne ho], h.mine⟩
theorem AddH.loc {t : AV} {C : List (List Lk)} {ab mb : Nat} {cs : AV} {H H' : Hp} (h : AddH t C ab mb cs H) (hn : H.n ≤ H'.n) (h1 : H'.get ab = H.get ab) (h2 : ∀ j, own cs j → H'.get j = H.get j) : AddH t C ab mb cs H' :=
  ⟨by rw [h1]; exact h.gab, Nat.lt_of_lt_of_le h.nab hn, h.gcs.keep h2 hn, h.csab⟩
def AddOk (σ : Sig) (f : Nat) : Prop := ∀ (l : List Sl), SlsOk f l → ∀ (t : AV) (C : List (List Lk)) (ab mb : Nat) (cs : AV) (H : Hp) (K : AV → Hp → Prop), AddH t C ab mb cs H → C.length + cntF f l ≤ NB →
  (∀ (H' : Hp) (cs' : AV) (C2 : List (List Lk)) (r : AV) (ns : List Nat), AddH t (C ++ C2) ab mb cs' H' → Rep (C ++ C2) f l ns → C2.length = cntF f l → (∀ c ∈ C2, ChOk c) → Gs 1 H' r (ns.map encN) → (∀ j, own r j → H.n ≤ j ∧ ¬ own cs' j) → AFr H cs ab H' cs' → K r H') →
  callK Try.prog σ n_match_asked_add [.ptr ab 0, sls l] H K
structure AS (t : AV) (C0 : List (List Lk)) (ab mb : Nat) (H0 : Hp) (cs0 : AV) (C2 : List (List Lk)) (cs : AV) (H : Hp) (y5 : AV) (ns : List Nat) : Prop where
  add : AddH t (C0 ++ C2) ab mb cs H
  fr : AFr H0 cs0 ab H cs
  ok : ∀ c ∈ C2, ChOk c
  out : Gs 1 H y5 (ns.map encN)
  o5 : ∀ j, own y5 j → H0.n ≤ j ∧ ¬ own cs j
structure Mine (H0 : Hp) (cs y5 : AV) (sz : Nat) (H : Hp) (x : AV) (rows : List (List AV)) : Prop where
  gs : Gs sz H x rows
  o : ∀ j, own x j → H0.n ≤ j ∧ ¬ own cs j ∧ ¬ own y5 j
theorem AS.loc {t : AV} {C0 C2 : List (List Lk)} {ab mb : Nat} {H0 H H' : Hp} {cs0 cs y5 : AV} {ns : List Nat} (h : AS t C0 ab mb H0 cs0 C2 cs H y5 ns) (hab : ab < H0.n) (hn : H.n ≤ H'.n) (hg : ∀ j, j < H0.n → H'.get j = H.get j) (h1 : ∀ j, own cs j → H'.get j = H.get j) (h5 : ∀ j, own y5 j → H'.get j = H.get j) : AS t C0 ab mb H0 cs0 C2 cs H' y5 ns :=
  ⟨h.add.loc hn (hg _ hab) h1, h.fr.loc hn hg, h.ok, h.out.keep h5 hn, h.o5⟩
theorem Mine.loc {H0 H H' : Hp} {cs y5 x : AV} {sz : Nat} {rows : List (List AV)} (h : Mine H0 cs y5 sz H x rows) (hn : H.n ≤ H'.n) (h1 : ∀ j, own x j → H'.get j = H.get j) : Mine H0 cs y5 sz H' x rows := ⟨h.gs.keep h1 hn, h.o⟩
theorem L0_fz {K : AV → Hp → Prop} {y0 y5 y8 y11 y14 y15 y16 y21 y22 y23 y31 y32 y33 : AV} {H H2 : Hp} (k : HFz H H2) (h : match_asked_add.L0 σ K y0 y5 y8 y11 y14 y15 y16 y21 y22 y23 y31 y32 y33 H2) : match_asked_add.L0 σ K y0 y5 y8 y11 y14 y15 y16 y21 y22 y23 y31 y32 y33 H := fun js => k.loop (h js)
theorem L1_fz {K : AV → Hp → Prop} {y0 y5 y8 y11 y14 y15 y16 y21 y22 y23 y31 y32 y33 : AV} {H H2 : Hp} (k : HFz H H2) (h : match_asked_add.L1 σ K y0 y5 y8 y11 y14 y15 y16 y21 y22 y23 y31 y32 y33 H2) : match_asked_add.L1 σ K y0 y5 y8 y11 y14 y15 y16 y21 y22 y23 y31 y32 y33 H := fun js => k.loop (h js)
theorem L2_fz {K : AV → Hp → Prop} {y0 y5 y8 y11 y14 y15 y16 y21 y22 y23 y31 y32 y33 : AV} {H H2 : Hp} (k : HFz H H2) (h : match_asked_add.L2 σ K y0 y5 y8 y11 y14 y15 y16 y21 y22 y23 y31 y32 y33 H2) : match_asked_add.L2 σ K y0 y5 y8 y11 y14 y15 y16 y21 y22 y23 y31 y32 y33 H := fun js => k.loop (h js)
def lsRow (l : List Nat) : List AV := [ints l]
section
attribute [local irreducible] match_asked_add.L0 match_asked_add.L1 match_asked_add.L2
theorem noId_lsRows (l : List (List Nat)) : noIdss (l.map lsRow) = true := noIds_map _ (fun l => by simp [lsRow, noIds, noId_ints]) l
theorem encLk_eq (p : Pt) (lsl : List (List Nat)) : encLk ⟨p, lsl⟩ = encPt p ++ [.imm 1 (lsl.map lsRow)] := rfl
theorem add_L2 {f : Nat} (ih : AddOk σ f) {t : AV} {C0 : List (List Lk)} {ab mb : Nat} {H0 : Hp} {cs0 : AV} (hab : ab < H0.n) {K : AV → Hp → Prop} {y5 : AV} {ns : List Nat} {cl : List Lk} {p : Pt} (hpl : p.c.pseudos.length ≤ NB) (hp : ∀ q ∈ p.c.pseudos, (i64 q.a ∧ i64 q.b) ∧ SlsOk f q.list)
    {y14 y15 y16 y21 y22 : AV} {j : Nat} (hj : j < NB) (hcl : cl.length ≤ j) {R : Nat} {P : List (List Lk) → Prop}
    (hK : ∀ (H : Hp) (cs : AV) (C2 : List (List Lk)) (y8 y11 : AV) (lsl : List (List Nat)) (y31 y32 y33 : AV), AS t C0 ab mb H0 cs0 C2 cs H y5 ns → P C2 → Mine H0 cs y5 7 H y8 ((cl ++ [Lk.mk p lsl]).map encLk) → lsl.length = p.c.pseudos.length → (∀ (j : Nat) (q : Ps) (ns' : List Nat), p.c.pseudos[j]? = some q → lsl[j]? = some ns' → Rep (C0 ++ C2) f q.list ns') → (∀ l ∈ lsl, l.length ≤ NB) →
      (C0 ++ C2).length + R ≤ NB → match_asked_add.L1 σ K (.ptr ab 0) y5 y8 y11 y14 y15 y16 y21 y22 (I ((j + 1 : Nat) : Int)) y31 y32 y33 H) :
    ∀ (m k : Nat) (H : Hp) (cs : AV) (C2 : List (List Lk)) (y8 : AV) (xb : Nat) (lv : AV) (lsl : List (List Nat)), p.c.pseudos.length - k = m → k ≤ p.c.pseudos.length → AS t C0 ab mb H0 cs0 C2 cs H y5 ns → (∀ D, C2 <+: D → D.length = C2.length + ((p.c.pseudos.drop k).map fun q => cntF f q.list).sum → P D) → Mine H0 cs y5 7 H y8 (cl.map encLk) → H.get xb = some (.cells (encPt p ++ [lv]) true) → H0.n ≤ xb → xb < H.n → ¬ own cs xb → ¬ own y5 xb → ¬ own y8 xb →
      Mine H0 cs y5 1 H lv (lsl.map lsRow) → ¬ own lv xb → (∀ i, own lv i → ¬ own y8 i) → lsl.length = k → (∀ (j : Nat) (q : Ps) (ns' : List Nat), p.c.pseudos[j]? = some q → lsl[j]? = some ns' → Rep (C0 ++ C2) f q.list ns') → (∀ l ∈ lsl, l.length ≤ NB) →
      (C0 ++ C2).length + (((p.c.pseudos.drop k).map fun q => cntF f q.list).sum + R) ≤ NB →
      match_asked_add.L2 σ K (.ptr ab 0) y5 y8 (.ptr xb 0) y14 y15 y16 y21 y22 (I (j : Int)) (.imm 4 (p.c.pseudos.map encPs)) (I p.c.pseudos.length) (I (k : Int)) H := by
  have hNB : NB = 1048576 := rfl
  intro m
  induction m with
  | zero =>
    intro k H cs C2 y8 xb lv lsl hm hk hA hP h8 gx hx0 hxn hxc hx5 hx8 hl hlx hl8 hlk hrep hlen hcnt
    have : k = p.c.pseudos.length := by omega
    subst this
    refine match_asked_add.L2_step ?_
    have hl7 : ldL true 7 (encPt p ++ [lv]) = some (.agg (encPt p ++ [lv])) := ldL_all (by simp)
    simp only [b_lss, Int.lt_irrefl, decide_false, bnd_some, ifB_lit, Bool.false_eq_true, if_false, ld_ptr, gx, ldO_cells, List.drop_zero, hl7]
    have hone : (encPt p ++ [lv]).all AV.one = true := by simp [hl.gs.one]
    refine bnd_app1 (y := .agg (encPt p ++ [lv])) h8.gs (by simp) rfl hone (by simp; omega) (by simp; omega) fun y8' H2 g8 f8 => ?_
    simp only [b_add, bnd_some]
    rw [wr_succ (by omega)]
    have own8 : ∀ i, own y8' i → H0.n ≤ i ∧ ¬ own cs i ∧ ¬ own y5 i ∧ ¬ own lv i := fun i hi => by
      rcases f8.mine i hi with h | h
      · exact ⟨(h8.o i h).1, (h8.o i h).2.1, (h8.o i h).2.2, fun h' => hl8 i h' h⟩
      · have h0 := hA.fr.up
        exact ⟨by omega, fun h' => by have := hA.add.gcs.lt h'; omega, fun h' => by have := hA.out.lt h'; omega, fun h' => by have := hl.gs.lt h'; omega⟩
    have keep : ∀ i, i < H.n → ¬ own y8 i → H2.get i = H.get i := fun i hi ho => f8.same i hi ho
    have hA2 : AS t C0 ab mb H0 cs0 C2 cs H2 y5 ns := hA.loc hab f8.grow (fun i hi => keep i (by have := hA.fr.up; omega) (fun h => by have := (h8.o i h).1; omega)) (fun i hi => keep i (hA.add.gcs.lt hi) (fun h => (h8.o i h).2.1 hi)) (fun i hi => keep i (hA.out.lt hi) (fun h => (h8.o i h).2.2 hi))
    have hl2 : Gs 1 H2 lv (lsl.map lsRow) := hl.gs.keep (fun i hi => keep i (hl.gs.lt hi) (hl8 i hi)) f8.grow
    have hcells : (AV.agg (encPt p ++ [lv])).cells = encPt p ++ [lv] := rfl
    rw [hcells] at g8
    obtain ⟨H3, z1, z2, z3, z4⟩ := frz_in (j := 6) g8 hl2 (noId_lsRows lsl) (by rw [List.getElem?_append_right (by simp)]; simp) (fun i hi => (own8 i hi).2.2.2)
    have hrow : (encPt p ++ [lv]).set 6 (.imm 1 (lsl.map lsRow)) = encLk ⟨p, lsl⟩ := by
      rw [encLk_eq, List.set_append_right _ _ (by simp)]
      simp
    rw [hrow] at z3
    have z3' : Gs 7 H3 y8' ((cl ++ [Lk.mk p lsl]).map encLk) := by simpa using z3
    have fin : match_asked_add.L1 σ K (.ptr ab 0) y5 y8' (.ptr xb 0) y14 y15 y16 y21 y22 (I ((j + 1 : Nat) : Int)) (.imm 4 (p.c.pseudos.map encPs)) (I p.c.pseudos.length) (I (p.c.pseudos.length : Int)) H3 := by
      refine hK H3 cs C2 y8' (.ptr xb 0) lsl _ _ _ ?_ (hP C2 (List.prefix_refl _) (by simp)) ⟨z3', fun i hi => ⟨(own8 i hi).1, (own8 i hi).2.1, (own8 i hi).2.2.1⟩⟩ hlk hrep hlen (by simp at hcnt ⊢; omega)
      refine hA2.loc hab (by omega) (fun i hi => z4 i (fun h => by have := (own8 i h).1; omega) (fun h => by have := (hl.o i h).1; omega)) (fun i hi => z4 i (fun h => (own8 i h).2.1 hi) (fun h => (hl.o i h).2.1 hi)) (fun i hi => z4 i (fun h => (own8 i h).2.2.1 hi) (fun h => (hl.o i h).2.2 hi))
    exact L1_fz z1 fin
  | succ m ihm =>
    intro k H cs C2 y8 xb lv lsl hm hk hA hP h8 gx hx0 hxn hxc hx5 hx8 hl hlx hl8 hlk hrep hlen hcnt
    have hlt : k < p.c.pseudos.length := by omega
    obtain ⟨q, hq⟩ := get_lt hlt
    have hqm := List.mem_of_getElem? hq
    have hlt' : (k : Int) < p.c.pseudos.length := by omega
    rw [drop_get hq, List.map_cons, List.sum_cons] at hcnt
    have hdq : p.c.pseudos.drop k = q :: p.c.pseudos.drop (k + 1) := drop_get hq
    refine match_asked_add.L2_step ?_
    obtain ⟨H6, hH6⟩ : ∃ H6, H6 = (H.new (.cells [I 0, I 0, I 0, .lit (.slice none 0 0)] true)).set H.n (some (.cells (encPs q) true)) := ⟨_, rfl⟩
    have hst : stA 4 (H.new (.cells [I 0, I 0, I 0, .lit (.slice none 0 0)] true)) (.ptr H.n 0) (.agg (encPs q)) = some H6 := by
      rw [hH6]
      simp
      rw [ov_Ps q (by simp)]
    have k6 : ∀ i, i < H.n → H6.get i = H.get i := fun i hi => by
      have : i ≠ H.n := by omega
      rw [hH6]; simp [this]
    have n6 : H6.n = H.n + 1 := by rw [hH6]; rfl
    have g6 : H6.get H.n = some (.cells (encPs q) true) := by rw [hH6]; simp
    clear hH6
    have gx6 : H6.get xb = some (.cells (encPt p ++ [lv]) true) := by rw [k6 xb hxn]; exact gx
    have hd6 : ldL false 1 ((encPt p ++ [lv]).drop 6) = some lv := by rw [List.drop_append_of_le_length (by simp), List.drop_of_length_le (by simp)]; simp
    simp only [b_lss, hlt', decide_true, bnd_some, ifB_lit, if_true, ix_map hq, ld_ip, ldL_ps, allocK_eq, hst, sh_ptr, Nat.zero_add, ld_ptr, gx6, ldO_cells, hd6, g6, f_encPs3]
    have hA6 : AS t C0 ab mb H0 cs0 C2 cs H6 y5 ns := hA.loc hab (by omega) (fun i hi => k6 i (by have := hA.fr.up; omega)) (fun i hi => k6 i (hA.add.gcs.lt hi)) (fun i hi => k6 i (hA.out.lt hi))
    refine ih q.list (hp q hqm).2 t (C0 ++ C2) ab mb cs H6 _ hA6.add (by omega) fun H' cs' D r ns' a1 a2 a3 a4 a5 a6 a7 => ?_
    have hxab : xb ≠ ab := by omega
    have k7 : ∀ i, H0.n ≤ i → i < H6.n → ¬ own cs i → H'.get i = H6.get i := fun i h1 h2 h3 => a7.get i h2 (by omega) h3
    have gx7 : H'.get xb = some (.cells (encPt p ++ [lv]) true) := by rw [k7 xb hx0 (by omega) hxc]; exact gx6
    have up7 := a7.up
    have cs7 : ∀ i, own cs' i → own cs i ∨ H6.n ≤ i := a7.mine
    have hl7 : Mine H0 cs' y5 1 H' lv (lsl.map lsRow) := by
      refine ⟨hl.gs.keep (fun i hi => ?_) (by omega), fun i hi => ⟨(hl.o i hi).1, fun h => ?_, (hl.o i hi).2.2⟩⟩
      · have := hl.gs.lt hi
        rw [k7 i (hl.o i hi).1 (by omega) (hl.o i hi).2.1, k6 i this]
      · rcases cs7 i h with h | h
        · exact (hl.o i hi).2.1 h
        · have := hl.gs.lt hi; omega
    have h87 : Mine H0 cs' y5 7 H' y8 (cl.map encLk) := by
      refine ⟨h8.gs.keep (fun i hi => ?_) (by omega), fun i hi => ⟨(h8.o i hi).1, fun h => ?_, (h8.o i hi).2.2⟩⟩
      · have := h8.gs.lt hi
        rw [k7 i (h8.o i hi).1 (by omega) (h8.o i hi).2.1, k6 i this]
      · rcases cs7 i h with h | h
        · exact (h8.o i hi).2.1 h
        · have := h8.gs.lt hi; omega
    have hA7 : AS t C0 ab mb H0 cs0 (C2 ++ D) cs' H' y5 ns := by
      refine ⟨by rw [← List.append_assoc]; exact a1, hA6.fr.trans a7, fun c hc => ?_, hA6.out.keep (fun i hi => ?_) a7.up, fun i hi => ⟨(hA.o5 i hi).1, fun h => ?_⟩⟩
      · rcases List.mem_append.1 hc with h | h
        · exact hA.ok c h
        · exact a4 c h
      · exact k7 i (hA.o5 i hi).1 (hA6.out.lt hi) (hA.o5 i hi).2
      · rcases cs7 i h with h | h
        · exact (hA.o5 i hi).2 h
        · have := hA.out.lt hi; omega
    have hxc7 : ¬ own cs' xb := fun h => by
      rcases cs7 xb h with h | h
      · exact hxc h
      · omega
    have hl7' : ∀ i, own lv i → i < H'.n := fun i hi => hl7.gs.lt hi
    have one7 : AV.one r = true := a5.one
    have cel7 := a5.cells
    have hxn7 : xb ≠ H'.n := by omega
    simp only [kp_ptr, gx7]
    refine ⟨by rw [gx6], ?_⟩
    have hlenN : lsl.length < NB := by omega
    refine bnd_app1k (y := r) (rows := lsl.map lsRow) (by simp [hxn7, gx7]) hl7.gs (by rw [cel7.1]; rfl) cel7.2 (by rw [cel7.1]; simpa using one7) (by simp; omega) (by simp; omega) fun lv' H2 g2 f2 => ?_
    rw [cel7.1] at g2
    have ownl : ∀ i, own lv' i → own lv i ∨ (H'.n ≤ i ∧ i < H2.n) := f2.mine
    have k8 : ∀ i, i < H'.n → ¬ own lv i → H2.get i = H'.get i := fun i h1 h2 => f2.same i h1 h2
    have gx8 : H2.get xb = some (.cells (encPt p ++ [lv]) true) := by rw [k8 xb (by omega) hlx]; exact gx7
    have hst2 := g2.st (id := xb) (off := 6) gx8 (by simp)
    have hset : (encPt p ++ [lv]).set 6 lv' = encPt p ++ [lv'] := by
      rw [List.set_append_right _ _ (by simp)]
      simp
    rw [hset] at hst2
    simp only [hst2, bnd_some, b_add]
    rw [wr_succ (by omega)]
    obtain ⟨H3, hH3⟩ : ∃ H3, H3 = H2.set xb (some (.cells (encPt p ++ [lv']) true)) := ⟨_, rfl⟩
    rw [← hH3]
    have k9 : ∀ i, i ≠ xb → H3.get i = H2.get i := fun i hi => by rw [hH3]; simp [hi]
    have gx9 : H3.get xb = some (.cells (encPt p ++ [lv']) true) := by rw [hH3]; simp
    have n9 : H3.n = H2.n := by rw [hH3]; rfl
    clear hH3
    have grow2 := f2.grow
    have lvx : ¬ own lv' xb := fun h => by
      rcases ownl xb h with h | h
      · exact hlx h
      · omega
    have rx : ¬ own r xb := fun h => by have := (a6 xb h).1; omega
    have rlv : ∀ i, own lv' i → ¬ own r i := fun i hi h => by
      rcases ownl i hi with h1 | h1
      · have := (a6 i h).1; have := hl.gs.lt h1; omega
      · have := a5.lt h; omega
    have g9 : Gs 1 H3 lv' (lsl.map lsRow ++ [[r]]) := g2.keep (fun i hi => k9 i (fun e => lvx (e ▸ hi))) (by omega)
    have gr9 : Gs 1 H3 r (ns'.map encN) := a5.keep (fun i hi => by
      rw [k9 i (fun e => rx (e ▸ hi)), k8 i (a5.lt hi) (fun h => by have := (a6 i hi).1; have := hl.gs.lt h; omega)]) (by omega)
    obtain ⟨H4, z1, z2, z3, z4⟩ := frz_in (j := 0) g9 gr9 (noIds_map _ (fun _ => rfl) _) rfl rlv
    have hrow : ([r] : List AV).set 0 (.imm 1 (ns'.map encN)) = lsRow ns' := rfl
    rw [hrow] at z3
    have z3' : Gs 1 H4 lv' ((lsl ++ [ns']).map lsRow) := by simpa using z3
    have same : ∀ i, i < H'.n → i ≠ xb → ¬ own lv i → ¬ own r i → H4.get i = H'.get i := fun i h1 h2 h3 h4 => by
      rw [z4 i (fun h => by
        rcases ownl i h with h | h
        · exact h3 h
        · omega) h4, k9 i h2, k8 i h1 h3]
    have hA4 : AS t C0 ab mb H0 cs0 (C2 ++ D) cs' H4 y5 ns := by
      refine hA7.loc hab (by omega) (fun i hi => same i (by have := hA7.fr.up; omega) (by omega) (fun h => by have := (hl.o i h).1; omega) (fun h => by have := (a6 i h).1; have := hA.fr.up; omega)) (fun i hi => same i (a1.gcs.lt hi) (fun e => hxc7 (e ▸ hi)) (fun h => (hl7.o i h).2.1 hi) (fun h => (a6 i h).2 hi)) (fun i hi => same i (hA7.out.lt hi) (fun e => hx5 (e ▸ hi)) (fun h => (hl.o i h).2.2 hi) (fun h => by have := (a6 i h).1; have := hA.out.lt hi; omega))
    refine L2_fz z1 ?_
    refine ihm (k + 1) H4 cs' (C2 ++ D) y8 xb lv' (lsl ++ [ns']) (by omega) (by omega) hA4 (fun D2 hpre hD2 => ?_) (h87.loc (by omega) fun i hi => ?_) ?_ hx0 (by omega) hxc7 hx5 hx8 ⟨z3', fun i hi => ?_⟩ lvx (fun i hi h => ?_) (by simp [hlk]) (fun j q' ns2 hq' hns2 => ?_) (fun l hl => ?_) ?_
    · refine hP D2 ((List.prefix_append C2 D).trans hpre) ?_
      rw [hD2, hdq, List.map_cons, List.sum_cons, List.length_append, a3]
      omega
    · exact same i (by have := h8.gs.lt hi; omega) (fun e => hx8 (e ▸ hi)) (fun h => hl8 i h hi) (fun h => by have := (a6 i h).1; have := h8.gs.lt hi; omega)
    · rw [z4 xb lvx rx]; exact gx9
    · rcases ownl i hi with h | h
      · exact hl7.o i h
      · exact ⟨by omega, fun h' => by have := a1.gcs.lt h'; omega, fun h' => by have := hA7.out.lt h'; omega⟩
    · rcases ownl i hi with h1 | h1
      · exact hl8 i h1 h
      · have := h8.gs.lt h; omega
    · rw [← List.append_assoc]
      by_cases hjk : j < lsl.length
      · rw [List.getElem?_append_left hjk] at hns2
        exact (hrep j q' ns2 hq' hns2).mono
      · rw [List.getElem?_append_right (by omega)] at hns2
        have h1 := (List.getElem?_eq_some_iff.1 hns2).1
        simp at h1
        have : j = k := by omega
        subst this
        rw [hq] at hq'
        cases hq'
        simp [hlk] at hns2
        subst hns2
        exact a2
    · rcases List.mem_append.1 hl with h | h
      · exact hlen l h
      · simp at h
        subst h
        have hsl := (hp q hqm).2
        cases f with
        | zero => exact hsl.elim
        | succ f =>
          have := a2.1
          have := hsl.1
          omega
    · rw [← List.append_assoc, List.length_append, a3]
      omega
def LinkRep (C : List (List Lk)) (f : Nat) (cl : List Lk) : Prop := ∀ (k : Nat) (x : Lk), cl[k]? = some x → x.lists.length = x.part.c.pseudos.length ∧ ∀ (j : Nat) (q : Ps) (ns : List Nat), x.part.c.pseudos[j]? = some q → x.lists[j]? = some ns → Rep C f q.list ns
def cntP (f : Nat) (p : Pt) : Nat := (p.c.pseudos.map fun q => cntF f q.list).sum
def SlOk (f : Nat) (s : Sl) : Prop := s.length ≤ NB ∧ ∀ p ∈ s, CpOk p.c ∧ p.c.pseudos.length ≤ NB ∧ ∀ q ∈ p.c.pseudos, (i64 q.a ∧ i64 q.b) ∧ SlsOk f q.list
theorem add_L1 {f : Nat} (ih : AddOk σ f) {t : AV} {C0 : List (List Lk)} {ab mb : Nat} {H0 : Hp} {cs0 : AV} (hab : ab < H0.n) {K : AV → Hp → Prop} {y5 : AV} {ns : List Nat} (hns : ns.length < NB) {s : Sl} (hs : SlOk f s) {y14 y15 : AV} {m0 : Nat} (hm0 : m0 < NB) {R : Nat} {Q : List (List Lk) → Prop}
    (hK : ∀ (H : Hp) (cs : AV) (C2 : List (List Lk)) (y5' y8 y11 y21 y22 y23 y31 y32 y33 : AV) (cl : List Lk), AS t C0 ab mb H0 cs0 (C2 ++ [cl]) cs H y5' (ns ++ [(C0 ++ C2).length]) → Q C2 → cl.map (·.part) = s → LinkRep (C0 ++ C2) f cl → (C0 ++ C2).length + 1 + R ≤ NB →
      match_asked_add.L0 σ K (.ptr ab 0) y5' y8 y11 y14 y15 (I ((m0 + 1 : Nat) : Int)) y21 y22 y23 y31 y32 y33 H) :
    ∀ (n2 j : Nat) (H : Hp) (cs : AV) (C2 : List (List Lk)) (y8 y11 y31 y32 y33 : AV) (cl : List Lk), s.length - j = n2 → j ≤ s.length → AS t C0 ab mb H0 cs0 C2 cs H y5 ns → (∀ D, C2 <+: D → D.length = C2.length + ((s.drop j).map (cntP f)).sum → Q D) → Mine H0 cs y5 7 H y8 (cl.map encLk) → cl.map (·.part) = s.take j → LinkRep (C0 ++ C2) f cl → (∀ x ∈ cl, LkOk x) →
      (C0 ++ C2).length + (((s.drop j).map (cntP f)).sum + (1 + R)) ≤ NB →
      match_asked_add.L1 σ K (.ptr ab 0) y5 y8 y11 y14 y15 (I (m0 : Int)) (.imm 6 (s.map encPt)) (I s.length) (I (j : Int)) y31 y32 y33 H := by
  have hNB : NB = 1048576 := rfl
  intro n2
  induction n2 with
  | zero =>
    intro j H cs C2 y8 y11 y31 y32 y33 cl hn hj hA hQ h8 hparts hrep hlk hcnt
    have : j = s.length := by omega
    subst this
    rw [List.take_length] at hparts
    have hcl : cl.length = s.length := by rw [← hparts, List.length_map]
    refine match_asked_add.L1_step ?_
    have hcs1 : ldA false 1 H (.ptr ab 1) = some cs := by simp [hA.add.gab]
    have hlenC : lenSl cs = some (I ((C0 ++ C2).length : Int)) := by rw [hA.add.gcs.len, List.length_map]
    simp only [b_lss, Int.lt_irrefl, decide_false, bnd_some, ifB_lit, Bool.false_eq_true, if_false, n_ptr, sh_ptr, Nat.zero_add, hcs1, hlenC]
    have habn := hA.add.nab
    have up0 := hA.fr.up
    have cslt : ∀ i, own cs i → i < H.n := fun i hi => hA.add.gcs.lt hi
    refine bnd_app1 (y := I ((C0 ++ C2).length : Int)) hA.out rfl rfl rfl (by simp; omega) (by simp; omega) fun y5' H1 g1 f1 => ?_
    have grow1 := f1.grow
    have k1 : ∀ i, i < H.n → ¬ own y5 i → H1.get i = H.get i := fun i h1 h2 => f1.same i h1 h2
    have h5ab : ¬ own y5 ab := fun h => by have := (hA.o5 ab h).1; omega
    have gab1 : H1.get ab = some (.cells [t, cs, .mp mb] true) := by rw [k1 ab habn h5ab]; exact hA.add.gab
    have gcs1 : Gs 1 H1 cs ((C0 ++ C2).map fun c => [chainV c]) := hA.add.gcs.keep (fun i hi => k1 i (cslt i hi) (fun h => (hA.o5 i h).2 hi)) f1.grow
    have g81 : Gs 7 H1 y8 (cl.map encLk) := h8.gs.keep (fun i hi => k1 i (h8.gs.lt hi) (fun h => (h8.o i hi).2.2 h)) f1.grow
    have hcs2 : ldA false 1 H1 (.ptr ab 1) = some cs := by simp [gab1]
    simp only [n_ptr, bnd_some, sh_ptr, Nat.zero_add, hcs2]
    have cel8 := h8.gs.cells
    have own5 : ∀ i, own y5' i → own y5 i ∨ (H.n ≤ i ∧ i < H1.n) := f1.mine
    refine bnd_app1 (y := y8) gcs1 (by rw [cel8.1]; rfl) cel8.2 (by rw [cel8.1]; simpa using h8.gs.one) (by simp at hcnt ⊢; omega) (by simp at hcnt ⊢; omega) fun cs' H2 g2 f2 => ?_
    rw [cel8.1] at g2
    have grow2 := f2.grow
    have csab : ¬ own cs ab := hA.add.csab
    have k2 : ∀ i, i < H1.n → ¬ own cs i → H2.get i = H1.get i := fun i h1 h2 => f2.same i h1 h2
    have gab2 : H2.get ab = some (.cells [t, cs, .mp mb] true) := by rw [k2 ab (by omega) csab]; exact gab1
    have ownc : ∀ i, own cs' i → own cs i ∨ (H1.n ≤ i ∧ i < H2.n) := f2.mine
    have cs'ab : ¬ own cs' ab := fun h => by
      rcases ownc ab h with h | h
      · exact csab h
      · omega
    have hst := g2.st (id := ab) (off := 1) gab2 (by simp)
    simp only [n_ptr, bnd_some, sh_ptr, Nat.zero_add, hst, b_add]
    rw [wr_succ (by omega)]
    obtain ⟨H3, hH3⟩ : ∃ H3, H3 = H2.set ab (some (.cells ([t, cs, .mp mb].set 1 cs') true)) := ⟨_, rfl⟩
    rw [← hH3]
    have k3 : ∀ i, i ≠ ab → H3.get i = H2.get i := fun i hi => by rw [hH3]; simp [hi]
    have gab3 : H3.get ab = some (.cells [t, cs', .mp mb] true) := by rw [hH3]; simp
    have n3 : H3.n = H2.n := by rw [hH3]; rfl
    clear hH3
    have c8 : ∀ i, own cs' i → ¬ own y8 i := fun i hi h => by
      rcases ownc i hi with h1 | h1
      · exact (h8.o i h).2.1 h1
      · have := h8.gs.lt h; omega
    have g3 : Gs 1 H3 cs' (((C0 ++ C2).map fun c => [chainV c]) ++ [[y8]]) := g2.keep (fun i hi => k3 i (fun e => cs'ab (e ▸ hi))) (by omega)
    have g83 : Gs 7 H3 y8 (cl.map encLk) := g81.keep (fun i hi => by
      have h1 := (h8.o i hi)
      have := h8.gs.lt hi
      rw [k3 i (by omega), k2 i (by omega) h1.2.1]) (by omega)
    obtain ⟨H4, z1, z2, z3, z4⟩ := frz_in (j := 0) g3 g83 (noIds_map _ noId_lk _) rfl c8
    have hrow : ([y8] : List AV).set 0 (.imm 7 (cl.map encLk)) = [chainV cl] := rfl
    rw [hrow] at z3
    have z3' : Gs 1 H4 cs' ((C0 ++ (C2 ++ [cl])).map fun c => [chainV c]) := by simpa using z3
    have y8ab : ¬ own y8 ab := fun h => by have := (h8.o ab h).1; omega
    have same : ∀ i, i < H1.n → i ≠ ab → ¬ own cs i → ¬ own y8 i → H4.get i = H1.get i := fun i h1 h2 h3 h4 => by
      rw [z4 i (fun h => by
        rcases ownc i h with h | h
        · exact h3 h
        · omega) h4, k3 i h2, k2 i h1 h3]
    refine L0_fz z1 ?_
    have o5' : ∀ i, own y5' i → H0.n ≤ i ∧ ¬ own cs i ∧ ¬ own y8 i := fun i hi => by
      rcases own5 i hi with h | h
      · exact ⟨(hA.o5 i h).1, (hA.o5 i h).2, fun h' => (h8.o i h').2.2 h⟩
      · exact ⟨by omega, fun h' => by have := cslt i h'; omega, fun h' => by have := h8.gs.lt h'; omega⟩
    have g5 : Gs 1 H4 y5' ((ns ++ [(C0 ++ C2).length]).map encN) := by
      have : (I ((C0 ++ C2).length : Int)).cells = encN (C0 ++ C2).length := rfl
      rw [this] at g1
      have h1 : Gs 1 H1 y5' ((ns ++ [(C0 ++ C2).length]).map encN) := by simpa using g1
      refine h1.keep (fun i hi => same i (h1.lt hi) (fun e => ?_) (o5' i hi).2.1 (o5' i hi).2.2) (by omega)
      subst e
      have := (o5' i hi).1
      omega
    refine hK H4 cs' C2 y5' y8 _ _ _ _ _ _ _ cl ⟨⟨?_, by omega, z3', cs'ab⟩, ⟨by omega, fun i h1 h2 h3 => ?_, fun i hi => ?_⟩, fun c hc => ?_, g5, fun i hi => ⟨(o5' i hi).1, fun h => ?_⟩⟩ (hQ C2 (List.prefix_refl _) (by simp)) hparts hrep (by simp at hcnt ⊢; omega)
    · rw [z4 ab cs'ab y8ab]; exact gab3
    · have hi5 : ¬ own y5 i := fun h => by have := (hA.o5 i h).1; omega
      have hi8 : ¬ own y8 i := fun h => by have := (h8.o i h).1; omega
      have hic : ¬ own cs i := fun h => by
        rcases hA.fr.mine i h with h | h
        · exact h3 h
        · omega
      rw [same i (by omega) h2 hic hi8, k1 i (by omega) hi5]
      exact hA.fr.get i h1 h2 h3
    · rcases ownc i hi with h | h
      · exact hA.fr.mine i h
      · exact .inr (by omega)
    · rcases List.mem_append.1 hc with h | h
      · exact hA.ok c h
      · simp at h
        subst h
        exact ⟨by rw [hcl]; exact hs.1, hlk⟩
    · rcases ownc i h with h | h
      · exact (o5' i hi).2.1 h
      · rcases own5 i hi with h' | h'
        · have := hA.out.lt h'; omega
        · omega
  | succ n2 ih2 =>
    intro j H cs C2 y8 y11 y31 y32 y33 cl hn hj hA hQ h8 hparts hrep hlk hcnt
    have hlt : j < s.length := by omega
    obtain ⟨p, hp⟩ := get_lt hlt
    have hpm := List.mem_of_getElem? hp
    obtain ⟨hc1, hc2, hc3⟩ := hs.2 p hpm
    have hlt' : (j : Int) < s.length := by omega
    have hdp : s.drop j = p :: s.drop (j + 1) := drop_get hp
    rw [hdp, List.map_cons, List.sum_cons] at hcnt
    have hcl : cl.length = j := by
      have := congrArg List.length hparts
      simp at this
      omega
    refine match_asked_add.L1_step ?_
    have hst1 : stA 6 (H.new (.cells [I 0, Sx ⟨#[]⟩, .lit (.slice none 0 0), .lit (.slice none 0 0), .lit (.slice none 0 0), .lit (.slice none 0 0)] true)) (.ptr H.n 0) (.agg (encPt p)) = some ((H.new (.cells [I 0, Sx ⟨#[]⟩, .lit (.slice none 0 0), .lit (.slice none 0 0), .lit (.slice none 0 0), .lit (.slice none 0 0)] true)).set H.n (some (.cells (encPt p) true))) := by
      simp
      rw [ov_Pt p (by simp)]
    obtain ⟨H1, hH1⟩ : ∃ H1, H1 = (H.new (.cells [I 0, Sx ⟨#[]⟩, .lit (.slice none 0 0), .lit (.slice none 0 0), .lit (.slice none 0 0), .lit (.slice none 0 0)] true)).set H.n (some (.cells (encPt p) true)) := ⟨_, rfl⟩
    rw [← hH1] at hst1
    have k1 : ∀ i, i < H.n → H1.get i = H.get i := fun i hi => by
      have : i ≠ H.n := by omega
      rw [hH1]; simp [this]
    have g1 : H1.get H.n = some (.cells (encPt p) true) := by rw [hH1]; simp
    have n1 : H1.n = H.n + 1 := by rw [hH1]; rfl
    clear hH1
    have hb : bldR [I 0, Sx ⟨#[]⟩, .lit (.slice none 0 0), .lit (.slice none 0 0), .lit (.slice none 0 0), .lit (.slice none 0 0), .lit (.slice none 0 0)] [(0, 6, .agg (encPt p))] = some (encPt p ++ [.lit (.slice none 0 0)]) := by
      simp only [bldR, cells_agg, len_encPt, beqN, decide_true, isAny_agg, Bool.not_false, Bool.and_true, bleN]
      simp [overlay]
    have hst2 : stA 7 (H1.new (.cells [I 0, Sx ⟨#[]⟩, .lit (.slice none 0 0), .lit (.slice none 0 0), .lit (.slice none 0 0), .lit (.slice none 0 0), .lit (.slice none 0 0)] true)) (.ptr H1.n 0) (.agg (encPt p ++ [.lit (.slice none 0 0)])) = some ((H1.new (.cells [I 0, Sx ⟨#[]⟩, .lit (.slice none 0 0), .lit (.slice none 0 0), .lit (.slice none 0 0), .lit (.slice none 0 0), .lit (.slice none 0 0)] true)).set H1.n (some (.cells (encPt p ++ [.lit (.slice none 0 0)]) true))) := by
      simp
      rw [overlay_all (by simp)]
    obtain ⟨H2, hH2⟩ : ∃ H2, H2 = (H1.new (.cells [I 0, Sx ⟨#[]⟩, .lit (.slice none 0 0), .lit (.slice none 0 0), .lit (.slice none 0 0), .lit (.slice none 0 0), .lit (.slice none 0 0)] true)).set H1.n (some (.cells (encPt p ++ [.lit (.slice none 0 0)]) true)) := ⟨_, rfl⟩
    rw [← hH2] at hst2
    have k2 : ∀ i, i < H1.n → H2.get i = H1.get i := fun i hi => by
      have : i ≠ H1.n := by omega
      rw [hH2]; simp [this]
    have g2 : H2.get H1.n = some (.cells (encPt p ++ [.lit (.slice none 0 0)]) true) := by rw [hH2]; simp
    have n2' : H2.n = H1.n + 1 := by rw [hH2]; rfl
    clear hH2
    have g1' : H2.get H.n = some (.cells (encPt p) true) := by rw [k2 H.n (by omega)]; exact g1
    have hps : ldL false 1 ((encPt p).drop 5) = some (.imm 4 (p.c.pseudos.map encPs)) := by rw [encPt_eq, encCp_eq]; rfl
    simp only [b_lss, hlt', decide_true, bnd_some, ifB_lit, if_true, ix_map hp, ld_ip, ldL_pt, allocK_eq, hst1, ld_ptr, g1, ldO_cells, List.drop_zero, hb, hst2, sh_ptr, Nat.zero_add, g1', hps, len_imm, List.length_map]
    have up0 := hA.fr.up
    have kk : ∀ i, i < H.n → H2.get i = H.get i := fun i hi => by rw [k2 i (by omega), k1 i hi]
    have hA2 : AS t C0 ab mb H0 cs0 C2 cs H2 y5 ns := hA.loc hab (by omega) (fun i hi => kk i (by omega)) (fun i hi => kk i (hA.add.gcs.lt hi)) (fun i hi => kk i (hA.out.lt hi))
    refine add_L2 ih hab hc2 hc3 (j := j) (R := ((s.drop (j + 1)).map (cntP f)).sum + (1 + R)) (P := fun D => C2 <+: D ∧ D.length = C2.length + cntP f p) (by have := hs.1; omega) (Nat.le_of_eq hcl) (fun H' cs' C3 y8' y11' lsl y31' y32' y33' b1 b2 b3 b4 b5 b6 b7 => ?_) p.c.pseudos.length 0 H2 cs C2 y8 H1.n (.lit (.slice none 0 0)) [] (by omega) (Nat.zero_le _) hA2 (fun D h1 h2 => ⟨h1, by rw [h2]; rfl⟩) (h8.loc (by omega) fun i hi => kk i (h8.gs.lt hi)) g2 (by omega) (by omega) (fun h => by have := hA.add.gcs.lt h; omega) (fun h => by have := hA.out.lt h; omega) (fun h => by have := h8.gs.lt h; omega) ⟨.nil, fun i h => h.elim⟩ (fun h => h) (fun i h => h.elim) rfl (fun j q ns' _ h => by simp at h) (fun l h => by cases h) (by have hcp : cntP f p = (p.c.pseudos.map (fun q => cntF f q.list)).sum := rfl; rw [hcp] at hcnt; simp only [List.drop_zero]; omega)
    obtain ⟨D, hD⟩ := b2.1
    refine ih2 (j + 1) H' cs' C3 y8' y11' y31' y32' y33' (cl ++ [Lk.mk p lsl]) (by omega) (by omega) b1 (fun D2 h1 h2 => hQ D2 (b2.1.trans h1) ?_) b3 ?_ (fun k x hx => ?_) (fun x hx => ?_) b7
    · rw [h2, b2.2, hdp, List.map_cons, List.sum_cons]
      omega
    · rw [List.map_append, hparts, List.take_succ_eq_append_getElem hlt]
      rw [List.getElem?_eq_getElem hlt] at hp
      rw [Option.some.inj hp]
      rfl
    · by_cases hk : k < cl.length
      · rw [List.getElem?_append_left hk] at hx
        refine ⟨(hrep k x hx).1, fun j q ns' h1 h2 => ?_⟩
        have := ((hrep k x hx).2 j q ns' h1 h2).mono (D := D)
        rwa [List.append_assoc, hD] at this
      · rw [List.getElem?_append_right (by omega)] at hx
        have h1 := (List.getElem?_eq_some_iff.1 hx).1
        simp at h1
        have : k - cl.length = 0 := by omega
        rw [this] at hx
        simp at hx
        subst hx
        exact ⟨b4, b5⟩
    · rcases List.mem_append.1 hx with h | h
      · exact hlk x h
      · simp at h
        subst h
        refine ⟨hc1, fun q hq => (hc3 q hq).1, fun l hl => ?_⟩
        have := b6 l hl
        rw [reach_eq]
        omega
theorem add_step {f : Nat} (ih : AddOk σ f) : AddOk σ (f + 1) := by
  have hNB : NB = 1048576 := rfl
  intro l hl t C ab mb cs H K hA hcnt hK
  have L0 : ∀ (n m : Nat) (H1 : Hp) (cs1 : AV) (C2 : List (List Lk)) (y5 y8 y11 y21 y22 y23 y31 y32 y33 : AV) (ns : List Nat), l.length - m = n → m ≤ l.length → AS t C ab mb H cs C2 cs1 H1 y5 ns → Rep (C ++ C2) (f + 1) (l.take m) ns → C2.length = cntF (f + 1) (l.take m) → (C ++ C2).length + cntF (f + 1) (l.drop m) ≤ NB →
      match_asked_add.L0 σ K (.ptr ab 0) y5 y8 y11 (sls l) (I l.length) (I (m : Int)) y21 y22 y23 y31 y32 y33 H1 := by
    intro n
    induction n with
    | zero =>
      intro m H1 cs1 C2 y5 y8 y11 y21 y22 y23 y31 y32 y33 ns hn hm h1 hr hc hb
      have : m = l.length := by omega
      subst this
      rw [List.take_length] at hr hc
      refine match_asked_add.L0_step ?_
      simp only [b_lss, Int.lt_irrefl, decide_false, bnd_some, ifB_lit, Bool.false_eq_true, if_false]
      exact hK H1 cs1 C2 y5 ns h1.add hr hc h1.ok h1.out h1.o5 h1.fr
    | succ n ihn =>
      intro m H1 cs1 C2 y5 y8 y11 y21 y22 y23 y31 y32 y33 ns hn hm h1 hr hc hb
      have hlt : m < l.length := by omega
      obtain ⟨s, hs⟩ := get_lt hlt
      have hsm := List.mem_of_getElem? hs
      have hsk : SlOk f s := hl.2 s hsm
      have hlt' : (m : Int) < l.length := by omega
      have hds : l.drop m = s :: l.drop (m + 1) := drop_get hs
      have hlb := hl.1
      have hnl : ns.length = m := by rw [hr.1, List.length_take]; omega
      have hcons : cntF (f + 1) (s :: l.drop (m + 1)) = 1 + (s.map (cntP f)).sum + cntF (f + 1) (l.drop (m + 1)) := by
        simp [cntF]
        rfl
      rw [hds, hcons] at hb
      have htk : cntF (f + 1) (l.take (m + 1)) = cntF (f + 1) (l.take m) + (1 + (s.map (cntP f)).sum) := by
        have : l.take (m + 1) = l.take m ++ [s] := by rw [List.take_add_one, hs]; rfl
        rw [this]
        simp [cntF]
        rfl
      refine match_asked_add.L0_step ?_
      have hix : ixaSl 1 (sls l) (I (m : Int)) = some (.ip (encSl s)) := ix_map hs
      have hst : stA 1 (H1.new (.cells [.lit (.slice none 0 0)] true)) (.ptr H1.n 0) (.agg (encSl s)) = some ((H1.new (.cells [.lit (.slice none 0 0)] true)).set H1.n (some (.cells (encSl s) true))) := by
        simp [encSl]
      simp only [b_lss, hlt', decide_true, bnd_some, ifB_lit, if_true, hix, ld_ip, ldL_sl, allocK_eq, hst, sh_ptr, Nat.zero_add, ld_ptr, hp_get_set, ldO_cells, List.drop_zero, f_encSl0, len_imm, List.length_map]
      have up0 := h1.fr.up
      have hab := hA.nab
      have kk : ∀ i, i < H1.n → ((H1.new (.cells [.lit (.slice none 0 0)] true)).set H1.n (some (.cells (encSl s) true))).get i = H1.get i := fun i hi => by
        have : i ≠ H1.n := by omega
        simp [this]
      have h1' := h1.loc (H' := (H1.new (.cells [.lit (.slice none 0 0)] true)).set H1.n (some (.cells (encSl s) true))) hab (by simp) (fun i hi => kk i (by omega)) (fun i hi => kk i (h1.add.gcs.lt hi)) (fun i hi => kk i (h1.out.lt hi))
      refine add_L1 ih hab (by omega) hsk (m0 := m) (by omega) (R := cntF (f + 1) (l.drop (m + 1))) (Q := fun D => C2 <+: D ∧ D.length = C2.length + (s.map (cntP f)).sum) (fun H' cs' C3 y5' y8' y11' y21' y22' y23' y31' y32' y33' cl b1 b2 b3 b4 b5 => ?_) s.length 0 _ cs1 C2 (.lit (.slice none 0 0)) _ _ _ _ [] (by omega) (Nat.zero_le _) h1' (fun D g1 g2 => ⟨g1, by simpa using g2⟩) ⟨.nil, fun i h => h.elim⟩ rfl (fun k x h => by simp at h) (fun x h => by cases h) (by simp at hb ⊢; omega)
      obtain ⟨D, hD⟩ := b2.1
      refine ihn (m + 1) H' cs' (C3 ++ [cl]) y5' y8' y11' y21' y22' y23' y31' y32' y33' _ (by omega) (by omega) b1 ⟨by simp [hnl]; omega, fun i s' n' hs' hn' => ?_⟩ ?_ (by simp at b5 ⊢; omega)
      · by_cases hi : i < m
        · rw [List.getElem?_take, if_pos (by omega)] at hs'
          rw [List.getElem?_append_left (by omega)] at hn'
          have hr2 : Rep (C ++ (C3 ++ [cl])) (f + 1) (l.take m) ns := by
            have := hr.mono (D := D ++ [cl])
            rwa [show C ++ C2 ++ (D ++ [cl]) = C ++ (C3 ++ [cl]) by rw [← hD]; simp] at this
          exact hr2.2 i s' n' (by rw [List.getElem?_take, if_pos hi]; exact hs') hn'
        · rw [List.getElem?_append_right (by omega)] at hn'
          have h2 := (List.getElem?_eq_some_iff.1 hn').1
          simp at h2
          have him : i = m := by omega
          subst him
          rw [List.getElem?_take, if_pos (by omega), hs] at hs'
          cases hs'
          simp [hnl] at hn'
          subst hn'
          refine ⟨cl, by simp, b3, fun k x hx => ⟨(b4 k x hx).1, fun j q ns' g1 g2 => ?_⟩⟩
          have := ((b4 k x hx).2 j q ns' g1 g2).mono (D := [cl])
          rwa [List.append_assoc] at this
      · rw [htk, List.length_append, b2.2, hc]
        simp
        omega
  refine match_asked_add.run ?_
  simp
  refine L0 l.length 0 H cs [] _ _ _ _ _ _ _ _ _ [] (by omega) (Nat.zero_le _) ⟨by simpa using hA, .refl _ _ _, fun c h => (by cases h), .nil, fun i h => h.elim⟩ ⟨rfl, fun i s n h => by simp at h⟩ (by simp [cntF]) (by simpa using hcnt)
theorem add_ok : ∀ (f : Nat), AddOk σ f
  | 0 => fun l h => h.elim
  | f + 1 => add_step (add_ok f)
end
end Go.Proofs.Ytaoegkmfgfefgaa.Ev
namespace Go.Proofs.Ytaoegkmfgfefgaa.Ev
set_option linter.unusedVariables false
set_option linter.unusedSimpArgs false
variable {σ : Sig}
theorem frz_res {sz : Nat} {H : Hp} {x : AV} {rows : List (List AV)} (hg : Gs sz H x rows) (hn : noIdss rows = true) :
    ∃ Hd H2 : Hp, Hd.n = H.n ∧ H2.n = H.n ∧ (∀ id k, Hd.get id = some k → H.get id = some k ∧ H2.get id = none) ∧ (∀ id k2, H2.get id = some k2 → ∃ k1, H.get id = some k1 ∧ FzB Hd k1 k2) ∧ Fz Hd x (.imm sz rows) ∧ ∀ j, ¬ own x j → H2.get j = H.get j := by
  cases hg with
  | nil =>
    let Hd : Hp := ⟨H.n, Hp.empty.t⟩
    have hd0 : ∀ id, Hd.get id = none := fun id => by simp [Hd, Hp.empty, Hp.get, Tr.get]
    exact ⟨Hd, H, rfl, rfl, fun id k h => (by rw [hd0] at h; cases h), fun id k2 h => ⟨k2, h, .refl _ _⟩, .nil, fun j _ => rfl⟩
  | sl hlt hg hsz =>
    rename_i id exx
    let Hd : Hp := (⟨H.n, Hp.empty.t⟩ : Hp).set id (some (.cells rows.flatten exx))
    have hd0 : ∀ j, Hd.get j = if j = id then some (.cells rows.flatten exx) else none := fun j => by
      show ((⟨H.n, Hp.empty.t⟩ : Hp).set id _).get j = _
      rw [hp_get_set]
      split
      · rfl
      · simp [Hp.empty, Hp.get, Tr.get]
    have hf : Fz Hd (.sl id 0 sz rows.length none) (.imm sz rows) := .rows (cs := rows.flatten) (ex := exx) (by rw [hd0, if_pos rfl]) hsz (by rw [List.drop_zero]; exact List.take_of_length_le (by rw [flatten_len hsz]; exact Nat.le_refl _)) hn
    refine ⟨Hd, H.set id none, rfl, rfl, fun j k h => ?_, fun j k2 h => ?_, hf, fun j ho => ?_⟩
    · rw [hd0] at h
      split at h
      · rename_i e; subst e; cases h
        exact ⟨hg, by simp⟩
      · cases h
    · rw [hp_get_set] at h
      split at h
      · cases h
      · exact ⟨k2, h, .refl _ _⟩
    · have : j ≠ id := fun e => ho (by rw [e]; rfl)
      simp [this]
theorem add_sp {f : Nat} {l : List Sl} (hl : SlsOk f l) {t : AV} {C : List (List Lk)} {ab mb : Nat} {cs : AV} {H : Hp} {K : AV → Hp → Prop} (hA : AddH t C ab mb cs H) (hc : C.length + cntF f l ≤ NB)
    (hK : ∀ (H' : Hp) (cs' : AV) (C2 : List (List Lk)) (ns : List Nat), AddH t (C ++ C2) ab mb cs' H' → Rep (C ++ C2) f l ns → C2.length = cntF f l → (∀ c ∈ C2, ChOk c) → AFr H cs ab H' cs' → K (ints ns) H') : callK Try.prog σ n_match_asked_add [.ptr ab 0, sls l] H K := by
  obtain ⟨r, H1, hg, cs', C2, ns, h1, h2, h3, h4, h5, h6, h7⟩ := add_ok (σ := σ) f l hl t C ab mb cs H (fun r H' => ∃ cs' C2 ns, AddH t (C ++ C2) ab mb cs' H' ∧ Rep (C ++ C2) f l ns ∧ C2.length = cntF f l ∧ (∀ c ∈ C2, ChOk c) ∧ Gs 1 H' r (ns.map encN) ∧ (∀ j, own r j → H.n ≤ j ∧ ¬ own cs' j) ∧ AFr H cs ab H' cs') hA hc fun H' cs' C2 r ns a b c d e f g => ⟨cs', C2, ns, a, b, c, d, e, f, g⟩
  obtain ⟨Hd, H2, a1, a2, a3, a4, a5, a6⟩ := frz_res h5 (noIds_map _ (fun _ => rfl) ns)
  have hab := hA.nab
  refine callK_of (hg.frzH a2 a1 a3 a4 (.inr a5)) (hK H2 cs' C2 ns (h1.loc (by omega) (a6 _ fun h => ?_) fun j hj => a6 _ fun h => (h6 j h).2 hj) h2 h3 h4 (h7.loc (by omega) fun j hj => a6 _ fun h => ?_))
  · have := (h6 _ h).1; omega
  · have := (h6 _ h).1; omega
theorem selC_app {C D : List (List Lk)} {n : Nat} (h : n < C.length) : selC (C ++ D) n = selC C n := by
  unfold selC
  rw [List.getD_eq_getElem?_getD, List.getD_eq_getElem?_getD, List.getElem?_append_left h]
theorem tru_app {L : List Nd} {C D : List (List Lk)} {n : Nat} (h : n < C.length) (i e : Nat) (a : Bool) : Tru L (C ++ D) n i e a = Tru L C n i e a := by
  unfold Tru
  rw [selC_app h]
theorem MemoOk.app {L : List Nd} {C D : List (List Lk)} {es : List (AV × AV)} (h : MemoOk C.length (Tru L C) es) : MemoOk (C ++ D).length (Tru L (C ++ D)) es := fun p hp => by
  obtain ⟨n, i, e, a, h1, h2, h3⟩ := h p hp
  exact ⟨n, i, e, a, by rw [List.length_append]; omega, by rw [tru_app h1]; exact h2, h3⟩
theorem cntF_cons (f : Nat) (s : Sl) (l : List Sl) : cntF f (s :: l) = cntF f [s] + cntF f l := by
  cases f with
  | zero => rfl
  | succ f => simp [cntF]
theorem Nest.one {f : Nat} {l : List Sl} (h : Nest f l) {s : Sl} (hs : s ∈ l) : Nest f [s] := by
  cases f with
  | zero => exact h
  | succ f => exact fun s' hs' => by rw [List.mem_singleton.1 hs']; exact h s hs
theorem SlsOk.one {f : Nat} {l : List Sl} (h : SlsOk f l) {s : Sl} (hs : s ∈ l) : SlsOk f [s] := by
  cases f with
  | zero => exact h
  | succ f => exact ⟨(by show 1 ≤ NB; decide), fun s' hs' => by rw [List.mem_singleton.1 hs']; exact h.2 s hs⟩
theorem sl_one {l : List Sl} {m : Nat} {s : Sl} (h : l[m]? = some s) : slSl 1 (sls l) (some (I (m : Int))) (some (I ((m + 1 : Nat) : Int))) none = some (sls [s]) := by
  have hlt := (List.getElem?_eq_some_iff.1 h).1
  have e1 : ((m : Int) + 1) ≤ l.length := by omega
  have e2 : (0 : Int) ≤ (m : Int) + 1 := by omega
  have e3 : ((m : Int) + 1).toNat = m + 1 := by omega
  have e4 : (List.drop m (l.map encSl)).take 1 = [encSl s] := by
    rw [← List.map_drop, drop_get h]; rfl
  simp [slSl, intO, intA, slSl0, sls, boundsA, boundA, beqN, e1, e2, e3, e4, show ((m : Int) ≤ (m : Int) + 1) from by omega]
def mayAny (L : List Nd) (f : Nat) (l : List Sl) (e : Nat) : Bool := l.any fun s => mayF f [s] 8 && AA L [s] e
structure McT (σ : Sig) (L : List Nd) (d : List Nat) : Prop where
  hC : HasC σ
  hB : Built L L.length d
  hN : L.length ≤ 4096
  sm : ∀ e, e < L.length → SmN (lowN (ndAt L e))
structure SelOk (f : Nat) (l : List Sl) : Prop where
  wf : slsWf Lmax l
  ok : SlsOk f l
  nest : Nest f l
  hf : f ≤ 12
  cnt : cntF f l ≤ NB
section
attribute [local irreducible] match_Any.L0
theorem Any_ok {L : List Nd} {d : List Nat} (M : McT σ L d) {f : Nat} {l : List Sl} (S : SelOk f l) (e : Int) (H : Hp) :
    Good Try.prog σ n_match_Any [domT L d, I e, sls l] H (Bo (decide (0 ≤ e) && decide (e < L.length) && mayAny L f l e.toNat)) H := by
  have hNB : NB = 1048576 := rfl
  refine good_by (fun K hK => match_Any.run (callK_of (is_ok L d e _) ?_)) (by simp [noIds, noId, noId_domT, noId_sls]) rfl H
  simp only [u_not, bnd_some, ifB_lit]
  cases hin : (decide (0 ≤ e) && decide (e < L.length)) with
  | false => rw [hin] at hK; simpa using hK _
  | true =>
  rw [hin] at hK
  simp only [Bool.true_and] at hK
  simp only [Bool.and_eq_true, decide_eq_true_eq] at hin
  obtain ⟨en, rfl⟩ : ∃ en : Nat, e = (en : Int) := ⟨e.toNat, by omega⟩
  have he : en < L.length := by omega
  rw [Int.toNat_natCast] at hK
  simp only [Bool.not_true, Bool.false_eq_true, if_false]
  have hlen : lenSl (sls l) = some (I (l.length : Int)) := by unfold sls; simp
  have hlw : l.length ≤ NB := by
    have := S.ok
    revert this
    cases f with
    | zero => exact fun h => h.elim
    | succ f => exact fun h => h.1
  have L0 : ∀ (k m : Nat) (H1 : Hp) (C : List (List Lk)) (ab mb : Nat) (cs : AV), l.length - m = k → m ≤ l.length → Asks (domT L d) C (Tru L C) ab mb cs H1 → ¬ own cs ab → Mc σ L d C → C.length + cntF f (l.drop m) ≤ NB → (∀ H, K (Bo (mayAny L f (l.drop m) en)) H) →
      match_Any.L0 σ K (I (en : Int)) (sls l) (.ptr ab 0) (I l.length) (I (m : Int)) H1 := by
    intro k
    induction k with
    | zero =>
      intro m H1 C ab mb cs hk hm hA hcs hM hc hK
      have : m = l.length := by omega
      subst this
      refine match_Any.L0_step ?_
      simp
      simpa [mayAny] using hK H1
    | succ k ih =>
      intro m H1 C ab mb cs hk hm hA hcs hM hc hK
      have hlt : m < l.length := by omega
      obtain ⟨s, hs⟩ := get_lt hlt
      have hsm := List.mem_of_getElem? hs
      have hlt' : (m : Int) < l.length := by omega
      rw [drop_get hs] at hK hc
      rw [cntF_cons] at hc
      have hwf : slsWf Lmax [s] := ⟨(by show 1 ≤ Lmax; decide), fun s' h => by rw [List.mem_singleton.1 h]; exact S.wf.2 s hsm⟩
      have hn1 := S.nest.one hsm
      have hcons : mayAny L f (s :: l.drop (m + 1)) en = ((mayF f [s] 8 && AA L [s] en) || mayAny L f (l.drop (m + 1)) en) := by simp [mayAny]
      rw [hcons] at hK
      refine match_Any.L0_step ?_
      simp only [b_lss, hlt', decide_true, bnd_some, ifB_lit, if_true, b_add, wr_succ (show m < 9000000000000000000 by omega), sl_one hs]
      refine callK_of (may_ok f [s] 8 _ hwf hn1 (by omega)) ?_
      simp only [ifB_lit]
      cases hmay : mayF f [s] 8 with
      | false =>
        rw [hmay] at hK
        simp only [Bool.false_and, Bool.false_or] at hK
        simp only [Bool.false_eq_true, if_false]
        exact ih (m + 1) H1 C ab mb cs (by omega) (by omega) hA hcs hM (by omega) hK
      | true =>
        rw [hmay] at hK
        simp only [Bool.true_and] at hK
        simp only [if_true]
        have nmb := hA.nmb
        have nab := hA.nab
        refine add_sp (S.ok.one hsm) ⟨hA.gab, hA.nab, hA.gcs, hcs⟩ (by omega) fun H' cs' C2 ns b1 b2 b3 b4 b5 => ?_
        have up := b5.up
        have hA' : Asks (domT L d) (C ++ C2) (Tru L (C ++ C2)) ab mb cs' H' := by
          obtain ⟨es, g1, g2⟩ := hA.memo
          refine ⟨b1.gab, b1.nab, by omega, hA.ne, b1.gcs, fun h => ?_, es, by rw [b5.get mb nmb hA.ne.symm hA.csm]; exact g1, g2.app⟩
          rcases b5.mine mb h with h | h
          · exact hA.csm h
          · omega
        have hM' : Mc σ L d (C ++ C2) := by
          have hre : NB ≤ reachBytes := by rw [reach_eq]; decide
          refine ⟨M.hC, M.hB, M.hN, M.sm, ?_, fun c hc' => ?_, fun c hc' => ?_⟩
          · rw [List.length_append, b3]; omega
          · rcases List.mem_append.1 hc' with h | h
            · exact hM.ll c h
            · exact Nat.le_trans (b4 c h).len hre
          · rcases List.mem_append.1 hc' with h | h
            · exact hM.lk c h
            · exact (b4 c h).lk
        have hns : ns.length ≤ reachBytes := by
          have : ns.length = 1 := by
            have := b2
            revert this
            cases f with
            | zero => exact fun h => h.elim
            | succ f => exact fun h => h.1
          rw [this]; decide
        refine any_ok hM' f S.hf [s] ns b2 hn1 S.hf hns en he ab mb cs' H' _ hA' fun H2 h2 kp2 => ?_
        simp only [ifB_lit]
        cases haa : AA L [s] en with
        | true =>
          rw [haa] at hK
          simpa using hK H2
        | false =>
          rw [haa] at hK
          simp only [Bool.false_or] at hK
          simp only [Bool.false_eq_true, if_false]
          exact ih (m + 1) H2 (C ++ C2) ab mb cs' (by omega) (by omega) h2 b1.csab hM' (by rw [List.length_append, b3]; omega) hK
  refine match_begin.run ?_
  have hb : bldR [.lit (.pointer none), .lit (.slice none 0 0), .lit (.map none)] [(0, 1, domT L d), (2, 1, .mp Hp.empty.n)] = some [domT L d, .lit (.slice none 0 0), .mp Hp.empty.n] := rfl
  simp only [hb, bnd_some, boxK_agg, hlen]
  refine L0 l.length 0 _ [] _ Hp.empty.n (.lit (.slice none 0 0)) (by omega) (Nat.zero_le _) ⟨?_, ?_, ?_, ?_, .nil, fun h => h.elim, [], ?_, fun p hp => by cases hp⟩ (fun h => h.elim) ⟨M.hC, M.hB, M.hN, M.sm, Nat.zero_le _, fun c hc => (by cases hc), fun c hc => (by cases hc)⟩ (by simpa using S.cnt) (by simpa using hK)
  · simp
  · simp
  · simp only [Hp.n_new]; omega
  · simp
  · simp
end
end Go.Proofs.Ytaoegkmfgfefgaa.Ev
namespace Go.Proofs.Ytaoegkmfgfefgaa.Ev
set_option linter.unusedVariables false
set_option linter.unusedSimpArgs false
variable {σ : Sig}
theorem fz_sl1 {H : Hp} {id : Nat} {s : Sl} {ex : Bool} {cap : Option Nat} (hg : H.get id = some (.cells (encSl s) ex)) : Fz H (.sl id 0 1 1 cap) (sls [s]) := by
  have h1 : (encSl s).length = 1 := rfl
  have : Fz H (.sl id 0 1 [encSl s].length cap) (.imm 1 [encSl s]) := .rows hg (by simp [h1]) (by simp; exact List.take_of_length_le (by rw [h1]; exact Nat.le_refl _)) (by simp [noIdss, noId_Sl])
  exact this
def selB (L : List Nd) (f : Nat) (s : Sl) (e : Int) : Bool := decide (0 ≤ e) && decide (e < L.length) && mayAny L f [s] e.toNat
theorem Sel_ok {L : List Nd} {d : List Nat} (M : McT σ L d) {f : Nat} {s : Sl} (S : SelOk f [s]) (e : Int) (H : Hp) : Good Try.prog σ n_match_Selector [domT L d, I e, .agg (encSl s)] H (Bo (selB L f s e)) H := by
  refine good_by (fun K hK => match_Selector.run ?_) (by simp [noIds, noId, noId_domT, noId_Sl]) rfl H
  have hb : ∀ H : Hp, bldSlR [.slice none 0 0] 1 1 H [(0, 1, .agg (encSl s))] = some (.sl H.n 0 1 1 (some 1), H.new (.cells (encSl s) true)) := fun H => by
    unfold bldSlR encSl; rfl
  have hl : ∀ H : Hp, ldA true 1 (H.new (.cells (encSl s) true)) (.ptr H.n 0) = some (.agg (encSl s)) := fun H => by
    simp only [ld_ptr, hp_get_new, if_true, ldO_cells, List.drop_zero, ldL_sl]
  simp only [boxK_agg, hl, hb, bnd_some]
  refine callK_of ((Any_ok M S e Hp.empty).frzA (.cons (.refl (noId_domT L d)) (.cons (.refl rfl) (.cons (fz_sl1 (ex := true) (by simp)) .nil))) rfl) ?_
  exact hK _
end Go.Proofs.Ytaoegkmfgfefgaa.Ev
namespace Go.Proofs.Ytaoegkmfgfefgaa.Ev
set_option linter.unusedVariables false
set_option linter.unusedSimpArgs false
variable {σ : Sig}
section
end
end Go.Proofs.Ytaoegkmfgfefgaa.Ev
namespace Go.Proofs.Ytaoegkmfgfefgaa.Ev
set_option linter.unusedVariables false
set_option linter.unusedSimpArgs false
variable {σ : Sig}
end Go.Proofs.Ytaoegkmfgfefgaa.Ev
namespace Go.Proofs.Ytaoegkmfgfefgaa.Ev
set_option linter.unusedVariables false
set_option linter.unusedSimpArgs false
variable {σ : Sig}
end Go.Proofs.Ytaoegkmfgfefgaa.Ev
namespace Go.Proofs.Ytaoegkmfgfefgaa.Ev
set_option linter.unusedVariables false
set_option linter.unusedSimpArgs false
variable {σ : Sig}
end Go.Proofs.Ytaoegkmfgfefgaa.Ev
namespace Go.Proofs.Ytaoegkmfgfefgaa.Ev
set_option linter.unusedVariables false
set_option linter.unusedSimpArgs false
variable {σ : Sig}
end Go.Proofs.Ytaoegkmfgfefgaa.Ev
namespace Go.Proofs.Ytaoegkmfgfefgaa.Ev
set_option linter.unusedVariables false
set_option linter.unusedSimpArgs false
variable {σ : Sig}
end Go.Proofs.Ytaoegkmfgfefgaa.Ev
namespace Go.Proofs.Ytaoegkmfgfefgaa.Ev
set_option linter.unusedVariables false
set_option linter.unusedSimpArgs false
variable {σ : Sig}
end Go.Proofs.Ytaoegkmfgfefgaa.Ev
namespace Go.Proofs.Ytaoegkmfgfefgaa.Ev
set_option linter.unusedVariables false
set_option linter.unusedSimpArgs false
variable {σ : Sig}
section
variable {L : List Nd} {d : List Nat} {e : Nat} {c : Cp} {n : Nd} {dp : Nat} {b6 b9 : Nat} {K : AV → Hp → Prop}
structure RcOk (c : Cp) : Prop where
  ids : c.ids.length ≤ reachBytes
  classes : c.classes.length ≤ reachBytes
  attrs : c.attrs.length ≤ reachBytes
  ps : c.pseudos.length ≤ reachBytes
  texts : ∀ a ∈ c.attrs, a.text.data.size < 4294967281
end
end Go.Proofs.Ytaoegkmfgfefgaa.Ev
namespace Go.Proofs.Ytaoegkmfgfefgaa.Ev
set_option linter.unusedVariables false
set_option linter.unusedSimpArgs false
variable {σ : Sig}
section
end
structure Kn (L : List Nd) (s : Sl) (kb M : Nat) (H : Hp) : Prop where
  lt : kb < H.n
  get : ∃ ks, H.get kb = some (.cells ks true) ∧ ks.length = M ∧ ∀ e k, e < L.length → k < s.length → ∃ v : Int, ks[e * s.length + k]? = some (I v) ∧ (v = 0 ∨ (v = 1 ∧ frontB (AA L) L s k e = true) ∨ (v = 2 ∧ frontB (AA L) L s k e = false))
theorem Kn.keep {L : List Nd} {s : Sl} {kb M : Nat} {H H' : Hp} (h : Kn L s kb M H) (hn : H.n ≤ H'.n) (hg : H'.get kb = H.get kb) : Kn L s kb M H' := by
  obtain ⟨ks, h1, h2, h3⟩ := h.get
  exact ⟨Nat.lt_of_lt_of_le h.lt hn, ks, by rw [hg]; exact h1, h2, h3⟩
theorem Kn.new {L : List Nd} {s : Sl} {kb M : Nat} {H : Hp} (h : Kn L s kb M H) (b : Blk) : Kn L s kb M (H.new b) := by
  refine h.keep (by simp) ?_
  have : kb ≠ H.n := by have := h.lt; omega
  simp [this]
theorem idx_inj {n a b x y : Nat} (hx : x < n) (hy : y < n) (h : a * n + x = b * n + y) : a = b ∧ x = y := by
  have h1 : (a * n + x) / n = (b * n + y) / n := by rw [h]
  have hn : 0 < n := by omega
  rw [Nat.mul_comm a, Nat.mul_comm b, Nat.mul_add_div hn, Nat.mul_add_div hn, Nat.div_eq_of_lt hx, Nat.div_eq_of_lt hy] at h1
  simp only [Nat.add_zero] at h1
  subst h1
  exact ⟨rfl, by omega⟩
theorem ov_set : ∀ (cs : List AV) (i : Nat) (x : AV), i < cs.length → overlay cs i [x] = cs.set i x := by
  intro cs
  induction cs with
  | nil => intro i x hi; simp at hi
  | cons c r ih =>
    intro i x hi
    cases i with
    | zero => simp
    | succ i => rw [overlay_s, List.set_cons_succ, ih i x (by simpa using hi)]
theorem Kn.put {L : List Nd} {s : Sl} {kb M : Nat} {H : Hp} (h : Kn L s kb M H) {e k : Nat} (he : e < L.length) (hk : k < s.length) {v : Int} (hv : v = 0 ∨ (v = 1 ∧ frontB (AA L) L s k e = true) ∨ (v = 2 ∧ frontB (AA L) L s k e = false)) :
    ∃ H', stA 1 H (.ptr kb (e * s.length + k)) (I v) = some H' ∧ Kn L s kb M H' ∧ Kp kb H H' ∧ ldA false 1 H' (.ptr kb (e * s.length + k)) = some (I v) := by
  obtain ⟨ks, h1, h2, h3⟩ := h.get
  obtain ⟨v0, hv0, _⟩ := h3 e k he hk
  have hlt := (List.getElem?_eq_some_iff.1 hv0).1
  refine ⟨H.set kb (some (.cells (ks.set (e * s.length + k) (I v)) true)), ?_, ⟨by simpa using h.lt, _, by simp; rfl, by simpa using h2, fun e' k' he' hk' => ?_⟩, ⟨by simp, fun j hj hne => by simp [hne]⟩, ?_⟩
  · have hlt' : e * s.length + k + [I v].length ≤ ks.length := by simp; omega
    rw [st_int, h1]
    simp only [stO_cells]
    rw [if_pos ⟨hlt', rfl⟩, ov_set _ _ _ hlt]
  · by_cases hi : e * s.length + k = e' * s.length + k'
    · obtain ⟨rfl, rfl⟩ := idx_inj hk hk' hi
      exact ⟨v, by simp [hlt], hv⟩
    · obtain ⟨w, hw, hw'⟩ := h3 e' k' he' hk'
      exact ⟨w, by simp [List.getElem?_set, hi, hw], hw'⟩
  · simp only [ld_ptr, hp_get_set, if_true, ldO_cells]
    rw [List.drop_eq_getElem_cons (by simpa using hlt), ldL_one]
    simp
section
variable {L : List Nd} {d : List Nat} {s : Sl} {dp kb M : Nat} {cap : Option Nat}
end
end Go.Proofs.Ytaoegkmfgfefgaa.Ev
namespace Go.Proofs.Ytaoegkmfgfefgaa.Ev
set_option linter.unusedVariables false
set_option linter.unusedSimpArgs false
variable {σ : Sig} {L : List Nd} {d : List Nat}
section
end
end Go.Proofs.Ytaoegkmfgfefgaa.Ev
namespace Go.Proofs.Ytaoegkmfgfefgaa.Ev
set_option linter.unusedVariables false
set_option linter.unusedSimpArgs false
inductive Sk where
  | same
  | sl (sz : Nat) (row : List Sk)
  | agg (row : List Sk)
  | ptr (row : List Sk)
def frzRows (sz : Nat) (g : List AV → Option (List AV)) : Nat → List AV → Option (List (List AV))
  | 0, _ => some []
  | n + 1, l => match g (l.take sz) with
    | some r => match frzRows sz g n (l.drop sz) with
      | some rs => some (r :: rs)
      | none => none
    | none => none
mutual
def frzS (H : Hp) : Sk → AV → Option AV
  | .same, x => bif noId x then some x else none
  | .sl sz row, x => match x with
    | .lit (.slice none 0 0) => some (.imm sz [])
    | .emp => some (.imm sz [])
    | .se _ _ _ => some (.imm sz [])
    | .imm s rows => bif noId (.imm s rows) then some (.imm s rows) else none
    | .sl id off s len _ => bif Nat.beq s sz then match H.get id with
        | some (.cells cs _) => match frzRows sz (fun l => frzR H row l) len (cs.drop off) with
          | some rows => bif Nat.beq row.length sz then some (.imm sz rows) else none
          | none => none
        | _ => none
      else none
    | _ => none
  | .agg row, x => match x with
    | .agg xs => match frzR H row xs with
      | some ys => some (.agg ys)
      | none => none
    | _ => none
  | .ptr row, x => match x with
    | .ptr id off => match H.get id with
      | some (.cells cs _) => match frzR H row ((cs.drop off).take row.length) with
        | some ys => some (.ip ys)
        | none => none
      | _ => none
    | _ => none
def frzR (H : Hp) : List Sk → List AV → Option (List AV)
  | [], xs => match xs with
    | [] => some []
    | _ => none
  | k :: ks, xs => match xs with
    | x :: xs => match frzS H k x with
      | some y => match frzR H ks xs with
        | some ys => some (y :: ys)
        | none => none
      | none => none
    | [] => none
end
theorem frzRows_ok {sz : Nat} {g : List AV → Option (List AV)} {H : Hp} (hg : ∀ l r, g l = some r → FzL H l r) : ∀ (n : Nat) (l : List AV) (rows : List (List AV)), frzRows sz g n l = some rows → rows.length = n ∧ ∀ (i : Nat) (row : List AV), rows[i]? = some row → FzL H ((l.drop (i * sz)).take sz) row
  | 0, l, rows, h => by
    simp only [frzRows, Option.some.injEq] at h
    subst h
    exact ⟨rfl, fun i row h => by simp at h⟩
  | n + 1, l, rows, h => by
    simp only [frzRows] at h
    split at h
    case h_2 => cases h
    rename_i r hr
    split at h
    case h_2 => cases h
    rename_i rs hrs
    simp only [Option.some.injEq] at h
    subst h
    obtain ⟨h1, h2⟩ := frzRows_ok hg n _ _ hrs
    refine ⟨by simp [h1], fun i row hi => ?_⟩
    cases i with
    | zero =>
      simp at hi
      subst hi
      simpa using hg _ _ hr
    | succ i =>
      simp at hi
      have := h2 i row hi
      rw [List.drop_drop] at this
      rw [Nat.succ_mul, Nat.add_comm]
      exact this
theorem FzL.len {H : Hp} {xs ys : List AV} (h : FzL H xs ys) : xs.length = ys.length := h.get.1
mutual
theorem frzS_ok {H : Hp} : ∀ (k : Sk) (x y : AV), frzS H k x = some y → Fz H x y
  | .same, x, y, h => by
    simp only [frzS] at h
    cases hn : noId x with
    | false => rw [hn] at h; cases h
    | true => rw [hn] at h; cases h; exact .refl hn
  | .sl sz row, x, y, h => by
    simp only [frzS] at h
    split at h
    · cases h; exact .nil
    · cases h; exact .emp
    · cases h; exact .se
    · rename_i s rows
      cases hn : noId (.imm s rows) with
      | false => rw [hn] at h; cases h
      | true => rw [hn] at h; cases h; exact .refl hn
    · rename_i id off s len cap
      cases hs : Nat.beq s sz with
      | false => rw [hs] at h; cases h
      | true =>
        rw [hs] at h
        have := Nat.eq_of_beq_eq_true hs
        subst this
        simp only [cond_true] at h
        split at h
        case h_2 => cases h
        rename_i cs ex hg
        split at h
        case h_2 => cases h
        rename_i rows hr
        cases hl : Nat.beq row.length s with
        | false => rw [hl] at h; cases h
        | true =>
          rw [hl] at h
          cases h
          have hlen := Nat.eq_of_beq_eq_true hl
          obtain ⟨h1, h2⟩ := frzRows_ok (fun l r hh => frzR_ok row l r hh) _ _ _ hr
          have hrow : ∀ (i : Nat) (r : List AV), rows[i]? = some r → r.length = s := by
            intro i r hi
            obtain ⟨_, hh⟩ := frzRows_ok (g := fun l => frzR H row l) (fun l r hh => frzR_ok row l r hh) _ _ _ hr
            exact frzRows_len (fun l r hh => by rw [← hlen]; exact frzR_len row l r hh) _ _ _ hr i r hi
          refine .sl (fun i j => cs.getD (off + (i * s + j)) .any) hg h1 hrow (fun i r j y hi hy => ?_) (fun i r j y hi hy => ?_)
          · obtain ⟨x, hx, _⟩ := (h2 i r hi).get.2 j y hy
            have hj : j < s := by rw [← hrow i r hi]; exact (List.getElem?_eq_some_iff.1 hy).1
            rw [List.getElem?_take, if_pos hj, List.getElem?_drop, List.getElem?_drop] at hx
            simp [hx]
          · obtain ⟨x, hx, hf⟩ := (h2 i r hi).get.2 j y hy
            have hj : j < s := by rw [← hrow i r hi]; exact (List.getElem?_eq_some_iff.1 hy).1
            rw [List.getElem?_take, if_pos hj, List.getElem?_drop, List.getElem?_drop] at hx
            simp [hx]
            exact hf
    · cases h
  | .agg row, x, y, h => by
    simp only [frzS] at h
    split at h
    case h_2 => cases h
    split at h
    case h_2 => cases h
    rename_i hr
    cases h
    exact Fz.aggL (frzR_ok row _ _ hr)
  | .ptr row, x, y, h => by
    simp only [frzS] at h
    split at h
    case h_2 => cases h
    rename_i id off
    split at h
    case h_2 => cases h
    rename_i cs ex hg
    split at h
    case h_2 => cases h
    rename_i ys hr
    cases h
    have hl := (frzR_ok row _ _ hr).get
    refine .ptr (fun j => cs.getD (off + j) .any) hg (fun j y hy => ?_) (fun j y hy => ?_)
    · obtain ⟨x, hx, _⟩ := hl.2 j y hy
      rw [List.getElem?_take] at hx
      split at hx
      · rw [List.getElem?_drop] at hx
        simp [hx]
      · cases hx
    · obtain ⟨x, hx, hf⟩ := hl.2 j y hy
      rw [List.getElem?_take] at hx
      split at hx
      · rw [List.getElem?_drop] at hx
        simp [hx]
        exact hf
      · cases hx
theorem frzR_ok {H : Hp} : ∀ (ks : List Sk) (xs ys : List AV), frzR H ks xs = some ys → FzL H xs ys
  | [], xs, ys, h => by
    simp only [frzR] at h
    split at h
    · cases h; exact .nil
    · cases h
  | k :: ks, xs, ys, h => by
    simp only [frzR] at h
    split at h
    case h_2 => cases h
    rename_i x xs
    split at h
    case h_2 => cases h
    rename_i y hy
    split at h
    case h_2 => cases h
    rename_i zs hz
    cases h
    exact .cons (frzS_ok k x y hy) (frzR_ok ks xs zs hz)
theorem frzR_len {H : Hp} : ∀ (ks : List Sk) (xs ys : List AV), frzR H ks xs = some ys → ys.length = ks.length
  | [], xs, ys, h => by
    simp only [frzR] at h
    split at h
    · cases h; rfl
    · cases h
  | k :: ks, xs, ys, h => by
    simp only [frzR] at h
    split at h
    case h_2 => cases h
    split at h
    case h_2 => cases h
    split at h
    case h_2 => cases h
    rename_i zs hz
    cases h
    simp [frzR_len ks _ _ hz]
theorem frzRows_len {sz : Nat} {g : List AV → Option (List AV)} (hg : ∀ l r, g l = some r → r.length = sz) : ∀ (n : Nat) (l : List AV) (rows : List (List AV)), frzRows sz g n l = some rows → ∀ (i : Nat) (r : List AV), rows[i]? = some r → r.length = sz
  | 0, l, rows, h, i, r, hi => by
    simp only [frzRows, Option.some.injEq] at h
    subst h
    simp at hi
  | n + 1, l, rows, h, i, r, hi => by
    simp only [frzRows] at h
    split at h
    case h_2 => cases h
    rename_i r0 hr0
    split at h
    case h_2 => cases h
    rename_i rs hrs
    cases h
    cases i with
    | zero => simp at hi; subst hi; exact hg _ _ hr0
    | succ i => exact frzRows_len hg n _ _ hrs i r (by simpa using hi)
end
def skStrs : Sk := .sl 1 [.same]
def skPrs : Sk := .sl 2 [.same, .same]
def skNd : List Sk := [.same, .same, .same, skStrs, skPrs]
def skNds : Sk := .sl 5 skNd
end Go.Proofs.Ytaoegkmfgfefgaa.Ev
namespace Go.Proofs.Ytaoegkmfgfefgaa.Ev
theorem Good.conv {P : Program} {σ : Sig} {f : Nat} {xs ys : List AV} {r : AV} {H H2 H3 : Hp} (k : Wk σ ys H xs H2) (h : Good P σ f xs H2 r H3) : Good P σ f ys H r H3 := by
  refine ⟨h.1, fun B w0 E w vs hσ hst hxs => ?_⟩
  obtain ⟨E2, h1, h2, h3⟩ := k hσ hst hxs
  refine (h.2 B w0 E2 w vs hσ h2 h3).mono fun e w' hh => ?_
  obtain ⟨E', v, rfl, hext, st2, hrel⟩ := hh
  exact ⟨E', v, rfl, h1.trans hext, st2, hrel⟩
def Hp.bare (n : Nat) : Hp := ⟨n, .leaf⟩
@[simp] theorem Hp.bare_n (n : Nat) : (Hp.bare n).n = n := rfl
@[simp] theorem Hp.bare_get (n j : Nat) : (Hp.bare n).get j = none := by simp [Hp.bare, Hp.get, Tr.get]
theorem FzL.t {H : Hp} {xs ys : List AV} (h : FzL H xs ys) : FzT H xs ys := by
  induction h with
  | nil => exact .nil
  | cons h hs ih => exact .fz h ih
theorem Good.drop {P : Program} {σ : Sig} {f : Nat} {xs ys : List AV} {r : AV} {H : Hp} (h : ∀ H, Good P σ f xs H r H) (hx : FzL H ys xs) : Good P σ f ys H r (Hp.bare H.n) :=
  Good.conv (Wk.frz (H2 := Hp.bare H.n) (Hd := H) rfl rfl (fun id k hk => ⟨hk, by simp⟩) (fun id k2 hk => by simp at hk) hx.t) (h _)
theorem bnd_of {α : Type} {o : Option α} {x : α} {K : α → Prop} (h : o = some x) (k : K x) : bnd o K := by rw [h]; exact k
end Go.Proofs.Ytaoegkmfgfefgaa.Ev
namespace Go.Proofs.Ytaoegkmfgfefgaa.Ev
set_option linter.unusedVariables false
set_option linter.unusedSimpArgs false
inductive Gsc (sz : Nat) (H : Hp) : AV → List (List AV) → Prop where
  | gs {x : AV} {rows : List (List AV)} (h : Gs sz H x rows) : Gsc sz H x rows
  | full {id : Nat} {ex : Bool} {rows : List (List AV)} (hlt : id < H.n) (hg : H.get id = some (.cells rows.flatten ex)) (hsz : ∀ row ∈ rows, row.length = sz) (h0 : rows ≠ []) : Gsc sz H (.sl id 0 sz rows.length (some rows.length)) rows
theorem Gsc.lit {sz : Nat} {H : Hp} {row : List AV} (hl : row.length = sz) : Gsc sz (H.new (.cells row true)) (.sl H.n 0 sz 1 (some 1)) [row] := by
  refine .full (id := H.n) (rows := [row]) (by simp) (by simp; rfl) (by simp [hl]) (by simp)
theorem LoopP.drop {P : Program} {C : Ctx P} {c : Code} {T T2 : List AV} {H : Hp} {Q : Exit → List AV → Hp → Prop} (hT : FzT H T T2) (h : LoopP C c T2 (Hp.bare H.n) Q) : LoopP C c T H Q :=
  LoopP.conv (Wk.frz (H2 := Hp.bare H.n) (Hd := H) rfl rfl (fun id k hk => ⟨hk, by simp⟩) (fun id k2 hk => by simp at hk) hT) h
end Go.Proofs.Ytaoegkmfgfefgaa.Ev
namespace Go.Proofs.Ytaoegkmfgfefgaa.Ev
theorem FzTr {Hd : Hp} : ∀ (T : List AV), FzT Hd T T
  | [] => .nil
  | x :: T => .same (FzTr T)
end Go.Proofs.Ytaoegkmfgfefgaa.Ev
namespace Go.Proofs.Ytaoegkmfgfefgaa.Ev
set_option linter.unusedVariables false
set_option linter.unusedSimpArgs false
variable {σ : Sig} {L : List Nd} {d : List Nat}
def TxL : Nat → List Sl → Prop
  | 0, _ => False
  | f + 1, l => ∀ s ∈ l, ∀ p ∈ s, (∀ a ∈ p.c.attrs, a.text.data.size < 4294967281) ∧ ∀ q ∈ p.c.pseudos, TxL f q.list
theorem TxL.one {f : Nat} {l : List Sl} (h : TxL f l) {s : Sl} (hs : s ∈ l) : TxL f [s] := by
  cases f with
  | zero => exact h
  | succ f => exact fun s' hs' => by rw [List.mem_singleton.1 hs']; exact h s hs
theorem RcOk.of {c : Cp} (h : CpOk c) (ht : ∀ a ∈ c.attrs, a.text.data.size < 4294967281) : RcOk c := ⟨h.ids, h.classes, h.attrs, h.ps, ht⟩
end Go.Proofs.Ytaoegkmfgfefgaa.Ev
namespace Go.Proofs.Ytaoegkmfgfefgaa.Ev
set_option linter.unusedVariables false
set_option linter.unusedSimpArgs false
variable {σ : Sig}
def bigS (s : ByteArray) : Bool := decide (60 < (s.data.size : Int))
def bigP (p : ByteArray × ByteArray) : Bool := bigS p.1 || decide (100 < (p.2.data.size : Int))
def bigN (n : Nd) : Bool := decide (8 < (n.classes.length : Int)) || (decide (8 < (n.attrs.length : Int)) || (bigS n.tag || (bigS n.id || (n.classes.any bigS || n.attrs.any bigP))))
def bigT (L : List Nd) : Bool := if 40 < L.length then (if L.length ≤ 4096 then true else decide (4100 < L.length)) else decide (4100 < L.length)
def bigR (L : List Nd) (m : Nat) : Bool := ((L.drop m).take (100 - m)).any bigN || bigT L
structure NdSm (n : Nd) : Prop where
  classes : n.classes.length ≤ 8
  attrs : n.attrs.length ≤ 8
  tag : n.tag.data.size ≤ 60
  id : n.id.data.size ≤ 60
  cl : ∀ s ∈ n.classes, s.data.size ≤ 60
  at' : ∀ p ∈ n.attrs, p.1.data.size ≤ 60 ∧ p.2.data.size ≤ 100
theorem NdSm.of {n : Nd} (h : bigN n = false) : NdSm n := by
  unfold bigN bigP bigS at h
  simp only [Bool.or_eq_false_iff, decide_eq_false_iff_not, List.any_eq_false, Bool.or_eq_true, decide_eq_true_eq, not_or] at h
  obtain ⟨h1, h2, h3, h4, h5, h6⟩ := h
  exact ⟨by omega, by omega, by omega, by omega, fun s hs => by have := h5 s hs; omega, fun p hp => by have := h6 p hp; omega⟩
theorem bigR_step {L : List Nd} {m : Nat} {n : Nd} (h : L[m]? = some n) (hm : m < 100) : bigR L m = (bigN n || bigR L (m + 1)) := by
  unfold bigR
  obtain ⟨j, hj⟩ : ∃ j, 100 - m = j + 1 := ⟨99 - m, by omega⟩
  rw [drop_get h, hj, List.take_succ_cons, List.any_cons, Bool.or_assoc, show 100 - (m + 1) = j by omega]
section
attribute [local irreducible] law9_Big.L0 law9_Big.L1 law9_Big.L2
theorem big_L2 {L : List Nd} {m : Nat} {n : Nd} (hn : L[m]? = some n) (hm : m < 100) {K : AV → Hp → Prop} {y4 : AV} (hl : n.attrs.length ≤ 8)
    (h0 : ∀ H y4 y5, (∀ H, K (Bo (bigR L (m + 1))) H) → law9_Big.L0 σ K (nds L) (I ((m + 1 : Nat) : Int)) y4 y5 H) : ∀ (f k : Nat) (H : Hp), n.attrs.length - k = f → k ≤ n.attrs.length → (∀ H, K (Bo ((n.attrs.drop k).any bigP || bigR L (m + 1))) H) →
    law9_Big.L2 σ K (nds L) (I (m : Int)) y4 (I (k : Int)) H := by
  have hix : ixaSl 5 (nds L) (I (m : Int)) = some (.ip (encNd n)) := ix_map hn
  intro f
  induction f with
  | zero =>
    intro k H hf hk hK
    have : k = n.attrs.length := by omega
    subst this
    refine law9_Big.L2_step ?_
    have hw : wr .i64 ((m : Int) + 1) = ((m + 1 : Nat) : Int) := wr_succ (by omega)
    simp only [hix, bnd_some, sh_ip, ld_ip, f_encNd4, len_imm, List.length_map, b_lss, Int.lt_irrefl, decide_false, ifB_lit, Bool.false_eq_true, if_false, b_add, hw]
    refine h0 _ _ _ ?_
    simpa using hK
  | succ f ih =>
    intro k H hf hk hK
    have hlt : k < n.attrs.length := by omega
    obtain ⟨p, hp⟩ := get_lt hlt
    rw [drop_get hp, List.any_cons] at hK
    have hlt' : (k : Int) < n.attrs.length := by omega
    have hixp : ixaSl 2 (.imm 2 (n.attrs.map encPr)) (I (k : Int)) = some (.ip (encPr p)) := ix_map hp
    have hw : wr .i64 ((k : Int) + 1) = ((k + 1 : Nat) : Int) := wr_succ (by omega)
    refine law9_Big.L2_step ?_
    simp only [hix, bnd_some, sh_ip, ld_ip, f_encNd4, len_imm, List.length_map, b_lss, hlt', decide_true, ifB_lit, if_true, hixp, List.drop_zero, f_encPr0, f_encPr1', len_str, b_gtr, decide_eq_true_eq, b_add, hw]
    split
    · rename_i h
      have : bigP p = true := by unfold bigP bigS; rw [decide_eq_true h, Bool.true_or]
      rw [this] at hK
      simpa using hK H
    rename_i h1
    split
    · rename_i h
      have : bigP p = true := by unfold bigP; rw [decide_eq_true h, Bool.or_true]
      rw [this] at hK
      simpa using hK H
    · rename_i h
      have : bigP p = false := by unfold bigP bigS; rw [decide_eq_false h, decide_eq_false h1]; rfl
      rw [this] at hK
      exact ih (k + 1) H (by omega) (by omega) (by simpa using hK)
theorem big_L1 {L : List Nd} {m : Nat} {n : Nd} (hn : L[m]? = some n) (hm : m < 100) {K : AV → Hp → Prop} {y5 : AV} (hl : n.attrs.length ≤ 8) (hl2 : n.classes.length ≤ 8)
    (h0 : ∀ H y4 y5, (∀ H, K (Bo (bigR L (m + 1))) H) → law9_Big.L0 σ K (nds L) (I ((m + 1 : Nat) : Int)) y4 y5 H) : ∀ (f k : Nat) (H : Hp), n.classes.length - k = f → k ≤ n.classes.length → (∀ H, K (Bo ((n.classes.drop k).any bigS || (n.attrs.any bigP || bigR L (m + 1)))) H) →
    law9_Big.L1 σ K (nds L) (I (m : Int)) (I (k : Int)) y5 H := by
  have hix : ixaSl 5 (nds L) (I (m : Int)) = some (.ip (encNd n)) := ix_map hn
  intro f
  induction f with
  | zero =>
    intro k H hf hk hK
    have : k = n.classes.length := by omega
    subst this
    refine law9_Big.L1_step ?_
    simp only [hix, bnd_some, sh_ip, ld_ip, f_encNd3, len_strs, b_lss, Int.lt_irrefl, decide_false, ifB_lit, Bool.false_eq_true, if_false]
    exact big_L2 hn hm hl h0 _ 0 H rfl (Nat.zero_le _) (by simpa using hK)
  | succ f ih =>
    intro k H hf hk hK
    have hlt : k < n.classes.length := by omega
    obtain ⟨p, hp⟩ := get_lt hlt
    rw [drop_get hp, List.any_cons] at hK
    have hlt' : (k : Int) < n.classes.length := by omega
    have hixp : ixaSl 1 (strs n.classes) (I (k : Int)) = some (.ip [Sx p]) := ix_map hp
    have lx : ∀ H, ldA false 1 H (.ip [Sx p]) = some (Sx p) := fun _ => rfl
    have hw : wr .i64 ((k : Int) + 1) = ((k + 1 : Nat) : Int) := wr_succ (by omega)
    refine law9_Big.L1_step ?_
    simp only [hix, bnd_some, sh_ip, ld_ip, f_encNd3, len_strs, b_lss, hlt', decide_true, ifB_lit, if_true, hixp, ldL_one, len_str, b_gtr, decide_eq_true_eq, b_add, hw]
    split
    · rename_i h
      have : bigS p = true := decide_eq_true h
      rw [this] at hK
      simpa using hK H
    · rename_i h
      have : bigS p = false := decide_eq_false h
      rw [this] at hK
      exact ih (k + 1) H (by omega) (by omega) (by simpa using hK)
theorem big_end {L : List Nd} {K : AV → Hp → Prop} {H : Hp} (hK : ∀ H, K (Bo (bigT L)) H) : bnd (lenSl (nds L)) fun x24 => bnd (binR .gtr x24 (I 40)) fun x25 => ifB x25 (bnd (lenSl (nds L)) fun x26 => bnd (binR .leq x26 (I 4096)) fun x27 => ifB x27 (K (Bo true) H) (bnd (lenSl (nds L)) fun x28 => bnd (binR .gtr x28 (I 4100)) fun x29 => K x29 H)) (bnd (lenSl (nds L)) fun x30 => bnd (binR .gtr x30 (I 4100)) fun x31 => K x31 H) := by
  simp only [len_nds, bnd_some, b_gtr, b_leq, ifB_lit, decide_eq_true_eq]
  have e : decide ((4100 : Int) < (L.length : Int)) = decide (4100 < L.length) := by rw [decide_eq_decide]; omega
  rw [e]
  unfold bigT at hK
  by_cases h1 : 40 < L.length
  · have h1' : (40 : Int) < (L.length : Int) := by omega
    rw [if_pos h1] at hK
    rw [if_pos h1']
    by_cases h2 : L.length ≤ 4096
    · have h2' : (L.length : Int) ≤ 4096 := by omega
      rw [if_pos h2] at hK
      rw [if_pos h2']
      exact hK H
    · have h2' : ¬ (L.length : Int) ≤ 4096 := by omega
      rw [if_neg h2] at hK
      rw [if_neg h2']
      exact hK H
  · have h1' : ¬ (40 : Int) < (L.length : Int) := by omega
    rw [if_neg h1] at hK
    rw [if_neg h1']
    exact hK H
theorem Big_ok (L : List Nd) (H : Hp) : Good Try.prog σ n_law9_Big [nds L] H (Bo (bigR L 0)) H := by
  refine good_by (fun K hK => law9_Big.run ?_) (by simp [noIds, noId]) rfl H
  have L0 : ∀ (f m : Nat) (H : Hp) (y4 y5 : AV), 100 - m = f → m ≤ L.length → m ≤ 100 → (∀ H, K (Bo (bigR L m)) H) → law9_Big.L0 σ K (nds L) (I (m : Int)) y4 y5 H := by
    intro f
    induction f with
    | zero =>
      intro m H y4 y5 hf hm hm2 hK
      obtain rfl : m = 100 := by omega
      have hK : ∀ H, K (Bo (bigT L)) H := by simpa [bigR] using hK
      refine law9_Big.L0_step ?_
      have e0 : ¬ (((100 : Nat) : Int) < 100) := by decide
      by_cases h : ((100 : Nat) : Int) < L.length
      · simp only [len_nds, bnd_some, b_lss, h, decide_true, ifB_lit, if_true, e0, decide_false, Bool.false_eq_true, if_false]
        have hE := big_end (H := H) hK
        simp only [len_nds, bnd_some, b_gtr, b_leq] at hE ⊢
        exact hE
      · simp only [len_nds, bnd_some, b_lss, h, decide_false, ifB_lit, Bool.false_eq_true, if_false]
        have hE := big_end (H := H) hK
        simp only [len_nds, bnd_some, b_gtr, b_leq] at hE ⊢
        exact hE
    | succ f ih =>
      intro m H y4 y5 hf hm hm2 hK
      refine law9_Big.L0_step ?_
      have e0 : ((m : Nat) : Int) < 100 := by omega
      by_cases h : m < L.length
      · have h' : (m : Int) < L.length := by omega
        obtain ⟨n, hn⟩ := get_lt h
        rw [bigR_step hn (by omega)] at hK
        have hix : ixaSl 5 (nds L) (I (m : Int)) = some (.ip (encNd n)) := ix_map hn
        simp only [len_nds, bnd_some, b_lss, h', decide_true, ifB_lit, if_true, e0, hix, sh_ip, ld_ip, f_encNd3, f_encNd4, f_encNd1', f_encNd2, len_strs, len_imm, List.length_map, len_str, b_gtr, decide_eq_true_eq]
        unfold bigN at hK
        split
        · rename_i h1; simp only [h1, decide_true, Bool.true_or] at hK; exact hK H
        rename_i h1
        split
        · rename_i h2; simp only [h2, decide_true, Bool.true_or, Bool.or_true] at hK; exact hK H
        rename_i h2
        split
        · rename_i h3
          have : bigS n.tag = true := decide_eq_true h3
          simp only [this, Bool.true_or, Bool.or_true] at hK; exact hK H
        rename_i h3
        split
        · rename_i h4
          have : bigS n.id = true := decide_eq_true h4
          simp only [this, Bool.true_or, Bool.or_true] at hK; exact hK H
        rename_i h4
        have t3 : bigS n.tag = false := decide_eq_false h3
        have t4 : bigS n.id = false := decide_eq_false h4
        simp only [h1, h2, t3, t4, decide_false, Bool.false_or, Bool.or_assoc] at hK
        exact big_L1 hn (by omega) (by omega) (by omega) (fun H y4 y5 hK' => ih (m + 1) H y4 y5 (by omega) (by omega) (by omega) hK') _ 0 H rfl (Nat.zero_le _) (by simpa using hK)
      · have h' : ¬ (m : Int) < L.length := by omega
        have : m = L.length := by omega
        subst this
        have hK : ∀ H, K (Bo (bigT L)) H := by simpa [bigR] using hK
        simp only [len_nds, bnd_some, b_lss, h', decide_false, ifB_lit, Bool.false_eq_true, if_false]
        have hE := big_end (H := H) hK
        simp only [len_nds, bnd_some, b_gtr, b_leq] at hE ⊢
        exact hE
  exact L0 _ 0 _ _ _ rfl (Nat.zero_le _) (by decide) hK
end
theorem good_byI {P : Program} {σ : Sig} {f : Nat} {xs : List AV} {r : AV} (h : ∀ K : AV → Hp → Prop, (∀ H, K r H) → ∃ r' H1, Good P σ f xs Hp.empty r' H1 ∧ K r' H1) (hx : noIds xs = true) (hr : noId r = true) (H : Hp) : Good P σ f xs H r H := by
  obtain ⟨r', H1, hg, e⟩ := h (fun r' _ => r' = r) (fun _ => rfl)
  subst e
  exact hg.frzR hx (.refl hr) H
structure TreeOk (L : List Nd) (d : List Nat) : Prop where
  len : L.length ≤ 40
  hB : Built L L.length d
  sm : ∀ n ∈ L, NdSm n
theorem trees_ok (L : List Nd) (hW : ∀ n ∈ L, NdWf n) : (∀ H, Good Try.prog σ n_law22_both [nds L] H (.tup [.lit (.pointer none), .lit (.pointer none), Bo false]) H) ∨
    (∃ d, TreeOk L d ∧ ∀ H, Good Try.prog σ n_law22_both [nds L] H (.tup [domT L d, refT L d, Bo true]) H) := by
  rcases refNew_ok (σ := σ) L hW with ⟨_, e, he, hg⟩ | ⟨d, hN, hB, hg⟩
  · refine .inl fun H => good_by (fun K hK => law22_both.run (callK_of (Big_ok L _) (callK_of (hg _) ?_))) (by simp [noIds, noId]) rfl H
    simp only [x_tup, List.getElem?_cons_zero, List.getElem?_cons_succ, bnd_some, ifB_lit, b_neq, he, decide_false, Bool.not_false, if_true]
    cases bigR L 0 <;> simp only [Bool.false_eq_true, if_true, if_false] <;> exact hK _
  · cases hb : bigR L 0 with
    | true =>
      refine .inl fun H => good_by (fun K hK => law22_both.run (callK_of (Big_ok L _) (callK_of (hg _) ?_))) (by simp [noIds, noId]) rfl H
      simp only [x_tup, List.getElem?_cons_zero, List.getElem?_cons_succ, bnd_some, hb, ifB_lit, if_true]
      exact hK _
    | false =>
      have hT : TreeOk L d := by
        unfold bigR bigT at hb
        simp only [Bool.or_eq_false_iff, List.drop_zero] at hb
        have hl : L.length ≤ 40 := by
          have h2 := hb.2
          by_cases h : 40 < L.length
          · rw [if_pos h, if_pos hN] at h2; cases h2
          · omega
        refine ⟨hl, hB, fun n hn => NdSm.of ?_⟩
        have := List.any_eq_false.1 hb.1 n (by rw [List.take_of_length_le (by omega)]; exact hn)
        simpa using this
      refine .inr ⟨d, hT, fun H => good_byI (fun K hK => law22_both.run (callK_of (Big_ok L _) (callK_of (hg _) ?_))) (by simp [noIds, noId]) ?_ H⟩
      · simp only [x_tup, List.getElem?_cons_zero, List.getElem?_cons_succ, bnd_some, hb, ifB_lit, b_neq, decide_true, Bool.not_true, Bool.false_eq_true, if_false]
        refine callK_of (domNew_ok hB hW hN _) ?_
        simp only [x_tup, List.getElem?_cons_zero, List.getElem?_cons_succ, bnd_some]
        exact hK _
      · simp [noId, noIds, noId_domT, noId_refT]
end Go.Proofs.Ytaoegkmfgfefgaa.Ev
namespace Go.Proofs.Ytaoegkmfgfefgaa.Ev
set_option linter.unusedVariables false
set_option linter.unusedSimpArgs false
theorem rows_map {α : Type} {f : α → List AV} {P : α → Prop} : ∀ {rows : List (List AV)}, (∀ row ∈ rows, ∃ x, row = f x ∧ P x) → ∃ l : List α, rows = l.map f ∧ ∀ x ∈ l, P x
  | [], _ => ⟨[], rfl, fun x hx => by cases hx⟩
  | r :: rs, h => by
    obtain ⟨x, hx, px⟩ := h r (by simp)
    obtain ⟨l, hl, pl⟩ := rows_map (rows := rs) fun row hr => h row (by simp [hr])
    refine ⟨x :: l, by rw [hx, hl]; rfl, fun y hy => ?_⟩
    rcases List.mem_cons.1 hy with rfl | hy
    · exact px
    · exact pl y hy
theorem d_int {ts : List Nat} {zs : List AV} (h : Sh tiT.get (T_int :: ts) zs) : ∃ n ys, zs = I n :: ys ∧ i64 n ∧ Sh tiT.get ts ys := by
  obtain ⟨i, hi, hd, _⟩ := T_int_is
  obtain ⟨n, ys, e, hw, hs⟩ := sh_int hi hd h
  refine ⟨n, ys, e, ?_, hs⟩
  simp [Lit.wf, IntKind.min, IntKind.max, IntKind.signed, IntKind.bits] at hw
  unfold i64
  omega
theorem d_str {ts : List Nat} {zs : List AV} (h : Sh tiT.get (T_string :: ts) zs) : ∃ s ys, zs = Sx s :: ys ∧ s.data.size ≤ Lmax ∧ Sh tiT.get ts ys := by
  obtain ⟨i, hi, hd, _⟩ := T_string_is
  obtain ⟨s, ys, e, hw, hs⟩ := sh_str hi hd h
  exact ⟨s, ys, e, Nat.le_trans hw (by decide), hs⟩
theorem d_bool {ts : List Nat} {zs : List AV} (h : Sh tiT.get (T_bool :: ts) zs) : ∃ b ys, zs = Bo b :: ys ∧ Sh tiT.get ts ys := by
  obtain ⟨i, hi, hd, _⟩ := T_bool_is
  exact sh_bool hi hd h
theorem d_slice {t e sz : Nat} (hT : ∃ i, tiT.get t = some i ∧ i.d = .slice e ∧ i.size = 1) (hE : ∃ i, tiT.get e = some i ∧ i.size = sz) {ts : List Nat} {zs : List AV} (h : Sh tiT.get (t :: ts) zs) :
    ∃ rows ys, zs = .imm sz rows :: ys ∧ (∀ row ∈ rows, Sh tiT.get [e] row) ∧ rows.length ≤ Lmax ∧ Sh tiT.get ts ys := by
  obtain ⟨i, hi, hd, _⟩ := hT
  obtain ⟨j', hj', hs'⟩ := hE
  rcases sh_slice hi hd h with ⟨ys, _, _⟩ | ⟨j, rows, ys, hj, e, hr, hl, hm, _, hs⟩
  · cases h with
    | sl h' hd' he hc hl hm hb hs => rw [hi] at h'; cases h'; rw [hd] at hd'; cases hd'; rw [hj'] at he; cases he; exact ⟨_, _, by rw [hs'], hc, hm, hs⟩
    | _ => simp_all
  · rw [hj'] at hj
    cases hj
    rw [hs'] at e
    exact ⟨rows, ys, e, hr, hm, hs⟩
theorem d_struct {t : Nat} {fs : List (Nat × Nat)} {sz : Nat} (hT : ∃ i, tiT.get t = some i ∧ i.d = .struct fs ∧ i.size = sz) {ts : List Nat} {zs : List AV} (h : Sh tiT.get (t :: ts) zs) : Sh tiT.get (fs.map (·.2) ++ ts) zs := by
  obtain ⟨i, hi, hd, _⟩ := hT
  exact sh_struct hi hd h
theorem sz_of {t sz : Nat} {d : TD} (h : ∃ i, tiT.get t = some i ∧ i.d = d ∧ i.size = sz) : ∃ i, tiT.get t = some i ∧ i.size = sz := by
  obtain ⟨i, a, _, b⟩ := h
  exact ⟨i, a, b⟩
theorem d_strs {ts : List Nat} {zs : List AV} (h : Sh tiT.get (T_sl_string :: ts) zs) : ∃ l ys, zs = strs l :: ys ∧ strsWf Lmax l ∧ Sh tiT.get ts ys := by
  obtain ⟨rows, ys, e, hr, hm, hs⟩ := d_slice T_sl_string_is (sz_of T_string_is) h
  obtain ⟨l, hl, hp⟩ := rows_map (f := fun s => [Sx s]) (P := fun s => s.data.size ≤ Lmax) fun row hrow => by
    obtain ⟨s, ys, e, hw, hs⟩ := d_str (hr row hrow)
    rw [sh_nil hs] at e
    exact ⟨s, e, hw⟩
  exact ⟨l, ys, by rw [e, hl]; rfl, ⟨by rw [hl] at hm; simpa using hm, hp⟩, hs⟩
theorem d_attrs {ts : List Nat} {zs : List AV} (h : Sh tiT.get (T_sl_api_Attr :: ts) zs) : ∃ (l : List At) (ys : List AV), zs = .imm 3 (l.map encAt) :: ys ∧ (l.length ≤ Lmax ∧ ∀ x ∈ l, x.name.data.size ≤ Lmax ∧ i64 x.op ∧ x.text.data.size ≤ Lmax) ∧ Sh tiT.get ts ys := by
  obtain ⟨rows, ys, e, hr, hm, hs⟩ := d_slice T_sl_api_Attr_is (sz_of T_api_Attr_is) h
  obtain ⟨l, hl, hp⟩ := rows_map (f := encAt) (P := fun x => x.name.data.size ≤ Lmax ∧ i64 x.op ∧ x.text.data.size ≤ Lmax) fun row hrow => by
    have h1 := d_struct T_api_Attr_is (hr row hrow)
    obtain ⟨a, y1, e1, w1, h2⟩ := d_str h1
    obtain ⟨b, y2, e2, w2, h3⟩ := d_int h2
    obtain ⟨c, y3, e3, w3, h4⟩ := d_str h3
    rw [sh_nil h4] at e3
    exact ⟨⟨a, b, c⟩, by rw [e1, e2, e3]; rfl, w1, w2, w3⟩
  exact ⟨l, ys, by rw [e, hl], ⟨by rw [hl] at hm; simpa using hm, hp⟩, hs⟩
theorem d_parts : ∀ (n : Nat) {ts : List Nat} {zs : List AV}, SizeOf.sizeOf zs ≤ n → Sh tiT.get (T_sl_api_Part :: ts) zs → ∃ (l : List Pt) (ys : List AV), zs = .imm 6 (l.map encPt) :: ys ∧ (l.length ≤ Lmax ∧ ∀ p ∈ l, Pt.wf Lmax p) ∧ Sh tiT.get ts ys
  | 0, ts, zs, hn, h => by cases zs <;> simp at hn
  | n + 1, ts, zs, hn, h => by
    obtain ⟨rows, ys, e, hr, hm, hs⟩ := d_slice T_sl_api_Part_is (sz_of T_api_Part_is) h
    obtain ⟨l, hl, hp⟩ := rows_map (f := encPt) (P := fun p => Pt.wf Lmax p) fun row hrow => by
      have hsz : SizeOf.sizeOf row < n := by
        have h1 : SizeOf.sizeOf row < SizeOf.sizeOf rows := List.sizeOf_lt_of_mem hrow
        rw [e] at hn
        simp only [List.cons.sizeOf_spec, AV.imm.sizeOf_spec] at hn
        omega
      obtain ⟨k, y1, e1, w1, h1⟩ := d_int (d_struct T_api_Part_is (hr row hrow))
      have h1 := d_struct T_api_Compound_is h1
      obtain ⟨t, y2, e2, w2, h2⟩ := d_str h1
      obtain ⟨i, y3, e3, w3, h3⟩ := d_strs h2
      obtain ⟨c, y4, e4, w4, h4⟩ := d_strs h3
      obtain ⟨a, y5, e5, w5, h5⟩ := d_attrs h4
      obtain ⟨prows, y6, e6, hpr, hpm, h6⟩ := d_slice T_sl_api_Pseudo_is (sz_of T_api_Pseudo_is) h5
      rw [sh_nil h6] at e6
      subst e6 e5 e4 e3 e2 e1
      obtain ⟨ps, hps, hpp⟩ := rows_map (f := encPs) (P := fun p => Ps.wf Lmax p) fun prow hprow => by
        have hsz2 : SizeOf.sizeOf prow < n := by
          have h1 : SizeOf.sizeOf prow < SizeOf.sizeOf prows := List.sizeOf_lt_of_mem hprow
          simp only [List.cons.sizeOf_spec, AV.imm.sizeOf_spec] at hsz
          omega
        have g1 := d_struct T_api_Pseudo_is (hpr prow hprow)
        obtain ⟨k, y1, e1, w1, g2⟩ := d_int g1
        obtain ⟨a, y2, e2, w2, g3⟩ := d_int g2
        obtain ⟨b, y3, e3, w3, g4⟩ := d_int g3
        obtain ⟨srows, y4, e4, hsr, hsm, g5⟩ := d_slice T_sl_api_Selector_is (sz_of T_api_Selector_is) g4
        rw [sh_nil g5] at e4
        subst e4 e3 e2 e1
        obtain ⟨ss, hss, hsp⟩ := rows_map (f := encSl) (P := slWf Lmax) fun srow hsrow => by
          have hsz3 : SizeOf.sizeOf srow < n := by
            have h1 : SizeOf.sizeOf srow < SizeOf.sizeOf srows := List.sizeOf_lt_of_mem hsrow
            simp only [List.cons.sizeOf_spec, AV.imm.sizeOf_spec] at hsz2
            omega
          obtain ⟨l, y1, e1, w1, q1⟩ := d_parts n (by omega) (d_struct T_api_Selector_is (hsr srow hsrow))
          rw [sh_nil q1] at e1
          exact ⟨l, e1, w1.1, w1.2⟩
        refine ⟨.mk k a b ss, by rw [encPs_eq, hss]; rfl, ?_⟩
        rw [Ps.wf_iff]
        exact ⟨w1, w2, w3, by rw [hss, List.length_map] at hsm; exact hsm, hsp⟩
      refine ⟨.mk k (.mk t i c a ps), by rw [encPt_eq, encCp_eq, hps]; rfl, ?_⟩
      rw [Pt.wf_iff]
      exact ⟨w1, w2, w3, w4, w5.1, w5.2, by rw [hps, List.length_map] at hpm; exact hpm, hpp⟩
    exact ⟨l, ys, by rw [e, hl], ⟨by rw [hl] at hm; simpa using hm, hp⟩, hs⟩
theorem d_sel {ts : List Nat} {zs : List AV} (h : Sh tiT.get (T_api_Selector :: ts) zs) : ∃ (s : Sl) (ys : List AV), zs = encSl s ++ ys ∧ slWf Lmax s ∧ Sh tiT.get ts ys := by
  obtain ⟨l, ys, e, w, hs⟩ := d_parts _ (Nat.le_refl _) (d_struct T_api_Selector_is h)
  exact ⟨l, ys, e, w, hs⟩
theorem d_sels {ts : List Nat} {zs : List AV} (h : Sh tiT.get (T_sl_api_Selector :: ts) zs) : ∃ l ys, zs = sls l :: ys ∧ slsWf Lmax l ∧ Sh tiT.get ts ys := by
  obtain ⟨rows, ys, e, hr, hm, hs⟩ := d_slice T_sl_api_Selector_is (sz_of T_api_Selector_is) h
  obtain ⟨l, hl, hp⟩ := rows_map (f := encSl) (P := slWf Lmax) fun row hrow => by
    obtain ⟨s, y, e, w, hs⟩ := d_sel (hr row hrow)
    rw [sh_nil hs, List.append_nil] at e
    exact ⟨s, e, w⟩
  exact ⟨l, ys, by rw [e, hl]; rfl, ⟨by rw [hl] at hm; simpa using hm, hp⟩, hs⟩
def readB : List Nat := [T_int, T_string, T_bool, T_sl_string, T_sl_api_Attr, T_api_Attr, T_sl_api_Part, T_api_Part, T_api_Compound, T_sl_api_Pseudo, T_api_Pseudo, T_sl_api_Selector, T_api_Selector, T_sl_api_Node, T_api_Node, T_sl_api_Pair, T_api_Pair]
end Go.Proofs.Ytaoegkmfgfefgaa.Ev
namespace Go.Proofs.Ytaoegkmfgfefgaa.Ev
theorem v_one {t sz : Nat} {d : TD} (hT : ∃ i, tiT.get t = some i ∧ i.d = d ∧ i.size = sz) (ha : d.agg = false) {x : AV} (h : ShV tiT.get t x) : Sh tiT.get [t] [x] := by
  obtain ⟨i, hi, hd, _⟩ := hT
  unfold ShV at h
  rw [hi] at h
  simp only [hd, ha] at h
  exact h
end Go.Proofs.Ytaoegkmfgfefgaa.Ev
namespace Go.Proofs.Ytaoegkmfgfefgaa.Ev
theorem d_strR {ts : List Nat} {zs : List AV} (h : Sh tiT.get (T_string :: ts) zs) : ∃ s ys, zs = Sx s :: ys ∧ s.data.size ≤ reachBytes ∧ Sh tiT.get ts ys := by
  obtain ⟨i, hi, hd, _⟩ := T_string_is
  obtain ⟨s, ys, e, hw, hs⟩ := sh_str hi hd h
  exact ⟨s, ys, e, hw, hs⟩
theorem d_sliceB {t e sz B : Nat} (hT : ∃ i, tiT.get t = some i ∧ i.d = .slice e ∧ i.size = 1) (hE : ∃ i, tiT.get e = some i ∧ i.size = sz) (hB : (tiT.get e).map (·.bytes) = some B) {ts : List Nat} {zs : List AV} (h : Sh tiT.get (t :: ts) zs) :
    ∃ rows ys, zs = .imm sz rows :: ys ∧ (∀ row ∈ rows, Sh tiT.get [e] row) ∧ rows.length * B ≤ reachBytes ∧ Sh tiT.get ts ys := by
  obtain ⟨i, hi, hd, _⟩ := hT
  obtain ⟨j', hj', hs'⟩ := hE
  rw [hj'] at hB
  simp only [Option.map_some, Option.some.injEq] at hB
  cases h with
  | sl h' hd' he hc hl hm hb hs => rw [hi] at h'; cases h'; rw [hd] at hd'; cases hd'; rw [hj'] at he; cases he; exact ⟨_, _, by rw [hs'], hc, by rw [← hB]; exact hb, hs⟩
  | _ => simp_all
theorem d_strsR {ts : List Nat} {zs : List AV} (h : Sh tiT.get (T_sl_string :: ts) zs) : ∃ l ys, zs = strs l :: ys ∧ l.length * 16 ≤ reachBytes ∧ Sh tiT.get ts ys := by
  obtain ⟨rows, ys, e, hr, hm, hs⟩ := d_sliceB T_sl_string_is (sz_of T_string_is) (B := 16) (by kernel_rfl) h
  obtain ⟨l, hl, hp⟩ := rows_map (f := fun s => [Sx s]) (P := fun s => True) fun row hrow => by
    obtain ⟨s, ys, e, hw, hs⟩ := d_str (hr row hrow)
    rw [sh_nil hs] at e
    exact ⟨s, e, trivial⟩
  exact ⟨l, ys, by rw [e, hl]; rfl, by rw [hl] at hm; simpa using hm, hs⟩
theorem d_pairs {ts : List Nat} {zs : List AV} (h : Sh tiT.get (T_sl_api_Pair :: ts) zs) : ∃ (l : List (ByteArray × ByteArray)) (ys : List AV), zs = .imm 2 (l.map encPr) :: ys ∧ (l.length * 32 ≤ reachBytes ∧ ∀ x ∈ l, x.1.data.size ≤ reachBytes) ∧ Sh tiT.get ts ys := by
  obtain ⟨rows, ys, e, hr, hm, hs⟩ := d_sliceB T_sl_api_Pair_is (sz_of T_api_Pair_is) (B := 32) (by kernel_rfl) h
  obtain ⟨l, hl, hp⟩ := rows_map (f := encPr) (P := fun x => x.1.data.size ≤ reachBytes) fun row hrow => by
    obtain ⟨a, y1, e1, w1, h2⟩ := d_strR (d_struct T_api_Pair_is (hr row hrow))
    obtain ⟨b, y2, e2, w2, h3⟩ := d_strR h2
    rw [sh_nil h3] at e2
    exact ⟨⟨a, b⟩, by rw [e1, e2]; rfl, w1⟩
  exact ⟨l, ys, by rw [e, hl], ⟨by rw [hl] at hm; simpa using hm, hp⟩, hs⟩
theorem d_nodes {ts : List Nat} {zs : List AV} (h : Sh tiT.get (T_sl_api_Node :: ts) zs) : ∃ (l : List Nd) (ys : List AV), zs = nds l :: ys ∧ (∀ x ∈ l, NdWf x) ∧ l.length ≤ Lmax ∧ Sh tiT.get ts ys := by
  obtain ⟨rows, ys, e, hr, hm, hs⟩ := d_slice T_sl_api_Node_is (sz_of T_api_Node_is) h
  obtain ⟨l, hl, hp⟩ := rows_map (f := encNd) (P := NdWf) fun row hrow => by
    obtain ⟨p, y1, e1, w1, h2⟩ := d_int (d_struct T_api_Node_is (hr row hrow))
    obtain ⟨t, y2, e2, w2, h3⟩ := d_strR h2
    obtain ⟨i, y3, e3, w3, h4⟩ := d_strR h3
    obtain ⟨c, y4, e4, w4, h5⟩ := d_strsR h4
    obtain ⟨a, y5, e5, w5, h6⟩ := d_pairs h5
    rw [sh_nil h6] at e5
    exact ⟨⟨p, t, i, c, a⟩, by rw [e1, e2, e3, e4, e5]; rfl, w1, w2, w4, w5.1, w5.2⟩
  exact ⟨l, ys, by rw [e, hl]; rfl, hp, by rw [hl] at hm; simpa using hm, hs⟩
theorem v_nodes {x : AV} (h : ShV tiT.get T_sl_api_Node x) : ∃ l, x = nds l ∧ (∀ n ∈ l, NdWf n) ∧ l.length ≤ Lmax := by
  obtain ⟨l, ys, e, w, hl, hn⟩ := d_nodes (v_one T_sl_api_Node_is rfl h)
  cases e
  exact ⟨l, rfl, w, hl⟩
end Go.Proofs.Ytaoegkmfgfefgaa.Ev
namespace Go.Proofs.Ytaoegkmfgfefgaa.Ev
set_option linter.unusedVariables false
set_option linter.unusedSimpArgs false
theorem sum_bk {α : Type} {f : α → List AV} {g : α → Nat} : ∀ {l : List α}, (∀ x ∈ l, g x ≤ bkL (f x)) → (l.map g).sum ≤ bkLL (l.map f)
  | [], _ => by simp [bkLL]
  | x :: r, h => by
    have h1 := h x (by simp)
    have h2 := sum_bk (f := f) (g := g) (l := r) fun y hy => h y (by simp [hy])
    simp only [List.map_cons, List.sum_cons, bkLL]
    omega
theorem len_bk {α : Type} {f : α → List AV} {l : List α} (h : ∀ x ∈ l, 1 ≤ bkL (f x)) : l.length ≤ bkLL (l.map f) := by
  have h1 := sum_bk (f := f) (g := fun _ => 1) (l := l) h
  have h2 : ∀ l : List α, (l.map fun _ => 1).sum = l.length := by
    intro l
    induction l with
    | nil => rfl
    | cons a r ih => simp only [List.map_cons, List.sum_cons, List.length_cons, ih]; omega
  rw [h2] at h1
  exact h1
theorem mem_bk {α : Type} {f : α → List AV} {l : List α} {x : α} (h : x ∈ l) : bkL (f x) ≤ bkLL (l.map f) := bkLL_mem (List.mem_map_of_mem h)
theorem bk_S (s : ByteArray) : bk (Sx s) = s.data.size + 1 := by simp [bk]
theorem bk_I (n : Int) : bk (I n) = 1 := by simp [bk]
theorem bk_imm (sz : Nat) (rows : List (List AV)) : bk (.imm sz rows) = bkLL rows + 1 := by simp [bk]
theorem bk_strs (l : List ByteArray) : bk (strs l) = bkLL (l.map fun s => [Sx s]) + 1 := by unfold strs; rw [bk_imm]
theorem bk_cp (c : Cp) : bkL (encCp c) = (c.tag.data.size + 1) + ((bkLL (c.ids.map fun s => [Sx s]) + 1) + ((bkLL (c.classes.map fun s => [Sx s]) + 1) + ((bkLL (c.attrs.map encAt) + 1) + (bkLL (c.pseudos.map encPs) + 1)))) := by
  rw [encCp_eq]
  simp only [bkL, bk_S, bk_strs, bk_imm, Nat.add_zero]
theorem bk_pt (p : Pt) : bkL (encPt p) = 1 + bkL (encCp p.c) := by rw [encPt_eq]; simp only [bkL, bk_I]
theorem bk_ps (q : Ps) : bkL (encPs q) = 1 + (1 + (1 + (bkLL (q.list.map encSl) + 1))) := by rw [encPs_eq]; simp only [bkL, bk_I, bk_imm, Nat.add_zero]
theorem bk_sl (s : Sl) : bkL (encSl s) = bkLL (s.map encPt) + 1 := by unfold encSl; simp only [bkL, bk_imm, Nat.add_zero]
theorem bk_at (a : At) : bkL (encAt a) = (a.name.data.size + 1) + (1 + (a.text.data.size + 1)) := by unfold encAt; simp only [bkL, bk_S, bk_I, Nat.add_zero]
structure PtB (f : Nat) (p : Pt) : Prop where
  c : CpOk p.c
  ps : p.c.pseudos.length ≤ NB
  q : ∀ q ∈ p.c.pseudos, (i64 q.a ∧ i64 q.b) ∧ SlsOk f q.list
  tx : ∀ a ∈ p.c.attrs, a.text.data.size < 4294967281
  tq : ∀ q ∈ p.c.pseudos, TxL f q.list
  cnt : (p.c.pseudos.map fun q => cntF f q.list).sum + 6 ≤ bkL (encPt p)
theorem pt_bulk {f : Nat} (ih : ∀ l, slsWf Lmax l → FitL f l → bkLL (l.map encSl) ≤ NB → SlsOk f l ∧ TxL f l ∧ cntF f l ≤ bkLL (l.map encSl)) {p : Pt} (hw : CpWf Lmax p.c) (hf : FitP f p) (hb : bkL (encCp p.c) ≤ NB) : PtB f p := by
  have hN : NB = 1048576 := rfl
  have r : reachBytes = 140737488351232 := rfl
  rw [bk_cp, hN] at hb
  have l1 : p.c.ids.length ≤ bkLL (p.c.ids.map fun s => [Sx s]) := len_bk fun s _ => by simp only [bkL, bk_S]; omega
  have l2 : p.c.classes.length ≤ bkLL (p.c.classes.map fun s => [Sx s]) := len_bk fun s _ => by simp only [bkL, bk_S]; omega
  have l3 : p.c.attrs.length ≤ bkLL (p.c.attrs.map encAt) := len_bk fun s _ => by rw [bk_at]; omega
  have l4 : p.c.pseudos.length ≤ bkLL (p.c.pseudos.map encPs) := len_bk fun s _ => by rw [bk_ps]; omega
  have ht : ∀ a ∈ p.c.attrs, a.text.data.size ≤ 1048576 := fun a ha => by
    have h1 := mem_bk (f := encAt) ha
    rw [bk_at] at h1
    omega
  have hq : ∀ q ∈ p.c.pseudos, SlsOk f q.list ∧ TxL f q.list ∧ cntF f q.list ≤ bkLL (q.list.map encSl) := fun q hq => by
    have h1 := mem_bk (f := encPs) hq
    rw [bk_ps] at h1
    exact ih q.list (Ps.wf_iff.1 (hw.ps q hq)).2.2.2 (hf.2 q hq) (by rw [hN]; omega)
  refine ⟨⟨by omega, by omega, by omega, fun a ha => ⟨by have := ht a ha; omega⟩, by omega⟩, by omega, fun q h => ⟨⟨(Ps.wf_iff.1 (hw.ps q h)).2.1, (Ps.wf_iff.1 (hw.ps q h)).2.2.1⟩, (hq q h).1⟩, fun a ha => by have := ht a ha; omega, fun q h => (hq q h).2.1, ?_⟩
  have h5 : (p.c.pseudos.map fun q => cntF f q.list).sum ≤ bkLL (p.c.pseudos.map encPs) := sum_bk fun q h => by
    have := (hq q h).2.2
    rw [bk_ps]; omega
  rw [bk_pt, bk_cp]
  omega
theorem sls_bulk : ∀ (f : Nat) (l : List Sl), slsWf Lmax l → FitL f l → bkLL (l.map encSl) ≤ NB → SlsOk f l ∧ TxL f l ∧ cntF f l ≤ bkLL (l.map encSl)
  | 0, l, _, h, _ => h.elim
  | f + 1, l, hw, hf, hb => by
    have hN : NB = 1048576 := rfl
    have hl : l.length ≤ bkLL (l.map encSl) := len_bk fun s _ => by rw [bk_sl]; omega
    have hs : ∀ s ∈ l, s.length ≤ NB ∧ ∀ p ∈ s, PtB f p := fun s h => by
      have h1 := mem_bk (f := encSl) h
      rw [bk_sl] at h1
      have h2 : s.length ≤ bkLL (s.map encPt) := len_bk fun p _ => by rw [bk_pt]; omega
      refine ⟨by omega, fun p hp => ?_⟩
      have h3 := mem_bk (f := encPt) hp
      rw [bk_pt] at h3
      exact pt_bulk (sls_bulk f) (Pt.wf_iff.1 ((hw.2 s h).2 p hp)).2 ((hf s h).2 p hp) (by omega)
    refine ⟨⟨by omega, fun s h => ⟨(hs s h).1, fun p hp => ⟨((hs s h).2 p hp).c, ((hs s h).2 p hp).ps, ((hs s h).2 p hp).q⟩⟩⟩, fun s h p hp => ⟨((hs s h).2 p hp).tx, ((hs s h).2 p hp).tq⟩, ?_⟩
    rw [cntF]
    refine sum_bk fun s h => ?_
    rw [bk_sl]
    have : (s.map fun p => (p.c.pseudos.map fun q => cntF f q.list).sum).sum ≤ bkLL (s.map encPt) := sum_bk fun p hp => by
      have := ((hs s h).2 p hp).cnt
      omega
    omega
theorem sel_bulk {l : List Sl} (hw : slsWf Lmax l) (hf : FitL 11 l) (hb : bkLL (l.map encSl) ≤ NB) : SelOk 11 l ∧ TxL 11 l := by
  obtain ⟨h1, h2, h3⟩ := sls_bulk 11 l hw hf hb
  exact ⟨⟨hw, h1, hf.nest, by decide, by omega⟩, h2⟩
end Go.Proofs.Ytaoegkmfgfefgaa.Ev
namespace Go.Proofs.Ytaoegkmfgfefgaa.Ev
set_option linter.unusedVariables false
set_option linter.unusedSimpArgs false
variable {σ : Sig}
def needsPt (p : Pt) : Bool := decide (0 < p.c.attrs.length) || (decide (0 < p.c.pseudos.length) || (decide (p.comb = 3) || decide (p.comb = 4)))
def needs (s : Sl) : Bool := s.any needsPt
theorem needs_L0 (s : Sl) (hs : s.length < 9000000000000000000) {K : AV → Hp → Prop} : ∀ (d k : Nat) (H : Hp), s.length - k = d → k ≤ s.length → (∀ H', K (Bo ((s.drop k).any needsPt)) H') →
    reval_Needs.L0 σ K (.imm 6 (s.map encPt)) (I s.length) (I k) H := by
  intro d
  induction d with
  | zero =>
    intro k H hd hk hK
    have e : k = s.length := by omega
    subst e
    refine reval_Needs.L0_step ?_
    simpa using hK H
  | succ d ih =>
    intro k H hd hk hK
    have hlt : k < s.length := by omega
    obtain ⟨p, hp⟩ := get_lt hlt
    rw [drop_get hp] at hK
    refine reval_Needs.L0_step ?_
    have hi := fun H => ih (k + 1) H (by omega) (by omega)
    simp [ix_map hp, ldL_all, overlay_all, encPt_eq, encCp_eq, hlt, wr_succ (Nat.lt_trans hlt hs)]
    simp only [List.any_cons] at hK
    split
    · simpa [needsPt, *] using hK _
    split
    · simpa [needsPt, *] using hK _
    split
    · simpa [needsPt, *] using hK _
    split
    · simpa [needsPt, *] using hK _
    · refine hi _ fun H' => ?_
      simpa [needsPt, *] using hK H'
theorem needs_ok (s : Sl) (hs : s.length < 9000000000000000000) (H : Hp) : Good Try.prog σ n_reval_Needs [.agg (encSl s)] H (Bo (needs s)) H := by
  refine good_pure (reval_Needs.run ?_) (by simp [noIds, noId, noId_Sl]) rfl H
  simp only [encSl]
  simp
  exact needs_L0 s hs _ 0 _ rfl (Nat.zero_le _) fun H' => rfl
end Go.Proofs.Ytaoegkmfgfefgaa.Ev
namespace Go.Proofs.Ytaoegkmfgfefgaa.Ev
set_option linter.unusedVariables false
set_option linter.unusedSimpArgs false
variable {σ : Sig}
def eqFrom {α : Type} [DecidableEq α] (a b : List α) (k : Nat) : Bool := decide (a.drop k = b.drop k)
theorem eqFrom_step {α : Type} [DecidableEq α] {a b : List α} {k : Nat} {x y : α} (hx : a[k]? = some x) (hy : b[k]? = some y) : eqFrom a b k = (decide (x = y) && eqFrom a b (k + 1)) := by
  unfold eqFrom
  rw [drop_get hx, drop_get hy, ← Bool.decide_and, decide_eq_decide, List.cons.injEq]
theorem eqFrom_end {α : Type} [DecidableEq α] {a b : List α} (h : a.length = b.length) : eqFrom a b a.length = true := by
  unfold eqFrom
  rw [List.drop_length, h, List.drop_length]
  rfl
theorem eqFrom_len {α : Type} [DecidableEq α] {a b : List α} (h : a.length ≠ b.length) : decide (a = b) = false := decide_eq_false fun e => h (by rw [e])
section
end
section
end
end Go.Proofs.Ytaoegkmfgfefgaa.Ev
namespace Go.Proofs.Ytaoegkmfgfefgaa.Ev
set_option linter.unusedVariables false
set_option maxRecDepth 100000
set_option maxHeartbeats 4000000
end Go.Proofs.Ytaoegkmfgfefgaa.Ev
namespace Go.Proofs.Ytaoegkmfgfefgaa.Ev
set_option maxRecDepth 100000
set_option maxHeartbeats 4000000
end Go.Proofs.Ytaoegkmfgfefgaa.Ev

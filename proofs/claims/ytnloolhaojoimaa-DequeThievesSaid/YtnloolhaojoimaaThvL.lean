/- DequeThieves: the law. -/
import Derived.Test.YtnloolhaojoimaaThv
namespace Go.Proofs.Ytnloolhaojoimaa.Ev
open Go.RowKit
set_option linter.unusedVariables false
set_option linter.unusedSimpArgs false
set_option maxRecDepth 100000
variable {σ : Sig}
theorem and1023 (v : Int) : ∃ k : Nat, k ≤ 1023 ∧ binR .and (I v) (I 1023) = some (I k) := by
  refine ⟨(BitVec.ofInt IntKind.i64.bits v &&& BitVec.ofInt IntKind.i64.bits 1023).toNat, ?_, ?_⟩
  · rw [BitVec.toNat_and]
    exact Nat.and_le_right
  · rw [b_and]
    have : (BitVec.ofInt IntKind.i64.bits v &&& BitVec.ofInt IntKind.i64.bits 1023).toNat ≤ 1023 := by
      rw [BitVec.toNat_and]
      exact Nat.and_le_right
    rw [wr64 (by omega) (by omega)]
def cnt (n w len : Nat) : Nat → Nat
  | 0 => 0
  | t + 1 => cnt n w len t + if (len + t) % n + 1 = w then 1 else 0
theorem cnt_mono {n w len : Nat} (t u : Nat) : cnt n w len t ≤ cnt n w len (t + u) := by
  induction u with
  | zero => exact Nat.le_refl _
  | succ u ih => exact Nat.le_trans ih (Nat.le_add_right _ _)
theorem cnt_round {n w len : Nat} (hw : 1 ≤ w ∧ w ≤ n) (t : Nat) : cnt n w len t + 1 ≤ cnt n w len (t + n) := by
  have hit : ∃ u, u < n ∧ (len + t + u) % n + 1 = w := by
    have ha : (len + t) % n < n := Nat.mod_lt _ (by omega)
    by_cases h : (len + t) % n ≤ w - 1
    · refine ⟨w - 1 - (len + t) % n, by omega, ?_⟩
      rw [← Nat.mod_add_mod, show (len + t) % n + (w - 1 - (len + t) % n) = w - 1 by omega, Nat.mod_eq_of_lt (by omega)]
      omega
    · refine ⟨w - 1 + n - (len + t) % n, by omega, ?_⟩
      rw [← Nat.mod_add_mod, show (len + t) % n + (w - 1 + n - (len + t) % n) = w - 1 + n by omega, Nat.add_mod_right, Nat.mod_eq_of_lt (by omega)]
      omega
  obtain ⟨u, hu, e⟩ := hit
  have h1 := cnt_mono (n := n) (w := w) (len := len) t u
  have h2 : cnt n w len (t + u + 1) = cnt n w len (t + u) + 1 := by
    show cnt n w len (t + u) + (if (len + (t + u)) % n + 1 = w then 1 else 0) = _
    rw [← Nat.add_assoc, if_pos e]
  have h3 := cnt_mono (n := n) (w := w) (len := len) (t + u + 1) (n - u - 1)
  rw [show t + u + 1 + (n - u - 1) = t + n by omega] at h3
  omega
theorem cnt_five {n w len : Nat} (hw : 1 ≤ w ∧ w ≤ n) : 5 ≤ cnt n w len (5 * n) := by
  have h1 := cnt_round (len := len) hw 0
  have h2 := cnt_round (len := len) hw (0 + n)
  have h3 := cnt_round (len := len) hw (0 + n + n)
  have h4 := cnt_round (len := len) hw (0 + n + n + n)
  have h5 := cnt_round (len := len) hw (0 + n + n + n + n)
  rw [show 5 * n = 0 + n + n + n + n + n by omega]
  omega
theorem Thf.le {x top : Int} {k : Nat} {o : Option O} (h : Thf x top k o) : k ≤ 4 := by cases h <;> omega
theorem Thf.four {x top : Int} {o : Option O} (h : Thf x top 4 o) : o = none ∧ top = 1 := by cases h with | gone h => exact ⟨rfl, h⟩
section
attribute [local irreducible] law20_DequeThieves.L0 law20_DequeThieves.L1 law20_DequeThieves.J2 law20_DequeThieves.L3 law20_DequeThieves.J4
variable {n d : Nat} {x : Int} {l : List Int} {K : AV → Hp → Prop}
theorem Thv_L3 (hK : ∀ H, K (Bo true) H) (hn : 1 ≤ n ∧ n ≤ 20) {H : Hp} {s : S} (h : Dq H d s) (ht : s.top = 1) (hb : s.bot = 1) (ho : ∀ w, s.op w = none) (y1 y2 y9 y11 y12 : AV) : ∀ (m i : Nat), n + 1 - i = m → i ≤ n + 1 →
    law20_DequeThieves.L3 σ K (I n) y1 y2 (.ptr d 0) y9 (I 1) y11 y12 (I i) H := by
  intro m
  induction m with
  | zero =>
    intro i hm hi
    have e : ¬ (i : Int) ≤ n := by omega
    refine law20_DequeThieves.L3_step ?_
    simp [e]
    refine Len_sp h (by rw [ht, hb]; rw [wr64 (by omega) (by omega)]) ?_
    simp [ht, hb]
    exact hK _
  | succ m ih =>
    intro i hm hi
    have e : (i : Int) ≤ n := by omega
    refine law20_DequeThieves.L3_step ?_
    simp [e]
    refine Busy_sp h ?_
    simp [ho]
    rw [wr64 (by omega) (by omega)]
    exact ih (i + 1) (by omega) (by omega)
theorem Thv_L1 (hK : ∀ H, K (Bo true) H) (hn : 1 ≤ n ∧ n ≤ 20) (hl : l.length ≤ 60) : ∀ (m j : Nat) (H : Hp) (top : Int) (ks : Nat → Nat) (y9 y12 y16 : AV), l.length + 5 * n - j = m → j ≤ l.length + 5 * n → Thvs H d x n top ks →
    (∀ w, 1 ≤ w → w ≤ n → ks w = 4 ∨ cnt n w l.length (j - l.length) ≤ ks w) → law20_DequeThieves.L1 σ K (I n) (ints l) (I x) (.ptr d 0) y9 (I top) (I j) y12 y16 H := by
  intro m
  induction m with
  | zero =>
    intro j H top ks y9 y12 y16 hm hj h hc
    have ej : j = l.length + 5 * n := by omega
    obtain ⟨s, hq, hpl, hx, ht, hbot, h01, hti, hno⟩ := h
    have all4 : ∀ w, 1 ≤ w → w ≤ n → s.op w = none ∧ top = 1 := by
      intro w h1 h2
      have t := hti w h1 h2
      have e4 : ks w = 4 := by
        rcases hc w h1 h2 with e | e
        · exact e
        · rw [ej, show l.length + 5 * n - l.length = 5 * n by omega] at e
          have := cnt_five (len := l.length) (n := n) (w := w) ⟨h1, h2⟩
          have := t.le
          omega
      rw [e4] at t
      exact t.four
    have t1 := (all4 1 (by omega) (by omega)).2
    refine law20_DequeThieves.L1_step ?_
    have hln : lenSl (ints l) = some (I l.length) := by simp [ints]
    have e1 : wr .i64 (5 * (n : Int)) = 5 * n := wr64 (by omega) (by omega)
    have e2 : wr .i64 ((l.length : Int) + 5 * n) = l.length + 5 * n := wr64 (by omega) (by omega)
    have e3 : ¬ (j : Int) < l.length + 5 * n := by omega
    simp only [hln, bnd_some, b_mul, e1, b_add, e2, b_lss, e3, decide_false, ifB_lit, Bool.false_eq_true, if_false]
    rw [t1]
    refine Thv_L3 hK hn hq (by rw [ht, t1]) hbot (fun w => ?_) _ _ _ _ _ n 1 (by omega) (by omega)
    by_cases hw : 1 ≤ w ∧ w ≤ n
    · exact (all4 w hw.1 hw.2).1
    · exact hno w (by omega)
  | succ m ih =>
    intro j H top ks y9 y12 y16 hm hj h hc
    have h01 : top = 0 ∨ top = 1 := h.choose_spec.2.2.2.2.2.1
    -- a step by w
    have go : ∀ w : Nat, (1 ≤ w ∧ w ≤ n) → (l.length ≤ j → w = j % n + 1) → law20_DequeThieves.J2 σ K (I n) (ints l) (I x) (.ptr d 0) y9 (I top) (I j) (I w) y16 H := by
      intro w hw hwj
      refine law20_DequeThieves.J2_step (h.step hw hn.2 fun H' top' k e ok h' hk ht => ?_)
      have e1 : wr .i64 ((j : Int) + 1) = ((j + 1 : Nat) : Int) := by rw [wr64 (by omega) (by omega)]; rfl
      have j4 : ∀ t : Int, t = top' → law20_DequeThieves.J4 σ K (I n) (ints l) (I x) (.ptr d 0) y9 (I t) (I j) (I w) y16 H' := by
        intro t et
        subst et
        refine law20_DequeThieves.J4_step ?_
        simp only [b_add, bnd_some, e1]
        refine ih (j + 1) H' t _ y9 _ y16 (by omega) (by omega) h' fun v hv1 hv2 => ?_
        by_cases hlj : l.length ≤ j
        · have ec : cnt n v l.length (j + 1 - l.length) = cnt n v l.length (j - l.length) + if j % n + 1 = v then 1 else 0 := by
            rw [show j + 1 - l.length = (j - l.length) + 1 by omega]
            show _ + (if (l.length + (j - l.length)) % n + 1 = v then 1 else 0) = _
            rw [show l.length + (j - l.length) = j by omega]
          rw [ec]
          by_cases ev : v = w
          · subst ev
            rw [if_pos (hwj hlj).symm]
            simp only [setK, if_true]
            rcases hk with hk | hk
            · rcases hc v hv1 hv2 with e | e
              · have := (h'.choose_spec.2.2.2.2.2.2.1 v hv1 hv2).le
                simp only [setK, if_true] at this
                omega
              · right; omega
            · left; exact hk
          · have : ¬ j % n + 1 = v := by rw [← hwj hlj]; exact fun e => ev e.symm
            rw [if_neg this]
            simp only [setK, ev, if_false]
            exact hc v hv1 hv2
        · rw [show j + 1 - l.length = 0 by omega]
          exact .inr (Nat.zero_le _)
      cases e
      · simp
        exact j4 top (by rcases ht with h | h; exact h.1.symm; cases h.2.2.1)
      · cases ok
        · simp
          exact j4 top (by rcases ht with h | h; exact h.1.symm; cases h.2.2.2)
        · rcases ht with h | ⟨t0, t1, _⟩
          · rcases h.2 with h | h <;> cases h
          · have e2 : wr .i64 (top + 1) = 1 := by rw [t0]; rw [wr64 (by omega) (by omega)]; rfl
            simp
            rw [e2]
            exact j4 1 t1.symm
    refine law20_DequeThieves.L1_step ?_
    have hln : lenSl (ints l) = some (I l.length) := by simp [ints]
    have e1 : wr .i64 (5 * (n : Int)) = 5 * n := wr64 (by omega) (by omega)
    have e2 : wr .i64 ((l.length : Int) + 5 * n) = l.length + 5 * n := wr64 (by omega) (by omega)
    have e3 : (j : Int) < l.length + 5 * n := by omega
    have hn0 : (n : Int) ≠ 0 := by omega
    have em : ∀ k : Nat, (k : Int).tmod n = ((k % n : Nat) : Int) := by
      intro k
      rw [Int.tmod_eq_emod_of_nonneg (by omega)]; rfl
    have ew : ∀ k : Nat, wr .i64 (1 + ((k % n : Nat) : Int)) = ((k % n + 1 : Nat) : Int) := by
      intro k
      have : k % n < n := Nat.mod_lt _ (by omega)
      rw [wr64 (by omega) (by omega)]; omega
    simp only [hln, bnd_some, b_mul, e1, b_add, e2, b_lss, e3, decide_true, ifB_lit, if_true, b_rem _ _ _ hn0, em, ew]
    by_cases hjl : j < l.length
    · have h2 : (j : Int) < l.length := by omega
      have hix : ixaSl 1 (ints l) (I j) = some (.ip [I l[j]]) := by
        unfold ints
        rw [ix_imm]
        simp [hjl]
      obtain ⟨k, hk, ea⟩ := and1023 l[j]
      simp only [h2, decide_true, if_true, hix, bnd_some, ld_ip, ldL_one, ea, b_rem _ _ _ hn0, em, b_add, ew]
      have : k % n < n := Nat.mod_lt _ (by omega)
      exact go _ ⟨by omega, by omega⟩ fun e => by omega
    · have h2 : ¬ (j : Int) < l.length := by omega
      simp only [h2, decide_false, Bool.false_eq_true, if_false]
      have : j % n < n := Nat.mod_lt _ (by omega)
      exact go _ ⟨by omega, by omega⟩ fun _ => rfl
theorem Thv_L0 (hK : ∀ H, K (Bo true) H) (hn : 1 ≤ n ∧ n ≤ 20) (hl : l.length ≤ 60) : ∀ (m i : Nat) (H : Hp) (y10 y11 y12 y16 : AV), n + 1 - i = m → 1 ≤ i → i ≤ n + 1 → Thvs H d x (i - 1) 0 (fun _ => 0) →
    law20_DequeThieves.L0 σ K (I n) (ints l) (I x) (.ptr d 0) (I i) y10 y11 y12 y16 H := by
  intro m
  induction m with
  | zero =>
    intro i H y10 y11 y12 y16 hm h1 hi h
    have e : ¬ (i : Int) ≤ n := by omega
    refine law20_DequeThieves.L0_step ?_
    simp only [b_leq, bnd_some, e, decide_false, ifB_lit, Bool.false_eq_true, if_false]
    rw [show i - 1 = n by omega] at h
    exact Thv_L1 hK hn hl _ 0 H 0 _ _ _ _ rfl (by omega) h fun w _ _ => .inr (by simp [cnt])
  | succ m ih =>
    intro i H y10 y11 y12 y16 hm h1 hi h
    have e : (i : Int) ≤ n := by omega
    refine law20_DequeThieves.L0_step ?_
    simp only [b_leq, bnd_some, e, decide_true, ifB_lit, if_true]
    obtain ⟨s, hq, hpl, hx, ht, hbot, h01, hti, hno⟩ := h
    have hs : stepsF (i : Int) 3 = some n_deque_steal1 := by
      have a : (0 : Int) < i := by omega
      have b : i ≠ 0 := by omega
      simp [stepsF, a, b]
    refine Begin_go hq (w := i) (by omega) (hno i (by omega)) hs fun H' h' _ _ => ?_
    have e1 : wr .i64 ((i : Int) + 1) = ((i + 1 : Nat) : Int) := by rw [wr64 (by omega) (by omega)]; rfl
    simp only [b_add, bnd_some, e1]
    refine ih (i + 1) H' _ _ _ _ (by omega) (by omega) (by omega) ⟨_, h', hpl, hx, ht, hbot, .inl rfl, fun w hw1 hw2 => ?_, fun w hw => ?_⟩
    · by_cases ew : w = i
      · subst ew
        simp only [put, upd_same]
        exact .s1 rfl rfl
      · simp only [put, upd_ne _ _ ew]
        exact hti w hw1 (by omega)
    · have ew : w ≠ i := by omega
      simp only [put, upd_ne _ _ ew]
      exact hno w (by omega)
end
theorem DequeThieves_good (n : Int) (l : List Int) (x : Int) : ∃ Hf, Good Try.prog σ n_law20_DequeThieves [I n, ints l, I x] Hp.empty (Bo true) Hf := by
  have hno : noIds [I n, ints l, I x] = true := by
    have : ∀ l : List Int, noIdss (l.map fun b => [I b]) = true := by
      intro l
      induction l with
      | nil => rfl
      | cons b l ih => simp [noIdss, noIds, noId, ih]
    simp [noIds, noId, ints, this]
  refine ⟨Hp.empty, good_by (fun K hK => law20_DequeThieves.run ?_) hno rfl _⟩
  refine callK_of (alive20 _) ?_
  have hln : lenSl (ints l) = some (I l.length) := by simp [ints]
  simp only [u_not, bnd_some, ifB_lit, Bool.not_true, Bool.false_eq_true, if_false, hln, b_gtr, b_lss]
  by_cases h1 : n < 1
  · simp [h1]; exact hK _
  by_cases h2 : 20 < n
  · simp [h1, h2]; exact hK _
  by_cases h3 : (60 : Int) < l.length
  · simp [h1, h2, h3]; exact hK _
  simp only [h1, h2, h3, decide_false, Bool.false_eq_true, if_false]
  obtain ⟨a, rfl⟩ : ∃ k : Nat, n = k := ⟨n.toNat, by omega⟩
  refine QL.new (by omega) (by omega) fun H hq _ => ?_
  refine hq.push (by omega) (by simp) (by simp) fun H1 q1 _ => ?_
  obtain ⟨pl, top, bot, ⟨lw, lc, lr, la, q1⟩, hpl, t0, b1, hs, _, hv⟩ := q1
  simp at hs b1
  have et : top = 0 := by omega
  have eb : bot = 1 := by omega
  subst et eb
  have hx : pl.getD 0 0 = x := by
    have := hv 0 (by simp)
    simpa [pix] using this
  exact Thv_L0 hK ⟨by omega, by omega⟩ (by omega) a 1 H1 _ _ _ _ (by omega) (by omega) (by omega) ⟨_, q1, show pl.length = 3 by simpa using hpl, hx, rfl, rfl, .inl rfl, fun w h1 h2 => by omega, fun w _ => rfl⟩
theorem DequeThieves_walk {H : Type} {enc : TypeId × Value → H} (W : World) {v0 v1 v2 : Value} {r : Reach} {b0 base : Nat} {spare : Nat → Bool} {held : Bool} {d0 d1 d2 : DataW H} {p0 p1 p2 : List MemPlace}
    (e0 : Value.okWide Try.prog W r b0 T_int v0) (h0 : DataW.Trod enc Try.prog W base spare held T_int v0 d0 p0)
    (e1 : Value.okWide Try.prog W r b0 T_sl_int v1) (h1 : DataW.Trod enc Try.prog W base spare held T_sl_int v1 d1 p1)
    (e2 : Value.okWide Try.prog W r b0 T_int v2) (h2 : DataW.Trod enc Try.prog W base spare held T_int v2 d2 p2) :
    Calls Try.prog n_law20_DequeThieves #[v0, v1, v2] W fun e W' => e = .returned (.bool true) ∧ Below W.heap.size W W' := by
  have σ : Sig := ⟨fun _ => 0, fun _ => false, fun _ => ⟨#[]⟩⟩
  obtain ⟨x0, r0, s0⟩ := read_arg (P := Try.prog) (ti := tiT.get) (S := readD) (t := T_int) (σ := σ) tiT_ok readD_closed (inB_mem (by kernel_rfl)) e0 h0
  obtain ⟨x1, r1, s1⟩ := read_arg (P := Try.prog) (ti := tiT.get) (S := readD) (t := T_sl_int) (σ := σ) tiT_ok readD_closed (inB_mem (by kernel_rfl)) e1 h1
  obtain ⟨x2, r2, s2⟩ := read_arg (P := Try.prog) (ti := tiT.get) (S := readD) (t := T_int) (σ := σ) tiT_ok readD_closed (inB_mem (by kernel_rfl)) e2 h2
  obtain ⟨n, rfl, _⟩ := v_int s0
  obtain ⟨l, rfl, _⟩ := v_ints s1
  obtain ⟨x, rfl, _⟩ := v_int s2
  obtain ⟨Hf, hg⟩ := DequeThieves_good (σ := σ) n l x
  exact law_of_good (relL3 r0 r1 r2) hg
end Go.Proofs.Ytnloolhaojoimaa.Ev

/- DequeRace: the law. -/
import Derived.Test.YtnloolhaojoimaaRace
namespace Go.Proofs.Ytnloolhaojoimaa.Ev
open Go.RowKit
set_option linter.unusedVariables false
set_option linter.unusedSimpArgs false
set_option maxRecDepth 100000
variable {σ : Sig}
def and1B : Bool := (List.range 40).all fun i => decide (wr .i64 (BitVec.ofInt IntKind.i64.bits (i : Int) &&& BitVec.ofInt IntKind.i64.bits 1).toNat = ((i % 2 : Nat) : Int))
theorem and1B_ok : and1B = true := by kernel_rfl
theorem and1 {i : Nat} (h : i < 40) : binR .and (I i) (I 1) = some (I ((i % 2 : Nat) : Int)) := by
  rw [b_and]
  have := List.all_eq_true.1 and1B_ok i (List.mem_range.2 h)
  rw [of_decide_eq_true this]
theorem step0_tk (a : RA) : ((step0 a).tk = a.tk ∧ (Nat.beq a.po 6 = false ∨ (Nat.beq a.po 6 && a.ok) = false)) ∨ ((step0 a).tk = a.tk + 1 ∧ Nat.beq a.po 6 = true ∧ (Nat.beq a.po 6 && a.ok) = true) := by
  obtain ⟨po, ot, th, tt, top, bot, tk, ok, rd, td⟩ := a
  unfold step0
  simp only
  split
  · exact .inl ⟨rfl, .inl rfl⟩
  · exact .inl ⟨rfl, .inl rfl⟩
  · exact .inl ⟨rfl, .inl rfl⟩
  · exact .inl ⟨rfl, .inl rfl⟩
  · exact .inl ⟨rfl, .inl rfl⟩
  · cases ok
    · exact .inl ⟨rfl, .inr rfl⟩
    · exact .inr ⟨rfl, rfl, rfl⟩
  · rename_i h
    have : po ≠ 6 := by assumption
    exact .inl ⟨rfl, .inl (by rw [beqN]; simpa using this)⟩
section
attribute [local irreducible] law20_DequeRace.L0 law20_DequeRace.J1 law20_DequeRace.J2
theorem Race_J {d ip : Nat} {pl : List Int} {x : Int} {l : List Bool} {K : AV → Hp → Prop} {a : RA} {L' : List RA} {i : Nat} {w : Int} {H : Hp} (hi : i < 40) (ht : a.tk ≤ 5)
    (hS : ∀ K' : AV → Hp → Prop, (∀ H' a' e ok, RC H' d ip pl x a' → a' ∈ L' → (a'.tk = a.tk ∧ (e = false ∨ ok = false) ∨ a'.tk = a.tk + 1 ∧ e = true ∧ ok = true) → K' (.tup [Bo e, I (if ok = true then x else 0), Bo ok]) H') → callK Try.prog σ n_deque_Deque_Step [.ptr d 0, I w] H K')
    (hn : ∀ H' a' y11, RC H' d ip pl x a' → a' ∈ L' → law20_DequeRace.L0 σ K (bools l) (I x) (.ptr d 0) (Bo true) (I a'.tk) (I ((i + 1 : Nat) : Int)) y11 H') :
    law20_DequeRace.J1 σ K (bools l) (I x) (.ptr d 0) (Bo true) (I a.tk) (I i) (I w) H := by
  refine law20_DequeRace.J1_step (hS _ fun H' a' e ok hr hm ht' => ?_)
  have e1 : wr .i64 ((i : Int) + 1) = ((i + 1 : Nat) : Int) := by rw [wr64 (by omega) (by omega)]; rfl
  have e2 : wr .i64 ((a.tk : Int) + 1) = ((a.tk + 1 : Nat) : Int) := by rw [wr64 (by omega) (by omega)]; rfl
  have j2 : ∀ t : Nat, t = a'.tk → law20_DequeRace.J2 σ K (bools l) (I x) (.ptr d 0) (Bo true) (I t) (I i) (I w) H' := by
    intro t et
    subst et
    refine law20_DequeRace.J2_step ?_
    simp only [b_add, bnd_some, e1]
    exact hn H' a' _ hr hm
  cases e
  · simp
    refine j2 a.tk ?_
    rcases ht' with h | h
    · exact h.1.symm
    · cases h.2.1
  · cases ok
    · simp
      refine j2 a.tk ?_
      rcases ht' with h | h
      · exact h.1.symm
      · cases h.2.2
    · simp
      rw [e2]
      refine j2 (a.tk + 1) ?_
      rcases ht' with h | h
      · rcases h.2 with h | h <;> cases h
      · exact h.1.symm
theorem Race_L0 {d ip : Nat} {pl : List Int} {x : Int} {l : List Bool} {K : AV → Hp → Prop} (hl : l.length ≤ 30) (hpl : pl.length = 4) (hx : pl.getD (pix pl 0) 0 = x) (hK : ∀ H, K (Bo true) H) : ∀ (m i : Nat) (L : List RA) (a : RA) (H : Hp) (y11 : AV), m + i = 40 → chk m i L = true → a ∈ L → RC H d ip pl x a →
    law20_DequeRace.L0 σ K (bools l) (I x) (.ptr d 0) (Bo true) (I a.tk) (I i) y11 H := by
  intro m
  induction m with
  | zero =>
    intro i L a H y11 hmi hc ha h
    have e : i = 40 := by omega
    subst e
    have hf := List.all_eq_true.1 hc a ha
    simp only [fin, Bool.and_eq_true] at hf
    obtain ⟨f1, f2, f3, f4, f5⟩ := hf
    have f1 := Nat.eq_of_beq_eq_true f1
    have f2 := Nat.eq_of_beq_eq_true f2
    have f3 := Nat.eq_of_beq_eq_true f3
    have f4 := Nat.eq_of_beq_eq_true f4
    have f5 := Nat.eq_of_beq_eq_true f5
    obtain ⟨id0, id1, b1, lw, lc, lr, la, h⟩ := h
    have ef : fR (oO x id0 a) (oT x id1 b1 a) = noop := by
      funext w
      simp [fR, oO, oT, f1, f2, noop]
    rw [ef, f4, f5] at h
    have hq : Q H d ip pl 1 1 := ⟨lw, lc, lr, la, h⟩
    refine law20_DequeRace.L0_step ?_
    simp
    refine wh_pop_none hq ⟨by omega, rfl, by omega⟩ fun H1 ⟨lw, lc, lr, la, q1⟩ _ => ?_
    simp [f3]
    refine Busy_sp q1 ?_
    simp [QS, noop]
    refine Busy_sp q1 ?_
    simp [QS, noop]
    refine Len_sp q1 (by simp [QS]; rw [wr64 (by omega) (by omega)]) ?_
    simp [QS]
    exact hK _
  | succ m ih =>
    intro i L a H y11 hmi hc ha h
    have hi : i < 40 := by omega
    have hlt : (i : Int) < 40 := by omega
    simp only [chk, Bool.and_eq_true] at hc
    obtain ⟨hgood, hc⟩ := hc
    have hg := List.all_eq_true.1 hgood a ha
    have htk : a.tk ≤ 5 := by
      simp only [good, Bool.and_eq_true] at hg
      exact Nat.le_of_ble_eq_true hg.2.2.1
    have J : ∀ L', chk m (i + 1) L' = true → (step0 a ∈ L' → law20_DequeRace.J1 σ K (bools l) (I x) (.ptr d 0) (Bo true) (I a.tk) (I i) (I 0) H) ∧ (step1 a ∈ L' → law20_DequeRace.J1 σ K (bools l) (I x) (.ptr d 0) (Bo true) (I a.tk) (I i) (I 1) H) := by
      intro L' hL'
      refine ⟨fun hm => ?_, fun hm => ?_⟩
      · exact Race_J (L' := L') hi htk (fun K' hK' => h.s0 hg hpl hx fun H' hr => hK' H' _ _ _ hr hm (step0_tk a)) fun H' a' y hr hm' => ih (i + 1) L' a' H' y (by omega) hL' hm' hr
      · exact Race_J (L' := L') hi htk (fun K' hK' => h.s1 hg hpl hx fun H' hr e ok ht => hK' H' _ e ok hr hm ht) fun H' a' y hr hm' => ih (i + 1) L' a' H' y (by omega) hL' hm' hr
    refine law20_DequeRace.L0_step ?_
    have hln : lenSl (bools l) = some (I l.length) := by simp [bools]
    simp only [b_lss, bnd_some, hlt, decide_true, ifB_lit, if_true, and1 hi, hln]
    by_cases hil : i < l.length
    · have hlt2 : (i : Int) < l.length := by omega
      have hix : ixaSl 1 (bools l) (I i) = some (.ip [Bo l[i]]) := by
        unfold bools
        rw [ix_imm]
        simp [hil]
      have h30 : Nat.ble 30 i = false := by rw [bleN]; simp; omega
      rw [h30] at hc
      simp only [cond_false] at hc
      obtain ⟨m0, m1⟩ := mem_nexts (f := step0) (g := step1) ha
      simp only [hlt2, decide_true, if_true, hix, bnd_some, ld_ip, ldL_one, ifB_lit]
      split
      · exact (J _ hc).2 m1
      · exact (J _ hc).1 m0
    · have hlt2 : ¬ (i : Int) < l.length := by omega
      simp only [hlt2, decide_false, Bool.false_eq_true, if_false]
      rcases Nat.mod_two_eq_zero_or_one i with hm | hm
      · rw [hm]
        cases hb : Nat.ble 30 i with
        | true =>
          rw [hb] at hc
          simp only [cond_true, hm] at hc
          exact (J _ hc).1 (mem_nexts (f := step0) (g := step0) ha).1
        | false =>
          rw [hb] at hc
          simp only [cond_false] at hc
          exact (J _ hc).1 (mem_nexts (f := step0) (g := step1) ha).1
      · rw [hm]
        cases hb : Nat.ble 30 i with
        | true =>
          rw [hb] at hc
          simp only [cond_true, hm] at hc
          exact (J _ hc).2 (mem_nexts (f := step1) (g := step1) ha).1
        | false =>
          rw [hb] at hc
          simp only [cond_false] at hc
          exact (J _ hc).2 (mem_nexts (f := step0) (g := step1) ha).2
theorem DequeRace_good (l : List Bool) (x : Int) : ∃ Hf, Good Try.prog σ n_law20_DequeRace [bools l, I x] Hp.empty (Bo true) Hf := by
  have hno : noIds [bools l, I x] = true := by
    have : ∀ l : List Bool, noIdss (l.map fun b => [Bo b]) = true := by
      intro l
      induction l with
      | nil => rfl
      | cons b l ih => simp [noIdss, noIds, noId, ih]
    simp [noIds, noId, bools, this]
  refine ⟨Hp.empty, good_by (fun K hK => law20_DequeRace.run ?_) hno rfl _⟩
  refine callK_of (alive20 _) ?_
  have hln : lenSl (bools l) = some (I l.length) := by simp [bools]
  simp only [u_not, bnd_some, ifB_lit, Bool.not_true, Bool.false_eq_true, if_false, hln, b_gtr]
  by_cases h3 : (30 : Int) < l.length
  · simp [h3]; exact hK _
  simp only [h3, decide_false, Bool.false_eq_true, if_false]
  refine QL.new (by omega) (by omega) fun H hq _ => ?_
  refine hq.push (by omega) (by simp) (by simp) fun H1 q1 _ => ?_
  obtain ⟨pl, top, bot, ⟨lw, lc, lr, la, q1⟩, hpl, t0, b1, hs, _, hv⟩ := q1
  simp at hs b1
  have et : top = 0 := by omega
  have eb : bot = 1 := by omega
  subst et eb
  have hx : pl.getD (pix pl 0) 0 = x := by
    have := hv 0 (by simp)
    simpa using this
  simp only [x_tup, List.getElem?_cons_zero, List.getElem?_cons_succ, bnd_some]
  refine Begin_go (w := 0) (g := n_deque_pop1) q1 (by omega) rfl rfl fun H2 h2 _ _ => ?_
  refine Begin_go (w := 1) (g := n_deque_steal1) h2 (by omega) rfl rfl fun H3 h3' _ _ => ?_
  have hr : RC H3 (Hp.empty.n + 1) Hp.empty.n pl x a0 := by
    refine ⟨H1.n, H2.n, 0, lw, lc, lr, la, ?_⟩
    have e : upd (upd noop 0 (some ⟨H1.n, 0, 0, 0, false, .fn n_deque_pop1 []⟩)) 1 (some ⟨H2.n, 0, 0, 0, false, .fn n_deque_steal1 []⟩) = fR (oO x H1.n a0) (oT x H2.n 0 a0) := by
      funext w
      by_cases w0 : w = 0
      · subst w0; rfl
      · by_cases w1 : w = 1
        · subst w1; rfl
        · simp [w0, w1, fR, noop]
    simp only [put, QS, e] at h3'
    exact h3'
  exact Race_L0 (by omega) (by simpa using hpl) hx hK 40 0 [a0] a0 H3 _ rfl chk_all (by simp) hr
end
theorem DequeRace_walk {H : Type} {enc : TypeId × Value → H} (W : World) {v0 v1 : Value} {r : Reach} {b0 base : Nat} {spare : Nat → Bool} {held : Bool} {d0 d1 : DataW H} {p0 p1 : List MemPlace}
    (e0 : Value.okWide Try.prog W r b0 T_sl_bool v0) (h0 : DataW.Trod enc Try.prog W base spare held T_sl_bool v0 d0 p0)
    (e1 : Value.okWide Try.prog W r b0 T_int v1) (h1 : DataW.Trod enc Try.prog W base spare held T_int v1 d1 p1) :
    Calls Try.prog n_law20_DequeRace #[v0, v1] W fun e W' => e = .returned (.bool true) ∧ Below W.heap.size W W' := by
  have σ : Sig := ⟨fun _ => 0, fun _ => false, fun _ => ⟨#[]⟩⟩
  obtain ⟨x0, r0, s0⟩ := read_arg (P := Try.prog) (ti := tiT.get) (S := readD) (t := T_sl_bool) (σ := σ) tiT_ok readD_closed (inB_mem (by kernel_rfl)) e0 h0
  obtain ⟨x1, r1, s1⟩ := read_arg (P := Try.prog) (ti := tiT.get) (S := readD) (t := T_int) (σ := σ) tiT_ok readD_closed (inB_mem (by kernel_rfl)) e1 h1
  obtain ⟨l, rfl⟩ := v_bools s0
  obtain ⟨n, rfl, _⟩ := v_int s1
  obtain ⟨Hf, hg⟩ := DequeRace_good (σ := σ) l n
  exact law_of_good (relL2 r0 r1) hg
end Go.Proofs.Ytnloolhaojoimaa.Ev

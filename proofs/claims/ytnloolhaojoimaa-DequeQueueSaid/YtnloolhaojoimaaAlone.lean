/- DequeAlone. -/
import Derived.Test.YtnloolhaojoimaaLaws
import Derived.Test.YtnloolhaojoimaaAlive20
import Derived.Test.YtnloolhaojoimaaDecode
namespace Go.Proofs.Ytnloolhaojoimaa.Ev
open Go.RowKit
set_option linter.unusedVariables false
set_option linter.unusedSimpArgs false
set_option maxRecDepth 100000
variable {σ : Sig}
/-- A list that grew, beside the deque. -/
def Gi (H : Hp) (d ip : Nat) (y : AV) (q : List Int) : Prop := (y = .lit (.slice none 0 0) ∧ q = []) ∨ ∃ id off cs ex, y = .sl id off 1 q.length none ∧ id < H.n ∧ id ≠ d ∧ id ≠ ip ∧ H.get id = some (.cells cs ex) ∧ off + q.length ≤ cs.length ∧ (cs.drop off).take q.length = q.map I
theorem Gi.keep {H H' : Hp} {d ip : Nat} {y : AV} {q : List Int} (h : Gi H d ip y q) (F : Fw H d ip H') : Gi H' d ip y q := by
  rcases h with h | ⟨id, off, cs, ex, e, hl, n1, n2, hg, hle, hv⟩
  · exact .inl h
  · exact .inr ⟨id, off, cs, ex, e, Nat.lt_of_lt_of_le hl F.n, n1, n2, by rw [F.g id hl n1 n2]; exact hg, hle, hv⟩
theorem Gi.len {H : Hp} {d ip : Nat} {y : AV} {q : List Int} (h : Gi H d ip y q) : lenSl y = some (I q.length) := by
  rcases h with ⟨rfl, rfl⟩ | ⟨id, off, cs, ex, rfl, _⟩ <;> rfl
theorem Gi.app {H : Hp} {d ip : Nat} {y : AV} {q : List Int} {x : Int} (h : Gi H d ip y q) (hq : q.length ≤ 1000) (hd : d < H.n) (hp : ip < H.n) : ∃ y' H', appR false 1 8 (H.new (.cells [I x] true)) y (.sl H.n 0 1 1 (some 1)) = some (y', H') ∧ Gi H' d ip y' (q ++ [x]) ∧ H'.get d = H.get d ∧ H'.get ip = H.get ip ∧ H.n ≤ H'.n := by
  have src : srcA (H.new (.cells [I x] true)) 1 (.sl H.n 0 1 1 (some 1)) = some (1, [I x]) := src_sl1 (row := [I x]) (ex := true) (by simp) rfl
  unfold appR
  simp only [src]
  rcases h with ⟨rfl, rfl⟩ | ⟨id, off, cs, ex, rfl, hl, n1, n2, hg, hle, hv⟩
  · refine ⟨.sl (H.n + 1) 0 1 1 none, (H.new (.cells [I x] true)).new (.cells [I x] false), by simp [notStr, beqN, bleN], .inr ⟨H.n + 1, 0, [I x], false, rfl, by simp, by omega, by omega, by simp, by simp, by simp⟩, ?_, ?_, ?_⟩
    · have a : d ≠ H.n := by omega
      have b : d ≠ H.n + 1 := by omega
      simp [a, b]
    · have a : ip ≠ H.n := by omega
      have b : ip ≠ H.n + 1 := by omega
      simp [a, b]
    · simp; omega
  · have hne : id ≠ H.n := by omega
    refine ⟨.sl (H.n + 1) 0 1 (q.length + 1) none, ((H.new (.cells [I x] true)).set id none).new (.cells ((cs.drop off).take q.length ++ [I x]) false), ?_, .inr ⟨H.n + 1, 0, _, false, by simp, by simp, by omega, by omega, by simp; rfl, ?_, ?_⟩, ?_, ?_, ?_⟩
    · have b1 : (q.length + 1) * 8 ≤ 140737488355328 := by omega
      have b2 : q.length + 1 ≤ 4611686018427387904 := by omega
      simp [notStr, beqN, bleN, hg, hne, hle, b1, b2]
    · rw [hv]; simp
    · rw [hv]
      have : (q ++ [x]).length = (List.map I q ++ [I x]).length := by simp
      rw [this, List.drop_zero, List.take_length]; simp
    · have a : d ≠ H.n := by omega
      have b : d ≠ H.n + 1 := by omega
      simp [a, b, Ne.symm n1]
    · have a : ip ≠ H.n := by omega
      have b : ip ≠ H.n + 1 := by omega
      simp [a, b, Ne.symm n2]
    · simp; omega
theorem Gi.last {H : Hp} {d ip : Nat} {y : AV} {q : List Int} {x : Int} (h : Gi H d ip y (q ++ [x])) {K : AV → Prop} (hK : K (I x)) : bnd (ixaSl 1 y (I q.length)) fun x26 => bnd (ldA false 1 H x26) K := by
  rcases h with ⟨rfl, e⟩ | ⟨id, off, cs, ex, rfl, hl, n1, n2, hg, hle, hv⟩
  · simp at e
  · simp at hle hv
    rw [ix_sl (by omega) (by simp; omega)]
    simp [hg]
    have e : (List.take (q.length + 1) (List.drop off cs))[q.length]? = some (I x) := by rw [hv]; simp
    rw [List.getElem?_take, if_pos (by omega), List.getElem?_drop] at e
    obtain ⟨hlt, e2⟩ := List.getElem?_eq_some_iff.1 e
    rw [List.drop_eq_getElem_cons hlt, e2]
    simpa using hK
theorem Gi.cut {H : Hp} {d ip : Nat} {y : AV} {q : List Int} {x : Int} (h : Gi H d ip y (q ++ [x])) : ∃ y', slSl 1 y none (some (I q.length)) none = some y' ∧ Gi H d ip y' q := by
  rcases h with ⟨rfl, e⟩ | ⟨id, off, cs, ex, rfl, hl, n1, n2, hg, hle, hv⟩
  · simp at e
  · simp at hle hv
    refine ⟨.sl id off 1 q.length none, ?_, .inr ⟨id, off, cs, ex, rfl, hl, n1, n2, hg, by omega, ?_⟩⟩
    · have h : (q.length : Int) ≤ q.length + 1 := by omega
      simp [slSl, intO, intA, slSl0, boundsA, boundA, beqN, h]
    · have := congrArg (List.take q.length) hv
      rw [List.take_take, Nat.min_eq_left (by omega)] at this
      rw [this]
      simp
theorem Q.keep {H H' : Hp} {d ip : Nat} {pl : List Int} {top bot : Int} (h : Q H d ip pl top bot) (h1 : H'.get d = H.get d) (h2 : H'.get ip = H.get ip) (hn : H.n ≤ H'.n) : Q H' d ip pl top bot := by
  obtain ⟨lw, lc, lr, la, h⟩ := h
  exact ⟨lw, lc, lr, la, by rw [h1]; exact h.hd, by show H'.get ip = _; rw [h2]; exact h.hp, fun w o _ ho => by simp [QS, noop] at ho, fun w _ o _ _ _ ho => by simp [QS, noop] at ho, Nat.lt_of_lt_of_le h.dl hn, Nat.lt_of_lt_of_le h.pl hn, h.dp⟩
theorem QL.keep {H H' : Hp} {d ip n : Nat} {q : List Int} {c : Int} (h : QL H d ip n q c) (h1 : H'.get d = H.get d) (h2 : H'.get ip = H.get ip) (hn : H.n ≤ H'.n) : QL H' d ip n q c := by
  obtain ⟨pl, top, bot, hq, r⟩ := h
  exact ⟨pl, top, bot, hq.keep h1 h2 hn, r⟩
theorem QL.lt {H : Hp} {d ip n : Nat} {q : List Int} {c : Int} (h : QL H d ip n q c) : d < H.n ∧ ip < H.n := by
  obtain ⟨pl, top, bot, ⟨lw, lc, lr, la, hq⟩, r⟩ := h
  exact ⟨hq.dl, hq.pl⟩
theorem QL.qlen {H : Hp} {d ip n : Nat} {q : List Int} {c : Int} (h : QL H d ip n q c) : q.length ≤ n := by
  obtain ⟨pl, top, bot, hq, a, b, e, f, g, _⟩ := h
  exact g
theorem bld1 (H : Hp) (x : Int) : bldSlR [.int .i64 0] 1 1 H [(0, 1, I x)] = some (.sl H.n 0 1 1 (some 1), H.new (.cells [I x] true)) := id rfl
section
attribute [local irreducible] law20_DequeAlone.L0 law20_DequeAlone.J1
theorem Alone_L0 {n d ip : Nat} {l : List Bool} {K : AV → Hp → Prop} (h1 : 1 ≤ n ∧ n ≤ 20) (hl : l.length ≤ 100) (hK : ∀ H, K (Bo true) H) : ∀ (m i : Nat) (H : Hp) (y : AV) (q : List Int) (c : Int), l.length - i = m → i ≤ l.length → c ≤ i → QL H d ip n q c → Gi H d ip y q →
    law20_DequeAlone.L0 σ K (I n) (bools l) (.ptr d 0) y (I i) H := by
  intro m
  induction m with
  | zero =>
    intro i H y q c hm hi hc hq hy
    have e : i = l.length := by omega
    subst e
    refine law20_DequeAlone.L0_step ?_
    simp [bools]
    exact hK _
  | succ m ih =>
    intro i H y q c hm hi hc hq hy
    have hil : i < l.length := by omega
    have J : ∀ (H : Hp) (y : AV) (q : List Int) (c : Int), c ≤ i + 1 → QL H d ip n q c → Gi H d ip y q → law20_DequeAlone.J1 σ K (I n) (bools l) (.ptr d 0) y (I i) H := by
      intro H y q c hc hq hy
      refine law20_DequeAlone.J1_step (hq.len (by omega) ?_)
      simp [hy.len]
      have e : wr .i64 ((i : Int) + 1) = ((i + 1 : Nat) : Int) := by rw [wr64 (by omega) (by omega)]; rfl
      rw [e]
      exact ih (i + 1) H y q c (by omega) (by omega) (by omega) hq hy
    refine law20_DequeAlone.L0_step ?_
    have hlt : (i : Int) < l.length := by omega
    have hix : ixaSl 1 (bools l) (I i) = some (.ip [Bo l[i]]) := by
      unfold bools
      rw [ix_imm]
      simp [hil]
    have hln : lenSl (bools l) = some (I l.length) := by simp [bools]
    simp [hln, hlt, hix]
    split
    · by_cases hf : q.length = n
      · refine hq.push_full (by omega) hf fun H1 q1 F1 => ?_
        simp [hy.len, hf]
        exact J H1 y q c (by omega) q1 (hy.keep F1)
      · have hlt2 : q.length < n := by have := hq.qlen; omega
        refine hq.push (by omega) (by omega) hlt2 fun H1 q1 F1 => ?_
        have hlt3 : (q.length : Int) < n := by omega
        obtain ⟨y', H', ea, ha, k1, k2, k3⟩ := (hy.keep F1).app (x := i) (by omega) q1.lt.1 q1.lt.2
        simp only [x_tup, List.getElem?_cons_zero, List.getElem?_cons_succ, bnd_some, hy.len, b_lss, hlt3, decide_true, e_boolN, BEq.rfl, Bool.not_true, ifB_lit, Bool.false_eq_true, if_false, if_true, b_neq, bld1]
        rw [ea]
        simp only [bnd_some]
        exact J H' y' (q ++ [(i : Int)]) (c + 1) (by omega) (q1.keep k1 k2 k3) ha
    · rcases List.eq_nil_or_concat q with rfl | ⟨q', x, rfl⟩
      · refine hq.pop_none (by omega) fun H1 q1 F1 => ?_
        simp [hy.len]
        exact J H1 y [] c (by omega) q1 (hy.keep F1)
      · rw [List.concat_eq_append] at hq hy
        refine hq.pop (by omega) (by omega) fun H1 q1 F1 => ?_
        have hy1 := hy.keep F1
        obtain ⟨y', ea, ha⟩ := hy1.cut
        have hql := hq.qlen
        simp at hql
        have e1 : wr .i64 (((q'.length + 1 : Nat) : Int) - 1) = q'.length := by rw [wr64 (by omega) (by omega)]; omega
        have hp : (0 : Int) < ((q'.length + 1 : Nat) : Int) := by omega
        have hlen : lenSl y = some (I ((q'.length + 1 : Nat) : Int)) := by have := hy.len; simpa using this
        simp only [x_tup, List.getElem?_cons_zero, List.getElem?_cons_succ, bnd_some, hlen, b_gtr, hp, decide_true, e_boolN, ifB_lit, b_sub, e1, BEq.rfl, Bool.not_true, Bool.false_eq_true, if_false, if_true]
        refine hy1.last ?_
        simp [ea]
        exact J H1 y' q' c (by omega) q1 ha
theorem DequeAlone_good (n : Int) (l : List Bool) : ∃ Hf, Good Try.prog σ n_law20_DequeAlone [I n, bools l] Hp.empty (Bo true) Hf := by
  have hno : noIds [I n, bools l] = true := by
    have : ∀ l : List Bool, noIdss (l.map fun b => [Bo b]) = true := by
      intro l
      induction l with
      | nil => rfl
      | cons b l ih => simp [noIdss, noIds, noId, ih]
    simp [noIds, noId, bools, this]
  refine ⟨Hp.empty, good_by (fun K hK => law20_DequeAlone.run ?_) hno rfl _⟩
  refine callK_of (alive20 _) ?_
  simp
  by_cases h1 : n < 1
  · simp [h1]; exact hK _
  by_cases h2 : 20 < n
  · simp [h1, h2]; exact hK _
  have hln : lenSl (bools l) = some (I l.length) := by simp [bools]
  simp only [h1, h2, if_false, hln, bnd_some, b_gtr, ifB_lit]
  by_cases h3 : (100 : Int) < l.length
  · simp [h3]; exact hK _
  simp only [h3, decide_false]
  obtain ⟨a, rfl⟩ : ∃ k : Nat, n = k := ⟨n.toNat, by omega⟩
  refine QL.new (by omega) (by omega) fun H hq _ => ?_
  simp only [Int.toNat_natCast] at hq
  exact Alone_L0 ⟨by omega, by omega⟩ (by omega) hK _ 0 H _ [] 0 rfl (by omega) (by omega) hq (.inl ⟨rfl, rfl⟩)
end
theorem DequeAlone_walk {H : Type} {enc : TypeId × Value → H} (W : World) {v0 v1 : Value} {r : Reach} {b0 base : Nat} {spare : Nat → Bool} {held : Bool} {d0 d1 : DataW H} {p0 p1 : List MemPlace}
    (e0 : Value.okWide Try.prog W r b0 T_int v0) (h0 : DataW.Trod enc Try.prog W base spare held T_int v0 d0 p0)
    (e1 : Value.okWide Try.prog W r b0 T_sl_bool v1) (h1 : DataW.Trod enc Try.prog W base spare held T_sl_bool v1 d1 p1) :
    Calls Try.prog n_law20_DequeAlone #[v0, v1] W fun e W' => e = .returned (.bool true) ∧ Below W.heap.size W W' := by
  have σ : Sig := ⟨fun _ => 0, fun _ => false, fun _ => ⟨#[]⟩⟩
  obtain ⟨x0, r0, s0⟩ := read_arg (P := Try.prog) (ti := tiT.get) (S := readD) (t := T_int) (σ := σ) tiT_ok readD_closed (inB_mem (by kernel_rfl)) e0 h0
  obtain ⟨x1, r1, s1⟩ := read_arg (P := Try.prog) (ti := tiT.get) (S := readD) (t := T_sl_bool) (σ := σ) tiT_ok readD_closed (inB_mem (by kernel_rfl)) e1 h1
  obtain ⟨n, rfl, _⟩ := v_int s0
  obtain ⟨l, rfl⟩ := v_bools s1
  obtain ⟨Hf, hg⟩ := DequeAlone_good (σ := σ) n l
  exact law_of_good (relL2 r0 r1) hg
end Go.Proofs.Ytnloolhaojoimaa.Ev

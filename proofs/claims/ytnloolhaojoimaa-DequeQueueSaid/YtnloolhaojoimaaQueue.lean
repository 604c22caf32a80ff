/- DequeQueue. -/
import Derived.Test.YtnloolhaojoimaaAlone
namespace Go.Proofs.Ytnloolhaojoimaa.Ev
open Go.RowKit
set_option linter.unusedVariables false
set_option linter.unusedSimpArgs false
set_option maxRecDepth 100000
variable {σ : Sig}
/-- A list that grows behind and shrinks in front, beside the deque. -/
def Gq (H : Hp) (d ip : Nat) (y : AV) (q : List Int) : Prop := Gi H d ip y q ∨ ∃ id off cs ex, y = .se id off 1 ∧ q = [] ∧ id < H.n ∧ id ≠ d ∧ id ≠ ip ∧ H.get id = some (.cells cs ex) ∧ off ≤ cs.length
theorem Gq.keep {H H' : Hp} {d ip : Nat} {y : AV} {q : List Int} (h : Gq H d ip y q) (F : Fw H d ip H') : Gq H' d ip y q := by
  rcases h with h | ⟨id, off, cs, ex, e, hq, hl, n1, n2, hg, hle⟩
  · exact .inl (h.keep F)
  · exact .inr ⟨id, off, cs, ex, e, hq, Nat.lt_of_lt_of_le hl F.n, n1, n2, by rw [F.g id hl n1 n2]; exact hg, hle⟩
theorem Gq.len {H : Hp} {d ip : Nat} {y : AV} {q : List Int} (h : Gq H d ip y q) : lenSl y = some (I q.length) := by
  rcases h with h | ⟨id, off, cs, ex, rfl, rfl, _⟩
  · exact h.len
  · rfl
theorem Gq.app {H : Hp} {d ip : Nat} {y : AV} {q : List Int} {x : Int} (h : Gq H d ip y q) (hq : q.length ≤ 1000) (hd : d < H.n) (hp : ip < H.n) : ∃ y' H', appR false 1 8 (H.new (.cells [I x] true)) y (.sl H.n 0 1 1 (some 1)) = some (y', H') ∧ Gq H' d ip y' (q ++ [x]) ∧ H'.get d = H.get d ∧ H'.get ip = H.get ip ∧ H.n ≤ H'.n := by
  rcases h with h | ⟨id, off, cs, ex, rfl, rfl, hl, n1, n2, hg, hle⟩
  · obtain ⟨y', H', e1, e2, e3⟩ := h.app (x := x) hq hd hp
    exact ⟨y', H', e1, .inl e2, e3⟩
  · have src : srcA (H.new (.cells [I x] true)) 1 (.sl H.n 0 1 1 (some 1)) = some (1, [I x]) := src_sl1 (row := [I x]) (ex := true) (by simp) rfl
    unfold appR
    simp only [src]
    have hne : id ≠ H.n := by omega
    refine ⟨.sl (H.n + 1) 0 1 1 none, ((H.new (.cells [I x] true)).set id none).new (.cells [I x] false), by simp [notStr, beqN, bleN, hg, hne, hle], .inl (.inr ⟨H.n + 1, 0, [I x], false, rfl, by simp, by omega, by omega, by simp, by simp, by simp⟩), ?_, ?_, ?_⟩
    · have a : d ≠ H.n := by omega
      have b : d ≠ H.n + 1 := by omega
      simp [a, b, Ne.symm n1]
    · have a : ip ≠ H.n := by omega
      have b : ip ≠ H.n + 1 := by omega
      simp [a, b, Ne.symm n2]
    · simp; omega
theorem Gq.first {H : Hp} {d ip : Nat} {y : AV} {q : List Int} {x : Int} (h : Gq H d ip y (x :: q)) {K : AV → Prop} (hK : K (I x)) : bnd (ixaSl 1 y (I 0)) fun x26 => bnd (ldA false 1 H x26) K := by
  rcases h with (⟨rfl, e⟩ | ⟨id, off, cs, ex, rfl, hl, n1, n2, hg, hle, hv⟩) | ⟨id, off, cs, ex, rfl, e, _⟩
  · cases e
  · simp at hle hv
    have h1 : (0 : Int) < ((x :: q).length : Nat) := by rw [List.length_cons]; omega
    rw [ix_sl (by omega) h1]
    simp [hg]
    obtain ⟨c, r, hr⟩ : ∃ c r, cs.drop off = c :: r := by
      cases hd : cs.drop off with
      | nil => rw [hd] at hv; simp at hv
      | cons c r => exact ⟨c, r, rfl⟩
    rw [hr] at hv ⊢
    simp at hv
    rw [hv.1]
    simpa using hK
  · cases e
theorem Gq.tail {H : Hp} {d ip : Nat} {y : AV} {q : List Int} {x : Int} (h : Gq H d ip y (x :: q)) : ∃ y', slSl 1 y (some (I 1)) none none = some y' ∧ Gq H d ip y' q := by
  rcases h with (⟨rfl, e⟩ | ⟨id, off, cs, ex, rfl, hl, n1, n2, hg, hle, hv⟩) | ⟨id, off, cs, ex, rfl, e, _⟩
  · cases e
  · simp at hle hv
    cases q with
    | nil =>
      refine ⟨.se id (off + 1) 1, ?_, .inr ⟨id, off + 1, cs, ex, rfl, rfl, hl, n1, n2, hg, by simpa using hle⟩⟩
      simp [slSl, intO, intA, slSl0, boundsA, boundA, beqN]
    | cons z q =>
      refine ⟨.sl id (off + 1) 1 (z :: q).length none, ?_, .inl (.inr ⟨id, off + 1, cs, ex, rfl, hl, n1, n2, hg, by simp at hle ⊢; omega, ?_⟩)⟩
      · have h1 : (1 : Int) ≤ ((x :: z :: q).length : Nat) := by simp; omega
        have h3 : (1 : Int) ≤ (q.length : Int) + 1 + 1 := by omega
        simp [slSl, intO, intA, slSl0, boundsA, boundA, beqN, h3]
      · obtain ⟨c, r, hr⟩ : ∃ c r, cs.drop off = c :: r := by
          cases hd : cs.drop off with
          | nil => rw [hd] at hv; simp at hv
          | cons c r => exact ⟨c, r, rfl⟩
        have : cs.drop (off + 1) = r := by rw [← List.drop_drop, hr]; rfl
        rw [this]
        rw [hr] at hv
        simp at hv ⊢
        exact hv.2
  · cases e
theorem and63 (v : Int) : ∃ k : Nat, k ≤ 63 ∧ binR .and (I v) (I 63) = some (I k) := by
  refine ⟨(BitVec.ofInt IntKind.i64.bits v &&& BitVec.ofInt IntKind.i64.bits 63).toNat, ?_, ?_⟩
  · rw [BitVec.toNat_and]
    exact Nat.and_le_right
  · rw [b_and]
    have : (BitVec.ofInt IntKind.i64.bits v &&& BitVec.ofInt IntKind.i64.bits 63).toNat ≤ 63 := by
      rw [BitVec.toNat_and]
      exact Nat.and_le_right
    rw [wr64 (by omega) (by omega)]
section
attribute [local irreducible] law20_DequeQueue.L0 law20_DequeQueue.J1
theorem Queue_L0 {n d ip : Nat} {l : List Bool} {th : List Int} {K : AV → Hp → Prop} (h1 : 1 ≤ n ∧ n ≤ 20) (hl : l.length ≤ 100) (hth : l.length ≤ th.length) (hK : ∀ H, K (Bo true) H) : ∀ (m i : Nat) (H : Hp) (y : AV) (q : List Int) (c : Int), l.length - i = m → i ≤ l.length → c ≤ i → QL H d ip n q c → Gq H d ip y q →
    law20_DequeQueue.L0 σ K (I n) (bools l) (ints th) (.ptr d 0) y (I i) H := by
  intro m
  induction m with
  | zero =>
    intro i H y q c hm hi hc hq hy
    have e : i = l.length := by omega
    subst e
    refine law20_DequeQueue.L0_step ?_
    have hln : lenSl (bools l) = some (I l.length) := by simp [bools]
    simp only [hln, bnd_some, b_lss, Int.lt_irrefl, decide_false, ifB_lit, Bool.false_eq_true, if_false]
    refine hq.len (by omega) ?_
    simp [hy.len]
    exact hK _
  | succ m ih =>
    intro i H y q c hm hi hc hq hy
    have hil : i < l.length := by omega
    have J : ∀ (H : Hp) (y : AV) (q : List Int) (c : Int), c ≤ i + 1 → QL H d ip n q c → Gq H d ip y q → law20_DequeQueue.J1 σ K (I n) (bools l) (ints th) (.ptr d 0) y (I i) H := by
      intro H y q c hc hq hy
      refine law20_DequeQueue.J1_step ?_
      have e : wr .i64 ((i : Int) + 1) = ((i + 1 : Nat) : Int) := by rw [wr64 (by omega) (by omega)]; rfl
      simp only [b_add, bnd_some, e]
      exact ih (i + 1) H y q c (by omega) (by omega) (by omega) hq hy
    refine law20_DequeQueue.L0_step ?_
    have hlt : (i : Int) < l.length := by omega
    have hix : ixaSl 1 (bools l) (I i) = some (.ip [Bo l[i]]) := by
      unfold bools
      rw [ix_imm]
      simp [hil]
    have hit : i < th.length := by omega
    have hix2 : ixaSl 1 (ints th) (I i) = some (.ip [I th[i]]) := by
      unfold ints
      rw [ix_imm]
      simp [hit]
    have hln : lenSl (bools l) = some (I l.length) := by simp [bools]
    simp only [hln, bnd_some, b_lss, hlt, decide_true, ifB_lit, if_true, hix, ld_ip, ldL_one]
    split
    · by_cases hf : q.length = n
      · refine hq.push_full (by omega) hf fun H1 q1 F1 => ?_
        simp [hy.len, hf]
        exact J H1 y q c (by omega) q1 (hy.keep F1)
      · have hlt2 : q.length < n := by have := hq.qlen; omega
        refine hq.push (by omega) (by omega) hlt2 fun H1 q1 F1 => ?_
        have hlt3 : (q.length : Int) < n := by omega
        obtain ⟨y', H', ea, ha, k1, k2, k3⟩ := (hy.keep F1).app (x := i) (by omega) q1.lt.1 q1.lt.2
        simp only [x_tup, List.getElem?_cons_zero, List.getElem?_cons_succ, bnd_some, hy.len, b_lss, hlt3, decide_true, e_boolN, BEq.rfl, Bool.not_true, ifB_lit, Bool.false_eq_true, if_false, if_true, b_neq, bld1]
        rw [ea]
        simp only [bnd_some]
        exact J H' y' (q ++ [(i : Int)]) (c + 1) (by omega) (q1.keep k1 k2 k3) ha
    · obtain ⟨k, hk, ea⟩ := and63 th[i]
      have ew : wr .i64 (1 + (k : Int)) = ((k + 1 : Nat) : Int) := by rw [wr64 (by omega) (by omega)]; omega
      simp only [hix2, bnd_some, ld_ip, ldL_one, ea, b_add, ew]
      cases q with
      | nil =>
        refine hq.steal_none ⟨by omega, by omega⟩ (by omega) fun H1 q1 F1 => ?_
        simp [hy.len]
        exact J H1 y [] c (by omega) q1 (hy.keep F1)
      | cons x q' =>
        refine hq.steal ⟨by omega, by omega⟩ (by omega) (by omega) fun H1 q1 F1 => ?_
        have hy1 := hy.keep F1
        obtain ⟨y', ea, ha⟩ := hy1.tail
        have hp : (0 : Int) < ((x :: q').length : Nat) := by rw [List.length_cons]; omega
        have hlen : lenSl y = some (I (((x :: q').length : Nat) : Int)) := hy.len
        simp only [x_tup, List.getElem?_cons_zero, List.getElem?_cons_succ, bnd_some, hlen, b_gtr, hp, decide_true, e_boolN, ifB_lit, BEq.rfl, Bool.not_true, Bool.false_eq_true, if_false, if_true]
        refine hy1.first ?_
        simp [ea]
        exact J H1 y' q' c (by omega) q1 ha
theorem noIds_bools (l : List Bool) : noId (bools l) = true := by
  have : ∀ l : List Bool, noIdss (l.map fun b => [Bo b]) = true := by
    intro l
    induction l with
    | nil => rfl
    | cons b l ih => simp [noIdss, noIds, noId, ih]
  simp [noId, bools, this]
theorem noIds_ints (l : List Int) : noId (ints l) = true := by
  have : ∀ l : List Int, noIdss (l.map fun b => [I b]) = true := by
    intro l
    induction l with
    | nil => rfl
    | cons b l ih => simp [noIdss, noIds, noId, ih]
  simp [noId, ints, this]
theorem DequeQueue_good (n : Int) (l : List Bool) (th : List Int) : ∃ Hf, Good Try.prog σ n_law20_DequeQueue [I n, bools l, ints th] Hp.empty (Bo true) Hf := by
  refine ⟨Hp.empty, good_by (fun K hK => law20_DequeQueue.run ?_) (by simp [noIds, noId, noIds_bools, noIds_ints]) rfl _⟩
  refine callK_of (alive20 _) ?_
  have hln : lenSl (bools l) = some (I l.length) := by simp [bools]
  have hln2 : lenSl (ints th) = some (I th.length) := by simp [ints]
  simp only [u_not, bnd_some, Bool.not_true, ifB_lit, Bool.false_eq_true, if_false, b_lss, b_gtr, hln, hln2]
  by_cases h1 : n < 1
  · simp only [h1, decide_true, if_true]; exact hK _
  simp only [h1, decide_false, Bool.false_eq_true, if_false]
  by_cases h2 : 20 < n
  · simp only [h2, decide_true, if_true]; exact hK _
  simp only [h2, decide_false, Bool.false_eq_true, if_false]
  by_cases h3 : (100 : Int) < l.length
  · simp only [h3, decide_true, if_true]; exact hK _
  simp only [h3, decide_false, Bool.false_eq_true, if_false]
  by_cases h4 : (th.length : Int) < l.length
  · simp only [h4, decide_true, if_true]; exact hK _
  simp only [h4, decide_false, Bool.false_eq_true, if_false]
  obtain ⟨a, rfl⟩ : ∃ k : Nat, n = k := ⟨n.toNat, by omega⟩
  refine QL.new (by omega) (by omega) fun H hq _ => ?_
  simp only [Int.toNat_natCast] at hq
  exact Queue_L0 ⟨by omega, by omega⟩ (by omega) (by omega) hK _ 0 H _ [] 0 rfl (by omega) (by omega) hq (.inl (.inl ⟨rfl, rfl⟩))
end
theorem DequeQueue_walk {H : Type} {enc : TypeId × Value → H} (W : World) {v0 v1 v2 : Value} {r : Reach} {b0 base : Nat} {spare : Nat → Bool} {held : Bool} {d0 d1 d2 : DataW H} {p0 p1 p2 : List MemPlace}
    (e0 : Value.okWide Try.prog W r b0 T_int v0) (h0 : DataW.Trod enc Try.prog W base spare held T_int v0 d0 p0)
    (e1 : Value.okWide Try.prog W r b0 T_sl_bool v1) (h1 : DataW.Trod enc Try.prog W base spare held T_sl_bool v1 d1 p1)
    (e2 : Value.okWide Try.prog W r b0 T_sl_int v2) (h2 : DataW.Trod enc Try.prog W base spare held T_sl_int v2 d2 p2) :
    Calls Try.prog n_law20_DequeQueue #[v0, v1, v2] W fun e W' => e = .returned (.bool true) ∧ Below W.heap.size W W' := by
  have σ : Sig := ⟨fun _ => 0, fun _ => false, fun _ => ⟨#[]⟩⟩
  obtain ⟨x0, r0, s0⟩ := read_arg (P := Try.prog) (ti := tiT.get) (S := readD) (t := T_int) (σ := σ) tiT_ok readD_closed (inB_mem (by kernel_rfl)) e0 h0
  obtain ⟨x1, r1, s1⟩ := read_arg (P := Try.prog) (ti := tiT.get) (S := readD) (t := T_sl_bool) (σ := σ) tiT_ok readD_closed (inB_mem (by kernel_rfl)) e1 h1
  obtain ⟨x2, r2, s2⟩ := read_arg (P := Try.prog) (ti := tiT.get) (S := readD) (t := T_sl_int) (σ := σ) tiT_ok readD_closed (inB_mem (by kernel_rfl)) e2 h2
  obtain ⟨n, rfl, _⟩ := v_int s0
  obtain ⟨l, rfl⟩ := v_bools s1
  obtain ⟨th, rfl, _⟩ := v_ints s2
  obtain ⟨Hf, hg⟩ := DequeQueue_good (σ := σ) n l th
  exact law_of_good (relL3 r0 r1 r2) hg
end Go.Proofs.Ytnloolhaojoimaa.Ev

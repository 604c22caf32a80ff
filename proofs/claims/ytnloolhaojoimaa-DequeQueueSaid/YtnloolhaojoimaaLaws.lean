/- Laws of the deque: one operation after the other. -/
import Derived.Test.YtnloolhaojoimaaWhole
namespace Go.Proofs.Ytnloolhaojoimaa.Ev
set_option linter.unusedVariables false
set_option linter.unusedSimpArgs false
variable {σ : Sig}
/-- What the deque holds. -/
def QL (H : Hp) (d ip n : Nat) (q : List Int) (c : Int) : Prop := ∃ pl top bot, Q H d ip pl top bot ∧ pl.length = n ∧ 0 ≤ top ∧ bot ≤ c ∧ bot - top = q.length ∧ q.length ≤ n ∧ ∀ i, i < q.length → pl.getD (pix pl (top + i)) 0 = q.getD i 0
theorem pix_lt {pl : List Int} {k : Int} (h0 : 0 ≤ k) (hn : pl.length ≠ 0) : pix pl k < pl.length := by
  have hp : (0 : Int) < pl.length := Int.ofNat_lt.2 (Nat.pos_of_ne_zero hn)
  unfold pix
  rw [Int.tmod_eq_emod_of_nonneg h0]
  have := Int.emod_nonneg k (Int.ne_of_gt hp)
  have := Int.emod_lt_of_pos k hp
  omega
theorem pix_ne {pl : List Int} {a b : Int} (h0 : 0 ≤ a) (h1 : a < b) (h2 : b - a < pl.length) : pix pl a ≠ pix pl b := by
  have hp : (0 : Int) < pl.length := by omega
  unfold pix
  rw [Int.tmod_eq_emod_of_nonneg h0, Int.tmod_eq_emod_of_nonneg (by omega)]
  have a1 := Int.emod_nonneg a (Int.ne_of_gt hp)
  have b1 := Int.emod_nonneg b (Int.ne_of_gt hp)
  intro e
  have e2 : b % pl.length = a % pl.length := by omega
  have e3 := Int.emod_emod_of_dvd (b - a) (Int.dvd_refl (pl.length : Int))
  have e4 : (b - a) % pl.length = 0 := by rw [Int.sub_emod, e2, Int.sub_self]; rfl
  rw [Int.emod_eq_of_lt (by omega) h2] at e4
  omega
section
variable {H0 : Hp} {d ip n : Nat} {q : List Int} {x c : Int} {K : AV → Hp → Prop}
theorem QL.push_full (h : QL H0 d ip n q c) (hc : c ≤ 1000000) (hf : q.length = n) (hK : ∀ H, QL H d ip n q c → Fw H0 d ip H → K (.tup [I 0, Bo false]) H) : callK Try.prog σ n_law20_whole [.ptr d 0, I 0, I 1, I x] H0 K := by
  obtain ⟨pl, top, bot, hq, hl, h0, hb, hs, hm, hv⟩ := h
  exact wh_push_full hq (by omega) (by omega) fun H hq' F => hK H ⟨pl, top, bot, hq', hl, h0, hb, hs, hm, hv⟩ F
theorem QL.push (h : QL H0 d ip n q c) (hc : c ≤ 900000) (hn : n ≤ 1000000) (hf : q.length < n) (hK : ∀ H, QL H d ip n (q ++ [x]) (c + 1) → Fw H0 d ip H → K (.tup [I x, Bo true]) H) : callK Try.prog σ n_law20_whole [.ptr d 0, I 0, I 1, I x] H0 K := by
  obtain ⟨pl, top, bot, hq, hl, h0, hb, hs, hm, hv⟩ := h
  refine push_room hq (by omega) (by omega) (by omega) (by omega) fun H hq' F => hK H ⟨_, top, bot + 1, hq', by simp [hl], h0, by omega, by simp; omega, by simp; omega, ?_⟩ F
  intro i hi
  have hpl : pix (pl.set (pix pl bot) x) = pix pl := by funext k; simp [pix]
  rw [hpl]
  simp only [List.length_append, List.length_cons, List.length_nil] at hi
  by_cases e : i = q.length
  · have e2 : top + (i : Int) = bot := by omega
    rw [e2]
    have := pix_lt (pl := pl) (k := bot) (by omega) (by omega)
    simp [this, e]
  · have hne := pix_ne (pl := pl) (a := top + i) (b := bot) (by omega) (by omega) (by omega)
    have := hv i (by omega)
    have hlt : i < q.length := by omega
    simp only [List.getD_eq_getElem?_getD] at this ⊢
    rw [List.getElem?_set_ne (Ne.symm hne), List.getElem?_append_left hlt]
    exact this
theorem QL.pop_none (h : QL H0 d ip n [] c) (hc : c ≤ 1000000) (hK : ∀ H, QL H d ip n [] c → Fw H0 d ip H → K (.tup [I 0, Bo false]) H) : callK Try.prog σ n_law20_whole [.ptr d 0, I 0, I 2, I 0] H0 K := by
  obtain ⟨pl, top, bot, hq, hl, h0, hb, hs, hm, hv⟩ := h
  simp at hs
  exact wh_pop_none hq (by omega) fun H hq' F => hK H ⟨pl, top, bot, hq', hl, h0, hb, by simp; omega, hm, hv⟩ F
theorem QL.pop (h : QL H0 d ip n (q ++ [x]) c) (hc : c ≤ 900000) (hn : n ≤ 1000000) (hK : ∀ H, QL H d ip n q c → Fw H0 d ip H → K (.tup [I x, Bo true]) H) : callK Try.prog σ n_law20_whole [.ptr d 0, I 0, I 2, I 0] H0 K := by
  obtain ⟨pl, top, bot, hq, hl, h0, hb, hs, hm, hv⟩ := h
  simp at hs hm hv
  refine pop_some hq (by omega) (by omega) (by omega) fun H hq' F => ?_
  have hx : pl.getD (pix pl (bot - 1)) 0 = x := by
    have := hv q.length (by omega)
    have e : top + (q.length : Int) = bot - 1 := by omega
    rw [e] at this
    simpa using this
  rw [hx]
  refine hK H ?_ F
  by_cases e : top = bot - 1
  · rw [if_pos e, if_pos e] at hq'
    have hq0 : q = [] := List.length_eq_zero_iff.1 (by omega)
    subst hq0
    exact ⟨pl, top + 1, bot, hq', hl, by omega, hb, by simp; omega, by simp, fun i hi => by simp at hi⟩
  · rw [if_neg e, if_neg e] at hq'
    refine ⟨pl, top, bot - 1, hq', hl, h0, by omega, by omega, by omega, fun i hi => ?_⟩
    have := hv i (by omega)
    rw [List.getElem?_append_left hi] at this
    simpa using this
theorem QL.steal_none {w : Nat} (hw : 0 < w ∧ w < 65) (h : QL H0 d ip n [] c) (hc : c ≤ 1000000) (hK : ∀ H, QL H d ip n [] c → Fw H0 d ip H → K (.tup [I 0, Bo false]) H) : callK Try.prog σ n_law20_whole [.ptr d 0, I w, I 3, I 0] H0 K := by
  obtain ⟨pl, top, bot, hq, hl, h0, hb, hs, hm, hv⟩ := h
  simp at hs
  exact wh_steal_none hw hq (by omega) fun H hq' F => hK H ⟨pl, top, bot, hq', hl, h0, hb, by simp; omega, hm, hv⟩ F
theorem QL.steal {w : Nat} (hw : 0 < w ∧ w < 65) (h : QL H0 d ip n (x :: q) c) (hc : c ≤ 900000) (hn : n ≤ 1000000) (hK : ∀ H, QL H d ip n q c → Fw H0 d ip H → K (.tup [I x, Bo true]) H) : callK Try.prog σ n_law20_whole [.ptr d 0, I w, I 3, I 0] H0 K := by
  obtain ⟨pl, top, bot, hq, hl, h0, hb, hs, hm, hv⟩ := h
  simp only [List.length_cons] at hs hm
  refine steal_some hw hq (by omega) (by omega) (by omega) fun H hq' F => ?_
  have hx : pl.getD (pix pl top) 0 = x := by
    have := hv 0 (by simp)
    simpa using this
  rw [hx]
  refine hK H ⟨pl, top + 1, bot, hq', hl, by omega, hb, by omega, by omega, fun i hi => ?_⟩ F
  have := hv (i + 1) (by simpa using hi)
  have e : top + ((i + 1 : Nat) : Int) = top + 1 + i := by omega
  rw [e] at this
  simpa using this
theorem QL.len (h : QL H0 d ip n q c) (hc : c ≤ 1000000) (hK : K (I q.length) H0) : callK Try.prog σ n_deque_Deque_Len [.ptr d 0] H0 K := by
  obtain ⟨pl, top, bot, ⟨lw, lc, lr, la, hq⟩, hl, h0, hb, hs, hm, hv⟩ := h
  refine Len_sp hq ?_ ?_
  · simp only [QS]; rw [wr64 (by omega) (by omega)]
  · have e1 : bot - top = q.length := hs
    show K (I (if 0 < bot - top then bot - top else 0)) H0
    have : (if 0 < bot - top then bot - top else 0) = (q.length : Int) := by split <;> omega
    rw [this]; exact hK
theorem QL.new {m : Int} (h1 : 1 ≤ m) (h2 : m ≤ 1000) (hK : ∀ H, QL H (H0.n + 1) H0.n m.toNat [] 0 → Fw H0 (H0.n + 1) H0.n H → K (.ptr (H0.n + 1) 0) H) : callK Try.prog σ n_deque_New [I m] H0 K :=
  New_sp h1 h2 fun H h hn hg => hK H ⟨_, 0, 0, ⟨0, 0, false, false, h⟩, by simp [s0], by omega, by omega, rfl, by simp, fun i hi => by simp at hi⟩ ⟨by omega, fun j hj _ _ => hg j hj⟩
end
end Go.Proofs.Ytnloolhaojoimaa.Ev

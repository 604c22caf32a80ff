/- The deque's own calls. -/
import Derived.Test.YtnloolhaojoimaaOps
namespace Go.Proofs.Ytnloolhaojoimaa.Ev
set_option linter.unusedVariables false
set_option linter.unusedSimpArgs false
variable {σ : Sig}
theorem ix65 {w : Nat} (h : w < 65) (x : AV) : ixaArr 65 1 x (I w) = shiftA x w := by
  unfold ixaArr
  have h1 : (0 : Int) ≤ w := by omega
  have h2 : (w : Int) < 65 := by omega
  simp [intA, h2]
theorem ld_op {H : Hp} {d w : Nat} {s : S} (h : Dq H d s) (hw : w < 65) : ldO false 1 (3 + w) (H.get d) = some (encO (s.op w)) := by
  rw [h.hd]; exact dq_op s hw
theorem Busy_sp {H : Hp} {d : Nat} {s : S} {w : Int} {K : AV → Hp → Prop} (h : Dq H d s) (hK : K (Bo (decide (0 ≤ w) && (decide (w ≤ 64) && (s.op w.toNat).isSome))) H) : callK Try.prog σ n_deque_Deque_Busy [.ptr d 0, I w] H K := by
  refine deque_Deque_Busy.run ?_
  simp
  by_cases h0 : 0 ≤ w
  · by_cases h1 : w ≤ 64
    · obtain ⟨k, rfl⟩ : ∃ k : Nat, w = k := ⟨w.toNat, by omega⟩
      have hk : k < 65 := by omega
      simp only [h0, h1, if_true, decide_true, Bool.true_and, Int.toNat_natCast] at hK ⊢
      rw [ix65 hk]
      simp [ld_op h hk]
      cases hs : s.op k with
      | none => simp [encO]; rw [hs] at hK; exact hK
      | some o => simp [encO]; rw [hs] at hK; exact hK
    · simp only [h0, h1, if_true, if_false, decide_true, decide_false, Bool.true_and, Bool.false_and] at hK ⊢; exact hK
  · simp only [h0, if_false, decide_false, Bool.false_and] at hK ⊢; exact hK
theorem Len_sp {H : Hp} {d : Nat} {s : S} {K : AV → Hp → Prop} (h : Dq H d s) (hb : wr .i64 (s.bot - s.top) = s.bot - s.top) (hK : K (I (if 0 < s.bot - s.top then s.bot - s.top else 0)) H) : callK Try.prog σ n_deque_Deque_Len [.ptr d 0] H K := by
  refine deque_Deque_Len.run ?_
  simp [h.hd, hb, maxA, toI, maxStep]
  by_cases e : 0 < s.bot - s.top
  · have e2 : ¬ s.bot - s.top < 0 := by omega
    simp_all
  · simp_all
theorem Step_no {H : Hp} {d : Nat} {s : S} {w : Int} {K : AV → Hp → Prop} (h : Dq H d s) (hb : (decide (0 ≤ w) && (decide (w ≤ 64) && (s.op w.toNat).isSome)) = false) (hK : K (.tup [Bo false, I 0, Bo false]) H) : callK Try.prog σ n_deque_Deque_Step [.ptr d 0, I w] H K := by
  refine deque_Deque_Step.run (Busy_sp h ?_)
  rw [hb]
  simpa using hK
theorem Dq.clr {H : Hp} {d w : Nat} {s : S} (h : Dq H d s) (hw : w < 65) : Dq (H.set d (some (.cells (dqc { s with op := upd s.op w none }) true))) d { s with op := upd s.op w none } := by
  refine ⟨by simp, ?_, ?_, ?_, by simpa using h.dl, by simpa using h.pl, h.dp⟩
  · simp [Ne.symm h.dp]; exact h.hp
  · intro w2 o hw2 ho
    by_cases e : w2 = w
    · subst e; simp at ho
    · simp [e] at ho
      obtain ⟨a, b, c, f⟩ := h.ho w2 o hw2 ho
      exact ⟨by simp [c]; exact a, by simpa using b, c, f⟩
  · intro w1 w2 o1 o2 hw1 hw2 h1 h2 he
    have k : ∀ w1 o1, upd s.op w none w1 = some o1 → s.op w1 = some o1 := by
      intro w1 o1 h1
      by_cases e : w1 = w
      · subst e; simp at h1
      · simpa [e] using h1
    exact h.hi w1 w2 o1 o2 hw1 hw2 (k _ _ h1) (k _ _ h2) he
theorem Step_pre {H : Hp} {d w g : Nat} {s : S} {o : O} {K : AV → Hp → Prop} (h : Dq H d s) (hw : w < 65) (ho : s.op w = some o) (hx : o.nx = .fn g []) {s' : S} {o' : O} {r : AV} (hp : Ph σ g d w s o s' o' r)
    (hr : stA 1 = stA 1 → ∀ H1 : Hp, Dq H1 d (put s' w o') → Fd d s H H1 → (bnd (stA 1 H1 (.ptr o.id 6) r) fun H15 => bnd (ldO false 1 6 (H15.get o.id)) fun x18 => bnd (eqFnR .neq x18 (.lit (.nilFunc))) fun x19 => ifB x19 (K (.tup [(Bo false), (I 0), (Bo false)]) H15) (bnd (stA 1 H15 (.ptr d (3 + w)) (.lit (.pointer none))) fun H23 => bnd (ldO false 1 5 (H23.get o.id)) fun x26 => bnd (unR .not x26) fun x27 => ifB x27 (K (.tup [(Bo true), (I 0), (Bo false)]) H23) (bnd (ldO false 1 2 (H23.get o.id)) fun x30 => K (.tup [(Bo true), x30, (Bo true)]) H23)))) :
    callK Try.prog σ n_deque_Deque_Step [.ptr d 0, I w] H K := by
  refine deque_Deque_Step.run (Busy_sp h ?_)
  have h0 : (0 : Int) ≤ w := by omega
  have h1 : (w : Int) ≤ 64 := by omega
  obtain ⟨hg, _, hnd, hnp⟩ := h.ho w o hw ho
  simp [h0, h1, ho, ix65 hw, ld_op h hw, encO, hg, hx]
  refine hp.2.2.2.2.2 h hw ho fun H1 hq f => ?_
  have t := hr rfl H1 hq f
  simpa using t
theorem Step_fn {H : Hp} {d w g g2 : Nat} {s : S} {o : O} {K : AV → Hp → Prop} (h : Dq H d s) (hw : w < 65) (ho : s.op w = some o) (hx : o.nx = .fn g []) {s' : S} {o' : O} (hp : Ph σ g d w s o s' o' (.fn g2 []))
    (hK : ∀ H', Dq H' d (put s' w { o' with nx := .fn g2 [] }) → Fd d s H H' → K (.tup [Bo false, I 0, Bo false]) H') : callK Try.prog σ n_deque_Deque_Step [.ptr d 0, I w] H K := by
  refine Step_pre h hw ho hx hp fun _ H1 hq f => ?_
  obtain ⟨e1, e2, e3, e4, e5, _⟩ := hp
  obtain ⟨hg, _, hnd, hnp⟩ := hq.ho w o' hw (upd_same _ _ _)
  rw [e1] at hg
  simp [hg]
  refine hK _ ?_ ?_
  · have := hq.putO (o' := { o' with nx := .fn g2 [] }) hw (upd_same _ _ _) rfl
    rw [← e1]
    simp only [put, upd_upd] at this ⊢
    exact this
  · exact f.tr (.setO hw ho) rfl rfl
theorem Step_nil {H : Hp} {d w g : Nat} {s : S} {o : O} {K : AV → Hp → Prop} (h : Dq H d s) (hw : w < 65) (ho : s.op w = some o) (hx : o.nx = .fn g []) {s' : S} {o' : O} (hp : Ph σ g d w s o s' o' (.lit .nilFunc))
    (hK : ∀ H', Dq H' d { s' with op := upd s.op w none } → Fd d s H H' → K (.tup [Bo true, I (if o'.ok = true then o'.x else 0), Bo o'.ok]) H') : callK Try.prog σ n_deque_Deque_Step [.ptr d 0, I w] H K := by
  refine Step_pre h hw ho hx hp fun _ H1 hq f => ?_
  obtain ⟨e1, e2, e3, e4, e5, _⟩ := hp
  obtain ⟨hg, _, hnd, hnp⟩ := hq.ho w o' hw (upd_same _ _ _)
  rw [e1] at hg hnd
  have h1 : Dq (H1.set o.id (some (.cells (opc d w { o' with nx := .lit .nilFunc }) true))) d (put (put s' w o') w { o' with nx := .lit .nilFunc }) := by
    rw [← e1]
    exact hq.putO (o' := { o' with nx := .lit .nilFunc }) hw (upd_same _ _ _) rfl
  have h2 := h1.clr hw
  have hl : 3 + w < 72 := by omega
  have hl2 : 3 + w + 1 ≤ 72 := by omega
  have ov := dq_sop (put (put s' w o') w { o' with nx := .lit .nilFunc }) hw none
  simp only [encO] at ov
  have hd1 := h1.hd
  simp only [hp_get_set, Ne.symm hnd, if_false] at hd1
  have eop : (put (put s' w o') w { o' with nx := .lit .nilFunc }) = put s' w { o' with nx := .lit .nilFunc } := by simp [put, upd_upd]
  have eS : { put (put s' w o') w { o' with nx := .lit .nilFunc } with op := upd (put (put s' w o') w { o' with nx := .lit .nilFunc }).op w none } = { s' with op := upd s.op w none } := by simp [put, upd_upd, e3]
  rw [eS] at h2 ov
  simp [hg, hnd, Ne.symm hnd, hd1, hl2, ov]
  have k := hK _ h2 (f.trans ((Fd.setO hw ho).trans .setD rfl fun w o hs => ⟨o, hs, rfl⟩) rfl fun w o hs => ⟨o, hs, rfl⟩)
  cases hok : o'.ok
  · simp [hok] at k ⊢; exact k
  · simp [hok] at k ⊢; exact k
def stepsF (w : Int) (k : Int) : Option Nat := if k = 1 ∧ w = 0 then some n_deque_push1 else if k = 2 ∧ w = 0 then some n_deque_pop1 else if k = 3 ∧ 0 < w then some n_deque_steal1 else none
def fnO : Option Nat → AV
  | some g => .fn g []
  | none => .lit .nilFunc
theorem steps_sp {H : Hp} {w k : Int} {K : AV → Hp → Prop} (hK : K (fnO (stepsF w k)) H) : callK Try.prog σ n_deque_steps [I w, I k] H K := by
  refine deque_steps.run ?_
  unfold stepsF at hK
  by_cases k1 : k = 1
  · subst k1
    by_cases w0 : w = 0
    · simp [w0] at hK ⊢; exact hK
    · simp [w0] at hK ⊢; exact hK
  · by_cases k2 : k = 2
    · subst k2
      by_cases w0 : w = 0
      · simp [w0] at hK ⊢; exact hK
      · simp [w0] at hK ⊢; exact hK
    · by_cases k3 : k = 3
      · subst k3
        by_cases w0 : 0 < w
        · simp [w0] at hK ⊢; exact hK
        · simp [w0] at hK ⊢; exact hK
      · simp [k1, k2, k3] at hK ⊢; exact hK
theorem Begin_no {H : Hp} {d : Nat} {s : S} {w k x : Int} {K : AV → Hp → Prop} (h : Dq H d s) (hb : w < 0 ∨ 64 < w ∨ (s.op w.toNat).isSome ∨ stepsF w k = none) (hK : K (I 1) H) : callK Try.prog σ n_deque_Deque_Begin [.ptr d 0, I w, I k, I x] H K := by
  refine deque_Deque_Begin.run ?_
  simp
  by_cases h0 : w < 0
  · simp [h0]; exact hK
  by_cases h1 : 64 < w
  · simp [h0, h1]; exact hK
  obtain ⟨n, rfl⟩ : ∃ k : Nat, w = k := ⟨w.toNat, by omega⟩
  have hn : n < 65 := by omega
  simp only [h0, h1, if_false]
  rw [ix65 hn]
  simp [ld_op h hn]
  cases hs : s.op n with
  | some o => simp [encO]; exact hK
  | none =>
    simp [encO]
    refine steps_sp ?_
    have : stepsF n k = none := by
      rcases hb with h | h | h | h
      · omega
      · omega
      · simp [hs] at h
      · exact h
    rw [this]
    simp [fnO]
    exact hK
theorem Begin_go {H : Hp} {d w g : Nat} {s : S} {k x : Int} {K : AV → Hp → Prop} (h : Dq H d s) (hw : w < 65) (ho : s.op w = none) (hg : stepsF w k = some g)
    (hK : ∀ H', Dq H' d (put s w ⟨H.n, x, 0, 0, false, .fn g []⟩) → H'.n = H.n + 1 → (∀ j, j < H.n → j ≠ d → H'.get j = H.get j) → K (I 0) H') : callK Try.prog σ n_deque_Deque_Begin [.ptr d 0, I w, I k, I x] H K := by
  refine deque_Deque_Begin.run ?_
  have h0 : ¬ (w : Int) < 0 := by omega
  have h1 : ¬ (64 : Int) < w := by omega
  simp [h0, h1, ix65 hw, ld_op h hw, ho, encO]
  refine steps_sp ?_
  rw [hg]
  simp [fnO]
  refine steps_sp ?_
  rw [hg]
  have hdn : d ≠ H.n := Nat.ne_of_lt h.dl
  have hl : 3 + w + 1 ≤ 72 := by omega
  have ov := dq_sop s hw (some ⟨H.n, x, 0, 0, false, .fn g []⟩)
  simp only [encO] at ov
  have bl : bldR [.lit (.pointer none), I 0, I 0, I 0, I 0, .lit (.bool false), .lit (.nilFunc)] [(0, 1, .ptr d 0), (1, 1, I w), (2, 1, I x), (6, 1, .fn g [])] = some (opc d w ⟨H.n, x, 0, 0, false, .fn g []⟩) := rfl
  simp [fnO, bl, ix65 hw, hdn, h.hd, hl, ov]
  refine hK _ ?_ (by simp) ?_
  · refine ⟨by simp; rfl, ?_, ?_, ?_, by simp; exact Nat.lt_succ_of_lt h.dl, by simp; exact Nat.lt_succ_of_lt h.pl, h.dp⟩
    · have : s.ip ≠ H.n := Nat.ne_of_lt h.pl
      show _ = some (Blk.cells (s.pl.map I) true)
      simp [put, Ne.symm h.dp, this]; exact h.hp
    · intro w2 o hw2 ho2
      by_cases e : w2 = w
      · subst e
        simp [put] at ho2
        subst ho2
        refine ⟨?_, ?_, Ne.symm hdn, ?_⟩
        · simp [Ne.symm hdn]
        · simp
        · exact fun e => Nat.lt_irrefl _ (e ▸ h.pl)
      · simp [put, e] at ho2
        obtain ⟨a, b, c, f⟩ := h.ho w2 o hw2 ho2
        have : o.id ≠ H.n := Nat.ne_of_lt b
        refine ⟨?_, ?_, c, f⟩
        · simp [c, this]; exact a
        · simp; exact Nat.lt_succ_of_lt b
    · intro w1 w2 o1 o2 hw1 hw2 h1 h2 he
      by_cases e1 : w1 = w
      · by_cases e2 : w2 = w
        · rw [e1, e2]
        · subst e1
          simp [put] at h1
          simp [put, e2] at h2
          have := (h.ho w2 o2 hw2 h2).2.1
          subst h1
          simp at he
          omega
      · by_cases e2 : w2 = w
        · subst e2
          simp [put] at h2
          simp [put, e1] at h1
          have := (h.ho w1 o1 hw1 h1).2.1
          subst h2
          simp at he
          omega
        · simp [put, e1] at h1
          simp [put, e2] at h2
          exact h.hi w1 w2 o1 o2 hw1 hw2 h1 h2 he
  · intro j hj hjd
    have : j ≠ H.n := Nat.ne_of_lt hj
    simp [hjd, this]
def s0 (ip n : Nat) : S := ⟨ip, List.replicate n 0, 0, 0, fun _ => none, 0, 0, false, false⟩
theorem zrow0 (n : Nat) : zrow [.int .i64 0] n = (List.replicate n (0 : Int)).map I := by
  unfold zrow
  apply List.ext_getElem
  · simp
  · intro i h1 h2
    simp [Nat.mod_one]
theorem New_sp {H : Hp} {n : Int} {K : AV → Hp → Prop} (h1 : 1 ≤ n) (h2 : n ≤ 1000) (hK : ∀ H', Dq H' (H.n + 1) (s0 H.n n.toNat) → H'.n = H.n + 2 → (∀ j, j < H.n → H'.get j = H.get j) → K (.ptr (H.n + 1) 0) H') : callK Try.prog σ n_deque_New [I n] H K := by
  refine deque_New.run ?_
  have e1 : maxA [I 1, I n] = some (I n) := by
    simp [maxA, toI, maxStep]; omega
  have e2 : minA [I n, I 1024] = some (I n) := by
    simp [minA, toI, minStep]; omega
  have e3 : mkSlR [.int .i64 0] 1 8 H (I n) (I n) = some (.sl H.n 0 1 n.toNat (some n.toNat), H.new (.cells (zrow [.int .i64 0] (n.toNat * 1)) true)) := by
    have a : (0 : Int) ≤ n := by omega
    have b : Nat.ble n.toNat 9223372036854775807 = true := Nat.ble_eq_true_of_le (by omega)
    have c : Nat.ble (8 * n.toNat) 281474976710656 = true := Nat.ble_eq_true_of_le (by omega)
    simp [mkSlR, intA, a, b, c]
  simp only [e1, e2, e3, bnd_some]
  have e4 : ∀ x : AV, x.cells = [x] → x.isAny = false → bldR (AV.lit (.slice none 0 0) :: I 0 :: I 0 :: (opl (fun _ => none) ++ [I 0, I 0, Bo false, Bo false])) [(0, 1, x)] = some (x :: I 0 :: I 0 :: (opl (fun _ => none) ++ [I 0, I 0, Bo false, Bo false])) := by
    intro x hx ha
    simp [bldR, hx, ha, beqN, bleN]
  have e5 := e4 (.sl H.n 0 1 n.toNat (some n.toNat)) rfl rfl
  have e6 : opl (fun _ => none) = List.replicate 65 (AV.lit (.pointer none)) := rfl
  rw [e6] at e5
  simp only [List.replicate] at e5
  erw [e5]
  simp only [bnd_some, boxK_agg]
  have hn : (H.new (Blk.cells (zrow [.int .i64 0] (n.toNat * 1)) true)).n = H.n + 1 := by simp
  rw [hn]
  refine hK _ ?_ (by simp) ?_
  · refine ⟨?_, ?_, ?_, ?_, by simp, by simp [s0]; omega, by simp [s0]⟩
    · simp [dqc, hdc, lsc, s0]; rfl
    · simp [s0, zrow0]
    · intro w o _ ho; simp [s0] at ho
    · intro w _ o _ _ _ ho; simp [s0] at ho
  · intro j hj
    have a : j ≠ H.n := by omega
    have b : j ≠ H.n + 1 := by omega
    simp [a, b]
end Go.Proofs.Ytnloolhaojoimaa.Ev

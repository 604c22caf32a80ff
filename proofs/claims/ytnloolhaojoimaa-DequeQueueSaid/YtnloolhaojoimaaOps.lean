/- The deque's operations, step by step. -/
import Derived.Test.YtnloolhaojoimaaDq
namespace Go.Proofs.Ytnloolhaojoimaa.Ev
set_option linter.unusedVariables false
set_option linter.unusedSimpArgs false
variable {σ : Sig}
def acc (s : S) (w : Nat) (c : Int) (r : Bool) : S := { s with lw := w, lc := c, lr := r, la := true }
@[simp] theorem acc_pl (s : S) (w : Nat) (c : Int) (r : Bool) : (acc s w c r).pl = s.pl := rfl
@[simp] theorem acc_ip (s : S) (w : Nat) (c : Int) (r : Bool) : (acc s w c r).ip = s.ip := rfl
@[simp] theorem acc_op (s : S) (w : Nat) (c : Int) (r : Bool) : (acc s w c r).op = s.op := rfl
@[simp] theorem acc_top (s : S) (w : Nat) (c : Int) (r : Bool) : (acc s w c r).top = s.top := rfl
@[simp] theorem acc_bot (s : S) (w : Nat) (c : Int) (r : Bool) : (acc s w c r).bot = s.bot := rfl
theorem op_ld (d w : Nat) (o : O) : ldL false 1 (opc d w o) = some (.ptr d 0) ∧ ldL false 1 ((opc d w o).tail) = some (I w) ∧ ldL false 1 ((opc d w o).drop 2) = some (I o.x) ∧ ldL false 1 ((opc d w o).drop 3) = some (I o.t) ∧ ldL false 1 ((opc d w o).drop 4) = some (I o.b) ∧ ldL false 1 ((opc d w o).drop 5) = some (Bo o.ok) ∧ ldL false 1 ((opc d w o).drop 6) = some o.nx := ⟨rfl, rfl, rfl, rfl, rfl, rfl, rfl⟩
@[simp] theorem op_0 (d w : Nat) (o : O) : ldL false 1 (opc d w o) = some (.ptr d 0) := rfl
@[simp] theorem op_1 (d w : Nat) (o : O) : ldL false 1 ((opc d w o).tail) = some (I w) := rfl
@[simp] theorem op_2 (d w : Nat) (o : O) : ldL false 1 ((opc d w o).drop 2) = some (I o.x) := rfl
@[simp] theorem op_3 (d w : Nat) (o : O) : ldL false 1 ((opc d w o).drop 3) = some (I o.t) := rfl
@[simp] theorem op_4 (d w : Nat) (o : O) : ldL false 1 ((opc d w o).drop 4) = some (I o.b) := rfl
@[simp] theorem op_5 (d w : Nat) (o : O) : ldL false 1 ((opc d w o).drop 5) = some (Bo o.ok) := rfl
@[simp] theorem op_6 (d w : Nat) (o : O) : ldL false 1 ((opc d w o).drop 6) = some o.nx := rfl
@[simp] theorem op_s2 (d w : Nat) (o : O) (v : Int) : overlay (opc d w o) 2 [I v] = opc d w { o with x := v } := by simp [opc]
@[simp] theorem op_s3 (d w : Nat) (o : O) (v : Int) : overlay (opc d w o) 3 [I v] = opc d w { o with t := v } := by simp [opc]
@[simp] theorem op_s4 (d w : Nat) (o : O) (v : Int) : overlay (opc d w o) 4 [I v] = opc d w { o with b := v } := by simp [opc]
@[simp] theorem op_s5 (d w : Nat) (o : O) (v : Bool) : overlay (opc d w o) 5 [Bo v] = opc d w { o with ok := v } := by simp [opc]
@[simp] theorem op_s6 (d w : Nat) (o : O) (v : AV) : overlay (opc d w o) 6 [v] = opc d w { o with nx := v } := by simp [opc]
@[simp] theorem op_len (d w : Nat) (o : O) : (opc d w o).length = 7 := rfl
@[simp] theorem dq_len (s : S) : (dqc s).length = 72 := dqc_len s
attribute [simp] dq_0 dq_1' dq_2 dq_last dq_s1 dq_s2 dq_slast

theorem bld_last (a b : Int) (c : Bool) : bldR [I 0, I 0, Bo false, Bo false] [(0, 1, I a), (1, 1, I b), (2, 1, Bo c), (3, 1, Bo true)] = some [I a, I b, Bo c, Bo true] := rfl
theorem access_sp {H : Hp} {d w : Nat} {s : S} {o : O} {c : Int} {r : Bool} {K : AV → Hp → Prop} (h : Dq H d s) (hw : w < 65) (ho : s.op w = some o)
    (hK : ∀ H', Dq H' d (acc s w c r) → Fd d s H H' → K (.tup []) H') : callK Try.prog σ n_deque_operation_access [.ptr o.id 0, I c, Bo r] H K := by
  refine deque_operation_access.run ?_
  obtain ⟨hg, _, _, _⟩ := h.ho w o hw ho
  simp [hg, bld_last, h.hd]
  exact hK _ (h.setD rfl rfl rfl) .setD
theorem at_sp {H : Hp} {d w : Nat} {s : S} {o : O} {k : Int} {K : AV → Hp → Prop} (h : Dq H d s) (hw : w < 65) (ho : s.op w = some o) (hn : s.pl.length ≠ 0)
    (hK : K (I (k.tmod s.pl.length)) H) : callK Try.prog σ n_deque_operation_at [.ptr o.id 0, I k] H K := by
  refine deque_operation_at.run ?_
  obtain ⟨hg, _, _, _⟩ := h.ho w o hw ho
  simp [hg, h.hd]
  rw [b_rem _ _ _ (by omega)]
  simpa using hK
theorem readB_sp {H : Hp} {d w : Nat} {s : S} {o : O} {K : AV → Hp → Prop} (h : Dq H d s) (hw : w < 65) (ho : s.op w = some o)
    (hK : ∀ H', Dq H' d (acc s w (-1001) false) → Fd d s H H' → K (I s.bot) H') : callK Try.prog σ n_deque_operation_readBottom [.ptr o.id 0] H K := by
  refine deque_operation_readBottom.run (access_sp h hw ho fun H' h' f => ?_)
  obtain ⟨hg, _, _, _⟩ := h'.ho w o hw ho
  simp [hg, h'.hd]
  exact hK _ h' f
theorem readT_sp {H : Hp} {d w : Nat} {s : S} {o : O} {K : AV → Hp → Prop} (h : Dq H d s) (hw : w < 65) (ho : s.op w = some o)
    (hK : ∀ H', Dq H' d (acc s w (-1000) false) → Fd d s H H' → K (I s.top) H') : callK Try.prog σ n_deque_operation_readTop [.ptr o.id 0] H K := by
  refine deque_operation_readTop.run (access_sp h hw ho fun H' h' f => ?_)
  obtain ⟨hg, _, _, _⟩ := h'.ho w o hw ho
  simp [hg, h'.hd]
  exact hK _ h' f
theorem Fd.tr {d : Nat} {s s' : S} {H H' H'' : Hp} (h : Fd d s H H') (h' : Fd d s' H' H'') (hi : s'.ip = s.ip) (ho : s'.op = s.op) : Fd d s H H'' :=
  h.trans h' hi fun w o' hs => ⟨o', by rw [← ho]; exact hs, rfl⟩
theorem writeB_sp {H : Hp} {d w : Nat} {s : S} {o : O} {v : Int} {K : AV → Hp → Prop} (h : Dq H d s) (hw : w < 65) (ho : s.op w = some o)
    (hK : ∀ H', Dq H' d { acc s w (-1001) true with bot := v } → Fd d s H H' → K (.tup []) H') : callK Try.prog σ n_deque_operation_writeBottom [.ptr o.id 0, I v] H K := by
  refine deque_operation_writeBottom.run (access_sp h hw ho fun H' h' f => ?_)
  obtain ⟨hg, _, _, _⟩ := h'.ho w o hw ho
  simp [hg, h'.hd]
  exact hK _ (h'.setD rfl rfl rfl) (f.tr .setD rfl rfl)
theorem take_sp {H : Hp} {d w : Nat} {s : S} {o : O} {K : AV → Hp → Prop} (h : Dq H d s) (hw : w < 65) (ho : s.op w = some o) (hb : wr .i64 (s.top + 1) = s.top + 1)
    (hK : ∀ H', Dq H' d { acc s w (-1000) true with top := if s.top = o.t then s.top + 1 else s.top } → Fd d s H H' → K (Bo (decide (s.top = o.t))) H') : callK Try.prog σ n_deque_operation_takeTop [.ptr o.id 0] H K := by
  refine deque_operation_takeTop.run (access_sp h hw ho fun H' h' f => ?_)
  obtain ⟨hg, _, _, _⟩ := h'.ho w o hw ho
  by_cases e : s.top = o.t
  · simp only [e, if_true, decide_true] at hK
    rw [e] at hb
    simp [hg, h'.hd, e, hb]
    exact hK _ (h'.setD rfl rfl rfl) (f.tr .setD rfl rfl)
  · simp only [e, if_false, decide_false] at hK
    simp [hg, h'.hd, e]
    exact hK _ h' f
theorem pl_ix {H : Hp} {s : S} {k : Int} (h0 : 0 ≤ k) (h1 : k < s.pl.length) : ixaSl 1 (.sl s.ip 0 1 s.pl.length (some s.pl.length)) (I k) = some (.ptr s.ip k.toNat) := by
  rw [ix_sl h0 h1]; simp
theorem pl_ld {l : List Int} {k : Nat} (h : k < l.length) : ldL false 1 ((l.map I).drop k) = some (I (l.getD k 0)) := by
  have hl : k < (l.map I).length := by simpa using h
  rw [List.drop_eq_getElem_cons hl, ldL_one]
  simp [h]
def atI (s : S) (k : Int) : Int := k.tmod s.pl.length
theorem at_in {s : S} {k : Int} (h0 : 0 ≤ k) (hn : s.pl.length ≠ 0) : 0 ≤ atI s k ∧ atI s k < s.pl.length := by
  have hp : (0 : Int) < s.pl.length := Int.ofNat_lt.2 (Nat.pos_of_ne_zero hn)
  unfold atI
  rw [Int.tmod_eq_emod_of_nonneg h0]
  exact ⟨Int.emod_nonneg _ (Int.ne_of_gt hp), Int.emod_lt_of_pos _ hp⟩
theorem read_sp {H : Hp} {d w : Nat} {s : S} {o : O} {k : Int} {K : AV → Hp → Prop} (h : Dq H d s) (hw : w < 65) (ho : s.op w = some o) (h0 : 0 ≤ k) (hn : s.pl.length ≠ 0) (hm : s.pl.length ≤ 1000000)
    (hK : ∀ H', Dq H' d { acc s w (-1002 - atI s k) false with op := upd s.op w (some { o with x := s.pl.getD (atI s k).toNat 0 }) } → Fd d s H H' → K (.tup []) H') : callK Try.prog σ n_deque_operation_read [.ptr o.id 0, I k] H K := by
  obtain ⟨i0, i1⟩ := at_in h0 hn
  refine deque_operation_read.run (at_sp h hw ho hn ?_)
  have e : wr .i64 (-1002 - atI s k) = -1002 - atI s k := wr64 (by omega) (by omega)
  rw [show k.tmod s.pl.length = atI s k from rfl]
  simp [e]
  refine access_sp h hw ho fun H' h' f => ?_
  obtain ⟨hg, _, hnd, hnp⟩ := h'.ho w o hw ho
  simp [hg, h'.hd]
  refine at_sp h' hw ho hn ?_
  rw [show k.tmod (acc s w (-1002 - atI s k) false).pl.length = atI s k from rfl]
  have hp := h'.hp
  rw [pl_ix (H := H') i0 i1]
  rw [acc_pl, acc_ip] at hp
  have hlt : (atI s k).toNat < s.pl.length := by omega
  simp [hp, hnd, Ne.symm hnd, pl_ld hlt, hg, h'.hd]
  have := hK _ (h'.setO (o' := { o with x := s.pl.getD (atI s k).toNat 0 }) hw ho rfl) (f.trans (.setO hw ho) rfl fun w o' hs => ⟨o', hs, rfl⟩)
  simpa using this

/-- The state when who has made a step and its operation reads so. -/
def put (s : S) (w : Nat) (o : O) : S := { s with op := upd s.op w (some o) }
theorem put_self {s : S} {w : Nat} {o : O} (h : s.op w = some o) : put s w o = s := by
  unfold put
  have : upd s.op w (some o) = s.op := by
    funext i
    by_cases hi : i = w
    · subst hi; simp [h]
    · simp [hi]
  rw [this]
/-- Where the steps of a phase lead. -/
def Ph (σ : Sig) (g d w : Nat) (s : S) (o : O) (s' : S) (o' : O) (r : AV) : Prop :=
  o'.id = o.id ∧ o'.nx = o.nx ∧ s'.op = s.op ∧ s'.ip = s.ip ∧ s'.pl.length = s.pl.length ∧
  ∀ {H : Hp} {K : AV → Hp → Prop}, Dq H d s → w < 65 → s.op w = some o → (∀ H', Dq H' d (put s' w o') → Fd d s H H' → K r H') → callK Try.prog σ g [.ptr o.id 0] H K
theorem Dq.putO {H : Hp} {d w : Nat} {s : S} {o o' : O} (h : Dq H d s) (hw : w < 65) (ho : s.op w = some o) (e : o'.id = o.id) : Dq (H.set o.id (some (.cells (opc d w o') true))) d (put s w o') := h.setO hw ho e
theorem ph_push1 {d w : Nat} {s : S} {o : O} : Ph σ n_deque_push1 d w s o (acc s w (-1001) false) { o with b := s.bot } (.fn n_deque_push2 []) := by
  refine ⟨rfl, rfl, rfl, rfl, rfl, fun {H K} h hw ho hK => deque_push1.run (readB_sp h hw ho fun H' h' f => ?_)⟩
  obtain ⟨hg, _, hnd, hnp⟩ := h'.ho w o hw ho
  simp [hg]
  exact hK _ (h'.putO hw ho rfl) (f.tr (.setO hw ho) rfl rfl)
theorem ph_push2 {d w : Nat} {s : S} {o : O} (hb : wr .i64 (o.b - s.top) = o.b - s.top) : Ph σ n_deque_push2 d w s o (acc s w (-1000) false) { o with t := s.top } (if o.b - s.top = s.pl.length then .lit .nilFunc else .fn n_deque_push3 []) := by
  refine ⟨rfl, rfl, rfl, rfl, rfl, fun {H K} h hw ho hK => deque_push2.run (readT_sp h hw ho fun H' h' f => ?_)⟩
  obtain ⟨hg, _, hnd, hnp⟩ := h'.ho w o hw ho
  have hl : (acc s w (-1000) false).pl.length = s.pl.length := rfl
  simp [hg, hb, hnd, Ne.symm hnd, h'.hd, hl]
  have := hK _ (h'.putO (o' := { o with t := s.top }) hw ho rfl) (f.tr (.setO hw ho) rfl rfl)
  split
  · rename_i e; rw [if_pos e] at this; exact this
  · rename_i e; rw [if_neg e] at this; exact this
theorem ph_push3 {d w : Nat} {s : S} {o : O} (h0 : 0 ≤ o.b) (hn : s.pl.length ≠ 0) (hm : s.pl.length ≤ 1000000) : Ph σ n_deque_push3 d w s o { acc s w (-1002 - atI s o.b) true with pl := s.pl.set (atI s o.b).toNat o.x } o (.fn n_deque_push4 []) := by
  refine ⟨rfl, rfl, rfl, rfl, by simp, fun {H K} h hw ho hK => deque_push3.run ?_⟩
  obtain ⟨i0, i1⟩ := at_in h0 hn
  obtain ⟨hg, _, hnd, hnp⟩ := h.ho w o hw ho
  simp [hg]
  refine at_sp h hw ho hn ?_
  rw [show o.b.tmod s.pl.length = atI s o.b from rfl]
  have e : wr .i64 (-1002 - atI s o.b) = -1002 - atI s o.b := wr64 (by omega) (by omega)
  simp [e]
  refine access_sp h hw ho fun H' h' f => ?_
  obtain ⟨hg', _, _, _⟩ := h'.ho w o hw ho
  simp [hg', h'.hd]
  refine at_sp h' hw ho hn ?_
  rw [show o.b.tmod (acc s w (-1002 - atI s o.b) true).pl.length = atI s o.b from rfl]
  have hlt : (atI s o.b).toNat < s.pl.length := by omega
  have hp := h'.hp
  have hdp : d ≠ s.ip := h'.dp
  rw [pl_ix (H := H') i0 i1]
  rw [acc_pl, acc_ip] at hp
  have hlt' : (atI s o.b).toNat < (s.pl.map I).length := by simpa using hlt
  have hlt2 : (atI s o.b).toNat + 1 ≤ s.pl.length := hlt
  simp [hp, hg', hnp, Ne.symm hnp, hnd, Ne.symm hnd, h'.hd, hlt2, hdp, Ne.symm hdp]
  rw [ov_set hlt', ← List.map_set]
  have hset : Dq (H'.set (acc s w (-1002 - atI s o.b) true).ip (some (.cells (((acc s w (-1002 - atI s o.b) true).pl.set (atI s o.b).toNat o.x).map I) true))) d { acc s w (-1002 - atI s o.b) true with pl := s.pl.set (atI s o.b).toNat o.x } := h'.setP (p := s.pl.set (atI s o.b).toNat o.x) (by simp)
  refine hK _ ?_ (f.tr .setP rfl rfl)
  rw [put_self (by exact ho)]
  exact hset
theorem ph_push4 {d w : Nat} {s : S} {o : O} (hb : wr .i64 (o.b + 1) = o.b + 1) : Ph σ n_deque_push4 d w s o { acc s w (-1001) true with bot := o.b + 1 } { o with ok := true } (.lit .nilFunc) := by
  refine ⟨rfl, rfl, rfl, rfl, rfl, fun {H K} h hw ho hK => deque_push4.run ?_⟩
  obtain ⟨hg, _, hnd, hnp⟩ := h.ho w o hw ho
  simp [hg, hb]
  refine writeB_sp h hw ho fun H' h' f => ?_
  obtain ⟨hg', _, _, _⟩ := h'.ho w o hw ho
  simp [hg']
  exact hK _ (h'.putO hw ho rfl) (f.tr (.setO hw ho) rfl rfl)
theorem ph_pop1 {d w : Nat} {s : S} {o : O} (hb : wr .i64 (s.bot - 1) = s.bot - 1) : Ph σ n_deque_pop1 d w s o (acc s w (-1001) false) { o with b := s.bot - 1 } (.fn n_deque_pop2 []) := by
  refine ⟨rfl, rfl, rfl, rfl, rfl, fun {H K} h hw ho hK => deque_pop1.run (readB_sp h hw ho fun H' h' f => ?_)⟩
  obtain ⟨hg, _, hnd, hnp⟩ := h'.ho w o hw ho
  simp [hg, hb]
  exact hK _ (h'.putO hw ho rfl) (f.tr (.setO hw ho) rfl rfl)
theorem ph_pop2 {d w : Nat} {s : S} {o : O} : Ph σ n_deque_pop2 d w s o { acc s w (-1001) true with bot := o.b } o (.fn n_deque_pop3 []) := by
  refine ⟨rfl, rfl, rfl, rfl, rfl, fun {H K} h hw ho hK => deque_pop2.run ?_⟩
  obtain ⟨hg, _, hnd, hnp⟩ := h.ho w o hw ho
  simp [hg]
  refine writeB_sp h hw ho fun H' h' f => hK _ ?_ f
  rw [put_self (by exact ho)]
  exact h'
theorem ph_pop3 {d w : Nat} {s : S} {o : O} : Ph σ n_deque_pop3 d w s o (acc s w (-1000) false) { o with t := s.top } (if o.b < s.top then .fn n_deque_pop6 [] else .fn n_deque_pop4 []) := by
  refine ⟨rfl, rfl, rfl, rfl, rfl, fun {H K} h hw ho hK => deque_pop3.run (readT_sp h hw ho fun H' h' f => ?_)⟩
  obtain ⟨hg, _, hnd, hnp⟩ := h'.ho w o hw ho
  simp [hg]
  have := hK _ (h'.putO (o' := { o with t := s.top }) hw ho rfl) (f.tr (.setO hw ho) rfl rfl)
  split
  · rename_i e; rw [if_pos e] at this; exact this
  · rename_i e; rw [if_neg e] at this; exact this
theorem upd_upd (f : Nat → Option O) (w : Nat) (a b : Option O) : upd (upd f w a) w b = upd f w b := by
  funext i
  by_cases h : i = w
  · subst h; simp
  · simp [h]
theorem ph_pop4 {d w : Nat} {s : S} {o : O} (h0 : 0 ≤ o.b) (hn : s.pl.length ≠ 0) (hm : s.pl.length ≤ 1000000) : Ph σ n_deque_pop4 d w s o (acc s w (-1002 - atI s o.b) false) { o with x := s.pl.getD (atI s o.b).toNat 0, ok := if o.t < o.b then true else o.ok } (if o.t < o.b then .lit .nilFunc else .fn n_deque_pop5 []) := by
  refine ⟨rfl, rfl, rfl, rfl, rfl, fun {H K} h hw ho hK => deque_pop4.run ?_⟩
  obtain ⟨hg, _, hnd, hnp⟩ := h.ho w o hw ho
  simp [hg]
  refine read_sp h hw ho h0 hn hm fun H' h' f => ?_
  obtain ⟨hg', _, _, _⟩ := h'.ho w _ hw (upd_same _ _ _)
  simp only at hg'
  simp [hg']
  split
  · rename_i e
    simp only [e, if_true] at hK
    have := hK _ (by
      have := h'.putO (o' := { o with x := s.pl.getD (atI s o.b).toNat 0, ok := true }) hw (upd_same _ _ _) rfl
      simp only [put, upd_upd] at this
      exact this) (f.tr (.setO hw ho) rfl rfl)
    simpa using this
  · rename_i e
    simp only [e, if_false] at hK
    exact hK _ h' f
theorem ph_pop5 {d w : Nat} {s : S} {o : O} (hb : wr .i64 (s.top + 1) = s.top + 1) : Ph σ n_deque_pop5 d w s o { acc s w (-1000) true with top := if s.top = o.t then s.top + 1 else s.top } { o with ok := decide (s.top = o.t) } (.fn n_deque_pop6 []) := by
  refine ⟨rfl, rfl, rfl, rfl, rfl, fun {H K} h hw ho hK => deque_pop5.run ?_⟩
  refine take_sp h hw ho hb fun H' h' f => ?_
  obtain ⟨hg', _, _, _⟩ := h'.ho w o hw ho
  simp [hg']
  exact hK _ (h'.putO hw ho rfl) (f.tr (.setO hw ho) rfl rfl)
theorem ph_pop6 {d w : Nat} {s : S} {o : O} (hb : wr .i64 (o.b + 1) = o.b + 1) : Ph σ n_deque_pop6 d w s o { acc s w (-1001) true with bot := o.b + 1 } o (.lit .nilFunc) := by
  refine ⟨rfl, rfl, rfl, rfl, rfl, fun {H K} h hw ho hK => deque_pop6.run ?_⟩
  obtain ⟨hg, _, hnd, hnp⟩ := h.ho w o hw ho
  simp [hg, hb]
  refine writeB_sp h hw ho fun H' h' f => hK _ ?_ f
  rw [put_self (by exact ho)]
  exact h'
theorem ph_steal1 {d w : Nat} {s : S} {o : O} : Ph σ n_deque_steal1 d w s o (acc s w (-1000) false) { o with t := s.top } (.fn n_deque_steal2 []) := by
  refine ⟨rfl, rfl, rfl, rfl, rfl, fun {H K} h hw ho hK => deque_steal1.run (readT_sp h hw ho fun H' h' f => ?_)⟩
  obtain ⟨hg, _, hnd, hnp⟩ := h'.ho w o hw ho
  simp [hg]
  exact hK _ (h'.putO hw ho rfl) (f.tr (.setO hw ho) rfl rfl)
theorem ph_steal2 {d w : Nat} {s : S} {o : O} : Ph σ n_deque_steal2 d w s o (acc s w (-1001) false) { o with b := s.bot } (if s.bot ≤ o.t then .lit .nilFunc else .fn n_deque_steal3 []) := by
  refine ⟨rfl, rfl, rfl, rfl, rfl, fun {H K} h hw ho hK => deque_steal2.run (readB_sp h hw ho fun H' h' f => ?_)⟩
  obtain ⟨hg, _, hnd, hnp⟩ := h'.ho w o hw ho
  simp [hg]
  have := hK _ (h'.putO (o' := { o with b := s.bot }) hw ho rfl) (f.tr (.setO hw ho) rfl rfl)
  split
  · rename_i e; rw [if_pos e] at this; exact this
  · rename_i e; rw [if_neg e] at this; exact this
theorem ph_steal3 {d w : Nat} {s : S} {o : O} (h0 : 0 ≤ o.t) (hn : s.pl.length ≠ 0) (hm : s.pl.length ≤ 1000000) : Ph σ n_deque_steal3 d w s o (acc s w (-1002 - atI s o.t) false) { o with x := s.pl.getD (atI s o.t).toNat 0 } (.fn n_deque_steal4 []) := by
  refine ⟨rfl, rfl, rfl, rfl, rfl, fun {H K} h hw ho hK => deque_steal3.run ?_⟩
  obtain ⟨hg, _, hnd, hnp⟩ := h.ho w o hw ho
  simp [hg]
  exact read_sp h hw ho h0 hn hm fun H' h' f => hK _ h' f
theorem ph_steal4 {d w : Nat} {s : S} {o : O} (hb : wr .i64 (s.top + 1) = s.top + 1) : Ph σ n_deque_steal4 d w s o { acc s w (-1000) true with top := if s.top = o.t then s.top + 1 else s.top } { o with ok := decide (s.top = o.t) } (.lit .nilFunc) := by
  refine ⟨rfl, rfl, rfl, rfl, rfl, fun {H K} h hw ho hK => deque_steal4.run ?_⟩
  refine take_sp h hw ho hb fun H' h' f => ?_
  obtain ⟨hg', _, _, _⟩ := h'.ho w o hw ho
  simp [hg']
  exact hK _ (h'.putO hw ho rfl) (f.tr (.setO hw ho) rfl rfl)
end Go.Proofs.Ytnloolhaojoimaa.Ev

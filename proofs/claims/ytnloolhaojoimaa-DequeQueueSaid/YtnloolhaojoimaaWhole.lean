/- One operation after the other. -/
import Derived.Test.YtnloolhaojoimaaStep
namespace Go.Proofs.Ytnloolhaojoimaa.Ev
set_option linter.unusedVariables false
set_option linter.unusedSimpArgs false
variable {σ : Sig}
structure Fw (H0 : Hp) (d ip : Nat) (H : Hp) : Prop where
  n : H0.n ≤ H.n
  g : ∀ j, j < H0.n → j ≠ d → j ≠ ip → H.get j = H0.get j
theorem Fw.refl {H : Hp} {d ip : Nat} : Fw H d ip H := ⟨Nat.le_refl _, fun _ _ _ _ => rfl⟩
theorem Fw.trans {H0 H1 H2 : Hp} {d ip : Nat} (h : Fw H0 d ip H1) (h' : Fw H1 d ip H2) : Fw H0 d ip H2 :=
  ⟨Nat.le_trans h.n h'.n, fun j hj a b => (h'.g j (Nat.lt_of_lt_of_le hj h.n) a b).trans (h.g j hj a b)⟩
theorem Fw.fd {H0 H H' : Hp} {d : Nat} {s : S} (F : Fw H0 d s.ip H) (hop : ∀ w o, w < 65 → s.op w = some o → H0.n ≤ o.id) (f : Fd d s H H') : Fw H0 d s.ip H' :=
  ⟨by rw [f.n]; exact F.n, fun j hj a b => (f.g j a b fun w o hw ho => Nat.ne_of_lt (Nat.lt_of_lt_of_le hj (hop w o hw ho))).trans (F.g j hj a b)⟩
def noop : Nat → Option O := fun _ => none
def QS (ip : Nat) (pl : List Int) (top bot : Int) (lw lc : Int) (lr la : Bool) : S := ⟨ip, pl, top, bot, noop, lw, lc, lr, la⟩
/-- The deque, nobody at it. -/
def Q (H : Hp) (d ip : Nat) (pl : List Int) (top bot : Int) : Prop := ∃ lw lc lr la, Dq H d (QS ip pl top bot lw lc lr la)
theorem hop_upd {H0 : Hp} {w : Nat} {o : O} (h : H0.n ≤ o.id) : ∀ w2 o2, w2 < 65 → upd noop w (some o) w2 = some o2 → H0.n ≤ o2.id := by
  intro w2 o2 _ h2
  by_cases e : w2 = w
  · subst e; simp at h2; subst h2; exact h
  · simp [e, noop] at h2
section
attribute [local irreducible] law20_whole.L0
theorem W_fn {H0 H : Hp} {d w g g2 : Nat} {s s' : S} {o o' : O} {i : Int} {K : AV → Hp → Prop} (hp : Ph σ g d w s o s' o' (.fn g2 [])) (F : Fw H0 d s.ip H) (hop : ∀ w o, w < 65 → s.op w = some o → H0.n ≤ o.id) (h : Dq H d s) (hw : w < 65) (ho : s.op w = some o) (hx : o.nx = .fn g []) (hi : 0 ≤ i ∧ i < 9)
    (hK : ∀ H', Dq H' d (put s' w { o' with nx := .fn g2 [] }) → Fw H0 d s.ip H' → law20_whole.L0 σ K (.ptr d 0) (I w) (I (i + 1)) H') : law20_whole.L0 σ K (.ptr d 0) (I w) (I i) H := by
  refine law20_whole.L0_step ?_
  have h10 : i < 10 := by omega
  simp [h10]
  refine Step_fn h hw ho hx hp fun H' hq f => ?_
  simp
  rw [wr64 (by omega) (by omega)]
  exact hK H' hq (F.fd hop f)
theorem W_nil {H0 H : Hp} {d w g : Nat} {s s' : S} {o o' : O} {i : Int} {K : AV → Hp → Prop} (hp : Ph σ g d w s o s' o' (.lit .nilFunc)) (F : Fw H0 d s.ip H) (hop : ∀ w o, w < 65 → s.op w = some o → H0.n ≤ o.id) (h : Dq H d s) (hw : w < 65) (ho : s.op w = some o) (hx : o.nx = .fn g []) (hi : 0 ≤ i ∧ i < 10)
    (hK : ∀ H', Dq H' d { s' with op := upd s.op w none } → Fw H0 d s.ip H' → K (.tup [I (if o'.ok = true then o'.x else 0), Bo o'.ok]) H') : law20_whole.L0 σ K (.ptr d 0) (I w) (I i) H := by
  refine law20_whole.L0_step ?_
  have h10 : i < 10 := by omega
  simp [h10]
  refine Step_nil h hw ho hx hp fun H' hq f => ?_
  simp
  exact hK H' hq (F.fd hop f)
theorem clr_noop {w : Nat} {o : O} : upd (upd noop w (some o)) w none = noop := by
  funext i
  by_cases h : i = w
  · subst h; simp [noop]
  · simp [h, noop]
/-- The deque, w at it. -/
def PQ (H : Hp) (d ip : Nat) (pl : List Int) (top bot : Int) (w : Nat) (o : O) : Prop := ∃ lw lc lr la, Dq H d ⟨ip, pl, top, bot, upd noop w (some o), lw, lc, lr, la⟩
/-- The step of a phase, told by what counts. -/
def Ph1 (σ : Sig) (g d w ip : Nat) (pl : List Int) (top bot : Int) (o : O) (pl' : List Int) (top' bot' : Int) (o' : O) (r : AV) : Prop :=
  ∀ lw lc lr la, ∃ lw' lc' lr' la', Ph σ g d w ⟨ip, pl, top, bot, upd noop w (some o), lw, lc, lr, la⟩ o ⟨ip, pl', top', bot', upd noop w (some o), lw', lc', lr', la'⟩ o' r
theorem WF {H0 H : Hp} {d w ip g g2 : Nat} {pl pl' : List Int} {top bot top' bot' : Int} {o o' : O} {i : Int} {K : AV → Hp → Prop} (hp : Ph1 σ g d w ip pl top bot o pl' top' bot' o' (.fn g2 [])) (F : Fw H0 d ip H) (hid : H0.n ≤ o.id) (h : PQ H d ip pl top bot w o) (hw : w < 65) (hx : o.nx = .fn g []) (hi : 0 ≤ i ∧ i < 9)
    (hK : ∀ H', PQ H' d ip pl' top' bot' w { o' with nx := .fn g2 [] } → Fw H0 d ip H' → law20_whole.L0 σ K (.ptr d 0) (I w) (I (i + 1)) H') : law20_whole.L0 σ K (.ptr d 0) (I w) (I i) H := by
  obtain ⟨lw, lc, lr, la, h⟩ := h
  obtain ⟨lw', lc', lr', la', hp⟩ := hp lw lc lr la
  refine W_fn hp F (hop_upd hid) h hw (upd_same _ _ _) hx hi fun H' h' F' => hK H' ⟨lw', lc', lr', la', ?_⟩ F'
  have := h'
  simp only [put, upd_upd] at this
  exact this
theorem WN {H0 H : Hp} {d w ip g : Nat} {pl pl' : List Int} {top bot top' bot' : Int} {o o' : O} {i : Int} {K : AV → Hp → Prop} (hp : Ph1 σ g d w ip pl top bot o pl' top' bot' o' (.lit .nilFunc)) (F : Fw H0 d ip H) (hid : H0.n ≤ o.id) (h : PQ H d ip pl top bot w o) (hw : w < 65) (hx : o.nx = .fn g []) (hi : 0 ≤ i ∧ i < 10)
    (hK : ∀ H', Q H' d ip pl' top' bot' → Fw H0 d ip H' → K (.tup [I (if o'.ok = true then o'.x else 0), Bo o'.ok]) H') : law20_whole.L0 σ K (.ptr d 0) (I w) (I i) H := by
  obtain ⟨lw, lc, lr, la, h⟩ := h
  obtain ⟨lw', lc', lr', la', hp⟩ := hp lw lc lr la
  refine W_nil hp F (hop_upd hid) h hw (upd_same _ _ _) hx hi fun H' h' F' => hK H' ⟨lw', lc', lr', la', ?_⟩ F'
  have := h'
  simp only [clr_noop] at this
  exact this
theorem W_begin {H0 : Hp} {d w g : Nat} {ip : Nat} {pl : List Int} {top bot k x : Int} {K : AV → Hp → Prop} (h : Q H0 d ip pl top bot) (hw : w < 65) (hg : stepsF w k = some g)
    (hK : ∀ H, PQ H d ip pl top bot w ⟨H0.n, x, 0, 0, false, .fn g []⟩ → Fw H0 d ip H → law20_whole.L0 σ K (.ptr d 0) (I w) (I 0) H) : callK Try.prog σ n_law20_whole [.ptr d 0, I w, I k, I x] H0 K := by
  obtain ⟨lw, lc, lr, la, h⟩ := h
  refine law20_whole.run (Begin_go h hw rfl hg fun H' hq hn hf => ?_)
  exact hK H' ⟨lw, lc, lr, la, hq⟩ ⟨by omega, fun j hj a _ => hf j hj a⟩
def pix (pl : List Int) (k : Int) : Nat := (k.tmod pl.length).toNat
section
variable {d w ip : Nat} {pl : List Int} {top bot : Int} {o : O}
theorem p_push1 : Ph1 σ n_deque_push1 d w ip pl top bot o pl top bot { o with b := bot } (.fn n_deque_push2 []) := fun _ _ _ _ => ⟨_, _, _, _, ph_push1⟩
theorem p_push2 (hb : wr .i64 (o.b - top) = o.b - top) : Ph1 σ n_deque_push2 d w ip pl top bot o pl top bot { o with t := top } (if o.b - top = pl.length then .lit .nilFunc else .fn n_deque_push3 []) := fun _ _ _ _ => ⟨_, _, _, _, ph_push2 hb⟩
theorem p_push3 (h0 : 0 ≤ o.b) (hn : pl.length ≠ 0) (hm : pl.length ≤ 1000000) : Ph1 σ n_deque_push3 d w ip pl top bot o (pl.set (pix pl o.b) o.x) top bot o (.fn n_deque_push4 []) := fun _ _ _ _ => ⟨_, _, _, _, ph_push3 h0 hn hm⟩
theorem p_push4 (hb : wr .i64 (o.b + 1) = o.b + 1) : Ph1 σ n_deque_push4 d w ip pl top bot o pl top (o.b + 1) { o with ok := true } (.lit .nilFunc) := fun _ _ _ _ => ⟨_, _, _, _, ph_push4 hb⟩
theorem p_pop1 (hb : wr .i64 (bot - 1) = bot - 1) : Ph1 σ n_deque_pop1 d w ip pl top bot o pl top bot { o with b := bot - 1 } (.fn n_deque_pop2 []) := fun _ _ _ _ => ⟨_, _, _, _, ph_pop1 hb⟩
theorem p_pop2 : Ph1 σ n_deque_pop2 d w ip pl top bot o pl top o.b o (.fn n_deque_pop3 []) := fun _ _ _ _ => ⟨_, _, _, _, ph_pop2⟩
theorem p_pop3 : Ph1 σ n_deque_pop3 d w ip pl top bot o pl top bot { o with t := top } (if o.b < top then .fn n_deque_pop6 [] else .fn n_deque_pop4 []) := fun _ _ _ _ => ⟨_, _, _, _, ph_pop3⟩
theorem p_pop4 (h0 : 0 ≤ o.b) (hn : pl.length ≠ 0) (hm : pl.length ≤ 1000000) : Ph1 σ n_deque_pop4 d w ip pl top bot o pl top bot { o with x := pl.getD (pix pl o.b) 0, ok := if o.t < o.b then true else o.ok } (if o.t < o.b then .lit .nilFunc else .fn n_deque_pop5 []) := fun _ _ _ _ => ⟨_, _, _, _, ph_pop4 h0 hn hm⟩
theorem p_pop5 (hb : wr .i64 (top + 1) = top + 1) : Ph1 σ n_deque_pop5 d w ip pl top bot o pl (if top = o.t then top + 1 else top) bot { o with ok := decide (top = o.t) } (.fn n_deque_pop6 []) := fun _ _ _ _ => ⟨_, _, _, _, ph_pop5 hb⟩
theorem p_pop6 (hb : wr .i64 (o.b + 1) = o.b + 1) : Ph1 σ n_deque_pop6 d w ip pl top bot o pl top (o.b + 1) o (.lit .nilFunc) := fun _ _ _ _ => ⟨_, _, _, _, ph_pop6 hb⟩
theorem p_steal1 : Ph1 σ n_deque_steal1 d w ip pl top bot o pl top bot { o with t := top } (.fn n_deque_steal2 []) := fun _ _ _ _ => ⟨_, _, _, _, ph_steal1⟩
theorem p_steal2 : Ph1 σ n_deque_steal2 d w ip pl top bot o pl top bot { o with b := bot } (if bot ≤ o.t then .lit .nilFunc else .fn n_deque_steal3 []) := fun _ _ _ _ => ⟨_, _, _, _, ph_steal2⟩
theorem p_steal3 (h0 : 0 ≤ o.t) (hn : pl.length ≠ 0) (hm : pl.length ≤ 1000000) : Ph1 σ n_deque_steal3 d w ip pl top bot o pl top bot { o with x := pl.getD (pix pl o.t) 0 } (.fn n_deque_steal4 []) := fun _ _ _ _ => ⟨_, _, _, _, ph_steal3 h0 hn hm⟩
theorem p_steal4 (hb : wr .i64 (top + 1) = top + 1) : Ph1 σ n_deque_steal4 d w ip pl top bot o pl (if top = o.t then top + 1 else top) bot { o with ok := decide (top = o.t) } (.lit .nilFunc) := fun _ _ _ _ => ⟨_, _, _, _, ph_steal4 hb⟩
end
section
variable {H0 : Hp} {d ip : Nat} {pl : List Int} {top bot x : Int} {K : AV → Hp → Prop}
theorem wh_push_full (h : Q H0 d ip pl top bot) (ht : 0 ≤ top ∧ top ≤ bot ∧ bot ≤ 1000000) (hf : bot - top = pl.length)
    (hK : ∀ H, Q H d ip pl top bot → Fw H0 d ip H → K (.tup [I 0, Bo false]) H) : callK Try.prog σ n_law20_whole [.ptr d 0, I 0, I 1, I x] H0 K := by
  refine W_begin (w := 0) h (by omega) rfl fun H h1 F1 => ?_
  refine WF p_push1 F1 (Nat.le_refl _) h1 (by omega) rfl (by omega) fun H2 h2 F2 => ?_
  have p2 := p_push2 (σ := σ) (d := d) (w := 0) (ip := ip) (pl := pl) (top := top) (bot := bot) (o := ⟨H0.n, x, 0, bot, false, .fn n_deque_push2 []⟩) (wr64 (by simp; omega) (by simp; omega))
  rw [if_pos hf] at p2
  exact WN p2 F2 (Nat.le_refl _) h2 (by omega) rfl (by omega) fun H3 h3 F3 => hK H3 h3 F3
theorem push_room (h : Q H0 d ip pl top bot) (ht : 0 ≤ top ∧ top ≤ bot ∧ bot ≤ 1000000) (hf : bot - top ≠ pl.length) (hn : pl.length ≠ 0) (hm : pl.length ≤ 1000000)
    (hK : ∀ H, Q H d ip (pl.set (pix pl bot) x) top (bot + 1) → Fw H0 d ip H → K (.tup [I x, Bo true]) H) : callK Try.prog σ n_law20_whole [.ptr d 0, I 0, I 1, I x] H0 K := by
  refine W_begin (w := 0) h (by omega) rfl fun H h1 F1 => ?_
  refine WF p_push1 F1 (Nat.le_refl _) h1 (by omega) rfl (by omega) fun H2 h2 F2 => ?_
  have p2 := p_push2 (σ := σ) (d := d) (w := 0) (ip := ip) (pl := pl) (top := top) (bot := bot) (o := ⟨H0.n, x, 0, bot, false, .fn n_deque_push2 []⟩) (wr64 (by simp; omega) (by simp; omega))
  rw [if_neg hf] at p2
  refine WF p2 F2 (Nat.le_refl _) h2 (by omega) rfl (by omega) fun H3 h3 F3 => ?_
  refine WF (p_push3 (by simp; omega) hn hm) F3 (Nat.le_refl _) h3 (by omega) rfl (by omega) fun H4 h4 F4 => ?_
  exact WN (p_push4 (wr64 (by simp; omega) (by simp; omega))) F4 (Nat.le_refl _) h4 (by omega) rfl (by omega) fun H5 h5 F5 => hK H5 h5 F5
theorem wh_pop_none (h : Q H0 d ip pl top bot) (ht : 0 ≤ top ∧ top = bot ∧ bot ≤ 1000000)
    (hK : ∀ H, Q H d ip pl top bot → Fw H0 d ip H → K (.tup [I 0, Bo false]) H) : callK Try.prog σ n_law20_whole [.ptr d 0, I 0, I 2, I 0] H0 K := by
  refine W_begin (w := 0) h (by omega) rfl fun H h1 F1 => ?_
  refine WF (p_pop1 (wr64 (by omega) (by omega))) F1 (Nat.le_refl _) h1 (by omega) rfl (by omega) fun H2 h2 F2 => ?_
  refine WF p_pop2 F2 (Nat.le_refl _) h2 (by omega) rfl (by omega) fun H3 h3 F3 => ?_
  have p3 := p_pop3 (σ := σ) (d := d) (w := 0) (ip := ip) (pl := pl) (top := top) (bot := bot - 1) (o := ⟨H0.n, 0, 0, bot - 1, false, .fn n_deque_pop3 []⟩)
  rw [if_pos (by simp; omega)] at p3
  refine WF p3 F3 (Nat.le_refl _) h3 (by omega) rfl (by omega) fun H4 h4 F4 => ?_
  refine WN (p_pop6 (wr64 (by simp; omega) (by simp; omega))) F4 (Nat.le_refl _) h4 (by omega) rfl (by omega) fun H5 h5 F5 => hK H5 ?_ F5
  have e : bot - 1 + 1 = bot := by omega
  simp only [e] at h5
  exact h5
theorem pop_some (h : Q H0 d ip pl top bot) (ht : 0 ≤ top ∧ top < bot ∧ bot ≤ 1000000) (hn : pl.length ≠ 0) (hm : pl.length ≤ 1000000)
    (hK : ∀ H, Q H d ip pl (if top = bot - 1 then top + 1 else top) (if top = bot - 1 then bot else bot - 1) → Fw H0 d ip H → K (.tup [I (pl.getD (pix pl (bot - 1)) 0), Bo true]) H) : callK Try.prog σ n_law20_whole [.ptr d 0, I 0, I 2, I 0] H0 K := by
  refine W_begin (w := 0) h (by omega) rfl fun H h1 F1 => ?_
  refine WF (p_pop1 (wr64 (by omega) (by omega))) F1 (Nat.le_refl _) h1 (by omega) rfl (by omega) fun H2 h2 F2 => ?_
  refine WF p_pop2 F2 (Nat.le_refl _) h2 (by omega) rfl (by omega) fun H3 h3 F3 => ?_
  have p3 := p_pop3 (σ := σ) (d := d) (w := 0) (ip := ip) (pl := pl) (top := top) (bot := bot - 1) (o := ⟨H0.n, 0, 0, bot - 1, false, .fn n_deque_pop3 []⟩)
  rw [if_neg (by simp; omega)] at p3
  refine WF p3 F3 (Nat.le_refl _) h3 (by omega) rfl (by omega) fun H4 h4 F4 => ?_
  have p4 := p_pop4 (σ := σ) (d := d) (w := 0) (ip := ip) (pl := pl) (top := top) (bot := bot - 1) (o := ⟨H0.n, 0, top, bot - 1, false, .fn n_deque_pop4 []⟩) (by simp; omega) hn hm
  by_cases e : top < bot - 1
  · have e' : ¬ top = bot - 1 := by omega
    simp only [e, e', if_true, if_false] at p4 hK
    exact WN p4 F4 (Nat.le_refl _) h4 (by omega) rfl (by omega) fun H5 h5 F5 => hK H5 h5 F5
  · have e' : top = bot - 1 := by omega
    simp only [e, if_false] at p4
    rw [if_pos e', if_pos e'] at hK
    refine WF p4 F4 (Nat.le_refl _) h4 (by omega) rfl (by omega) fun H5 h5 F5 => ?_
    have p5 := p_pop5 (σ := σ) (d := d) (w := 0) (ip := ip) (pl := pl) (top := top) (bot := bot - 1) (o := ⟨H0.n, pl.getD (pix pl (bot - 1)) 0, top, bot - 1, false, .fn n_deque_pop5 []⟩) (wr64 (by omega) (by omega))
    simp only [if_true, decide_true] at p5
    refine WF p5 F5 (Nat.le_refl _) h5 (by omega) rfl (by omega) fun H6 h6 F6 => ?_
    refine WN (p_pop6 (wr64 (by simp; omega) (by simp; omega))) F6 (Nat.le_refl _) h6 (by omega) rfl (by omega) fun H7 h7 F7 => ?_
    have e2 : bot - 1 + 1 = bot := by omega
    simp only [e2] at h7
    exact hK H7 h7 F7
theorem wh_steal_none {w : Nat} (hw : 0 < w ∧ w < 65) (h : Q H0 d ip pl top bot) (ht : 0 ≤ top ∧ top = bot ∧ bot ≤ 1000000)
    (hK : ∀ H, Q H d ip pl top bot → Fw H0 d ip H → K (.tup [I 0, Bo false]) H) : callK Try.prog σ n_law20_whole [.ptr d 0, I w, I 3, I 0] H0 K := by
  have hs : stepsF w 3 = some n_deque_steal1 := by
    have h1 : (0 : Int) < w := by omega
    have h2 : w ≠ 0 := by omega
    simp [stepsF, h1, h2]
  refine W_begin (w := w) h hw.2 hs fun H h1 F1 => ?_
  refine WF p_steal1 F1 (Nat.le_refl _) h1 hw.2 rfl (by omega) fun H2 h2 F2 => ?_
  have p2 := p_steal2 (σ := σ) (d := d) (w := w) (ip := ip) (pl := pl) (top := top) (bot := bot) (o := ⟨H0.n, 0, top, 0, false, .fn n_deque_steal2 []⟩)
  rw [if_pos (by simp; omega)] at p2
  exact WN p2 F2 (Nat.le_refl _) h2 hw.2 rfl (by omega) fun H3 h3 F3 => hK H3 h3 F3
theorem steal_some {w : Nat} (hw : 0 < w ∧ w < 65) (h : Q H0 d ip pl top bot) (ht : 0 ≤ top ∧ top < bot ∧ bot ≤ 1000000) (hn : pl.length ≠ 0) (hm : pl.length ≤ 1000000)
    (hK : ∀ H, Q H d ip pl (top + 1) bot → Fw H0 d ip H → K (.tup [I (pl.getD (pix pl top) 0), Bo true]) H) : callK Try.prog σ n_law20_whole [.ptr d 0, I w, I 3, I 0] H0 K := by
  have hs : stepsF w 3 = some n_deque_steal1 := by
    have h1 : (0 : Int) < w := by omega
    have h2 : w ≠ 0 := by omega
    simp [stepsF, h1, h2]
  refine W_begin (w := w) h hw.2 hs fun H h1 F1 => ?_
  refine WF p_steal1 F1 (Nat.le_refl _) h1 hw.2 rfl (by omega) fun H2 h2 F2 => ?_
  have p2 := p_steal2 (σ := σ) (d := d) (w := w) (ip := ip) (pl := pl) (top := top) (bot := bot) (o := ⟨H0.n, 0, top, 0, false, .fn n_deque_steal2 []⟩)
  rw [if_neg (by simp; omega)] at p2
  refine WF p2 F2 (Nat.le_refl _) h2 hw.2 rfl (by omega) fun H3 h3 F3 => ?_
  refine WF (p_steal3 (by simp; omega) hn hm) F3 (Nat.le_refl _) h3 hw.2 rfl (by omega) fun H4 h4 F4 => ?_
  have p4 := p_steal4 (σ := σ) (d := d) (w := w) (ip := ip) (pl := pl) (top := top) (bot := bot) (o := ⟨H0.n, pl.getD (pix pl top) 0, top, bot, false, .fn n_deque_steal4 []⟩) (wr64 (by omega) (by omega))
  simp only [if_true, decide_true] at p4
  exact WN p4 F4 (Nat.le_refl _) h4 hw.2 rfl (by omega) fun H5 h5 F5 => hK H5 h5 F5
end
end
end Go.Proofs.Ytnloolhaojoimaa.Ev

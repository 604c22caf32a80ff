/- DequeThieves: the steps of many thieves over one item. -/
import Derived.Test.YtnloolhaojoimaaLaws
import Derived.Test.YtnloolhaojoimaaAlive20
import Derived.Test.YtnloolhaojoimaaDecode
namespace Go.Proofs.Ytnloolhaojoimaa.Ev
open Go.RowKit
set_option linter.unusedVariables false
set_option linter.unusedSimpArgs false
set_option maxRecDepth 100000
variable {σ : Sig}
/-- A thief that has made k of its steps (4: it is gone). -/
inductive Thf (x : Int) (top : Int) : Nat → Option O → Prop where
  | gone (h : top = 1) : Thf x top 4 none
  | s1 {o : O} (hok : o.ok = false) (hn : o.nx = .fn n_deque_steal1 []) : Thf x top 0 (some o)
  | s2 {o : O} (hok : o.ok = false) (hn : o.nx = .fn n_deque_steal2 []) (ht : o.t = 0 ∨ (o.t = 1 ∧ top = 1)) : Thf x top 1 (some o)
  | s3 {o : O} (hok : o.ok = false) (hn : o.nx = .fn n_deque_steal3 []) (ht : o.t = 0) : Thf x top 2 (some o)
  | s4 {o : O} (hn : o.nx = .fn n_deque_steal4 []) (ht : o.t = 0) (hx : o.x = x) : Thf x top 3 (some o)
theorem Thf.up {x : Int} {k : Nat} {o : Option O} {top : Int} (h : Thf x top k o) : Thf x 1 k o := by
  cases h with
  | gone h => exact .gone rfl
  | s1 hok hn => exact .s1 hok hn
  | s2 hok hn ht => exact .s2 hok hn (ht.imp id fun h => ⟨h.1, rfl⟩)
  | s3 hok hn ht => exact .s3 hok hn ht
  | s4 hn ht hx => exact .s4 hn ht hx
def Thvs (H : Hp) (d : Nat) (x : Int) (n : Nat) (top : Int) (ks : Nat → Nat) : Prop := ∃ s, Dq H d s ∧ s.pl.length = 3 ∧ s.pl.getD 0 0 = x ∧ s.top = top ∧ s.bot = 1 ∧ (top = 0 ∨ top = 1) ∧ (∀ w, 1 ≤ w → w ≤ n → Thf x top (ks w) (s.op w)) ∧ ∀ w, (w = 0 ∨ n < w) → s.op w = none
def setK (ks : Nat → Nat) (w k : Nat) : Nat → Nat := fun i => if i = w then k else ks i
theorem Thvs.step {H : Hp} {d n w : Nat} {x top : Int} {ks : Nat → Nat} {K : AV → Hp → Prop} (h : Thvs H d x n top ks) (hw : 1 ≤ w ∧ w ≤ n) (hn : n ≤ 20)
    (hK : ∀ H' top' k e ok, Thvs H' d x n top' (setK ks w k) → (ks w + 1 ≤ k ∨ k = 4) → (top' = top ∧ (e = false ∨ ok = false) ∨ top = 0 ∧ top' = 1 ∧ e = true ∧ ok = true) → K (.tup [Bo e, I (if ok = true then x else 0), Bo ok]) H') : callK Try.prog σ n_deque_Deque_Step [.ptr d 0, I w] H K := by
  obtain ⟨s, hq, hpl, hx, rfl, hbot, h01, hti, hno⟩ := h
  have hw65 : w < 65 := by omega
  have key := hti w hw.1 hw.2
  -- the others, when w's operation is told anew
  have oth : ∀ (top' : Int) (k : Nat) (oo : Option O), (top' = s.top ∨ top' = 1) → Thf x top' k oo → ∀ v, 1 ≤ v → v ≤ n → Thf x top' (setK ks w k v) (upd s.op w oo v) := by
    intro top' k oo ht htk v hv1 hv2
    by_cases e : v = w
    · subst e; simpa [setK] using htk
    · simp only [setK, e, if_false, upd_ne _ _ e]
      rcases ht with rfl | rfl
      · exact hti v hv1 hv2
      · exact (hti v hv1 hv2).up
  have nob : ∀ (oo : Option O) v, (v = 0 ∨ n < v) → upd s.op w oo v = none := by
    intro oo v hv
    have e : v ≠ w := by omega
    rw [upd_ne _ _ e]; exact hno v hv
  have same : setK ks w (ks w) = ks := by
    funext i
    by_cases e : i = w
    · subst e; simp [setK]
    · simp [setK, e]
  generalize hso : s.op w = so at key
  generalize hkw : ks w = kw at key hK
  cases key with
  | gone h1 =>
    refine Step_no hq (by simp [hso]) ?_
    refine hK H s.top 4 false false ⟨s, hq, hpl, hx, rfl, hbot, h01, ?_, hno⟩ (.inr rfl) (.inl ⟨rfl, .inl rfl⟩)
    rw [← hkw, same]; exact hti
  | s1 hok hnx =>
    rename_i o
    refine Step_fn hq hw65 hso hnx ph_steal1 fun H' h' f => ?_
    refine hK H' s.top 1 false false ⟨_, h', hpl, hx, rfl, hbot, h01, ?_, ?_⟩ (.inl (by omega)) (.inl ⟨rfl, .inl rfl⟩)
    · refine oth _ _ _ (.inl rfl) (.s2 hok rfl ?_)
      rcases h01 with h | h
      · exact .inl h
      · exact .inr ⟨h, h⟩
    · exact nob _
  | s2 hok hnx ht =>
    rename_i o
    have p2 := ph_steal2 (σ := σ) (d := d) (w := w) (s := s) (o := o)
    rw [hbot] at p2
    rcases ht with ht | ⟨ht, ht1⟩
    · rw [if_neg (by omega)] at p2
      refine Step_fn hq hw65 hso hnx p2 fun H' h' f => ?_
      refine hK H' s.top 2 false false ⟨_, h', hpl, hx, rfl, hbot, h01, ?_, ?_⟩ (.inl (by omega)) (.inl ⟨rfl, .inl rfl⟩)
      · exact oth _ _ _ (.inl rfl) (.s3 hok rfl ht)
      · exact nob _
    · rw [if_pos (by omega)] at p2
      refine Step_nil hq hw65 hso hnx p2 fun H' h' f => ?_
      have k := hK H' s.top 4 true false ⟨_, h', hpl, hx, rfl, hbot, h01, oth _ _ _ (.inl rfl) (.gone ht1), nob _⟩ (.inr rfl) (.inl ⟨rfl, .inr rfl⟩)
      simpa [hok] using k
  | s3 hok hnx ht =>
    rename_i o
    have p3 := ph_steal3 (σ := σ) (d := d) (w := w) (s := s) (o := o) (by omega) (by omega) (by omega)
    have hv : s.pl.getD (atI s o.t).toNat 0 = x := by
      rw [ht]
      unfold atI
      rw [Int.zero_tmod]
      exact hx
    rw [hv] at p3
    refine Step_fn hq hw65 hso hnx p3 fun H' h' f => ?_
    exact hK H' s.top 3 false false ⟨_, h', hpl, hx, rfl, hbot, h01, oth _ _ _ (.inl rfl) (.s4 rfl ht rfl), nob _⟩ (.inl (by omega)) (.inl ⟨rfl, .inl rfl⟩)
  | s4 hnx ht hxo =>
    rename_i o
    have p4 := ph_steal4 (σ := σ) (d := d) (w := w) (s := s) (o := o) (wr64 (by omega) (by omega))
    rcases h01 with h0 | h0
    · have e : s.top = o.t := by omega
      have p4' := p4
      simp only [e, if_true, decide_true] at p4'
      refine Step_nil hq hw65 hso hnx p4' fun H' h' f => ?_
      have e1 : o.t + 1 = 1 := by omega
      rw [e1] at h'
      have k := hK H' 1 4 true true ⟨_, h', hpl, hx, rfl, hbot, .inr rfl, oth _ _ _ (.inr rfl) (.gone rfl), nob _⟩ (.inr rfl) (.inr ⟨h0, rfl, rfl, rfl⟩)
      simpa [hxo] using k
    · have e : ¬ s.top = o.t := by omega
      have p4' := p4
      simp only [e, if_false, decide_false] at p4'
      refine Step_nil hq hw65 hso hnx p4' fun H' h' f => ?_
      have k := hK H' s.top 4 true false ⟨_, h', hpl, hx, rfl, hbot, .inr h0, oth _ _ _ (.inl rfl) (.gone h0), nob _⟩ (.inr rfl) (.inl ⟨rfl, .inr rfl⟩)
      simpa using k
end Go.Proofs.Ytnloolhaojoimaa.Ev

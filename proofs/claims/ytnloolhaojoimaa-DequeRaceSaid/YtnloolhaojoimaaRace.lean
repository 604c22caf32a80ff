/- DequeRace. -/
import Derived.Test.YtnloolhaojoimaaLaws
import Derived.Test.YtnloolhaojoimaaAlive20
import Derived.Test.YtnloolhaojoimaaDecode
namespace Go.Proofs.Ytnloolhaojoimaa.Ev
open Go.RowKit
set_option linter.unusedVariables false
set_option linter.unusedSimpArgs false
set_option maxRecDepth 100000
variable {σ : Sig}
/-- The race, told in short: the owner's phase, what it saw, the thief's phase, what it saw, top, bottom, how often the item was had. -/
structure RA where
  po : Nat
  ot : Nat
  th : Nat
  tt : Nat
  top : Nat
  bot : Nat
  tk : Nat
  ok : Bool
  rd : Bool
  td : Bool
def step0 (a : RA) : RA := match a.po with
  | 1 => { a with po := 2 }
  | 2 => { a with bot := 0, po := 3 }
  | 3 => { a with ot := a.top, po := if 0 < a.top then 6 else 4 }
  | 4 => { a with rd := true, po := 5 }
  | 5 => { a with ok := decide (a.top = a.ot), top := if a.top = a.ot then a.top + 1 else a.top, po := 6 }
  | 6 => { a with bot := 1, po := 0, tk := if a.ok = true then a.tk + 1 else a.tk }
  | _ => a
def step1 (a : RA) : RA := match a.th with
  | 1 => { a with tt := a.top, th := 2 }
  | 2 => { a with th := if a.bot ≤ a.tt then 0 else 3 }
  | 3 => { a with td := true, th := 4 }
  | 4 => { a with top := if a.top = a.tt then a.top + 1 else a.top, th := 0, tk := if a.top = a.tt then a.tk + 1 else a.tk }
  | _ => a
def imp (a b : Bool) : Bool := !a || b
def good (a : RA) : Bool := Nat.ble a.po 6 && (Nat.ble a.th 4 && (Nat.ble a.tk 5 && (Nat.ble a.top 5 && (imp (Nat.beq a.po 1) (Nat.beq a.bot 1) && (imp (Nat.beq a.po 6 && a.ok) a.rd && (imp (Nat.beq a.th 3) (Nat.beq a.tt 0) && imp (Nat.beq a.th 4) a.td))))))
def fin (a : RA) : Bool := Nat.beq a.po 0 && (Nat.beq a.th 0 && (Nat.beq a.tk 1 && (Nat.beq a.top 1 && Nat.beq a.bot 1)))
def eqR (a b : RA) : Bool := Nat.beq a.po b.po && (Nat.beq a.th b.th && (Nat.beq a.ot b.ot && (Nat.beq a.tt b.tt && (Nat.beq a.top b.top && (Nat.beq a.bot b.bot && (Nat.beq a.tk b.tk && ((a.ok == b.ok) && ((a.rd == b.rd) && (a.td == b.td)))))))))
theorem eqR_ok {a b : RA} (h : eqR a b = true) : a = b := by
  obtain ⟨a1, a2, a3, a4, a5, a6, a7, a8, a9, a10⟩ := a
  obtain ⟨b1, b2, b3, b4, b5, b6, b7, b8, b9, b10⟩ := b
  simp only [eqR, Bool.and_eq_true, beq_iff_eq] at h
  obtain ⟨h1, h2, h3, h4, h5, h6, h7, h8, h9, h10⟩ := h
  have := Nat.eq_of_beq_eq_true h1
  have := Nat.eq_of_beq_eq_true h2
  have := Nat.eq_of_beq_eq_true h3
  have := Nat.eq_of_beq_eq_true h4
  have := Nat.eq_of_beq_eq_true h5
  have := Nat.eq_of_beq_eq_true h6
  have := Nat.eq_of_beq_eq_true h7
  simp_all
def addR (a : RA) (l : List RA) : List RA := bif l.any (eqR a) then l else a :: l
theorem mem_addR {a : RA} {l : List RA} : a ∈ addR a l := by
  unfold addR
  cases h : l.any (eqR a) with
  | true =>
    obtain ⟨b, hb, he⟩ := List.any_eq_true.1 h
    rw [eqR_ok he]; exact hb
  | false => simp
theorem mem_addR_of {a b : RA} {l : List RA} (h : b ∈ l) : b ∈ addR a l := by
  unfold addR
  cases l.any (eqR a) with
  | true => exact h
  | false => simp [h]
def nexts (f g : RA → RA) : List RA → List RA
  | [] => []
  | a :: l => addR (f a) (addR (g a) (nexts f g l))
theorem mem_nexts {f g : RA → RA} {a : RA} : ∀ {l : List RA}, a ∈ l → f a ∈ nexts f g l ∧ g a ∈ nexts f g l
  | b :: l, h => by
    rcases List.mem_cons.1 h with rfl | h
    · exact ⟨mem_addR, mem_addR_of mem_addR⟩
    · obtain ⟨h1, h2⟩ := mem_nexts (f := f) (g := g) h
      exact ⟨mem_addR_of (mem_addR_of h1), mem_addR_of (mem_addR_of h2)⟩
def chk : Nat → Nat → List RA → Bool
  | 0, _, l => l.all fin
  | m + 1, i, l => l.all good && chk m (i + 1) (bif Nat.ble 30 i then (bif Nat.beq (i % 2) 0 then nexts step0 step0 l else nexts step1 step1 l) else nexts step0 step1 l)
def a0 : RA := ⟨1, 0, 1, 0, 0, 1, 0, false, false, false⟩
theorem chk_all : chk 40 0 [a0] = true := by kernel_rfl

def fR (A B : Option O) : Nat → Option O := fun w => if w = 0 then A else if w = 1 then B else none
theorem upd0 (A B o : Option O) : upd (fR A B) 0 o = fR o B := by
  funext i
  by_cases h : i = 0
  · subst h; simp [fR]
  · simp [h, fR]
theorem upd1 (A B o : Option O) : upd (fR A B) 1 o = fR A o := by
  funext i
  by_cases h : i = 1
  · subst h; simp [fR]
  · simp [h, fR]
def pf : Nat → Nat
  | 1 => n_deque_pop1
  | 2 => n_deque_pop2
  | 3 => n_deque_pop3
  | 4 => n_deque_pop4
  | 5 => n_deque_pop5
  | _ => n_deque_pop6
def tf : Nat → Nat
  | 1 => n_deque_steal1
  | 2 => n_deque_steal2
  | 3 => n_deque_steal3
  | _ => n_deque_steal4
def oO (x : Int) (id0 : Nat) (a : RA) : Option O := if a.po = 0 then none else some ⟨id0, if a.rd = true then x else 0, a.ot, 0, a.ok, .fn (pf a.po) []⟩
def oT (x : Int) (id1 : Nat) (b1 : Int) (a : RA) : Option O := if a.th = 0 then none else some ⟨id1, if a.td = true then x else 0, a.tt, b1, false, .fn (tf a.th) []⟩
def RC (H : Hp) (d ip : Nat) (pl : List Int) (x : Int) (a : RA) : Prop := ∃ id0 id1 b1 lw lc lr la, Dq H d ⟨ip, pl, a.top, a.bot, fR (oO x id0 a) (oT x id1 b1 a), lw, lc, lr, la⟩
section
variable {H : Hp} {d ip : Nat} {pl : List Int} {x : Int} {a : RA} {K : AV → Hp → Prop}
theorem RC.idle0 (h : RC H d ip pl x a) (hp : a.po = 0) (hK : K (.tup [Bo false, I 0, Bo false]) H) : callK Try.prog σ n_deque_Deque_Step [.ptr d 0, I 0] H K := by
  obtain ⟨id0, id1, b1, lw, lc, lr, la, h⟩ := h
  exact Step_no h (by simp [fR, oO, hp]) hK
theorem RC.idle1 (h : RC H d ip pl x a) (hp : a.th = 0) (hK : K (.tup [Bo false, I 0, Bo false]) H) : callK Try.prog σ n_deque_Deque_Step [.ptr d 0, I 1] H K := by
  obtain ⟨id0, id1, b1, lw, lc, lr, la, h⟩ := h
  exact Step_no h (by simp [fR, oT, hp]) hK
theorem RC.s0 (h : RC H d ip pl x a) (hg : good a = true) (hpl : pl.length = 4) (hx : pl.getD (pix pl 0) 0 = x)
    (hK : ∀ H', RC H' d ip pl x (step0 a) → K (.tup [Bo (Nat.beq a.po 6), I (if (Nat.beq a.po 6 && a.ok) = true then x else 0), Bo (Nat.beq a.po 6 && a.ok)]) H') : callK Try.prog σ n_deque_Deque_Step [.ptr d 0, I 0] H K := by
  by_cases hp : a.po = 0
  · refine h.idle0 hp ?_
    have := hK H (by unfold step0; rw [hp]; exact h)
    rw [hp] at this
    exact this
  obtain ⟨id0, id1, b1, lw, lc, lr, la, h⟩ := h
  obtain ⟨po, ot, th, tt, top, bot, tk, ok, rd, td⟩ := a
  simp only [good, Bool.and_eq_true] at hg
  obtain ⟨g1, g2, g3, g4, g5, g6, g7, g8⟩ := hg
  have l1 := Nat.le_of_ble_eq_true g1
  have l4 := Nat.le_of_ble_eq_true g4
  simp only at hp l1 l4 g5 g6
  rcases (show po = 1 ∨ po = 2 ∨ po = 3 ∨ po = 4 ∨ po = 5 ∨ po = 6 by omega) with rfl | rfl | rfl | rfl | rfl | rfl
  · have hb : bot = 1 := Nat.eq_of_beq_eq_true (by simpa [imp] using g5)
    subst hb
    refine Step_fn (w := 0) h (by omega) rfl rfl (ph_pop1 (wr64 (by simp) (by simp))) fun H' h' f => ?_
    simp only [put, acc, upd0] at h'
    exact hK H' ⟨id0, id1, b1, _, _, _, _, h'⟩
  · refine Step_fn (w := 0) h (by omega) rfl rfl ph_pop2 fun H' h' f => ?_
    simp only [put, acc, upd0] at h'
    exact hK H' ⟨id0, id1, b1, _, _, _, _, h'⟩
  · have p3 := ph_pop3 (σ := σ) (d := d) (w := 0) (s := ⟨ip, pl, top, bot, fR (oO x id0 ⟨3, ot, th, tt, top, bot, tk, ok, rd, td⟩) (oT x id1 b1 ⟨3, ot, th, tt, top, bot, tk, ok, rd, td⟩), lw, lc, lr, la⟩) (o := ⟨id0, if rd = true then x else 0, ot, 0, ok, .fn n_deque_pop3 []⟩)
    by_cases e : 0 < top
    · simp only [show (0 : Int) < (top : Int) by omega, if_true] at p3
      refine Step_fn (w := 0) h (by omega) rfl rfl p3 fun H' h' f => ?_
      simp only [put, acc, upd0] at h'
      have es : step0 ⟨3, ot, th, tt, top, bot, tk, ok, rd, td⟩ = ⟨6, top, th, tt, top, bot, tk, ok, rd, td⟩ := by simp [step0, e]
      exact hK H' (by rw [es]; exact ⟨id0, id1, b1, _, _, _, _, h'⟩)
    · simp only [show ¬ (0 : Int) < (top : Int) by omega, if_false] at p3
      refine Step_fn (w := 0) h (by omega) rfl rfl p3 fun H' h' f => ?_
      simp only [put, acc, upd0] at h'
      have es : step0 ⟨3, ot, th, tt, top, bot, tk, ok, rd, td⟩ = ⟨4, top, th, tt, top, bot, tk, ok, rd, td⟩ := by simp [step0, e]
      exact hK H' (by rw [es]; exact ⟨id0, id1, b1, _, _, _, _, h'⟩)
  · have p4 := ph_pop4 (σ := σ) (d := d) (w := 0) (s := ⟨ip, pl, top, bot, fR (oO x id0 ⟨4, ot, th, tt, top, bot, tk, ok, rd, td⟩) (oT x id1 b1 ⟨4, ot, th, tt, top, bot, tk, ok, rd, td⟩), lw, lc, lr, la⟩) (o := ⟨id0, if rd = true then x else 0, ot, 0, ok, .fn n_deque_pop4 []⟩) (Int.le_refl 0) (show pl.length ≠ 0 by omega) (show pl.length ≤ 1000000 by omega)
    have e : ¬ ((ot : Int) < 0) := by omega
    have hx' : pl.getD (atI ⟨ip, pl, top, bot, fR (oO x id0 ⟨4, ot, th, tt, top, bot, tk, ok, rd, td⟩) (oT x id1 b1 ⟨4, ot, th, tt, top, bot, tk, ok, rd, td⟩), lw, lc, lr, la⟩ 0).toNat 0 = x := hx
    simp only [e, if_false, hx'] at p4
    refine Step_fn (w := 0) h (by omega) rfl rfl p4 fun H' h' f => ?_
    simp only [put, acc, upd0] at h'
    exact hK H' ⟨id0, id1, b1, _, _, _, _, h'⟩
  · have p5 := ph_pop5 (σ := σ) (d := d) (w := 0) (s := ⟨ip, pl, top, bot, fR (oO x id0 ⟨5, ot, th, tt, top, bot, tk, ok, rd, td⟩) (oT x id1 b1 ⟨5, ot, th, tt, top, bot, tk, ok, rd, td⟩), lw, lc, lr, la⟩) (o := ⟨id0, if rd = true then x else 0, ot, 0, ok, .fn n_deque_pop5 []⟩) (wr64 (by simp; omega) (by simp; omega))
    refine Step_fn (w := 0) h (by omega) rfl rfl p5 fun H' h' f => ?_
    simp only [put, acc, upd0] at h'
    by_cases e : top = ot
    · subst e
      have es : step0 ⟨5, top, th, tt, top, bot, tk, ok, rd, td⟩ = ⟨6, top, th, tt, top + 1, bot, tk, true, rd, td⟩ := by simp [step0]
      simp only [if_true, decide_true] at h'
      exact hK H' (by rw [es]; exact ⟨id0, id1, b1, _, _, _, _, h'⟩)
    · have e' : ¬ (top : Int) = ot := by omega
      have es : step0 ⟨5, ot, th, tt, top, bot, tk, ok, rd, td⟩ = ⟨6, ot, th, tt, top, bot, tk, false, rd, td⟩ := by simp [step0, e]
      simp only [e', if_false, decide_false] at h'
      exact hK H' (by rw [es]; exact ⟨id0, id1, b1, _, _, _, _, h'⟩)
  · refine Step_nil (w := 0) h (by omega) rfl rfl (ph_pop6 (wr64 (by simp) (by simp))) fun H' h' f => ?_
    simp only [acc, upd0] at h'
    have hrd : ok = true → rd = true := by
      intro e
      rw [e] at g6
      simpa [imp] using g6
    have k := hK H' ⟨id0, id1, b1, _, _, _, _, h'⟩
    cases ok
    · simpa using k
    · simp [hrd rfl] at k ⊢; exact k
theorem RC.s1 (h : RC H d ip pl x a) (hg : good a = true) (hpl : pl.length = 4) (hx : pl.getD (pix pl 0) 0 = x)
    (hK : ∀ H', RC H' d ip pl x (step1 a) → ∀ e ok, ((step1 a).tk = a.tk ∧ (e = false ∨ ok = false) ∨ (step1 a).tk = a.tk + 1 ∧ e = true ∧ ok = true) → K (.tup [Bo e, I (if ok = true then x else 0), Bo ok]) H') : callK Try.prog σ n_deque_Deque_Step [.ptr d 0, I 1] H K := by
  by_cases hp : a.th = 0
  · refine h.idle1 hp ?_
    have e : step1 a = a := by
      obtain ⟨po, ot, th, tt, top, bot, tk, ok, rd, td⟩ := a
      simp only at hp
      subst hp
      rfl
    have := hK H (by rw [e]; exact h) false false (.inl ⟨by rw [e], .inl rfl⟩)
    simpa using this
  obtain ⟨id0, id1, b1, lw, lc, lr, la, h⟩ := h
  obtain ⟨po, ot, th, tt, top, bot, tk, ok, rd, td⟩ := a
  simp only [good, Bool.and_eq_true] at hg
  obtain ⟨g1, g2, g3, g4, g5, g6, g7, g8⟩ := hg
  have l1 := Nat.le_of_ble_eq_true g2
  have l4 := Nat.le_of_ble_eq_true g4
  simp only at hp l1 l4 g7 g8
  rcases (show th = 1 ∨ th = 2 ∨ th = 3 ∨ th = 4 by omega) with rfl | rfl | rfl | rfl
  · refine Step_fn (w := 1) h (by omega) rfl rfl ph_steal1 fun H' h' f => ?_
    simp only [put, acc, upd1] at h'
    exact hK H' ⟨id0, id1, b1, _, _, _, _, h'⟩ false false (.inl ⟨rfl, .inl rfl⟩)
  · have p2 := ph_steal2 (σ := σ) (d := d) (w := 1) (s := ⟨ip, pl, top, bot, fR (oO x id0 ⟨po, ot, 2, tt, top, bot, tk, ok, rd, td⟩) (oT x id1 b1 ⟨po, ot, 2, tt, top, bot, tk, ok, rd, td⟩), lw, lc, lr, la⟩) (o := ⟨id1, if td = true then x else 0, tt, b1, false, .fn n_deque_steal2 []⟩)
    by_cases e : bot ≤ tt
    · simp only [show (bot : Int) ≤ (tt : Int) by omega, if_true] at p2
      refine Step_nil (w := 1) h (by omega) rfl rfl p2 fun H' h' f => ?_
      simp only [acc, upd1] at h'
      have es : step1 ⟨po, ot, 2, tt, top, bot, tk, ok, rd, td⟩ = ⟨po, ot, 0, tt, top, bot, tk, ok, rd, td⟩ := by simp [step1, e]
      exact hK H' (by rw [es]; exact ⟨id0, id1, b1, _, _, _, _, h'⟩) true false (.inl ⟨by rw [es], .inr rfl⟩)
    · simp only [show ¬ (bot : Int) ≤ (tt : Int) by omega, if_false] at p2
      refine Step_fn (w := 1) h (by omega) rfl rfl p2 fun H' h' f => ?_
      simp only [put, acc, upd1] at h'
      have es : step1 ⟨po, ot, 2, tt, top, bot, tk, ok, rd, td⟩ = ⟨po, ot, 3, tt, top, bot, tk, ok, rd, td⟩ := by simp [step1, e]
      exact hK H' (by rw [es]; exact ⟨id0, id1, bot, _, _, _, _, h'⟩) false false (.inl ⟨by rw [es], .inl rfl⟩)
  · have ht : tt = 0 := Nat.eq_of_beq_eq_true (by simpa [imp] using g7)
    subst ht
    have p3 := ph_steal3 (σ := σ) (d := d) (w := 1) (s := ⟨ip, pl, top, bot, fR (oO x id0 ⟨po, ot, 3, 0, top, bot, tk, ok, rd, td⟩) (oT x id1 b1 ⟨po, ot, 3, 0, top, bot, tk, ok, rd, td⟩), lw, lc, lr, la⟩) (o := ⟨id1, if td = true then x else 0, 0, b1, false, .fn n_deque_steal3 []⟩) (Int.le_refl 0) (show pl.length ≠ 0 by omega) (show pl.length ≤ 1000000 by omega)
    have hx' : pl.getD (atI ⟨ip, pl, top, bot, fR (oO x id0 ⟨po, ot, 3, 0, top, bot, tk, ok, rd, td⟩) (oT x id1 b1 ⟨po, ot, 3, 0, top, bot, tk, ok, rd, td⟩), lw, lc, lr, la⟩ 0).toNat 0 = x := hx
    simp only [hx'] at p3
    refine Step_fn (w := 1) h (by omega) rfl rfl p3 fun H' h' f => ?_
    simp only [put, acc, upd1] at h'
    exact hK H' ⟨id0, id1, b1, _, _, _, _, h'⟩ false false (.inl ⟨rfl, .inl rfl⟩)
  · have htd : td = true := by simpa [imp] using g8
    subst htd
    have p4 := ph_steal4 (σ := σ) (d := d) (w := 1) (s := ⟨ip, pl, top, bot, fR (oO x id0 ⟨po, ot, 4, tt, top, bot, tk, ok, rd, true⟩) (oT x id1 b1 ⟨po, ot, 4, tt, top, bot, tk, ok, rd, true⟩), lw, lc, lr, la⟩) (o := ⟨id1, x, tt, b1, false, .fn n_deque_steal4 []⟩) (wr64 (by simp; omega) (by simp; omega))
    refine Step_nil (w := 1) h (by omega) rfl rfl p4 fun H' h' f => ?_
    simp only [acc, upd1] at h'
    by_cases e : top = tt
    · subst e
      have es : step1 ⟨po, ot, 4, top, top, bot, tk, ok, rd, true⟩ = ⟨po, ot, 0, top, top + 1, bot, tk + 1, ok, rd, true⟩ := by simp [step1]
      simp only [if_true, decide_true] at h' ⊢
      exact hK H' (by rw [es]; exact ⟨id0, id1, b1, _, _, _, _, h'⟩) true true (.inr ⟨by rw [es], rfl, rfl⟩)
    · have e' : ¬ (top : Int) = tt := by omega
      have es : step1 ⟨po, ot, 4, tt, top, bot, tk, ok, rd, true⟩ = ⟨po, ot, 0, tt, top, bot, tk, ok, rd, true⟩ := by simp [step1, e]
      simp only [e', if_false, decide_false] at h' ⊢
      exact hK H' (by rw [es]; exact ⟨id0, id1, b1, _, _, _, _, h'⟩) true false (.inl ⟨by rw [es], .inr rfl⟩)
end
end Go.Proofs.Ytnloolhaojoimaa.Ev

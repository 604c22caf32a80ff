/- Code by what it has to come to: regions, branches, blocks; loops and regions of open order by what the big-step relation says of them. -/
import Derived.Test.YtikcninaepoojaaWq
namespace Go.Proofs.Ytikcninaepoojaa.Ev
open Go.RowKit (Below)
set_option linter.unusedVariables false
set_option linter.unusedSimpArgs false
set_option linter.unusedSectionVars false

def setB (T : List AV) (d : Nat) (b : Bool) : List AV := T.set d (.lit (.bool b))

theorem setB_eq {T : List AV} {d : Nat} {b : Bool} (h : evO T (.tmp d) = .lit (.bool b)) : setB T d b = T := by
  unfold setB
  simp only [evO, List.getD_eq_getElem?_getD] at h
  cases hd : T[d]? with
  | none => rw [hd] at h; simp [undef] at h
  | some x =>
    rw [hd] at h
    simp at h
    subst h
    apply List.ext_getElem?
    intro i
    rw [List.getElem?_set]
    by_cases hi : d = i
    · subst hi
      rw [if_pos rfl, hd, if_pos (List.getElem?_eq_some_iff.1 hd).1]
    · rw [if_neg hi]

section
variable {P : Program} (C : Ctx P)

/-- What a load that no order binds to some call reads from, and how many cells. -/
def addrA (ti : Nat → Option TI) (T : List AV) (o : Op) : Option (AV × Option Nat) := match o with
  | .load t a => match ti t with
    | some i => some (evO T a, some i.size)
    | none => none
  | .slice _ x _ _ _ => some (evO T x, none)
  | _ => none

/-- What is behind an address is the same in two heaps. -/
def kpA (a : AV × Option Nat) (H H1 : Hp) : Prop := match a with
  | (.ptr id off, some n) => cellsAt H1 (.ptr id off) n = cellsAt H (.ptr id off) n
  | (.ptr id _, none) => H1.get id = H.get id
  | _ => True
def kpK (a : AV × Option Nat) (H H1 : Hp) (A : Prop) : Prop := match a with
  | (.ptr id off, some n) => cellsAt H1 (.ptr id off) n = cellsAt H (.ptr id off) n ∧ A
  | (.ptr id _, none) => H1.get id = H.get id ∧ A
  | _ => A
def kpAll (H H1 : Hp) (A : Prop) : List (AV × Option Nat) → Prop
  | [] => A
  | a :: r => kpK a H H1 (kpAll H H1 A r)
def kpBack (a : AV × Option Nat) (H : Hp) (A : Prop) : List Hp → Prop
  | [] => A
  | h :: r => kpK a h H (kpBack a H A r)

theorem kpK_ok {a : AV × Option Nat} {H H1 : Hp} {A : Prop} (h : kpK a H H1 A) : kpA a H H1 ∧ A := by
  unfold kpK at h
  unfold kpA
  split at h
  · exact h
  · exact h
  · exact ⟨trivial, h⟩
theorem kpAll_ok {H H1 : Hp} {A : Prop} : ∀ {W : List (AV × Option Nat)}, kpAll H H1 A W → (∀ a ∈ W, kpA a H H1) ∧ A
  | [], h => ⟨fun a ha => (by cases ha), h⟩
  | a :: r, h => by
    obtain ⟨h1, h2⟩ := kpK_ok h
    obtain ⟨h3, h4⟩ := kpAll_ok h2
    refine ⟨fun b hb => ?_, h4⟩
    rcases List.mem_cons.1 hb with rfl | hb
    · exact h1
    · exact h3 b hb
theorem kpBack_ok {a : AV × Option Nat} {H : Hp} {A : Prop} : ∀ {E : List Hp}, kpBack a H A E → (∀ h ∈ E, kpA a h H) ∧ A
  | [], h => ⟨fun a ha => (by cases ha), h⟩
  | e :: r, h => by
    obtain ⟨h1, h2⟩ := kpK_ok h
    obtain ⟨h3, h4⟩ := kpBack_ok h2
    refine ⟨fun b hb => ?_, h4⟩
    rcases List.mem_cons.1 hb with rfl | hb
    · exact h1
    · exact h3 b hb

/-- One operation of a region; N: what comes behind. -/
def stepK (b : Bool) (E : List Hp) (W : List (AV × Option Nat)) (T : List AV) (H : Hp) (o : Op) (N : List Hp → List (AV × Option Nat) → AV → Hp → Prop) : Prop := match b with
  | false => match quietOp o with
    | true => opK C T H o fun x H1 => N E W x H1
    | false => opK C T H o fun x H1 => kpAll H H1 (N (H :: E) W x H1) W
  | true => match addrA C.ti T o with
    | some a => kpBack a H (opK C T H o fun x H1 => N E (a :: W) x H1) E
    | none => False

def memN (d : Nat) (S : List Nat) : Bool := S.any fun e => Nat.beq e d
def remN (o : Option Nat) (S : List Nat) : List Nat := match o with
  | some d => S.filter fun e => !(Nat.beq e d)
  | none => S
def addN (o : Option Nat) (S : List Nat) : List Nat := match o with
  | some d => d :: S
  | none => S
/-- S: what was left out. -/
def opsK (ops : Array Oper) : List (Oper × Bool) → List Nat → List Hp → List (AV × Option Nat) → List AV → Hp → (List AV → Hp → Prop) → Prop
  | [], _, _, _, T, H, K => K T H
  | (o, b) :: r, S, E, W, T, H, K => match o.guard with
    | none => stepK C b E W T H o.op fun E1 W1 x H1 => opsK ops r (remN o.dst S) E1 W1 (putA T o.dst x) H1 K
    | some (j, want) => match (ops[j]?).bind (·.dst) with
      | some d => match memN d S with
        | true => opsK ops r (addN o.dst S) E W (putA T o.dst (.lit undef)) H K
        | false => match want with
          | true => ifB (evO T (.tmp d)) (stepK C b E W (setB T d true) H o.op fun E1 W1 x H1 => opsK ops r (remN o.dst S) E1 W1 (putA (setB T d true) o.dst x) H1 K) (opsK ops r (addN o.dst S) E W (putA (setB T d false) o.dst (.lit undef)) H K)
          | false => ifB (evO T (.tmp d)) (opsK ops r (addN o.dst S) E W (putA (setB T d true) o.dst (.lit undef)) H K) (stepK C b E W (setB T d false) H o.op fun E1 W1 x H1 => opsK ops r (remN o.dst S) E1 W1 (putA (setB T d false) o.dst x) H1 K)
      | none => False

inductive Run (ops : Array Oper) : List (Oper × Bool) → Nat → List Hp → List (AV × Option Nat) → List AV → Hp → List AV → List Hp → List Nat → List AV → Hp → Prop where
  | nil {i : Nat} {E : List Hp} {W : List (AV × Option Nat)} {T : List AV} {H : Hp} : Run ops [] i E W T H [] [] [] T H
  | quiet {o : Oper} {r : List (Oper × Bool)} {i : Nat} {E : List Hp} {W : List (AV × Option Nat)} {T T' : List AV} {H H' M : Hp} {x : AV} {xs : List AV} {hs : List Hp} {ls : List Nat} (hw : wantA C.as ops T o = some true) (hq : quietOp o.op = true)
      (hx : evOp C.ti C.keys C.as T H o = some (x, M)) (h : Run ops r (i + 1) E W (putA T o.dst x) H xs hs ls T' H') : Run ops ((o, false) :: r) i E W T H (x :: xs) hs ls T' H'
  | flag {o : Oper} {a : AV × Option Nat} {r : List (Oper × Bool)} {i : Nat} {E : List Hp} {W : List (AV × Option Nat)} {T T' : List AV} {H H' M : Hp} {x : AV} {xs : List AV} {hs : List Hp} {ls : List Nat} (hw : wantA C.as ops T o = some true) (hq : quietOp o.op = true)
      (ha : addrA C.ti T o.op = some a) (hk : ∀ h ∈ E, kpA a h H)
      (hx : evOp C.ti C.keys C.as T H o = some (x, M)) (h : Run ops r (i + 1) E (a :: W) (putA T o.dst x) H xs hs ls T' H') : Run ops ((o, true) :: r) i E W T H (x :: xs) hs ls T' H'
  | loud {o : Oper} {b : Bool} {r : List (Oper × Bool)} {i : Nat} {E : List Hp} {W : List (AV × Option Nat)} {T T' : List AV} {H H1 H' : Hp} {x : AV} {xs : List AV} {hs : List Hp} {ls : List Nat} (hw : wantA C.as ops T o = some true) (hq : quietOp o.op = false)
      (hk : ∀ a ∈ W, kpA a H H1) (hx : Op1 C T H o x H1) (h : Run ops r (i + 1) (H :: E) W (putA T o.dst x) H1 xs hs ls T' H') : Run ops ((o, b) :: r) i E W T H (x :: xs) (H1 :: hs) (i :: ls) T' H'
  | skip {o : Oper} {b : Bool} {r : List (Oper × Bool)} {i : Nat} {E : List Hp} {W : List (AV × Option Nat)} {T T' : List AV} {H H' : Hp} {xs : List AV} {hs : List Hp} {ls : List Nat} (hw : wantA C.as ops T o = some false)
      (h : Run ops r (i + 1) E W (putA T o.dst (.lit undef)) H xs hs ls T' H') : Run ops ((o, b) :: r) i E W T H (.lit undef :: xs) hs ls T' H'

theorem addr_quiet {T : List AV} {o : Op} {a : AV × Option Nat} (h : addrA C.ti T o = some a) : quietOp o = true := by
  unfold addrA at h
  split at h <;> first | rfl | cases h

theorem opK_run {ops : Array Oper} {o : Oper} {b : Bool} {r : List (Oper × Bool)} {i : Nat} {E : List Hp} {W : List (AV × Option Nat)} {T : List AV} {H : Hp} {K : List AV → Hp → Prop} {R : List Hp → List (AV × Option Nat) → AV → Hp → Prop} (hw : wantA C.as ops T o = some true)
    (h : stepK C b E W T H o.op R) (hR : ∀ E1 W1 x H1, R E1 W1 x H1 → ∃ xs hs ls T' H', Run C ops r (i + 1) E1 W1 (putA T o.dst x) H1 xs hs ls T' H' ∧ K T' H') : ∃ xs hs ls T' H', Run C ops ((o, b) :: r) i E W T H xs hs ls T' H' ∧ K T' H' := by
  unfold stepK at h
  split at h
  · split at h
    · rename_i hq
      obtain ⟨x, H1, hk, hx⟩ := opK_ok C h
      obtain ⟨xs, hs, ls, T', H', hr, hkk⟩ := hR _ _ x H1 hk
      rcases hx with hx | ⟨hq', _⟩
      · have := evOp_mono C (LeH.refl H) hq hx
        rw [hx] at this
        cases this
        exact ⟨_, _, _, _, _, .quiet hw hq hx hr, hkk⟩
      · rw [hq] at hq'; cases hq'
    · rename_i hq
      obtain ⟨x, H1, hk, hx⟩ := opK_ok C h
      obtain ⟨hk1, hk⟩ := kpAll_ok hk
      obtain ⟨xs, hs, ls, T', H', hr, hkk⟩ := hR _ _ x H1 hk
      rcases hx with hx | ⟨_, hx⟩
      · exact ⟨_, _, _, _, _, .loud hw hq hk1 (.op hx) hr, hkk⟩
      · exact ⟨_, _, _, _, _, .loud hw hq hk1 hx hr, hkk⟩
  · split at h
    · rename_i a ha
      obtain ⟨hb, h⟩ := kpBack_ok h
      have hq := addr_quiet C ha
      obtain ⟨x, H1, hk, hx⟩ := opK_ok C h
      obtain ⟨xs, hs, ls, T', H', hr, hkk⟩ := hR _ _ x H1 hk
      rcases hx with hx | ⟨hq', _⟩
      · have := evOp_mono C (LeH.refl H) hq hx
        rw [hx] at this
        cases this
        exact ⟨_, _, _, _, _, .flag hw hq ha hb hx hr, hkk⟩
      · rw [hq] at hq'; cases hq'
    · exact h.elim

theorem evO_of_ifB {T : List AV} {d : Nat} {b : Bool} (h : evO T (.tmp d) = .lit (.bool b)) : T[d]? = some (.lit (.bool b)) := by
  simp only [evO, List.getD_eq_getElem?_getD] at h
  cases hd : T[d]? with
  | none => rw [hd] at h; simp [undef] at h
  | some x => rw [hd] at h; simp at h; rw [h]

theorem wantA_of {ops : Array Oper} {o : Oper} {T : List AV} {j d : Nat} {want b : Bool} (hg : o.guard = some (j, want)) (hd : (ops[j]?).bind (·.dst) = some d) (h : evO T (.tmp d) = .lit (.bool b)) (as : List (BExp × Bool)) :
    wantA as ops T o = some (bif want then b else !b) := by
  have e := evO_of_ifB h
  unfold wantA
  cases want <;> simp only [hg, hd, Option.bind_some, e] <;> rfl

def OutS (T : List AV) (S : List Nat) : Prop := ∀ d, memN d S = true → evO T (.tmp d) = .lit undef
theorem evO_put {T : List AV} {o : Option Nat} {x : AV} {d : Nat} (h : o ≠ some d) : evO (putA T o x) (.tmp d) = evO T (.tmp d) := by
  cases o with
  | none => rfl
  | some e =>
    have : e ≠ d := fun he => h (by rw [he])
    simp only [evO, putA, List.getD_eq_getElem?_getD, List.getElem?_set, if_neg this]
theorem evO_put_same {T : List AV} {d : Nat} : evO (putA T (some d) (.lit undef)) (.tmp d) = .lit undef := by
  simp only [evO, putA, List.getD_eq_getElem?_getD, List.getElem?_set, if_true]
  split <;> rfl
theorem OutS.rem {T : List AV} {S : List Nat} (h : OutS T S) (o : Option Nat) (x : AV) : OutS (putA T o x) (remN o S) := by
  intro d hd
  cases o with
  | none => exact h d hd
  | some e =>
    simp only [memN, remN, List.any_eq_true, List.mem_filter] at hd
    obtain ⟨z, ⟨hz, hne⟩, hzd⟩ := hd
    have e1 : z = d := Nat.eq_of_beq_eq_true hzd
    subst e1
    have e2 : e ≠ z := fun he => by
      subst he
      rw [hzd] at hne
      cases hne
    rw [evO_put (fun h => e2 (by injection h))]
    exact h z (by simp only [memN, List.any_eq_true]; exact ⟨z, hz, hzd⟩)
theorem OutS.add {T : List AV} {S : List Nat} (h : OutS T S) (o : Option Nat) : OutS (putA T o (.lit undef)) (addN o S) := by
  intro d hd
  cases o with
  | none => exact h d hd
  | some e =>
    by_cases he : e = d
    · subst he; exact evO_put_same
    · rw [evO_put (fun h => he (by injection h))]
      refine h d ?_
      simp only [memN, addN, List.any_cons, Bool.or_eq_true] at hd ⊢
      rcases hd with hd | hd
      · exact absurd (Nat.eq_of_beq_eq_true hd) he
      · exact hd
theorem wantA_out {ops : Array Oper} {o : Oper} {T : List AV} {j d : Nat} {want : Bool} (hg : o.guard = some (j, want)) (hd : (ops[j]?).bind (·.dst) = some d) (h : evO T (.tmp d) = .lit undef) (as : List (BExp × Bool)) : wantA as ops T o = some false := by
  simp only [evO, List.getD_eq_getElem?_getD] at h
  unfold wantA
  simp only [hg, hd, Option.bind_some]
  cases hx : T[d]? with
  | none => rfl
  | some x => rw [hx] at h; simp at h; rw [h]; rfl

theorem opsK_run {ops : Array Oper} : ∀ (l : List (Oper × Bool)) (i : Nat) {S : List Nat} {E : List Hp} {W : List (AV × Option Nat)} {T : List AV} {H : Hp} {K : List AV → Hp → Prop}, OutS T S → opsK C ops l S E W T H K → ∃ xs hs ls T' H', Run C ops l i E W T H xs hs ls T' H' ∧ K T' H'
  | [], i, S, E, W, T, H, K, _, h => ⟨_, _, _, _, _, .nil, h⟩
  | (o, b) :: r, i, S, E, W, T, H, K, hS, h => by
    unfold opsK at h
    split at h
    · rename_i hg
      exact opK_run C (by unfold wantA; rw [hg]) h fun E1 W1 x H1 hk => opsK_run r (i + 1) (hS.rem _ _) hk
    · rename_i j want hg
      split at h
      case h_2 => exact h.elim
      rename_i d hd
      split at h
      · rename_i hm
        obtain ⟨xs, hs, ls, T', H', hr, hk⟩ := opsK_run r (i + 1) (hS.add _) h
        exact ⟨_, _, _, _, _, .skip (wantA_out hg hd (hS d hm) _) hr, hk⟩
      split at h
      · rcases ifB_ok h with ⟨ht, h⟩ | ⟨ht, h⟩
        · rw [setB_eq ht] at h
          exact opK_run C (wantA_of hg hd ht _) h fun E1 W1 x H1 hk => opsK_run r (i + 1) (hS.rem _ _) hk
        · rw [setB_eq ht] at h
          obtain ⟨xs, hs, ls, T', H', hr, hk⟩ := opsK_run r (i + 1) (hS.add _) h
          exact ⟨_, _, _, _, _, .skip (wantA_of hg hd ht _) hr, hk⟩
      · rcases ifB_ok h with ⟨ht, h⟩ | ⟨ht, h⟩
        · rw [setB_eq ht] at h
          obtain ⟨xs, hs, ls, T', H', hr, hk⟩ := opsK_run r (i + 1) (hS.add _) h
          exact ⟨_, _, _, _, _, .skip (wantA_of hg hd ht _) hr, hk⟩
        · rw [setB_eq ht] at h
          exact opK_run C (wantA_of hg hd ht _) h fun E1 W1 x H1 hk => opsK_run r (i + 1) (hS.rem _ _) hk
theorem outS_nil {T : List AV} : OutS T [] := fun d h => by cases h

theorem at_head {α : Type} {l : List α} {i : Nat} {x : α} {r : List α} (h : l.drop i = x :: r) : l[i]? = some x ∧ l.drop (i + 1) = r := by
  refine ⟨?_, by rw [← List.drop_drop, h]; rfl⟩
  have : (l.drop i)[0]? = some x := by rw [h]; rfl
  rw [List.getElem?_drop] at this
  simpa using this

theorem Run.seqs {ops : Array Oper} {l : List (Oper × Bool)} {i : Nat} {E : List Hp} {W : List (AV × Option Nat)} {T T' : List AV} {H H' : Hp} {xs : List AV} {hs : List Hp} {ls : List Nat} (h : Run C ops l i E W T H xs hs ls T' H') : ops.toList.drop i = l.map (·.1) → Seqs C ops (List.range' i l.length) T H T' H' := by
  induction h with
  | nil => intro _; exact .nil
  | quiet hw hq hx h ih =>
    intro hl
    obtain ⟨ho, hr⟩ := at_head hl
    rw [List.length_cons, List.range'_succ]
    exact .step (by simpa using ho) hw (.op (evOp_mono C (LeH.refl _) hq hx)) (ih hr)
  | flag hw hq ha hk hx h ih =>
    intro hl
    obtain ⟨ho, hr⟩ := at_head hl
    rw [List.length_cons, List.range'_succ]
    exact .step (by simpa using ho) hw (.op (evOp_mono C (LeH.refl _) hq hx)) (ih hr)
  | loud hw hq hk hx h ih =>
    intro hl
    obtain ⟨ho, hr⟩ := at_head hl
    rw [List.length_cons, List.range'_succ]
    exact .step (by simpa using ho) hw hx (ih hr)
  | skip hw h ih =>
    intro hl
    obtain ⟨ho, hr⟩ := at_head hl
    rw [List.length_cons, List.range'_succ]
    exact .skip (by simpa using ho) hw (ih hr)

theorem kpA_refl (a : AV × Option Nat) (H : Hp) : kpA a H H := by unfold kpA; split <;> trivial
theorem kpA_trans {a : AV × Option Nat} {H H1 H2 : Hp} (h : kpA a H H1) (h' : kpA a H1 H2) : kpA a H H2 := by
  unfold kpA at *
  split
  · exact h'.trans h
  · exact h'.trans h
  · trivial
theorem kpA_symm {a : AV × Option Nat} {H H1 : Hp} (h : kpA a H H1) : kpA a H1 H := by
  unfold kpA at *
  split
  · exact h.symm
  · exact h.symm
  · trivial

theorem run_ok {ops : Array Oper} {FL : List Bool} {X : Nat → AV} {HS : Nat → Hp} {LS : List Nat} {T0 : List AV} {l : List (Oper × Bool)} {i : Nat} {E : List Hp} {W : List (AV × Option Nat)} {T T' : List AV} {H H' : Hp} {xs : List AV} {hs : List Hp} {ls : List Nat} (h : Run C ops l i E W T H xs hs ls T' H') :
    ∀ (m : Nat), ops.toList.drop i = l.map (·.1) → FL.drop i = l.map (·.2) → (∀ j x, xs[j]? = some x → X (i + j) = x) → HS m = H → (∀ j h, hs[j]? = some h → HS (m + 1 + j) = h) → LS.drop m = ls → (∀ q ∈ LS.take m, q < i) → m ≤ LS.length → T = TT ops X T0 i → (∀ k, k < m → HS k ∈ E) →
      T' = TT ops X T0 ops.size ∧ H' = HS LS.length ∧ (∀ q ∈ ls, i ≤ q ∧ q < ops.size ∧ ∃ o, ops[q]? = some o ∧ quietOp o.op = false) ∧ (∀ a ∈ W, ∀ k, m ≤ k → k ≤ LS.length → kpA a (HS m) (HS k)) ∧
      ∀ j o, i ≤ j → ops[j]? = some o →
        (wantA C.as ops (TT ops X T0 j) o = some false ∧ X j = .lit undef ∧ j ∉ LS) ∨
        (wantA C.as ops (TT ops X T0 j) o = some true ∧ j ∉ LS ∧ quietOp o.op = true ∧ ∃ k M, k ≤ LS.length ∧ evOp C.ti C.keys C.as (TT ops X T0 j) (HS k) o = some (X j, M) ∧ (∀ q ∈ LS.take k, q < j) ∧ (∀ q ∈ LS.drop k, j < q) ∧
          (FL[j]? = some true → ∃ a, addrA C.ti (TT ops X T0 j) o.op = some a ∧ ∀ k', k' ≤ LS.length → kpA a (HS k) (HS k'))) ∨
        (wantA C.as ops (TT ops X T0 j) o = some true ∧ ∃ k, LS[k]? = some j ∧ Op1 C (TT ops X T0 j) (HS k) o (X j) (HS (k + 1))) := by
  induction h with
  | nil =>
    rename_i i E W T H
    intro m hl hfl hX hH hHs hL hlt hml hT hE
    have hmm : m = LS.length := by
      have := congrArg List.length hL
      simp at this; omega
    have hi : ops.size ≤ i := by
      have := congrArg List.length hl
      simp at this; omega
    refine ⟨?_, by rw [← hH, hmm], fun q hq => (by cases hq), fun a ha k h1 h2 => ?_, fun j o hij hoj => ?_⟩
    · rw [hT]
      unfold TT
      have : ∀ d, TS ops X (fun _ => true) (List.range (ops.size + d)) T0 = TS ops X (fun _ => true) (List.range ops.size) T0 := by
        intro d
        induction d with
        | zero => rfl
        | succ d ih =>
          have := TT_succ ops X T0 (ops.size + d)
          unfold TT at this
          rw [show ops.size + (d + 1) = ops.size + d + 1 by omega, this, ih]
          have : dstAt ops (ops.size + d) = none := by
            unfold dstAt
            rw [Array.getElem?_eq_none (by omega)]
            rfl
          rw [this]
          rfl
      have e := this (i - ops.size)
      rw [show ops.size + (i - ops.size) = i by omega] at e
      exact e
    · have : k = m := by omega
      subst this
      exact kpA_refl _ _
    · have := (Array.getElem?_eq_some_iff.1 hoj).1
      omega
  | quiet hw hq hx hrec ih =>
    rename_i o r i E W T T' H H' M x xs hs ls
    intro m hl hfl hX hH hHs hL hlt hml hT hE
    obtain ⟨ho', hr⟩ := at_head hl
    have ho : ops[i]? = some o := by simpa using ho'
    have hin := (Array.getElem?_eq_some_iff.1 ho).1
    obtain ⟨hf0, hfr⟩ := at_head hfl
    have hdst : dstAt ops i = o.dst := by simp [dstAt, ho]
    have hXi : X i = x := hX 0 x rfl
    obtain ⟨q3, q4, q5, q7, q6⟩ := ih m hr hfr (fun j x hj => by rw [show i + 1 + j = i + (j + 1) by omega]; exact hX (j + 1) x (by simpa using hj)) hH hHs hL (fun q hq => Nat.lt_succ_of_lt (hlt q hq)) hml (by rw [TT_succ, hXi, hT, hdst]) hE
    refine ⟨q3, q4, fun q hq => ⟨by have := (q5 q hq).1; omega, (q5 q hq).2⟩, q7, fun j o' hij hoj => ?_⟩
    by_cases hj : j = i
    · subst hj
      rw [ho] at hoj
      cases hoj
      have hni : j ∉ LS := by
        intro hmem
        rw [← List.take_append_drop m LS, List.mem_append] at hmem
        rcases hmem with hm | hm
        · have := hlt j hm; omega
        · rw [hL] at hm; have := (q5 j hm).1; omega
      exact .inr (.inl ⟨by rw [← hT]; exact hw, hni, hq, m, M, hml, by rw [← hT, hH, hXi]; exact hx, hlt, fun q hq => by rw [hL] at hq; have := (q5 q hq).1; omega, fun hb => by rw [hf0] at hb; cases hb⟩)
    · exact q6 j o' (by omega) hoj
  | flag hw hq ha hk hx hrec ih =>
    rename_i o a r i E W T T' H H' M x xs hs ls
    intro m hl hfl hX hH hHs hL hlt hml hT hE
    obtain ⟨ho', hr⟩ := at_head hl
    have ho : ops[i]? = some o := by simpa using ho'
    have hin := (Array.getElem?_eq_some_iff.1 ho).1
    obtain ⟨hf0, hfr⟩ := at_head hfl
    have hdst : dstAt ops i = o.dst := by simp [dstAt, ho]
    have hXi : X i = x := hX 0 x rfl
    obtain ⟨q3, q4, q5, q7, q6⟩ := ih m hr hfr (fun j x hj => by rw [show i + 1 + j = i + (j + 1) by omega]; exact hX (j + 1) x (by simpa using hj)) hH hHs hL (fun q hq => Nat.lt_succ_of_lt (hlt q hq)) hml (by rw [TT_succ, hXi, hT, hdst]) hE
    refine ⟨q3, q4, fun q hq => ⟨by have := (q5 q hq).1; omega, (q5 q hq).2⟩, fun b hb => q7 b (by simp [hb]), fun j o' hij hoj => ?_⟩
    by_cases hj : j = i
    · subst hj
      rw [ho] at hoj
      cases hoj
      have hni : j ∉ LS := by
        intro hmem
        rw [← List.take_append_drop m LS, List.mem_append] at hmem
        rcases hmem with hm | hm
        · have := hlt j hm; omega
        · rw [hL] at hm; have := (q5 j hm).1; omega
      refine .inr (.inl ⟨by rw [← hT]; exact hw, hni, hq, m, M, hml, by rw [← hT, hH, hXi]; exact hx, hlt, fun q hq => by rw [hL] at hq; have := (q5 q hq).1; omega, fun _ => ⟨a, by rw [← hT]; exact ha, fun k' hk' => ?_⟩⟩)
      by_cases hlt' : k' < m
      · rw [hH]; exact kpA_symm (hk _ (hE k' hlt'))
      · exact q7 a (by simp) k' (by omega) hk'
    · exact q6 j o' (by omega) hoj
  | loud hw hq hk hx hrec ih =>
    rename_i o b r i E W T T' H H1 H' x xs hs ls
    intro m hl hfl hX hH hHs hL hlt hml hT hE
    obtain ⟨ho', hr⟩ := at_head hl
    have ho : ops[i]? = some o := by simpa using ho'
    have hin := (Array.getElem?_eq_some_iff.1 ho).1
    obtain ⟨hf0, hfr⟩ := at_head hfl
    have hdst : dstAt ops i = o.dst := by simp [dstAt, ho]
    have hXi : X i = x := hX 0 x rfl
    have hm1 : m < LS.length := by
      have := congrArg List.length hL
      simp at this; omega
    have hLm : LS[m]? = some i := by
      have : (LS.drop m)[0]? = some i := by rw [hL]; rfl
      rw [List.getElem?_drop] at this
      simpa using this
    have hH1 : HS (m + 1) = H1 := hHs 0 H1 rfl
    obtain ⟨q3, q4, q5, q7, q6⟩ := ih (m + 1) hr hfr (fun j x hj => by rw [show i + 1 + j = i + (j + 1) by omega]; exact hX (j + 1) x (by simpa using hj)) hH1
      (fun j h hj => by rw [show m + 1 + 1 + j = m + 1 + (j + 1) by omega]; exact hHs (j + 1) h (by simpa using hj)) (by rw [← List.drop_drop, hL]; rfl)
      (fun q hq => by
        rw [List.take_add_one, hLm] at hq
        simp at hq
        rcases hq with hq | hq
        · exact Nat.lt_succ_of_lt (hlt q hq)
        · omega) (by omega) (by rw [TT_succ, hXi, hT, hdst])
      (fun k hk' => by
        by_cases hkm : k = m
        · subst hkm; rw [hH]; simp
        · exact List.mem_cons_of_mem _ (hE k (by omega)))
    refine ⟨q3, q4, fun q hq' => ?_, fun a ha k h1 h2 => ?_, fun j o' hij hoj => ?_⟩
    · rcases List.mem_cons.1 hq' with rfl | hq'
      · exact ⟨Nat.le_refl _, hin, o, ho, hq⟩
      · exact ⟨by have := (q5 q hq').1; omega, (q5 q hq').2⟩
    · by_cases hkm : k = m
      · subst hkm; exact kpA_refl _ _
      · have e1 := hk a ha
        have e2 := q7 a ha k (by omega) h2
        rw [hH1] at e2
        rw [hH]
        exact kpA_trans e1 e2
    · by_cases hj : j = i
      · subst hj
        rw [ho] at hoj
        cases hoj
        refine .inr (.inr ⟨by rw [← hT]; exact hw, m, hLm, ?_⟩)
        rw [← hT, hH, hH1, hXi]
        exact hx
      · exact q6 j o' (by omega) hoj
  | skip hw hrec ih =>
    rename_i o b r i E W T T' H H' xs hs ls
    intro m hl hfl hX hH hHs hL hlt hml hT hE
    obtain ⟨ho', hr⟩ := at_head hl
    have ho : ops[i]? = some o := by simpa using ho'
    have hin := (Array.getElem?_eq_some_iff.1 ho).1
    obtain ⟨hf0, hfr⟩ := at_head hfl
    have hdst : dstAt ops i = o.dst := by simp [dstAt, ho]
    have hXi : X i = .lit undef := hX 0 _ rfl
    obtain ⟨q3, q4, q5, q7, q6⟩ := ih m hr hfr (fun j x hj => by rw [show i + 1 + j = i + (j + 1) by omega]; exact hX (j + 1) x (by simpa using hj)) hH hHs hL (fun q hq => Nat.lt_succ_of_lt (hlt q hq)) hml (by rw [TT_succ, hXi, hT, hdst]) hE
    refine ⟨q3, q4, fun q hq => ⟨by have := (q5 q hq).1; omega, (q5 q hq).2⟩, q7, fun j o' hij hoj => ?_⟩
    by_cases hj : j = i
    · subst hj
      rw [ho] at hoj
      cases hoj
      have hni : j ∉ LS := by
        intro hmem
        rw [← List.take_append_drop m LS, List.mem_append] at hmem
        rcases hmem with hm | hm
        · have := hlt j hm; omega
        · rw [hL] at hm; have := (q5 j hm).1; omega
      exact .inl ⟨by rw [← hT]; exact hw, hXi, hni⟩
    · exact q6 j o' (by omega) hoj

/-! ### regions of open order -/
def heapDep (o : Op) : Bool := match o with
  | .load _ _ => true
  | .slice _ _ _ _ _ => true
  | _ => false

theorem evOp_indep {T : List AV} {H H2 M : Hp} {o : Oper} {x : AV} (hq : quietOp o.op = true) (hd : heapDep o.op = false) (h : evOp C.ti C.keys C.as T H o = some (x, M)) : evOp C.ti C.keys C.as T H2 o = some (x, H2) := by
  obtain ⟨dst, op, ty, pos, after, guard⟩ := o
  simp only at hq hd
  unfold evOp at h ⊢
  cases op <;> simp only [heapDep, Bool.true_eq_false, reduceCtorEq] at hd <;> simp only [quietOp, Bool.false_eq_true] at hq <;> simp only at h ⊢ <;> try (first | (cases h; rfl) | exact map_heap h)
  case pick c a b =>
    split at h
    · cases h; rfl
    · split at h
      · cases h; rfl
      · cases h
    · cases h
  case nilCheck y => split at h <;> cases h <;> rfl
  case unOp op t y =>
    split at h
    · simp only [Option.map_eq_some_iff] at h ⊢
      obtain ⟨u, hu, he⟩ := h
      cases he
      exact ⟨u, hu, rfl⟩
    · split at h <;> cases h <;> rfl
    · split at h <;> cases h <;> rfl
    · cases h
  case makeFunc f a b => split at h <;> cases h <;> rfl
  case extract y i =>
    split at h
    · exact map_heap h
    · cases h
  case call c =>
    obtain ⟨callee, args, ts⟩ := c
    cases callee with
    | builtin b =>
      cases b
      case len =>
        simp only [builtinA] at h ⊢
        split at h
        · exact map_heap h
        · cases h
      case min => simp only [builtinA] at h ⊢; exact map_heap h
      case max => simp only [builtinA] at h ⊢; exact map_heap h
      all_goals (exfalso; revert hq; simp)
    | _ => exfalso; revert hq; simp

def ordB (ms : List Nat) (i j : Nat) : Bool := bif Nat.blt i j then (ms.getD j 0).testBit i else (ms.getD i 0).testBit j

/-- The loads that no order binds to some call. -/
def flagsD (ops : Array Oper) : List Bool :=
  let l := ops.toList.zipIdx
  let ms := masksL ops.toList []
  l.map fun q => heapDep q.1.op && l.any fun p => !quietOp p.1.op && (!Nat.beq p.2 q.2 && !ordB ms p.2 q.2)

def drawStat (ops : Array Oper) : Bool :=
  let l := ops.toList.zipIdx
  let ms := masksL ops.toList []
  statOk ops && l.all fun p => quietOp p.1.op || l.all fun q => Nat.beq p.2 q.2 || (quietOp q.1.op || ordB ms p.2 q.2)

theorem ordB_ok {ops : Array Oper} {i j : Nat} (h : ordB (masksL ops.toList []) i j = true) : (i < j → preOf ops j i = true) ∧ (j < i → preOf ops i j = true) := by
  unfold ordB at h
  refine ⟨fun hlt => ?_, fun hlt => ?_⟩
  · have : Nat.blt i j = true := Nat.ble_eq_true_of_le hlt
    rw [this] at h
    exact h
  · have : Nat.blt i j = false := by
      cases hh : Nat.blt i j with
      | false => rfl
      | true => have := Nat.le_of_ble_eq_true (hh : Nat.ble (i + 1) j = true); omega
    rw [this] at h
    exact h

theorem mem_zip {ops : Array Oper} {i : Nat} {o : Oper} (h : ops[i]? = some o) : (o, i) ∈ ops.toList.zipIdx := by
  rw [List.mem_zipIdx_iff_getElem?]
  simpa using h

theorem beq_ne {i j : Nat} (h : i ≠ j) : Nat.beq i j = false := by
  cases hh : Nat.beq i j with
  | false => rfl
  | true => exact absurd (Nat.eq_of_beq_eq_true hh) h

theorem drawStat_ok {ops : Array Oper} (h : drawStat ops = true) {i j : Nat} {p q : Oper} (hp : ops[i]? = some p) (hq : ops[j]? = some q) (hl : quietOp p.op = false) (hd : quietOp q.op = false) (hij : i ≠ j) :
    (i < j → preOf ops j i = true) ∧ (j < i → preOf ops i j = true) := by
  simp only [drawStat, Bool.and_eq_true] at h
  have h1 := List.all_eq_true.1 h.2 _ (mem_zip hp)
  simp only [hl, Bool.false_or] at h1
  have h2 := List.all_eq_true.1 h1 _ (mem_zip hq)
  simp only [hd, Bool.false_or, beq_ne hij] at h2
  exact ordB_ok h2

theorem flagsD_ok {ops : Array Oper} {i j : Nat} {p q : Oper} (hf : (flagsD ops)[j]? ≠ some true) (hp : ops[i]? = some p) (hq : ops[j]? = some q) (hl : quietOp p.op = false) (hd : heapDep q.op = true) (hij : i ≠ j) :
    (i < j → preOf ops j i = true) ∧ (j < i → preOf ops i j = true) := by
  have hz : ops.toList.zipIdx[j]? = some (q, j) := by
    rw [List.getElem?_zipIdx]
    have : ops.toList[j]? = some q := by simpa using hq
    rw [this]; simp
  unfold flagsD at hf
  simp only [List.getElem?_map, hz, Option.map_some, hd, Bool.true_and, ne_eq, Option.some.injEq, Bool.not_eq_true, List.any_eq_false] at hf
  have := hf _ (mem_zip hp)
  simp only [hl, Bool.not_false, Bool.true_and, beq_ne hij, Bool.not_eq_true, Bool.not_eq_false'] at this
  exact ordB_ok (by simpa using this)

theorem kp_indep {T : List AV} {H H2 M : Hp} {o : Oper} {x : AV} {a : AV × Option Nat} (ha : addrA C.ti T o.op = some a) (hk : kpA a H H2) (h : evOp C.ti C.keys C.as T H o = some (x, M)) : evOp C.ti C.keys C.as T H2 o = some (x, H2) := by
  obtain ⟨dst, op, ty, pos, after, guard⟩ := o
  simp only at ha
  unfold addrA at ha
  split at ha
  · rename_i t y
    split at ha
    case h_2 => cases ha
    rename_i i hi
    cases ha
    simp only [evOp] at h ⊢
    refine map_heap2 (fun z hz => ?_) h
    unfold loadA at hz ⊢
    have : cellsAt H (evO T y) i.size = cellsAt H2 (evO T y) i.size := by
      generalize evO T y = v at hk
      cases v <;> first | rfl | skip
      simp only [kpA] at hk
      exact hk.symm
    rw [hi] at hz ⊢
    simp only [this] at hz ⊢
    exact hz
  · rename_i t y lo hi mx
    cases ha
    simp only [evOp] at h ⊢
    split at h
    · refine map_heap2 (fun z hz => ?_) h
      unfold sliceA at hz ⊢
      split at hz <;> try exact hz
      rename_i n e _ _ _
      unfold sliceArrA at hz ⊢
      generalize evO T y = v at hk hz
      split at hz
      · cases v <;> first | exact hz | skip
        simp only [kpA] at hk
        simp only [hk]
        exact hz
      · cases hz
    · cases h
  · cases ha

theorem draw_of_run (hm : P.follows .mixedOrders = true) {ops : Array Oper} (hs : drawStat ops = true) {T T' : List AV} {H H' : Hp} {xs : List AV} {hps : List Hp} {ls : List Nat} (h : Run C ops (ops.toList.zip (flagsD ops)) 0 [] [] T H xs hps ls T' H') : DrawOk (P := P) C.σ ops T H T' H' := by
  have hst : Stat ops := by
    simp only [drawStat, Bool.and_eq_true] at hs
    exact statOk_ok hs.1
  let X : Nat → AV := fun j => xs.getD j (.lit undef)
  let HS : Nat → Hp := fun k => (H :: hps).getD k H
  have hlen : ops.toList.length = (flagsD ops).length := by simp [flagsD]
  obtain ⟨q3, q4, q5, _, q6⟩ := run_ok C (FL := flagsD ops) (X := X) (HS := HS) (LS := ls) (T0 := T) h 0 (by rw [List.map_fst_zip (by omega)]; rfl) (by rw [List.map_snd_zip (by omega)]; rfl) (fun j x hj => by simp [X, hj]) rfl (fun j h hj => by
      show (H :: hps).getD (0 + 1 + j) H = h
      rw [show 0 + 1 + j = j + 1 by omega]
      simp [hj]) (by simp) (by simp) (Nat.zero_le _) rfl (fun k hk => absurd hk (Nat.not_lt_zero _))
  -- louds grow
  have grow : ∀ {i : Nat} {l : List (Oper × Bool)} {E : List Hp} {W : List (AV × Option Nat)} {T T' : List AV} {H H' : Hp} {xs : List AV} {hps : List Hp} {ls : List Nat}, Run C ops l i E W T H xs hps ls T' H' → (∀ q ∈ ls, i ≤ q) ∧ ls.Pairwise (· < ·) := by
    intro i l E W T T' H H' xs hps ls h
    induction h with
    | nil => exact ⟨fun q hq => (by cases hq), List.Pairwise.nil⟩
    | flag hw hq ha hk hx h ih => exact ⟨fun q hq => by have := ih.1 q hq; omega, ih.2⟩
    | quiet hw hq hx h ih => exact ⟨fun q hq => by have := ih.1 q hq; omega, ih.2⟩
    | loud hw hq hk hx h ih =>
      refine ⟨fun q hq' => ?_, List.Pairwise.cons (fun q hq' => ?_) ih.2⟩
      · rcases List.mem_cons.1 hq' with rfl | hq'
        · exact Nat.le_refl _
        · have := ih.1 q hq'; omega
      · have := ih.1 q hq'; omega
    | skip hw h ih => exact ⟨fun q hq => by have := ih.1 q hq; omega, ih.2⟩
  have hg := (grow h).2
  rw [q3, q4]
  refine draw_ok C hm hst ⟨rfl, fun i o ho => ?_, fun m l l' h1 h2 => ?_, fun l hl => (q5 l hl).2.1⟩
  · rcases q6 i o (Nat.zero_le _) ho with h | ⟨h1, h2, h3, k, M, hk, hev, hlt, hgt, hnp⟩ | h
    · exact .inl h
    · refine .inr (.inl ⟨h1, h2, h3, ?_⟩)
      cases hd : heapDep o.op with
      | false => exact ⟨0, ls.length, Nat.zero_le _, fun k' _ _ => ⟨_, evOp_indep C h3 hd hev⟩, fun m l hl => ⟨fun h => absurd h (Nat.not_lt_zero _), fun h => by have := (List.getElem?_eq_some_iff.1 hl).1; omega⟩⟩
      | true =>
        by_cases hfl : (flagsD ops)[i]? = some true
        · obtain ⟨a, ha, hka⟩ := hnp hfl
          exact ⟨0, ls.length, Nat.zero_le _, fun k' _ hk' => ⟨_, kp_indep C ha (hka k' hk') hev⟩, fun m l hl => ⟨fun h => absurd h (Nat.not_lt_zero _), fun h => by have := (List.getElem?_eq_some_iff.1 hl).1; omega⟩⟩
        · refine ⟨k, k, hk, fun k' h4 h5 => ?_, fun m l hl => ?_⟩
          · have : k' = k := by omega
            subst this
            exact ⟨M, hev⟩
          · obtain ⟨_, hls, ol, hol, hql⟩ := q5 l (List.mem_of_getElem? hl)
            have hne : l ≠ i := by rintro rfl; exact h2 (List.mem_of_getElem? hl)
            have hp := flagsD_ok hfl hol ho hql hd hne
            refine ⟨fun hmk => hp.1 (hlt l ?_), fun hmk => hp.2 (hgt l ?_)⟩
            · exact List.mem_of_getElem? (i := m) (by rw [List.getElem?_take, if_pos hmk]; exact hl)
            · exact List.mem_of_getElem? (i := m - k) (by rw [List.getElem?_drop, show k + (m - k) = m by omega]; exact hl)
    · exact .inr (.inr h)
  · obtain ⟨_, _, o1, ho1, hq1⟩ := q5 l (List.mem_of_getElem? h1)
    obtain ⟨_, _, o2, ho2, hq2⟩ := q5 l' (List.mem_of_getElem? h2)
    have hlt : l < l' := by
      have e1 := List.getElem?_eq_some_iff.1 h1
      have e2 := List.getElem?_eq_some_iff.1 h2
      obtain ⟨a1, rfl⟩ := e1
      obtain ⟨a2, rfl⟩ := e2
      exact List.pairwise_iff_getElem.1 hg _ _ a1 a2 (Nat.lt_succ_self _)
    exact (drawStat_ok hs ho1 ho2 hq1 hq2 (by omega)).1 hlt

/-! ### code -/
def nx (Q : Exit → List AV → Hp → Prop) (K : List AV → Hp → Prop) (e : Exit) (T : List AV) (H : Hp) : Prop := match e with
  | .normal => K T H
  | e => Q e T H

/-- At the head of a loop. -/
def LoopP (c : Code) (T : List AV) (H : Hp) (Q : Exit → List AV → Hp → Prop) : Prop := ∃ e T' H', Ex C (.loop c) T H e T' H' ∧ Q e T' H'
def DrawP (ops : Array Oper) (T : List AV) (H : Hp) (K : List AV → Hp → Prop) : Prop := ∃ T' H', DrawOk (P := P) C.σ ops T H T' H' ∧ K T' H'

/-- Slots that are read later on stay, of the others nothing is told. -/
def maskA (g : Nat) (js : Nat → AV) : Nat → List AV → List AV
  | _, [] => []
  | i, x :: T => (bif g.testBit i then x else js i) :: maskA g js (i + 1) T

theorem maskA_id (g : Nat) : ∀ (T : List AV) (i : Nat) (js : Nat → AV), (∀ k x, T[k]? = some x → js (i + k) = x) → maskA g js i T = T
  | [], i, js, h => rfl
  | x :: T, i, js, h => by
    have h0 : js i = x := h 0 x rfl
    have := maskA_id g T (i + 1) js (fun k y hy => by rw [show i + 1 + k = i + (k + 1) by omega]; exact h (k + 1) y (by simpa using hy))
    simp only [maskA, this, h0]
    cases g.testBit i <;> rfl

theorem maskA_self (g : Nat) (T : List AV) : maskA g (fun k => T.getD k (.lit undef)) 0 T = T :=
  maskA_id g T 0 _ fun k x hk => by simp [hk]

def exitsTo (id : Nat) : Code → Nat
  | .exit i => bif Nat.beq i id then 1 else 0
  | .seq a b => exitsTo id a + exitsTo id b
  | .cond _ a b => exitsTo id a + exitsTo id b
  | .block _ c => exitsTo id c
  | .loop c => exitsTo id c
  | .rangeFunc _ _ _ c => exitsTo id c
  | _ => 0

/-- How many ways there are to the end of code. -/
def falls : Code → Nat
  | .exit _ => 0
  | .ret => 0
  | .seq a b => bif Nat.beq (falls a) 0 then 0 else falls b
  | .cond _ a b => falls a + falls b
  | .block id c => falls c + exitsTo id c
  | .loop _ => 0
  | _ => 1

def small : Code → Bool
  | .skip => true
  | .exit _ => true
  | .ret => true
  | _ => false

def joins (a b : Code) : Bool := Nat.ble 2 (falls a) && !small b

/-- The blocks that code leaves for. -/
def exitIds : Code → List Nat
  | .exit i => [i]
  | .seq a b => exitIds a ++ exitIds b
  | .cond _ a b => exitIds a ++ exitIds b
  | .block _ c => exitIds c
  | .loop c => exitIds c
  | _ => []
def exB (b : Bool) (A B : Prop) : Prop := match b with
  | true => A
  | false => B
def exK (K : Nat → Prop) (i : Nat) : List Nat → Prop
  | [] => False
  | j :: r => exB (Nat.beq i j) (K j) (exK K i r)
/-- Behind a loop over a function: N: on behind it; R: it returned; X: a block is left. -/
def endK (b : Option Blk) (H : Hp) (N R : Hp → Prop) (X : Nat → Hp → Prop) : Prop := match b with
  | some (.loop _ st pend) => match st with
    | .busy => False
    | _ => match pend with
      | none => N H
      | some .ret => R H
      | some (.exit i) => X i H
      | _ => False
  | _ => False
/-- A loop over a function. -/
def rangeK (P : Program) (σ : Sig) (f : AV) (rec : LRec) (H : Hp) (N R : Hp → Prop) (X : Nat → Hp → Prop) : Prop := match f with
  | .fn g caps => callK P σ g (.yl H.n :: caps) (H.new (.loop rec .ready none)) fun _ H2 => endK (H2.get H.n) (H2.set H.n none) N R X
  | _ => False

def wp (g : Nat) : Code → List AV → Hp → (Exit → List AV → Hp → Prop) → Prop
  | .skip, T, H, Q => Q .normal T H
  | .exit id, T, H, Q => Q (.exit id) T H
  | .ret, T, H, Q => Q .ret T H
  | .region _ ops d, T, H, Q => match d with
    | false => opsK C ops (ops.toList.map fun o => (o, false)) [] [] [] T H (Q .normal)
    | true => match drawStat ops with
      | true => opsK C ops (ops.toList.zip (flagsD ops)) [] [] [] T H (Q .normal)
      | false => DrawP C ops T H (Q .normal)
  | .seq a b, T, H, Q => match joins a b with
    | false => wp g a T H (nx Q fun T1 H1 => wp g b T1 H1 Q)
    | true => wp g a T H (nx Q fun T1 H1 => ∀ js, wp g b (maskA g js 0 T1) H1 Q)
  | .cond c a b, T, H, Q => ifB (evO T c) (wp g a T H Q) (wp g b T H Q)
  | .block id c, T, H, Q => wp g c T H fun e T1 H1 => Q (unblock id e) T1 H1
  | .loop c, T, H, Q => ∀ js, LoopP C c (maskA g js 0 T) H Q
  | .rangeFunc f ps assign body, T, H, Q => ∀ js, rangeK P C.σ (evO T f) ⟨maskA g js 0 T, ps, assign, body⟩ H (Q .normal T) (Q .ret T) fun i H3 => exK (fun j => Q (.exit j) T H3) i (exitIds body)
  | _, _, _, _ => False

theorem exK_ok {K : Nat → Prop} {i : Nat} : ∀ {l : List Nat}, exK K i l → K i
  | [], h => h.elim
  | j :: r, h => by
    have h : exB (Nat.beq i j) (K j) (exK K i r) := h
    cases hb : Nat.beq i j with
    | true => rw [hb] at h; rw [Nat.eq_of_beq_eq_true hb]; exact h
    | false => rw [hb] at h; exact exK_ok h

theorem wp_ok (hm : P.follows .mixedOrders = true) (g : Nat) : ∀ (c : Code) {T : List AV} {H : Hp} {Q : Exit → List AV → Hp → Prop}, wp C g c T H Q → ∃ e T' H', Ex C c T H e T' H' ∧ Q e T' H' := by
  have reg : ∀ {ops : Array Oper} {id : Nat} {T : List AV} {H : Hp} {K : List AV → Hp → Prop}, opsK C ops (ops.toList.map fun o => (o, false)) [] [] [] T H K → ∃ T' H', Ex C (.region id ops false) T H .normal T' H' ∧ K T' H' := by
    intro ops id T H K h
    obtain ⟨xs, hs, ls, T', H', hr, hk⟩ := opsK_run C _ 0 outS_nil h
    refine ⟨T', H', .region ?_, hk⟩
    have := hr.seqs C (by rw [List.map_map]; exact (List.map_id _).symm)
    rw [List.range_eq_range']
    simpa using this
  have drw : ∀ {ops : Array Oper} {id : Nat} {T : List AV} {H : Hp} {K : List AV → Hp → Prop}, drawStat ops = true → opsK C ops (ops.toList.zip (flagsD ops)) [] [] [] T H K → ∃ T' H', Ex C (.region id ops true) T H .normal T' H' ∧ K T' H' := by
    intro ops id T H K hd h
    obtain ⟨xs, hs, ls, T', H', hr, hk⟩ := opsK_run C _ 0 outS_nil h
    exact ⟨T', H', .draw (draw_of_run C hm hd hr), hk⟩
  intro c
  induction c with
  | skip => intro T H Q h; exact ⟨_, _, _, .skip, h⟩
  | exit id => intro T H Q h; exact ⟨_, _, _, .exit, h⟩
  | ret => intro T H Q h; exact ⟨_, _, _, .ret, h⟩
  | region id ops d =>
    intro T H Q h
    unfold wp at h
    cases d with
    | false =>
      obtain ⟨T', H', h1, h2⟩ := reg (id := id) h
      exact ⟨_, _, _, h1, h2⟩
    | true =>
      simp only at h
      split at h
      · rename_i hd
        obtain ⟨T', H', h1, h2⟩ := drw (id := id) hd h
        exact ⟨_, _, _, h1, h2⟩
      · obtain ⟨T', H', h1, h2⟩ := h
        exact ⟨_, _, _, .draw h1, h2⟩
  | seq a b iha ihb =>
    intro T H Q h
    have h : wp C g a T H (nx Q fun T1 H1 => wp C g b T1 H1 Q) ∨ wp C g a T H (nx Q fun T1 H1 => ∀ js, wp C g b (maskA g js 0 T1) H1 Q) := by
      unfold wp at h
      split at h
      · exact .inl h
      · exact .inr h
    have key : ∃ e T1 H1, Ex C a T H e T1 H1 ∧ nx Q (fun T1 H1 => wp C g b T1 H1 Q) e T1 H1 := by
      rcases h with h | h
      · exact iha h
      · obtain ⟨e, T1, H1, hx, hq⟩ := iha h
        refine ⟨e, T1, H1, hx, ?_⟩
        cases e <;> first
          | (have := hq (fun k => T1.getD k (.lit undef)); rw [maskA_self] at this; exact this)
          | exact hq
    obtain ⟨e, T1, H1, hx, hq⟩ := key
    by_cases he : e = .normal
    · subst he
      obtain ⟨e2, T2, H2, hx2, hq2⟩ := ihb hq
      exact ⟨_, _, _, .seq hx hx2, hq2⟩
    · refine ⟨_, _, _, .seqX hx he, ?_⟩
      cases e <;> first | exact absurd rfl he | exact hq
  | cond c a b iha ihb =>
    intro T H Q h
    unfold wp at h
    rcases ifB_ok h with ⟨ht, h⟩ | ⟨ht, h⟩
    · obtain ⟨e, T1, H1, hx, hq⟩ := iha h
      exact ⟨_, _, _, .cond ht hx, hq⟩
    · obtain ⟨e, T1, H1, hx, hq⟩ := ihb h
      exact ⟨_, _, _, .cond ht hx, hq⟩
  | block id c ih =>
    intro T H Q h
    unfold wp at h
    obtain ⟨e, T1, H1, hx, hq⟩ := ih h
    exact ⟨_, _, _, .block hx, hq⟩
  | loop c ih =>
    intro T H Q h
    have := h (fun k => T.getD k (.lit undef))
    rw [maskA_self] at this
    exact this
  | rangeFunc f ps assign body iha ihb =>
    intro T H Q h
    have h := h (fun k => T.getD k (.lit undef))
    rw [maskA_self] at h
    unfold rangeK at h
    split at h
    case h_2 => exact h.elim
    rename_i gf caps hf
    obtain ⟨r, H2, hg, hk⟩ := h
    unfold endK at hk
    split at hk
    case h_2 => exact hk.elim
    rename_i rec st pend hl
    have main : ∀ (pend : Option Code) (e0 : H2.get H.n = some (.loop rec st pend)), st ≠ .busy → (match (motive := Option Code → Prop) pend with | none => Q .normal T (H2.set H.n none) | some .ret => Q .ret T (H2.set H.n none) | some (.exit i) => exK (fun j => Q (.exit j) T (H2.set H.n none)) i (exitIds body) | _ => False) →
        ∃ e T' H', Ex C (.rangeFunc f ps assign body) T H e T' H' ∧ Q e T' H' := by
      intro pend e0 hb hk
      cases pend with
      | none => exact ⟨_, _, _, .rangeN hf hg e0 hb, hk⟩
      | some c =>
        cases c <;> try exact hk.elim
        · exact ⟨_, _, _, .rangeX hf hg e0 hb .exit, exK_ok hk⟩
        · exact ⟨_, _, _, .rangeX hf hg e0 hb .ret, hk⟩
    cases st with
    | busy => exact hk.elim
    | ready => exact main _ hl (by simp) hk
    | done => exact main _ hl (by simp) hk
    | exhausted => exact main _ hl (by simp) hk
  | _ => intro T H Q h; exact h.elim

/-- A round of a loop. -/
theorem LoopP.round (hm : P.follows .mixedOrders = true) {g : Nat} {c : Code} {T : List AV} {H : Hp} {Q : Exit → List AV → Hp → Prop} (h : wp C g c T H (nx Q fun T1 H1 => ∀ js, LoopP C c (maskA g js 0 T1) H1 Q)) : LoopP C c T H Q := by
  obtain ⟨e, T1, H1, hx, hq⟩ := wp_ok C hm g c h
  by_cases he : e = .normal
  · subst he
    have := hq (fun k => T1.getD k (.lit undef))
    rw [maskA_self] at this
    obtain ⟨e2, T2, H2, hx2, hq2⟩ := this
    exact ⟨_, _, _, .loop hx hx2, hq2⟩
  · refine ⟨_, _, _, .loopX hx he, ?_⟩
    cases e <;> first | exact absurd rfl he | exact hq

/-! ### rounds of loops over functions -/
/-- What a round leaves, by how its body is left. -/
def roundE (id : Nat) (rec : LRec) (K : AV → Hp → Prop) (e : Exit) (H : Hp) : Prop := match e with
  | .normal => H.get id = some (.loop rec .busy none) ∧ K (.lit (.bool true)) (H.set id (some (.loop rec .ready none)))
  | .ret => H.get id = some (.loop rec .busy none) ∧ K (.lit (.bool false)) (H.set id (some (.loop rec .done (some .ret))))
  | .exit i => H.get id = some (.loop rec .busy none) ∧ K (.lit (.bool false)) (H.set id (some (.loop rec .done (some (.exit i)))))
  | _ => False
def asgE (id : Nat) (rec : LRec) (K : List AV → Hp → Prop) (e : Exit) (T : List AV) (H : Hp) : Prop := match e with
  | .normal => H.get id = some (.loop rec .ready none) ∧ K T (H.set id (some (.loop rec .busy none)))
  | _ => False
def puts : List AV → List Tmp → List AV → List AV
  | T, p :: ps, x :: xs => puts (T.set p x) ps xs
  | T, _, _ => T

theorem yield_of_wp (hm : P.follows .mixedOrders = true) (g : Nat) {id : Nat} {rec : LRec} {xs : List AV} {H : Hp} {K : AV → Hp → Prop} (hl : H.get id = some (.loop rec .ready none)) (hn : Nat.beq xs.length rec.ps.size = true) (hpa : plainC rec.assign = true) (hpb : plainC rec.body = true)
    (h : wp C g rec.assign (puts rec.T rec.ps.toList xs) H (asgE id rec fun T1 H1 => wp C g rec.body T1 H1 fun e _ H2 => roundE id rec K e H2)) : callV P C.σ (.yl id) xs H K := by
  obtain ⟨T0, ps, assign, body⟩ := rec
  have eputs : ∀ (T : List AV) (ps : List Tmp) (xs : List AV), puts T ps xs = putsA T ps xs := by
    intro T ps
    induction ps generalizing T with
    | nil => intro xs; cases xs <;> rfl
    | cons p ps ih => intro xs; cases xs with
      | nil => rfl
      | cons x xs => exact ih _ xs
  simp only [eputs] at h
  obtain ⟨e, T1, H1, hx, hq⟩ := wp_ok C hm g _ h
  cases e <;> try exact hq.elim
  obtain ⟨h1, hq⟩ := hq
  obtain ⟨e2, T2, H2, hx2, hq2⟩ := wp_ok C hm g _ hq
  have hn := Nat.eq_of_beq_eq_true hn
  cases e2 <;> try exact hq2.elim
  · obtain ⟨h2, hk⟩ := hq2
    exact ⟨_, _, good_y C (j := none) hl hn hpa hx h1 hpb hx2 h2 rfl, hk⟩
  · obtain ⟨h2, hk⟩ := hq2
    exact ⟨_, _, good_y C (j := some (.exit _)) hl hn hpa hx h1 hpb hx2 h2 rfl, hk⟩
  · obtain ⟨h2, hk⟩ := hq2
    exact ⟨_, _, good_y C (j := some .ret) hl hn hpa hx h1 hpb hx2 h2 rfl, hk⟩

/-! ### functions -/
def resK (ti : Nat → Option TI) (T : List AV) (H : Hp) : List ResultVar → (List AV → Prop) → Prop
  | [], K => K []
  | .tmp t :: rs, K => resK ti T H rs fun l => K (T.getD t (.lit undef) :: l)
  | .cell a t :: rs, K => tyK ti t fun i => bnd (ldA i.d.agg i.size H (T.getD a (.lit undef))) fun x => resK ti T H rs fun l => K (x :: l)

theorem resK_ok {ti : Nat → Option TI} {T : List AV} {H : Hp} : ∀ {rs : List ResultVar} {K : List AV → Prop}, resK ti T H rs K → ∃ l, ressA ti T H rs = some l ∧ K l
  | [], K, h => ⟨[], rfl, h⟩
  | .tmp t :: rs, K, h => by
    have h : resK ti T H rs fun l => K (T.getD t (.lit undef) :: l) := h
    obtain ⟨l, hl, hk⟩ := resK_ok (rs := rs) h
    exact ⟨_, by simp only [ressA, resA, hl], hk⟩
  | .cell a t :: rs, K, h => by
    obtain ⟨i, hi, h⟩ := tyK_ok h
    obtain ⟨x, hx, h⟩ := bnd_ok h
    obtain ⟨l, hl, hk⟩ := resK_ok (rs := rs) h
    exact ⟨_, by simp only [ressA, resA, loadA_of hi, hx, hl], hk⟩

def one (l : List AV) : AV := match l with
  | [x] => x
  | l => .tup l

/-- What a function's end has to meet. -/
def fnQ (ti : Nat → Option TI) (rs : List ResultVar) (K : AV → Hp → Prop) (e : Exit) (T : List AV) (H : Hp) : Prop := match e with
  | .normal => resK ti T H rs fun l => K (one l) H
  | .ret => resK ti T H rs fun l => K (one l) H
  | _ => False

theorem good_of_wp (hm : P.follows .mixedOrders = true) (g : Nat) {f : Nat} {fn : Func} {c : Code} {xs : List AV} {H : Hp} {K : AV → Hp → Prop} (hf : P.funcs[f]? = some fn) (hb : fn.body = some c) (hn : (fn.name == "runtime.NumGoroutine") = false)
    (h : wp C g c (xs ++ List.replicate (fn.ntmps - xs.length) (.lit undef)) H (fnQ C.ti fn.results.toList K)) : ∃ r H', Good P C.σ f xs H r H' ∧ K r H' := by
  obtain ⟨e, T', H', hx, hq⟩ := wp_ok C hm g c h
  have main : (e = .normal ∨ e = .ret) ∧ ∃ l, ressA C.ti T' H' fn.results.toList = some l ∧ K (one l) H' := by
    cases e <;> first | exact ⟨.inl rfl, resK_ok hq⟩ | exact ⟨.inr rfl, resK_ok hq⟩ | exact hq.elim
  obtain ⟨he, l, hl, hk⟩ := main
  refine ⟨one l, H', good_of_sm C rfl hf hb hn (Sm.of_ex C hx) he ?_, hk⟩
  unfold resultA
  rw [hl]
  match l with
  | [] => rfl
  | [x] => rfl
  | x :: y :: r => rfl
end

/-! ### the ways into code -/
def bodyOf (fn : Func) : Code := match fn.body with
  | some c => c
  | none => .skip
def rOps (c : Code) : Array Oper := match c with
  | .region _ ops _ => ops
  | _ => #[]
def sL : Code → Code
  | .seq a _ => a
  | c => c
def sR : Code → Code
  | .seq _ b => b
  | c => c
def cT : Code → Code
  | .cond _ a _ => a
  | c => c
def cE : Code → Code
  | .cond _ _ b => b
  | c => c
def bB : Code → Code
  | .block _ c => c
  | c => c
def lB : Code → Code
  | .loop c => c
  | c => c
def rP : Code → Array Tmp
  | .rangeFunc _ ps _ _ => ps
  | _ => #[]
def rA : Code → Code
  | .rangeFunc _ _ a _ => a
  | c => c
def rB : Code → Code
  | .rangeFunc _ _ _ b => b
  | c => c
end Go.Proofs.Ytikcninaepoojaa.Ev

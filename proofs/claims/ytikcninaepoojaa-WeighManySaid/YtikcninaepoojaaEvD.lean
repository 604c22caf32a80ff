/- An evaluator: what it comes to, the model comes to. -/
import Derived.Test.YtikcninaepoojaaEvC
namespace Go.Proofs.Ytikcninaepoojaa.Ev
open Go.RowKit (Below)
set_option linter.unusedVariables false
set_option linter.unusedSimpArgs false
set_option linter.unusedSectionVars false

/-! ### equal values -/
def vbeq : Value → Value → Bool
  | .bool a, .bool b => a == b
  | .int k a, .int k' b => decide (k = k') && decide (a = b)
  | .string a, .string b => beqS a b
  | .pointer none, .pointer none => true
  | .slice none a b, .slice none c d => Nat.beq a c && Nat.beq b d
  | .map none, .map none => true
  | .nilFunc, .nilFunc => true
  | .nilIface, .nilIface => true
  | _, _ => false

theorem bytes_eq {a b : ByteArray} (h : beqS a b = true) : a = b := by
  unfold beqS at h
  have h := eq_of_beq h
  cases a; cases b
  simp only at h
  congr 1
  exact Array.ext' h

theorem vbeq_eq {a b : Value} (h : vbeq a b = true) : a = b := by
  unfold vbeq at h
  split at h <;> simp_all
  · exact bytes_eq h

mutual
def AV.beq : AV → AV → Bool
  | .lit a, .lit b => vbeq a b
  | .ptr a b, .ptr c d => Nat.beq a c && Nat.beq b d
  | .sl a b c d e, .sl a' b' c' d' e' => Nat.beq a a' && (Nat.beq b b' && (Nat.beq c c' && (Nat.beq d d' && decide (e = e'))))
  | .imm s xs, .imm t ys => Nat.beq s t && AV.beqLL xs ys
  | .emp, .emp => true
  | .se a b c, .se d e f => Nat.beq a d && (Nat.beq b e && Nat.beq c f)
  | .ip xs, .ip ys => AV.beqL xs ys
  | .agg xs, .agg ys => AV.beqL xs ys
  | .tup xs, .tup ys => AV.beqL xs ys
  | .fn f xs, .fn g ys => Nat.beq f g && AV.beqL xs ys
  | .mp a, .mp b => Nat.beq a b
  | .yl a, .yl b => Nat.beq a b
  | .sy k e, .sy k' e' => decide (k = k') && IExp.beq e e'
  | .sb e, .sb e' => BExp.beq e e'
  | .ss i, .ss j => Nat.beq i j
  | _, _ => false
def AV.beqL : List AV → List AV → Bool
  | [], [] => true
  | x :: xs, y :: ys => AV.beq x y && AV.beqL xs ys
  | _, _ => false
def AV.beqLL : List (List AV) → List (List AV) → Bool
  | [], [] => true
  | x :: xs, y :: ys => AV.beqL x y && AV.beqLL xs ys
  | _, _ => false
end

theorem nbeq {a b : Nat} (h : Nat.beq a b = true) : a = b := Nat.eq_of_beq_eq_true h

mutual
theorem AV.beq_eq : ∀ {x y : AV}, AV.beq x y = true → x = y := by
  intro x y h
  cases x <;> cases y <;> simp only [AV.beq, Bool.and_eq_true, decide_eq_true_eq, Bool.false_eq_true] at h
  · rw [vbeq_eq h]
  · rw [nbeq h.1, nbeq h.2]
  · obtain ⟨h1, h2, h3, h4, h5⟩ := h; rw [nbeq h1, nbeq h2, nbeq h3, nbeq h4, h5]
  · rw [nbeq h.1, AV.beqLL_eq h.2]
  · rfl
  · rw [nbeq h.1, nbeq h.2.1, nbeq h.2.2]
  · rw [AV.beqL_eq h]
  · rw [AV.beqL_eq h]
  · rw [AV.beqL_eq h]
  · rw [nbeq h.1, AV.beqL_eq h.2]
  · rw [nbeq h]
  · rw [nbeq h]
  · rw [h.1, IExp.beq_eq h.2]
  · rw [BExp.beq_eq h]
  · rw [nbeq h]
theorem AV.beqL_eq : ∀ {x y : List AV}, AV.beqL x y = true → x = y := by
  intro x y h
  cases x <;> cases y <;> simp only [AV.beqL, Bool.and_eq_true, Bool.false_eq_true] at h
  · rfl
  · rw [AV.beq_eq h.1, AV.beqL_eq h.2]
theorem AV.beqLL_eq : ∀ {x y : List (List AV)}, AV.beqLL x y = true → x = y := by
  intro x y h
  cases x <;> cases y <;> simp only [AV.beqLL, Bool.and_eq_true, Bool.false_eq_true] at h
  · rfl
  · rw [AV.beqL_eq h.1, AV.beqLL_eq h.2]
end

/-! ### the evaluator -/
def obeq : Option Tmp → Option Tmp → Bool
  | some a, some b => Nat.beq a b
  | _, _ => false

def statOk (ops : Array Oper) : Bool :=
  let l := ops.toList.zipIdx
  let ms := masksL ops.toList []
  edgesOk ops &&
  (l.all fun p => l.all fun q => !(obeq p.1.dst q.1.dst) || Nat.beq p.2 q.2) &&
  (l.all fun p => (p.1.looksAt ops).all fun t => l.all fun q => !(obeq q.1.dst (some t)) || (Nat.beq q.2 p.2 || ((ms.getD p.2 0).testBit q.2 || (ms.getD q.2 0).testBit p.2)))

section
variable {P : Program} (C : Ctx P)
variable (call : Nat → List AV → Hp → Option (AV × Hp))

def ev1 (T : List AV) (H : Hp) (o : Oper) : Option (AV × Hp) :=
  match o.op with
  | .call ⟨.value f, args, _⟩ => match evO T f with
    | .fn g caps => call g (args.toList.map (evO T) ++ caps) H
    | _ => none
  | _ => evOp C.ti C.keys C.as T H o

def seqF (ops : Array Oper) : List Oper → List AV → Hp → Option (List AV × Hp)
  | [], T, H => some (T, H)
  | o :: r, T, H => match wantA C.as ops T o with
    | some true => match ev1 C call T H o with
      | some (x, H1) => seqF ops r (putA T o.dst x) H1
      | none => none
    | some false => seqF ops r (putA T o.dst (.lit undef)) H
    | none => none

def pass1 (ops : Array Oper) : List Oper → Nat → List AV → Hp → Option (List AV × List Hp × List Nat × List AV × Hp)
  | [], i, T, H => some ([], [], [], T, H)
  | o :: r, i, T, H => match wantA C.as ops T o with
    | some true => match quietOp o.op with
      | true => match evOp C.ti C.keys C.as T H o with
        | some (x, _) => match pass1 ops r (i + 1) (putA T o.dst x) H with
          | some (xs, hs, ls, T', H') => some (x :: xs, hs, ls, T', H')
          | none => none
        | none => none
      | false => match ev1 C call T H o with
        | some (x, H1) => match pass1 ops r (i + 1) (putA T o.dst x) H1 with
          | some (xs, hs, ls, T', H') => some (x :: xs, H1 :: hs, i :: ls, T', H')
          | none => none
        | none => none
    | some false => match pass1 ops r (i + 1) (putA T o.dst (.lit undef)) H with
      | some (xs, hs, ls, T', H') => some (.lit undef :: xs, hs, ls, T', H')
      | none => none
    | none => none

def lowOf (pre : Nat → Nat → Bool) (i : Nat) (ls : List Nat) : Nat := (ls.takeWhile (pre i)).length
def highOf (pre : Nat → Nat → Bool) (i : Nat) (ls : List Nat) : Nat := ls.length - (ls.reverse.takeWhile (fun l => pre l i)).length

def atHeaps (hs : List Hp) (T : List AV) (o : Oper) (x : AV) : Nat → Nat → Bool
  | _, 0 => true
  | k, n + 1 => (match hs[k]? with
    | some H => (match evOp C.ti C.keys C.as T H o with
      | some (y, _) => AV.beq y x
      | none => false)
    | none => false) && atHeaps hs T o x (k + 1) n

def pass2 (ops : Array Oper) (pre : Nat → Nat → Bool) (hs : List Hp) (ls : List Nat) : List Oper → List AV → Nat → List AV → Bool
  | o :: r, x :: xs, i, T =>
    (match wantA C.as ops T o with
     | some true => match quietOp o.op with
       | true => atHeaps C hs T o x (lowOf pre i ls) (highOf pre i ls + 1 - lowOf pre i ls)
       | false => true
     | _ => true) && pass2 ops pre hs ls r xs (i + 1) (putA T o.dst x)
  | [], [], _, _ => true
  | _, _, _, _ => false

def ordOk (pre : Nat → Nat → Bool) : List Nat → Bool
  | [] => true
  | [_] => true
  | a :: b :: r => pre b a && ordOk pre (b :: r)

def drawF (ops : Array Oper) (T : List AV) (H : Hp) : Option (List AV × Hp) :=
  match statOk ops with
  | false => none
  | true => match pass1 C call ops ops.toList 0 T H with
    | none => none
    | some (xs, hs, ls, T', H') => match ls with
      | [] => some (T', H')
      | _ => let ms := masksL ops.toList []
             let pre := fun i j => (ms.getD i 0).testBit j
             bif ordOk pre ls && pass2 C ops pre (H :: hs) ls ops.toList xs 0 T then some (T', H') else none

def loopF (body : List AV → Hp → Option (Exit × List AV × Hp)) : Nat → List AV → Hp → Option (Exit × List AV × Hp)
  | 0, _, _ => none
  | n + 1, T, H => match body T H with
    | some (.normal, T1, H1) => loopF body n T1 H1
    | r => r

def evC (L : Nat) : Code → List AV → Hp → Option (Exit × List AV × Hp)
  | .skip, T, H => some (.normal, T, H)
  | .exit id, T, H => some (.exit id, T, H)
  | .ret, T, H => some (.ret, T, H)
  | .region _ ops d, T, H => match d with
    | false => (seqF C call ops ops.toList T H).map fun p => (.normal, p.1, p.2)
    | true => (drawF C call ops T H).map fun p => (.normal, p.1, p.2)
  | .seq a b, T, H => match evC L a T H with
    | some (.normal, T1, H1) => evC L b T1 H1
    | r => r
  | .cond c a b, T, H => match evO T c with
    | .lit (.bool t) => match t with
      | true => evC L a T H
      | false => evC L b T H
    | .sb e => match look C.as e with
      | some true => evC L a T H
      | some false => evC L b T H
      | none => none
    | _ => none
  | .block id c, T, H => match evC L c T H with
    | some (e, T1, H1) => some (unblock id e, T1, H1)
    | none => none
  | .loop c, T, H => loopF (evC L c) L T H
  | _, _, _ => none
end

/-- A function's body. -/
def evBody {P : Program} (C : Ctx P) (call : Nat → List AV → Hp → Option (AV × Hp)) (L : Nat) (fn : Func) (xs : List AV) (H : Hp) : Option (AV × Hp) :=
  match fn.body with
  | some c => match evC C call L c (xs ++ List.replicate (fn.ntmps - xs.length) (.lit undef)) H with
    | some (e, T', H') => match e with
      | .normal => (resultA C.ti T' H' fn.results.toList).map fun r => (r, H')
      | .ret => (resultA C.ti T' H' fn.results.toList).map fun r => (r, H')
      | _ => none
    | none => none
  | none => none

/-- Calls, d deep; loops of at most L rounds. -/
def evF {P : Program} (C : Ctx P) (funs : Nat → Option Func) (ov : Nat → List AV → Hp → Option (AV × Hp)) (L : Nat) : Nat → Nat → List AV → Hp → Option (AV × Hp)
  | 0, _, _, _ => none
  | d + 1, f, xs, H => match ov f xs H with
    | some p => some p
    | none => match funs f with
      | some fn => evBody C (evF C funs ov L d) L fn xs H
      | none => none

section
variable {P : Program} (C : Ctx P)
variable {call : Nat → List AV → Hp → Option (AV × Hp)} (hcall : ∀ g xs H r H', call g xs H = some (r, H') → Good P C.σ g xs H r H')

include hcall in
theorem ev1_ok {T : List AV} {H : Hp} {o : Oper} {x : AV} {H' : Hp} (h : ev1 C call T H o = some (x, H')) : Op1 C T H o x H' := by
  unfold ev1 at h
  split at h
  · rename_i f args ts hop
    split at h
    · rename_i g caps hf
      exact .call hop hf (hcall _ _ _ _ _ h)
    · cases h
  · exact .op h

include hcall in
theorem seqF_ok {ops : Array Oper} : ∀ (l : List Oper) (i : Nat) {T T' : List AV} {H H' : Hp}, ops.toList.drop i = l → seqF C call ops l T H = some (T', H') → Seqs C ops (List.range' i l.length) T H T' H'
  | [], i, T, T', H, H', hl, h => by
    simp only [seqF, Option.some.injEq, Prod.mk.injEq] at h
    obtain ⟨rfl, rfl⟩ := h
    exact .nil
  | o :: r, i, T, T', H, H', hl, h => by
    have ho : ops[i]? = some o := by
      have : (ops.toList.drop i)[0]? = some o := by rw [hl]; rfl
      rw [List.getElem?_drop] at this
      simpa using this
    have hr : ops.toList.drop (i + 1) = r := by
      rw [← List.drop_drop, hl]; rfl
    simp only [seqF] at h
    split at h
    · rename_i hw
      split at h
      · rename_i x H1 h1
        exact .step ho hw (ev1_ok C hcall h1) (seqF_ok r (i + 1) hr h)
      · cases h
    · rename_i hw
      exact .skip ho hw (seqF_ok r (i + 1) hr h)
    · cases h

theorem obeq_eq {a b : Option Tmp} (h : obeq a b = false) {d : Tmp} (ha : a = some d) (hb : b = some d) : False := by
  subst ha hb
  simp [obeq] at h

theorem statOk_ok {ops : Array Oper} (h : statOk ops = true) : Stat ops := by
  unfold statOk at h
  simp only [Bool.and_eq_true] at h
  obtain ⟨⟨h1, h2⟩, h3⟩ := h
  have mem : ∀ {i : Nat} {o : Oper}, ops[i]? = some o → (o, i) ∈ ops.toList.zipIdx := fun {i o} ho => by
    rw [List.mem_zipIdx_iff_getElem?]
    simpa using ho
  have dat : ∀ {i d}, dstAt ops i = some d → ∃ o, ops[i]? = some o ∧ o.dst = some d := fun {i d} hd => by
    unfold dstAt at hd
    cases ho : ops[i]? with
    | none => simp [ho] at hd
    | some o => exact ⟨o, rfl, by simpa [ho] using hd⟩
  refine ⟨h1, ?_, ?_⟩
  · intro i j d hi hj
    obtain ⟨oi, a1, a2⟩ := dat hi
    obtain ⟨oj, b1, b2⟩ := dat hj
    have := List.all_eq_true.1 (List.all_eq_true.1 h2 _ (mem a1)) _ (mem b1)
    simp only [Bool.or_eq_true, Bool.not_eq_true'] at this
    rcases this with h | h
    · exact (obeq_eq h a2 b2).elim
    · exact nbeq h
  · intro i o ho t ht j hj
    obtain ⟨oj, b1, b2⟩ := dat hj
    have := List.all_eq_true.1 (List.all_eq_true.1 (List.all_eq_true.1 h3 _ (mem ho)) _ ht) _ (mem b1)
    simp only [Bool.or_eq_true, Bool.not_eq_true'] at this
    rcases this with h | h | h | h
    · exact (obeq_eq h b2 rfl).elim
    · exact .inl (nbeq h)
    · exact .inr (.inl h)
    · exact .inr (.inr h)

theorem ordOk_ok {pre : Nat → Nat → Bool} : ∀ (ls : List Nat), ordOk pre ls = true → ∀ m l l', ls[m]? = some l → ls[m + 1]? = some l' → pre l' l = true
  | [], _, m, l, l', h, _ => by simp at h
  | [_], _, m, l, l', _, h => by simp at h
  | a :: b :: r, h, 0, l, l', h1, h2 => by
    simp only [ordOk, Bool.and_eq_true] at h
    simp at h1 h2
    subst h1 h2
    exact h.1
  | a :: b :: r, h, m + 1, l, l', h1, h2 => by
    simp only [ordOk, Bool.and_eq_true] at h
    exact ordOk_ok (b :: r) h.2 m l l' (by simpa using h1) (by simpa using h2)

theorem takeWhile_get {p : Nat → Bool} : ∀ (ls : List Nat) (m l : Nat), ls[m]? = some l → m < (ls.takeWhile p).length → p l = true
  | [], m, l, h, _ => by simp at h
  | a :: r, 0, l, h, hm => by
    simp at h; subst h
    rw [List.takeWhile_cons] at hm
    split at hm
    · assumption
    · simp at hm
  | a :: r, m + 1, l, h, hm => by
    rw [List.takeWhile_cons] at hm
    split at hm
    · exact takeWhile_get r m l (by simpa using h) (by simpa using hm)
    · simp at hm

theorem high_get {pre : Nat → Nat → Bool} {i : Nat} (ls : List Nat) {m l : Nat} (h : ls[m]? = some l) (hm : highOf pre i ls ≤ m) : pre l i = true := by
  have hlt := (List.getElem?_eq_some_iff.1 h).1
  have : ls.reverse[ls.length - 1 - m]? = some l := by
    rw [List.getElem?_reverse (by omega)]
    rw [show ls.length - 1 - (ls.length - 1 - m) = m by omega]
    exact h
  refine takeWhile_get (p := fun l => pre l i) ls.reverse _ l this ?_
  unfold highOf at hm
  have := (List.takeWhile_prefix (fun l => pre l i) (l := ls.reverse)).length_le
  simp at this
  omega

theorem atHeaps_ok {hs : List Hp} {T : List AV} {o : Oper} {x : AV} : ∀ (n k : Nat), atHeaps C hs T o x k n = true → ∀ j, k ≤ j → j < k + n → ∃ H M, hs[j]? = some H ∧ evOp C.ti C.keys C.as T H o = some (x, M)
  | 0, k, _, j, h1, h2 => by omega
  | n + 1, k, h, j, h1, h2 => by
    simp only [atHeaps, Bool.and_eq_true] at h
    by_cases hj : j = k
    · subst hj
      have h := h.1
      split at h
      · rename_i H hH
        split at h
        · rename_i y M hy
          have := AV.beq_eq h
          subst this
          exact ⟨H, M, hH, hy⟩
        · cases h
      · cases h
    · exact atHeaps_ok n (k + 1) h.2 j (by omega) (by omega)

theorem pass2_ok {ops : Array Oper} {pre : Nat → Nat → Bool} {hs : List Hp} {ls : List Nat} {X : Nat → AV} {T0 : List AV} : ∀ (l : List Oper) (xs : List AV) (i : Nat) (T : List AV), ops.toList.drop i = l →
    (∀ j x, xs[j]? = some x → X (i + j) = x) → T = TT ops X T0 i → pass2 C ops pre hs ls l xs i T = true → ∀ j o, i ≤ j → ops[j]? = some o → wantA C.as ops (TT ops X T0 j) o = some true → quietOp o.op = true →
      ∀ k, lowOf pre j ls ≤ k → k ≤ highOf pre j ls → ∃ H M, hs[k]? = some H ∧ evOp C.ti C.keys C.as (TT ops X T0 j) H o = some (X j, M)
  | [], xs, i, T, hl, hX, hT, h, j, o, hij, hoj, _, _ => by
    have hlt := (Array.getElem?_eq_some_iff.1 hoj).1
    have : ops.toList.length ≤ i := by
      have := congrArg List.length hl
      simp at this ⊢; omega
    simp at this
    omega
  | o' :: r, [], i, T, hl, hX, hT, h, _, _, _, _, _, _ => by simp [pass2] at h
  | o' :: r, x :: xs, i, T, hl, hX, hT, h, j, o, hij, hoj, hw, hq => by
    have ho : ops[i]? = some o' := by
      have : (ops.toList.drop i)[0]? = some o' := by rw [hl]; rfl
      rw [List.getElem?_drop] at this
      simpa using this
    have hr : ops.toList.drop (i + 1) = r := by rw [← List.drop_drop, hl]; rfl
    simp only [pass2, Bool.and_eq_true] at h
    have hx : X i = x := hX 0 x rfl
    by_cases hj : j = i
    · subst hj
      rw [ho] at hoj
      cases hoj
      intro k hk1 hk2
      have h := h.1
      rw [hT, hw, hq] at h
      obtain ⟨H, M, e1, e2⟩ := atHeaps_ok C _ _ h k hk1 (by omega)
      exact ⟨H, M, e1, by rw [hx]; exact e2⟩
    · refine pass2_ok r xs (i + 1) _ hr (fun j x hj => by rw [show i + 1 + j = i + (j + 1) by omega]; exact hX (j + 1) x (by simpa using hj)) ?_ h.2 j o (by omega) hoj hw hq
      rw [TT_succ, hx, hT]
      have : dstAt ops i = o'.dst := by simp [dstAt, ho]
      rw [this]

include hcall in
theorem pass1_ok {ops : Array Oper} {X : Nat → AV} {HS : Nat → Hp} {LS : List Nat} {T0 : List AV} : ∀ (l : List Oper) (i m : Nat) {T T' : List AV} {H H' : Hp} {xs : List AV} {hs : List Hp} {ls : List Nat}, ops.toList.drop i = l →
    pass1 C call ops l i T H = some (xs, hs, ls, T', H') → (∀ j x, xs[j]? = some x → X (i + j) = x) → HS m = H → (∀ j h, hs[j]? = some h → HS (m + 1 + j) = h) → LS.drop m = ls → (∀ q ∈ LS.take m, q < i) → m ≤ LS.length → T = TT ops X T0 i →
      xs.length = l.length ∧ hs.length = ls.length ∧ T' = TT ops X T0 ops.size ∧ H' = HS LS.length ∧ (∀ q ∈ ls, i ≤ q ∧ q < ops.size) ∧
      ∀ j o, i ≤ j → ops[j]? = some o →
        (wantA C.as ops (TT ops X T0 j) o = some false ∧ X j = .lit undef ∧ j ∉ LS) ∨
        (wantA C.as ops (TT ops X T0 j) o = some true ∧ j ∉ LS ∧ quietOp o.op = true ∧ ∃ k M, k ≤ LS.length ∧ evOp C.ti C.keys C.as (TT ops X T0 j) (HS k) o = some (X j, M)) ∨
        (wantA C.as ops (TT ops X T0 j) o = some true ∧ ∃ k, LS[k]? = some j ∧ Op1 C (TT ops X T0 j) (HS k) o (X j) (HS (k + 1)))
  | [], i, m, T, T', H, H', xs, hs, ls, hl, h, hX, hH, hHs, hL, hlt, hml, hT => by
    simp only [pass1, Option.some.injEq, Prod.mk.injEq] at h
    obtain ⟨rfl, rfl, rfl, rfl, rfl⟩ := h
    have hmm : m = LS.length := by
      have := congrArg List.length hL
      simp at this; omega
    have hi : ops.size ≤ i := by
      have := congrArg List.length hl
      simp at this; omega
    refine ⟨rfl, rfl, ?_, by rw [← hH, hmm], fun q hq => (by cases hq), fun j o hij hoj => ?_⟩
    · rw [hT]
      unfold TT
      -- slots beyond the operations' number write nothing
      have : ∀ d, TS ops X (fun _ => true) (List.range (ops.size + d)) T0 = TS ops X (fun _ => true) (List.range ops.size) T0 := by
        intro d
        induction d with
        | zero => rfl
        | succ d ih =>
          have := TT_succ ops X T0 (ops.size + d)
          unfold TT at this
          rw [show ops.size + (d + 1) = ops.size + d + 1 by omega, this, ih]
          have : dstAt ops (ops.size + d) = none := by
            unfold dstAt
            rw [Array.getElem?_eq_none (by omega)]
            rfl
          rw [this]
          rfl
      have e := this (i - ops.size)
      rw [show ops.size + (i - ops.size) = i by omega] at e
      exact e
    · have := (Array.getElem?_eq_some_iff.1 hoj).1
      omega
  | o :: r, i, m, T, T', H, H', xs, hs, ls, hl, h, hX, hH, hHs, hL, hlt, hml, hT => by
    have ho : ops[i]? = some o := by
      have : (ops.toList.drop i)[0]? = some o := by rw [hl]; rfl
      rw [List.getElem?_drop] at this
      simpa using this
    have hin := (Array.getElem?_eq_some_iff.1 ho).1
    have hr : ops.toList.drop (i + 1) = r := by rw [← List.drop_drop, hl]; rfl
    have hdst : dstAt ops i = o.dst := by simp [dstAt, ho]
    simp only [pass1] at h
    split at h
    · rename_i hw
      split at h
      · rename_i hq
        split at h
        · rename_i x M hx
          split at h
          · rename_i xs' hs' ls' T2 H2 hrec
            simp only [Option.some.injEq, Prod.mk.injEq] at h
            obtain ⟨rfl, rfl, rfl, rfl, rfl⟩ := h
            have hXi : X i = x := hX 0 x rfl
            obtain ⟨q1, q2, q3, q4, q5, q6⟩ := pass1_ok r (i + 1) m hr hrec (fun j x hj => by rw [show i + 1 + j = i + (j + 1) by omega]; exact hX (j + 1) x (by simpa using hj)) hH hHs hL (fun q hq => Nat.lt_succ_of_lt (hlt q hq)) hml (by rw [TT_succ, hXi, hT, hdst])
            refine ⟨by simp [q1], q2, q3, q4, fun q hq => ⟨by have := (q5 q hq).1; omega, (q5 q hq).2⟩, fun j o' hij hoj => ?_⟩
            by_cases hj : j = i
            · subst hj
              rw [ho] at hoj
              cases hoj
              have hni : j ∉ LS := by
                intro hmem
                rw [← List.take_append_drop m LS, List.mem_append] at hmem
                rcases hmem with hm | hm
                · have := hlt j hm; omega
                · rw [hL] at hm; have := (q5 j hm).1; omega
              exact .inr (.inl ⟨by rw [← hT]; exact hw, hni, hq, m, M, hml, by rw [← hT, hH, hXi]; exact hx⟩)
            · exact q6 j o' (by omega) hoj
          · cases h
        · cases h
      · rename_i hq
        split at h
        · rename_i x H1 hx
          split at h
          · rename_i xs' hs' ls' T2 H2 hrec
            simp only [Option.some.injEq, Prod.mk.injEq] at h
            obtain ⟨rfl, rfl, rfl, rfl, rfl⟩ := h
            have hXi : X i = x := hX 0 x rfl
            have hm1 : m < LS.length := by
              have := congrArg List.length hL
              simp at this; omega
            have hLm : LS[m]? = some i := by
              have : (LS.drop m)[0]? = some i := by rw [hL]; rfl
              rw [List.getElem?_drop] at this
              simpa using this
            have hH1 : HS (m + 1) = H1 := hHs 0 H1 rfl
            obtain ⟨q1, q2, q3, q4, q5, q6⟩ := pass1_ok r (i + 1) (m + 1) hr hrec (fun j x hj => by rw [show i + 1 + j = i + (j + 1) by omega]; exact hX (j + 1) x (by simpa using hj)) hH1
              (fun j h hj => by rw [show m + 1 + 1 + j = m + 1 + (j + 1) by omega]; exact hHs (j + 1) h (by simpa using hj)) (by rw [← List.drop_drop, hL]; rfl)
              (fun q hq => by
                rw [List.take_add_one, hLm] at hq
                simp at hq
                rcases hq with hq | hq
                · exact Nat.lt_succ_of_lt (hlt q hq)
                · omega) (by omega) (by rw [TT_succ, hXi, hT, hdst])
            refine ⟨by simp [q1], by simp [q2], q3, q4, fun q hq => ?_, fun j o' hij hoj => ?_⟩
            · rcases List.mem_cons.1 hq with rfl | hq
              · exact ⟨Nat.le_refl _, hin⟩
              · exact ⟨by have := (q5 q hq).1; omega, (q5 q hq).2⟩
            · by_cases hj : j = i
              · subst hj
                rw [ho] at hoj
                cases hoj
                refine .inr (.inr ⟨by rw [← hT]; exact hw, m, hLm, ?_⟩)
                rw [← hT, hH, hH1, hXi]
                exact ev1_ok C hcall hx
              · exact q6 j o' (by omega) hoj
          · cases h
        · cases h
    · rename_i hw
      split at h
      · rename_i xs' hs' ls' T2 H2 hrec
        simp only [Option.some.injEq, Prod.mk.injEq] at h
        obtain ⟨rfl, rfl, rfl, rfl, rfl⟩ := h
        have hXi : X i = .lit undef := hX 0 _ rfl
        obtain ⟨q1, q2, q3, q4, q5, q6⟩ := pass1_ok r (i + 1) m hr hrec (fun j x hj => by rw [show i + 1 + j = i + (j + 1) by omega]; exact hX (j + 1) x (by simpa using hj)) hH hHs hL (fun q hq => Nat.lt_succ_of_lt (hlt q hq)) hml (by rw [TT_succ, hXi, hT, hdst])
        refine ⟨by simp [q1], q2, q3, q4, fun q hq => ⟨by have := (q5 q hq).1; omega, (q5 q hq).2⟩, fun j o' hij hoj => ?_⟩
        by_cases hj : j = i
        · subst hj
          rw [ho] at hoj
          cases hoj
          have hni : j ∉ LS := by
            intro hmem
            rw [← List.take_append_drop m LS, List.mem_append] at hmem
            rcases hmem with hm | hm
            · have := hlt j hm; omega
            · rw [hL] at hm; have := (q5 j hm).1; omega
          exact .inl ⟨by rw [← hT]; exact hw, hXi, hni⟩
        · exact q6 j o' (by omega) hoj
      · cases h
    · cases h

include hcall in
theorem drawF_ok (hm : P.follows .mixedOrders = true) {ops : Array Oper} {T T' : List AV} {H H' : Hp} (h : drawF C call ops T H = some (T', H')) : DrawOk (P := P) C.σ ops T H T' H' := by
  unfold drawF at h
  split at h
  · cases h
  rename_i hs0
  have hst := statOk_ok hs0
  split at h
  · cases h
  rename_i xs hs ls T1 H1 hp
  let X : Nat → AV := fun j => xs.getD j (.lit undef)
  let HS : Nat → Hp := fun k => (H :: hs).getD k H
  obtain ⟨q1, q2, q3, q4, q5, q6⟩ := pass1_ok C hcall (ops := ops) (X := X) (HS := HS) (LS := ls) (T0 := T) ops.toList 0 0 (by simp) hp
    (fun j x hj => by simp [X, hj]) rfl (fun j h hj => by
      show (H :: hs).getD (0 + 1 + j) H = h
      rw [show 0 + 1 + j = j + 1 by omega]
      simp [hj]) (by simp) (by simp) (Nat.zero_le _) rfl
  have fin : (∀ j o, ops[j]? = some o → wantA C.as ops (TT ops X T j) o = some true → quietOp o.op = true → j ∉ ls →
      ∃ lo hi, lo ≤ ls.length ∧ (∀ k, lo ≤ k → k ≤ hi → ∃ M, evOp C.ti C.keys C.as (TT ops X T j) (HS k) o = some (X j, M)) ∧ ∀ m l, ls[m]? = some l → (m < lo → preOf ops j l = true) ∧ (hi ≤ m → preOf ops l j = true)) →
      (∀ m l l', ls[m]? = some l → ls[m + 1]? = some l' → preOf ops l' l = true) → T1 = T' → H1 = H' → DrawOk (P := P) C.σ ops T H T' H' := by
    intro hq hord e1 e2
    rw [← e1, ← e2, q3, q4]
    refine draw_ok C hm hst ⟨rfl, fun i o ho => ?_, hord, fun l hl => (q5 l hl).2⟩
    rcases q6 i o (Nat.zero_le _) ho with h | ⟨h1, h2, h3, _⟩ | h
    · exact .inl h
    · exact .inr (.inl ⟨h1, h2, h3, hq i o ho h1 h3 h2⟩)
    · exact .inr (.inr h)
  split at h
  · simp only [Option.some.injEq, Prod.mk.injEq] at h
    refine fin (fun j o ho hw hqt hni => ?_) (fun m l l' hl => by simp at hl) h.1 h.2
    rcases q6 j o (Nat.zero_le _) ho with ⟨h1, _⟩ | ⟨_, _, _, k, M, hk, hev⟩ | ⟨_, k, hk, _⟩
    · rw [hw] at h1; cases h1
    · simp at hk
      subst hk
      exact ⟨0, 0, Nat.zero_le _, fun k h1 h2 => by
        have : k = 0 := by omega
        subst this
        exact ⟨M, hev⟩, fun m l hl => by simp at hl⟩
    · simp at hk
  · simp only at h
    cases hb : (ordOk (fun i j => ((masksL ops.toList []).getD i 0).testBit j) ls && pass2 C ops (fun i j => ((masksL ops.toList []).getD i 0).testBit j) (H :: hs) ls ops.toList xs 0 T) with
    | false => simp only [hb, cond_false] at h; cases h
    | true =>
      simp only [hb, cond_true, Option.some.injEq, Prod.mk.injEq] at h
      simp only [Bool.and_eq_true] at hb
      refine fin (fun j o ho hw hqt hni => ?_) (ordOk_ok ls hb.1) h.1 h.2
      have := pass2_ok C (X := X) (T0 := T) ops.toList xs 0 T (by simp) (fun j x hj => by simp [X, hj]) rfl hb.2 j o (Nat.zero_le _) ho hw hqt
      refine ⟨lowOf (preOf ops) j ls, highOf (preOf ops) j ls, (List.takeWhile_prefix _).length_le, fun k h1 h2 => ?_, fun m l hl => ⟨fun hm => takeWhile_get ls m l hl hm, fun hm => high_get ls hl hm⟩⟩
      obtain ⟨H2, M, e1, e2⟩ := this k h1 h2
      refine ⟨M, ?_⟩
      have : HS k = H2 := by
        show (H :: hs).getD k H = H2
        rw [List.getD_eq_getElem?_getD, e1]
        rfl
      rw [this]
      exact e2

include hcall in
theorem evC_ok (hm : P.follows .mixedOrders = true) (L : Nat) : ∀ (c : Code) {T T' : List AV} {H H' : Hp} {e : Exit}, evC C call L c T H = some (e, T', H') → Ex C c T H e T' H' := by
  have hloop : ∀ (c : Code), (∀ {T T' : List AV} {H H' : Hp} {e : Exit}, evC C call L c T H = some (e, T', H') → Ex C c T H e T' H') →
      ∀ (n : Nat) {T T' : List AV} {H H' : Hp} {e : Exit}, loopF (evC C call L c) n T H = some (e, T', H') → Ex C (.loop c) T H e T' H' := by
    intro c ih n
    induction n with
    | zero => intro T T' H H' e h; simp [loopF] at h
    | succ n ihn =>
      intro T T' H H' e h
      simp only [loopF] at h
      split at h
      · rename_i T1 H1 h1
        exact .loop (ih h1) (ihn h)
      · rename_i hne
        refine .loopX (ih h) (fun he => ?_)
        subst he
        exact hne _ _ h
  intro c
  induction c with
  | skip => intro T T' H H' e h; simp only [evC, Option.some.injEq, Prod.mk.injEq] at h; obtain ⟨rfl, rfl, rfl⟩ := h; exact .skip
  | exit id => intro T T' H H' e h; simp only [evC, Option.some.injEq, Prod.mk.injEq] at h; obtain ⟨rfl, rfl, rfl⟩ := h; exact .exit
  | ret => intro T T' H H' e h; simp only [evC, Option.some.injEq, Prod.mk.injEq] at h; obtain ⟨rfl, rfl, rfl⟩ := h; exact .ret
  | region id ops d =>
    intro T T' H H' e h
    cases d with
    | false =>
      simp only [evC, Option.map_eq_some_iff, Prod.mk.injEq] at h
      obtain ⟨⟨T1, H1⟩, h1, rfl, rfl, rfl⟩ := h
      have := seqF_ok C hcall (ops := ops) ops.toList 0 (by simp) h1
      refine .region ?_
      rw [List.range_eq_range']
      simpa using this
    | true =>
      simp only [evC, Option.map_eq_some_iff, Prod.mk.injEq] at h
      obtain ⟨⟨T1, H1⟩, h1, rfl, rfl, rfl⟩ := h
      exact .draw (drawF_ok C hcall hm h1)
  | seq a b iha ihb =>
    intro T T' H H' e h
    simp only [evC] at h
    split at h
    · rename_i T1 H1 h1
      exact .seq (iha h1) (ihb h)
    · rename_i hne
      refine .seqX (iha h) (fun he => ?_)
      subst he
      exact hne _ _ h
  | cond c a b iha ihb =>
    intro T T' H H' e h
    simp only [evC] at h
    split at h
    · rename_i t ht
      cases t with
      | true => exact .cond ht (iha h)
      | false => exact .cond ht (ihb h)
    · rename_i b ht
      split at h
      · rename_i hl; exact .condS ht hl (iha h)
      · rename_i hl; exact .condS ht hl (ihb h)
      · cases h
    · cases h
  | block id c ih =>
    intro T T' H H' e h
    simp only [evC] at h
    split at h
    · rename_i e1 T1 H1 h1
      simp only [Option.some.injEq, Prod.mk.injEq] at h
      obtain ⟨rfl, rfl, rfl⟩ := h
      exact .block (ih h1)
    · cases h
  | loop c ih =>
    intro T T' H H' e h
    exact hloop c ih L h
  | _ => intro T T' H H' e h; simp [evC] at h

include hcall in
theorem evBody_ok (hm : P.follows .mixedOrders = true) {L : Nat} {f : Nat} {fn : Func} {xs : List AV} {H H' : Hp} {r : AV} (hf : P.funcs[f]? = some fn) (hn : (fn.name == "runtime.NumGoroutine") = false)
    (h : evBody C call L fn xs H = some (r, H')) : Good P C.σ f xs H r H' := by
  unfold evBody at h
  split at h
  · rename_i c hc
    split at h
    · rename_i e T1 H1 he
      split at h
      · simp only [Option.map_eq_some_iff, Prod.mk.injEq] at h
        obtain ⟨z, hz, rfl, rfl⟩ := h
        exact good_of_body C hf hc hn (evC_ok C hcall hm L c he) (.inl rfl) hz
      · simp only [Option.map_eq_some_iff, Prod.mk.injEq] at h
        obtain ⟨z, hz, rfl, rfl⟩ := h
        exact good_of_body C hf hc hn (evC_ok C hcall hm L c he) (.inr rfl) hz
      · cases h
    · cases h
  · cases h
end

theorem evF_ok {P : Program} (C : Ctx P) (hm : P.follows .mixedOrders = true) {funs : Nat → Option Func} {ov : Nat → List AV → Hp → Option (AV × Hp)} (hov : ∀ f xs H r H', ov f xs H = some (r, H') → Good P C.σ f xs H r H') (hfuns : ∀ f fn, funs f = some fn → P.funcs[f]? = some fn ∧ (fn.name == "runtime.NumGoroutine") = false) (L : Nat) :
    ∀ (d : Nat) (f : Nat) (xs : List AV) (H : Hp) (r : AV) (H' : Hp), evF C funs ov L d f xs H = some (r, H') → Good P C.σ f xs H r H'
  | 0, _, _, _, _, _, h => by simp [evF] at h
  | d + 1, f, xs, H, r, H', h => by
    simp only [evF] at h
    split at h
    · rename_i p hp
      cases h
      exact hov _ _ _ _ _ hp
    · split at h
      · rename_i fn hfn
        obtain ⟨h1, h2⟩ := hfuns f fn hfn
        exact evBody_ok C (evF_ok C hm hov hfuns L d) hm h1 h2 h
      · cases h

/-- Nothing is told otherwise. -/
def noOv : Nat → List AV → Hp → Option (AV × Hp) := fun _ _ _ => none
theorem noOv_ok {P : Program} {σ : Sig} : ∀ f xs H r H', noOv f xs H = some (r, H') → Good P σ f xs H r H' := fun _ _ _ _ _ h => by cases h
end Go.Proofs.Ytikcninaepoojaa.Ev

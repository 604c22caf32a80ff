/- Calls, regions, code: a big-step relation, and that the model's code does what it says. -/
import Derived.Test.YtikcninaepoojaaEv8
import Derived.OrdersIn
import Derived.RangeFuncRecord
namespace Go.Proofs.Ytikcninaepoojaa.Ev
open Go.RowKit (Below)
set_option linter.unusedVariables false
set_option linter.unusedSimpArgs false
set_option linter.unusedSectionVars false

def Callable (P : Program) (f : Nat) : Prop := ∃ fn, P.funcs[f]? = some fn ∧ (fn.name == "runtime.NumGoroutine") = false ∧ fn.body.isNone = false

/-- THE CONTRACT OF A CALL: with these arguments, over this heap, it returns r and leaves that heap. -/
def Good (P : Program) (σ : Sig) (f : Nat) (xs : List AV) (H : Hp) (r : AV) (H' : Hp) : Prop :=
  Callable P f ∧ ∀ B w0 E w vs, w0.σ = σ → St B w0 E H w → RelL E xs vs → Calls P f vs w fun e w' => ∃ E' v, e = .returned v ∧ E.Ext E' ∧ St B w0 E' H' w' ∧ Rel E' r v

/-- Any function, any depth; in a round of a loop over a function, or in none. -/
def FW (r : Option Nat) : Fence := { Fence.wide with round := r }
theorem FW_none : FW none = Fence.wide := rfl
theorem FW_some (l : Nat) : FW (some l) = Fence.wide.inRound l := rfl
theorem FW_fn (r : Option Nat) (f : FuncId) : (FW r).fn f := trivial
theorem FW_room (r : Option Nat) (n : Nat) : (FW r).room n := room_wide n

/-- THE CONTRACT OF A ROUND: what the loop's body does with what it is handed, and what it hands back. -/
def GoodY (P : Program) (σ : Sig) (id : Nat) (xs : List AV) (H : Hp) (r : AV) (H' : Hp) : Prop :=
  ∀ B w0 E w vs b o n, w0.σ = σ → St B w0 E H w → E.ρ id = some (b, o, n) → RelL E xs vs →
    ∃ fn tmps assign body, (Instr.yield b vs).run P w = .ok (.round b fn tmps assign body) w ∧ RoundIn Fence.wide 0 P b fn tmps assign body w fun e w' => ∃ E' v, e = .returned v ∧ E.Ext E' ∧ St B w0 E' H' w' ∧ Rel E' r v

/-- An operation, by what it does to what its operands stand for. -/
def SemOk (P : Program) (σ : Sig) (o : Op) (xs : List AV) (H : Hp) (x : AV) (H' : Hp) : Prop :=
  ∀ (oper : Oper), oper.op = o → ∀ B w0 E w (a : Act), w0.σ = σ → St B w0 E H w → (∀ (i : Nat) (y : AV) (u : Operand), xs[i]? = some y → o.operands[i]? = some u → Rel E y (a.eval u)) → Step P B w0 E (execOp a.eval oper) w x H'

def putA (T : List AV) (dst : Option Tmp) (x : AV) : List AV :=
  match dst with
  | some d => T.set d x
  | none => T

/-- Whether an operation is wanted, where that is known. -/
def wantA (as : List (BExp × Bool)) (ops : Array Oper) (T : List AV) (o : Oper) : Option Bool :=
  match o.guard with
  | none => some true
  | some (j, want) => match ((ops[j]?).bind (·.dst)).bind (T[·]?) with
    | some (.lit (.bool b)) => match want with
      | true => some b
      | false => some (!b)
    | some .any => none
    | some (.sb e) => match look as e with
      | some b => match want with
        | true => some b
        | false => some (!b)
      | none => none
    | _ => some false

section
variable {P : Program} (C : Ctx P)
variable {B : Nat} {w0 : Base} {E : Env} {H : Hp} {w : World}

theorem relL_put {T : List AV} {a : Act} (hT : RelL E T a.tmps) {x : AV} {v : Value} (hx : Rel E x v) (dst : Option Tmp) : RelL E (putA T dst x) (a.put dst v).tmps := by
  cases dst with
  | none => exact hT
  | some d =>
    refine ⟨by simp [putA, Act.put, hT.len], fun i y u hy hu => ?_⟩
    simp only [putA, List.getElem?_set] at hy
    simp only [Act.put, Array.getElem?_setIfInBounds] at hu
    have hl := hT.len
    by_cases hd : d = i
    · subst hd
      rw [if_pos rfl] at hy hu
      split at hy
      · rw [if_pos (by omega)] at hu
        cases hy; cases hu
        exact hx
      · cases hy
    · rw [if_neg hd] at hy hu
      exact hT.at_ i y u hy hu

theorem put_defers (a : Act) (dst : Option Tmp) (v : Value) : (a.put dst v).defers = a.defers := by cases dst <;> rfl

theorem wanted_eq {T : List AV} {tmps : Array Value} (hT : RelL E T tmps) {as : List (BExp × Bool)} (hk : Known E.σ as) {ops : Array Oper} {o : Oper} {r : Bool} (h : wantA as ops T o = some r) : Region.wanted o (yielded ops tmps) = r := by
  unfold wantA at h
  unfold Region.wanted
  cases hg : o.guard with
  | none => rw [hg] at h; cases h; rfl
  | some g =>
    obtain ⟨j, want⟩ := g
    rw [hg] at h
    simp only at h ⊢
    unfold yielded
    cases hd : (ops[j]?).bind (·.dst) with
    | none => rw [hd] at h; simp at h ⊢; exact h
    | some d =>
      rw [hd] at h
      simp only [Option.bind_some] at h ⊢
      have hl := hT.len
      cases hx : T[d]? with
      | none =>
        have : tmps[d]? = none := by
          rw [Array.getElem?_eq_none_iff]
          rw [List.getElem?_eq_none_iff] at hx
          omega
        rw [hx] at h
        simp [this] at h ⊢
        exact h
      | some x =>
        have hlt := (List.getElem?_eq_some_iff.1 hx).1
        have hv : tmps[d]? = some (tmps[d]'(by omega)) := Array.getElem?_eq_getElem _
        have hr := hT.at_ d x _ hx hv
        rw [hv]
        rw [hx] at h
        generalize tmps[d]'(by omega) = v at hr
        cases hr with
        | lit => cases v <;> simp only [Option.some.injEq] at h <;> first
          | (cases want <;> simp only [Option.some.injEq] at h <;> subst h <;> rename_i b <;> cases b <;> rfl)
          | (subst h; rfl)
        | any => simp at h
        | sb hb =>
          simp only at h
          split at h
          · rename_i b hl
            have hb2 := look_ok hk hl
            rw [hb] at hb2
            rw [hb2]
            have : ∀ b : Bool, ((match some (Value.bool b) with | some (.bool b) => some b | _ => none) == some want) = (match want with | true => b | false => !b) := by
              intro b; cases b <;> cases want <;> rfl
            rw [this]
            cases want <;> simp only [Option.some.injEq] at h <;> exact h
          · cases h
        | _ => simp only [Option.some.injEq] at h; subst h; rfl

theorem known (hσ : w0.σ = C.σ) (h : St B w0 E H w) : Known E.σ C.as := by
  rw [h.sig, hσ]; exact C.has

/-- One operation, calls of functions among them. -/
inductive Op1 (T : List AV) (H : Hp) (o : Oper) : AV → Hp → Prop where
  | op {x : AV} {H' : Hp} (h : evOp C.ti C.keys C.as T H o = some (x, H')) : Op1 T H o x H'
  | call {f : Operand} {args : Array Operand} {ts : Array TypeId} {g : Nat} {caps : List AV} {r : AV} {H' : Hp} (ho : o.op = .call ⟨.value f, args, ts⟩) (hf : evO T f = .fn g caps)
      (h : Good P C.σ g (args.toList.map (evO T) ++ caps) H r H') : Op1 T H o r H'
  | yield {f : Operand} {args : Array Operand} {ts : Array TypeId} {id : Nat} {r : AV} {H' : Hp} (ho : o.op = .call ⟨.value f, args, ts⟩) (hf : evO T f = .yl id)
      (h : GoodY P C.σ id (args.toList.map (evO T)) H r H') : Op1 T H o r H'
  | sem {x : AV} {H' : Hp} (hd : ∀ c, o.op ≠ .defer c) (h : SemOk P C.σ o.op (o.op.operands.toList.map (evO T)) H x H') : Op1 T H o x H'

theorem callFunc_run {g : Nat} (h : Callable P g) (vs : Array Value) (w : World) : (callFunc g vs).run P w = .ok (.enter g vs) w := by
  obtain ⟨fn, h1, h2, h3⟩ := h
  simp only [callFunc, Sem.run_bind, run_program, Result.andThen, h1, h2, h3, Bool.false_eq_true, if_false, Sem.run_pure]

theorem step_wp {r : Option Nat} {o : Oper} {a : Act} {x : AV} {H' : Hp} (hd : ∀ c, o.op ≠ .defer c) (h : Step P B w0 E (execOp a.eval o) w x H') {next : Act → World → Prop} {Q : Exit → Act → World → Prop}
    (hn : ∀ E' v w', E.Ext E' → St B w0 E' H' w' → Rel E' x v → next (a.put o.dst v) w') : o.wpIn (FW r) 0 P a w next Q := by
  obtain ⟨E', nx, w', h1, h2, h3, h4⟩ := h
  refine ⟨fun f _ => trivial, ?_⟩
  rw [Oper.semAt_eq _ _ _ hd, h1]
  rcases h4 with ⟨v, rfl, hr⟩ | ⟨rfl, rfl⟩
  · exact hn E' v w' h2 h3 hr
  · exact hn E' undef w' h2 h3 (.lit _)

theorem evOp_noDefer {T : List AV} {H : Hp} {o : Oper} {p : AV × Hp} {ti : Nat → Option TI} {keys : Nat → Option (List KK)} {as : List (BExp × Bool)} (h : evOp ti keys as T H o = some p) : ∀ c, o.op ≠ .defer c := by
  intro c hc
  obtain ⟨dst, op, type, pos, after, guard⟩ := o
  simp only at hc
  subst hc
  simp [evOp] at h

theorem Op1.wp (hσ : w0.σ = C.σ) {ro : Option Nat} {T : List AV} {a : Act} {o : Oper} {x : AV} {H' : Hp} (h : Op1 C T H o x H') (hst : St B w0 E H w) (hT : RelL E T a.tmps) {next : Act → World → Prop} {Q : Exit → Act → World → Prop}
    (hn : ∀ E' v w', E.Ext E' → St B w0 E' H' w' → Rel E' x v → next (a.put o.dst v) w') : o.wpIn (FW ro) 0 P a w next Q := by
  cases h with
  | op h => exact step_wp (evOp_noDefer h) (evOp_ok C hσ hst hT h) hn
  | sem hd h =>
    refine step_wp hd (h o rfl B w0 E w a hσ hst fun i y u hy hu => ?_) hn
    rw [List.getElem?_map] at hy
    have : o.op.operands.toList[i]? = some u := by rw [Array.getElem?_toList]; exact hu
    rw [this] at hy
    cases hy
    exact rel_evO hT u
  | call ho hf h =>
    rename_i f args ts g caps
    obtain ⟨hcall, hg⟩ := h
    have hfv := rel_evO hT f
    rw [hf] at hfv
    generalize hv : a.eval f = v at hfv
    cases hfv with
    | fn hl hr =>
      rename_i us
      have hargs := rel_evOs hT args
      have hall : RelL E (args.toList.map (evO T) ++ caps) (args.map a.eval ++ us) := by
        have e1 := hargs.len
        refine ⟨by simp [hl], fun i x v hx hv => ?_⟩
        by_cases hi : i < (args.toList.map (evO T)).length
        · rw [List.getElem?_append_left hi] at hx
          rw [Array.getElem?_append_left (by omega)] at hv
          exact hargs.at_ i x v hx hv
        · rw [List.getElem?_append_right (by omega)] at hx
          rw [Array.getElem?_append_right (by omega), e1] at hv
          exact hr _ x v hx hv
      have hc := hg B w0 E w _ hσ hst hall
      obtain ⟨dst, op, type, pos, after, guard⟩ := o
      simp only at ho
      subst ho
      refine ⟨fun f _ => trivial, ?_⟩
      rw [Oper.semAt_eq _ _ _ (by intro c hc; cases hc)]
      have hrun : (execOp a.eval ⟨dst, .call ⟨.value f, args, ts⟩, type, pos, after, guard⟩).run P w = .ok (.enter g (args.map a.eval ++ us)) w := by
        have := callFunc_run (P := P) hcall (args.map a.eval ++ us) w
        simp only [execOp, resolve, Sem.run_bind, hv, Deferred.ofValue, Sem.run_pure, Result.andThen, invoke]
        simpa using this
      rw [hrun]
      refine ⟨fun h => (by cases h), CallsIn.mono (callsIn_wide.2 hc) fun e w' hh => ?_⟩
      obtain ⟨E', v, rfl, h1, h2, h3⟩ := hh
      exact hn E' v w' h1 h2 h3
  | yield ho hf h =>
    rename_i f args ts id
    have hfv := rel_evO hT f
    rw [hf] at hfv
    generalize hv : a.eval f = v at hfv
    cases hfv with
    | yl hρ =>
      rename_i b o' n
      have hargs := rel_evOs hT args
      obtain ⟨fn, tmps, assign, body, hy, hr⟩ := h B w0 E w _ b o' n hσ hst hρ hargs
      obtain ⟨dst, op, type, pos, after, guard⟩ := o
      simp only at ho
      subst ho
      refine ⟨fun f _ => trivial, ?_⟩
      rw [Oper.semAt_eq _ _ _ (by intro c hc; cases hc)]
      have hrun : (execOp a.eval ⟨dst, .call ⟨.value f, args, ts⟩, type, pos, after, guard⟩).run P w = .ok (.round b fn tmps assign body) w := by
        simp only [execOp, resolve, Sem.run_bind, hv, Deferred.ofValue, Sem.run_pure, Result.andThen, invoke]
        simpa using hy
      rw [hrun]
      refine ⟨fun h => (by cases h), RoundIn.mono hr fun e w' hh => ?_⟩
      obtain ⟨E', v, rfl, h1, h2, h3⟩ := hh
      exact hn E' v w' h1 h2 h3

/-! ### regions in the order of the text -/
inductive Seqs (ops : Array Oper) : List Nat → List AV → Hp → List AV → Hp → Prop where
  | nil {T : List AV} {H : Hp} : Seqs ops [] T H T H
  | skip {i : Nat} {rest : List Nat} {o : Oper} {T T' : List AV} {H H' : Hp} (ho : ops[i]? = some o) (hw : wantA C.as ops T o = some false)
      (h : Seqs ops rest (putA T o.dst (.lit undef)) H T' H') : Seqs ops (i :: rest) T H T' H'
  | step {i : Nat} {rest : List Nat} {o : Oper} {T T' : List AV} {H H1 H' : Hp} {x : AV} (ho : ops[i]? = some o) (hw : wantA C.as ops T o = some true)
      (h1 : Op1 C T H o x H1) (h : Seqs ops rest (putA T o.dst x) H1 T' H') : Seqs ops (i :: rest) T H T' H'

theorem Seqs.wp (hσ : w0.σ = C.σ) {ro : Option Nat} {ops : Array Oper} {l : List Nat} {T T' : List AV} {H H' : Hp} (h : Seqs C ops l T H T' H') : ∀ {E : Env} {a : Act} {w : World}, St B w0 E H w → RelL E T a.tmps → ∀ {Q : Exit → Act → World → Prop},
    (∀ E' a' w', E.Ext E' → St B w0 E' H' w' → RelL E' T' a'.tmps → a'.defers = a.defers → Q .normal a' w') → wpOpsIn (FW ro) 0 P ops Q l a w := by
  induction h with
  | nil => intro E a w hst hT Q hQ; exact hQ E a w (.refl E) hst hT rfl
  | skip ho hw h ih =>
    intro E a w hst hT Q hQ
    rw [wpOpsIn_cons]
    unfold wpOpIn
    simp only [ho]
    rw [if_neg (by rw [wanted_eq hT (known C hσ hst) hw]; simp)]
    exact ⟨fun f _ => trivial, ih hst (relL_put hT (.lit _) _) (fun E' a' w' h1 h2 h3 h4 => hQ E' a' w' h1 h2 h3 (by rw [h4, put_defers]))⟩
  | step ho hw h1 h ih =>
    intro E a w hst hT Q hQ
    rw [wpOpsIn_cons]
    unfold wpOpIn
    simp only [ho]
    rw [if_pos (wanted_eq hT (known C hσ hst) hw)]
    refine h1.wp C hσ hst hT (fun E' v w' e1 e2 e3 => ?_)
    exact ih e2 (relL_put (hT.ext e1) e3 _) (fun E2 a2 w2 f1 f2 f3 f4 => hQ E2 a2 w2 (e1.trans f1) f2 f3 (by rw [f4, put_defers]))
end
end Go.Proofs.Ytikcninaepoojaa.Ev

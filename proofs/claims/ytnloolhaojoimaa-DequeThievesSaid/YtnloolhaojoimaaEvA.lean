/- Code. -/
import Derived.Test.YtnloolhaojoimaaEv9
namespace Go.Proofs.Ytnloolhaojoimaa.Ev
open Go.RowKit (Below)
set_option linter.unusedVariables false
set_option linter.unusedSimpArgs false
set_option linter.unusedSectionVars false

section
variable {P : Program} (C : Ctx P)

/-- A region whose operations may come in several orders: whatever the order, this is what it comes to. -/
def DrawOk (σ : Sig) (ops : Array Oper) (T : List AV) (H : Hp) (T' : List AV) (H' : Hp) : Prop :=
  ∀ (B : Nat) (w0 : Base) (E : Env) (a : Act) (w : World), w0.σ = σ → St B w0 E H w → RelL E T a.tmps → ∀ (Q : Exit → Act → World → Prop),
    (∀ E' a' w', E.Ext E' → St B w0 E' H' w' → RelL E' T' a'.tmps → a'.defers = a.defers → Q .normal a' w') → ∀ id, (Code.region id ops true).wp P Q a w

def unblock (id : Nat) : Exit → Exit
  | .exit i => if i = id then .normal else .exit i
  | e => e

def plainX : Exit → Bool
  | .normal => true
  | .exit _ => true
  | .ret => true
  | _ => false

inductive Ex : Code → List AV → Hp → Exit → List AV → Hp → Prop where
  | skip {T : List AV} {H : Hp} : Ex .skip T H .normal T H
  | exit {T : List AV} {H : Hp} {id : Nat} : Ex (.exit id) T H (.exit id) T H
  | ret {T : List AV} {H : Hp} : Ex .ret T H .ret T H
  | region {T T' : List AV} {H H' : Hp} {id : Nat} {ops : Array Oper} (h : Seqs C ops (List.range ops.size) T H T' H') : Ex (.region id ops false) T H .normal T' H'
  | draw {T T' : List AV} {H H' : Hp} {id : Nat} {ops : Array Oper} (h : DrawOk (P := P) C.σ ops T H T' H') : Ex (.region id ops true) T H .normal T' H'
  | seq {T T1 T2 : List AV} {H H1 H2 : Hp} {x y : Code} {e : Exit} (h1 : Ex x T H .normal T1 H1) (h2 : Ex y T1 H1 e T2 H2) : Ex (.seq x y) T H e T2 H2
  | seqX {T T1 : List AV} {H H1 : Hp} {x y : Code} {e : Exit} (h1 : Ex x T H e T1 H1) (he : e ≠ .normal) : Ex (.seq x y) T H e T1 H1
  | cond {T T1 : List AV} {H H1 : Hp} {c : Operand} {x y : Code} {e : Exit} {t : Bool} (hc : evO T c = .lit (.bool t)) (h : Ex (if t then x else y) T H e T1 H1) : Ex (.cond c x y) T H e T1 H1
  | condS {T T1 : List AV} {H H1 : Hp} {c : Operand} {x y : Code} {e : Exit} {b : BExp} {t : Bool} (hc : evO T c = .sb b) (hb : look C.as b = some t) (h : Ex (if t then x else y) T H e T1 H1) : Ex (.cond c x y) T H e T1 H1
  | block {T T1 : List AV} {H H1 : Hp} {id : Nat} {c : Code} {e : Exit} (h : Ex c T H e T1 H1) : Ex (.block id c) T H (unblock id e) T1 H1
  | loop {T T1 T2 : List AV} {H H1 H2 : Hp} {c : Code} {e : Exit} (h1 : Ex c T H .normal T1 H1) (h2 : Ex (.loop c) T1 H1 e T2 H2) : Ex (.loop c) T H e T2 H2
  | loopX {T T1 : List AV} {H H1 : Hp} {c : Code} {e : Exit} (h1 : Ex c T H e T1 H1) (he : e ≠ .normal) : Ex (.loop c) T H e T1 H1

/-- At the head of a loop's round. -/
def LoopAt (P : Program) (c : Code) (Q : Exit → Act → World → Prop) (a : Act) (w : World) : Prop :=
  ∀ (b : Frame) (k : List Item) (cs : List Frame), ∃ e a' w', Q e a' w' ∧ Arrives P (lone (b.at a (.code c :: .inLoop c :: k)) cs w) b k cs e a' w'

theorem LoopAt.wp {c : Code} {Q : Exit → Act → World → Prop} {a : Act} {w : World} (h : LoopAt P c Q a w) : (Code.loop c).wp P Q a w :=
  fun b k cs => let ⟨e, a', w', hq, hr⟩ := h b k cs; ⟨e, a', w', hq, .of_steps (.one step_loop) hr⟩

theorem LoopAt.round {c : Code} {Q : Exit → Act → World → Prop} {a : Act} {w : World} (h : c.wp P (Exit.then (LoopAt P c Q) Q) a w) : LoopAt P c Q a w := by
  intro b k cs
  obtain ⟨e, a₁, w₁, hq, harr⟩ := h b (.inLoop c :: k) cs
  cases e with
  | normal =>
    obtain ⟨e₂, a₂, w₂, hq₂, harr₂⟩ := hq b k cs
    exact ⟨e₂, a₂, w₂, hq₂, .of_steps (Steps.trans harr (.one step_inLoop)) harr₂⟩
  | exit id => exact ⟨_, a₁, w₁, hq, .pass (x := .inLoop c) rfl (fun _ _ => .inl (by simp)) harr⟩
  | goto l => exact ⟨_, a₁, w₁, hq, .pass (x := .inLoop c) rfl (fun _ _ => .inl (by simp)) harr⟩
  | ret => exact ⟨_, a₁, w₁, hq, .pass (x := .inLoop c) rfl (fun _ _ => .inl (by simp)) harr⟩
  | panic ch => exact ⟨_, a₁, w₁, hq, .pass (x := .inLoop c) rfl (fun _ _ => .inl (by simp)) harr⟩
  | outgrown => exact ⟨_, a₁, w₁, hq, .pass (x := .inLoop c) rfl (fun _ _ => .inl (by simp)) harr⟩

/-- What code has to meet: a loop, at its round's head. -/
def Ent (P : Program) (c : Code) (Q : Exit → Act → World → Prop) (a : Act) (w : World) : Prop :=
  match c with
  | .loop c => LoopAt P c Q a w
  | c => c.wp P Q a w

theorem Ent.wp {c : Code} {Q : Exit → Act → World → Prop} {a : Act} {w : World} (h : Ent P c Q a w) : c.wp P Q a w := by
  cases c <;> first | exact h | exact LoopAt.wp h

theorem then_normal {next : Act → World → Prop} {Q : Exit → Act → World → Prop} {a : Act} {w : World} (h : next a w) : Exit.then next Q .normal a w := h
theorem then_other {next : Act → World → Prop} {Q : Exit → Act → World → Prop} {e : Exit} {a : Act} {w : World} (he : e ≠ .normal) (h : Q e a w) : Exit.then next Q e a w := by
  cases e <;> first | exact absurd rfl he | exact h

theorem Ex.ent {c : Code} {T T' : List AV} {H H' : Hp} {e : Exit} (h : Ex C c T H e T' H') : ∀ {B : Nat} {w0 : Base} {E : Env} {a : Act} {w : World}, w0.σ = C.σ → St B w0 E H w → RelL E T a.tmps → ∀ {Q : Exit → Act → World → Prop},
    (∀ E' a' w', E.Ext E' → St B w0 E' H' w' → RelL E' T' a'.tmps → a'.defers = a.defers → Q e a' w') → Ent P c Q a w := by
  induction h with
  | skip => intro B w0 E a w hσ hst hT Q hQ; exact wp_skip (hQ E a w (.refl E) hst hT rfl)
  | exit => intro B w0 E a w hσ hst hT Q hQ; exact wp_exit (hQ E a w (.refl E) hst hT rfl)
  | ret => intro B w0 E a w hσ hst hT Q hQ; exact wp_ret (hQ E a w (.refl E) hst hT rfl)
  | region h => intro B w0 E a w hσ hst hT Q hQ; exact wp_region (h.wp C hσ hst hT hQ)
  | draw h => intro B w0 E a w hσ hst hT Q hQ; exact h _ _ _ _ _ hσ hst hT _ hQ _
  | seq h1 h2 ih1 ih2 =>
    intro B w0 E a w hσ hst hT Q hQ
    refine wp_seq (Ent.wp (ih1 hσ hst hT (fun E' a' w' e1 e2 e3 e4 => ?_)))
    exact Ent.wp (ih2 hσ e2 e3 (fun E2 a2 w2 f1 f2 f3 f4 => hQ E2 a2 w2 (e1.trans f1) f2 f3 (f4.trans e4)))
  | seqX h1 he ih =>
    intro B w0 E a w hσ hst hT Q hQ
    exact wp_seq (Ent.wp (ih hσ hst hT (fun E' a' w' e1 e2 e3 e4 => then_other he (hQ E' a' w' e1 e2 e3 e4))))
  | cond hc h ih =>
    intro B w0 E a w hσ hst hT Q hQ
    rename_i c x y e t
    have hv := rel_evO hT c
    rw [hc] at hv
    generalize hve : a.eval c = v at hv
    cases hv
    exact wp_cond hve (Ent.wp (ih hσ hst hT hQ))
  | condS hc hb h ih =>
    intro B w0 E a w hσ hst hT Q hQ
    rename_i c x y e b t
    have hv := rel_evO hT c
    rw [hc] at hv
    generalize hve : a.eval c = v at hv
    cases hv with
    | sb hq =>
      have := look_ok (known C hσ hst) hb
      rw [hq] at this
      subst this
      exact wp_cond hve (Ent.wp (ih hσ hst hT hQ))
  | block h ih =>
    intro B w0 E a w hσ hst hT Q hQ
    refine wp_block (Ent.wp (ih hσ hst hT (fun E' a' w' e1 e2 e3 e4 => ?_)))
    rename_i id c e
    have := hQ E' a' w' e1 e2 e3 e4
    cases e <;> first
      | exact this
      | (simp only [unblock] at this
         simp only [Exit.inBlock]
         split at this
         · rename_i hh; rw [if_pos hh]; exact this
         · rename_i hh; rw [if_neg hh]; exact this)
  | loop h1 h2 ih1 ih2 =>
    intro B w0 E a w hσ hst hT Q hQ
    refine LoopAt.round (Ent.wp (ih1 hσ hst hT (fun E' a' w' e1 e2 e3 e4 => ?_)))
    exact ih2 hσ e2 e3 (fun E2 a2 w2 f1 f2 f3 f4 => hQ E2 a2 w2 (e1.trans f1) f2 f3 (f4.trans e4))
  | loopX h1 he ih =>
    intro B w0 E a w hσ hst hT Q hQ
    exact LoopAt.round (Ent.wp (ih hσ hst hT (fun E' a' w' e1 e2 e3 e4 => then_other he (hQ E' a' w' e1 e2 e3 e4))))

/-! ### functions -/
def resA (ti : Nat → Option TI) (T : List AV) (H : Hp) : ResultVar → Option AV
  | .tmp t => some (T.getD t (.lit undef))
  | .cell a t => loadA ti H t (T.getD a (.lit undef))

def ressA (ti : Nat → Option TI) (T : List AV) (H : Hp) : List ResultVar → Option (List AV)
  | [] => some []
  | r :: rs => match resA ti T H r, ressA ti T H rs with
    | some x, some xs => some (x :: xs)
    | _, _ => none

def resultA (ti : Nat → Option TI) (T : List AV) (H : Hp) (rs : List ResultVar) : Option AV :=
  match ressA ti T H rs with
  | some [x] => some x
  | some xs => some (.tup xs)
  | none => none

theorem res_ok {B : Nat} {w0 : Base} {E : Env} {H : Hp} {w : World} (h : St B w0 E H w) {T : List AV} {tmps : Array Value} (hT : RelL E T tmps) {r : ResultVar} {x : AV} (hr : resA C.ti T H r = some x) :
    ∃ v, ((match r with | .tmp t => pure (tmps.getD t undef) | .cell a t => do loadVar t (← asAddr (tmps.getD a undef)) : Sem Value)).run P w = .ok v w ∧ Rel E x v := by
  have hget : ∀ t, Rel E (T.getD t (.lit undef)) (tmps.getD t undef) := fun t => rel_evO (a := ⟨tmps, []⟩) hT (.tmp t)
  cases r with
  | tmp t => simp only [resA, Option.some.injEq] at hr; subst hr; exact ⟨_, rfl, hget t⟩
  | cell a t =>
    simp only [resA] at hr
    obtain ⟨u, h1, h2⟩ := loadA_ok (P := P) C.hti h (hget a) hr
    refine ⟨u, ?_, h2⟩
    have hv := hget a
    unfold loadA at hr
    generalize hval : tmps.getD a undef = v at h1 hv
    unfold Instr.loadAt Instr.sureAddr at h1
    cases v <;> simp only [Sem.run_bind, run_stuck, Result.andThen] at h1 <;> try (cases h1; done)
    rename_i o
    cases o with
    | none => simp at h1
    | some ad =>
      simp only [Sem.run_bind, Sem.run_pure, Result.andThen] at h1
      have : (asAddr (tmps.getD a undef)).run P w = .ok ad w := by rw [hval]; rfl
      simp only [Sem.run_bind, this, Result.andThen]
      exact h1

theorem ress_ok {B : Nat} {w0 : Base} {E : Env} {H : Hp} {w : World} (h : St B w0 E H w) {T : List AV} {tmps : Array Value} (hT : RelL E T tmps) : ∀ (rs : List ResultVar) {xs : List AV}, ressA C.ti T H rs = some xs →
    ∃ vs : List Value, (rs.mapM (fun r => (match r with | .tmp t => pure (tmps.getD t undef) | .cell a t => do loadVar t (← asAddr (tmps.getD a undef)) : Sem Value))).run P w = .ok vs w ∧ RelL E xs vs.toArray
  | [], xs, hr => by simp [ressA] at hr; subst hr; exact ⟨[], rfl, ⟨rfl, fun i x v hx => by simp at hx⟩⟩
  | r :: rs, xs, hr => by
    simp only [ressA] at hr
    cases h1 : resA C.ti T H r with
    | none => simp [h1] at hr
    | some x =>
      cases h2 : ressA C.ti T H rs with
      | none => simp [h1, h2] at hr
      | some ys =>
        simp [h1, h2] at hr
        subst hr
        obtain ⟨v, p1, p2⟩ := res_ok C h hT h1
        obtain ⟨vs, q1, q2⟩ := ress_ok h hT rs h2
        refine ⟨v :: vs, ?_, ⟨by have := q2.len; simp at this ⊢; exact this, fun i z u hz hu => ?_⟩⟩
        · simp only [List.mapM_cons, Sem.run_bind, p1, Result.andThen, q1, Sem.run_pure]
        · cases i with
          | zero => simp at hz hu; subst hz; subst hu; exact p2
          | succ i => exact q2.at_ i z u (by simpa using hz) (by simpa using hu)

def resF (tmps : Array Value) (r : ResultVar) : Sem Value :=
  match r with
  | .tmp t => pure (tmps.getD t undef)
  | .cell a t => do loadVar t (← asAddr (tmps.getD a undef))

theorem results_run (fn : Func) (tmps : Array Value) (w : World) {vs : List Value} (h : (fn.results.toList.mapM (resF tmps)).run P w = .ok vs w) :
    (results fn tmps).run P w = .ok (if h : vs.toArray.size = 1 then vs.toArray[0] else .tuple vs.toArray) w := by
  have : (results fn tmps).run P w = ((fn.results.toList.mapM (resF tmps)).run P w).andThen fun l w' => .ok (if h : l.toArray.size = 1 then l.toArray[0] else .tuple l.toArray) w' := by
    simp only [results, Array.mapM_eq_mapM_toList, Sem.run_bind, Sem.run_map]
    have e : (fn.results.toList.mapM (fun | .tmp t => pure (tmps.getD t undef) | .cell a t => do loadVar t (← asAddr (tmps.getD a undef)) : ResultVar → Sem Value)) = fn.results.toList.mapM (resF tmps) := rfl
    change (((fn.results.toList.mapM (resF tmps)).run P w).andThen _).andThen _ = _
    cases (fn.results.toList.mapM (resF tmps)).run P w <;> rfl
  rw [this, h]
  rfl

theorem good_of_body {f : Nat} {fn : Func} {c : Code} {xs : List AV} {H H' : Hp} {T' : List AV} {e : Exit} {r : AV} (hf : P.funcs[f]? = some fn) (hb : fn.body = some c) (hn : (fn.name == "runtime.NumGoroutine") = false)
    (h : Ex C c (xs ++ List.replicate (fn.ntmps - xs.length) (.lit undef)) H e T' H') (he : e = .normal ∨ e = .ret) (hr : resultA C.ti T' H' fn.results.toList = some r) : Good P C.σ f xs H r H' := by
  refine ⟨⟨fn, hf, hn, by rw [hb]; rfl⟩, fun B w0 E w vs hσ hst hxs => ?_⟩
  refine calls_of_wp hf hb ?_
  have hT : RelL E (xs ++ List.replicate (fn.ntmps - xs.length) (.lit undef)) (vs ++ Array.replicate (fn.ntmps - vs.size) undef) := by
    have hl := hxs.len
    refine ⟨by simp [hl], fun i x v hx hv => ?_⟩
    by_cases hi : i < xs.length
    · rw [List.getElem?_append_left hi] at hx
      rw [Array.getElem?_append_left (by omega)] at hv
      exact hxs.at_ i x v hx hv
    · rw [List.getElem?_append_right (by omega), List.getElem?_replicate] at hx
      rw [Array.getElem?_append_right (by omega), Array.getElem?_replicate] at hv
      split at hx
      · cases hx
        split at hv
        · cases hv; exact .lit _
        · cases hv
      · cases hx
  refine Ent.wp (h.ent C (a := ⟨_, []⟩) hσ hst hT (fun E' a' w' e1 e2 e3 e4 => ?_))
  have main : ∃ v, (results fn a'.tmps).run P w' = .ok v w' ∧ Rel E' r v := by
    unfold resultA at hr
    split at hr
    · rename_i x hx
      cases hr
      obtain ⟨vs, p1, p2⟩ := ress_ok C e2 e3 _ hx
      have hl : vs.length = 1 := by have := p2.len; simpa using this
      match vs, hl with
      | [v], _ =>
        exact ⟨v, results_run fn a'.tmps w' p1, p2.at_ 0 _ v rfl (by simp)⟩
    · rename_i xs' hne hx
      cases hr
      obtain ⟨vs, p1, p2⟩ := ress_ok C e2 e3 _ hx
      have hl : vs.length = xs'.length := by have := p2.len; simpa using this
      refine ⟨.tuple vs.toArray, ?_, .tup p2.len p2.at_⟩
      have hn1 : ¬ vs.toArray.size = 1 := by
        intro h1
        have h1 : xs'.length = 1 := by rw [← hl]; simpa using h1
        match xs', h1 with
        | [x], _ => exact hne x rfl
      have := results_run fn a'.tmps w' p1
      rwa [dif_neg hn1] at this
    · cases hr
  obtain ⟨v, hv, hrel⟩ := main
  have hdef : a'.defers = [] := e4
  rcases he with rfl | rfl
  · exact ⟨hdef, v, hv, E', v, rfl, e1, e2, hrel⟩
  · exact ⟨hdef, v, hv, E', v, rfl, e1, e2, hrel⟩
end
end Go.Proofs.Ytnloolhaojoimaa.Ev

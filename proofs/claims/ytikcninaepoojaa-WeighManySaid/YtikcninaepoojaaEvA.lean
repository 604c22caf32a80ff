/- Code. -/
import Derived.Test.YtikcninaepoojaaEv9
namespace Go.Proofs.Ytikcninaepoojaa.Ev
open Go.RowKit (Below)
set_option linter.unusedVariables false
set_option linter.unusedSimpArgs false
set_option linter.unusedSectionVars false

section
variable {P : Program} (C : Ctx P)

/-- The deferred calls that loops over functions have left: each takes over the calls of a block that has none. -/
structure Marks (B : Nat) (F F' : Nat → Option Obj) (ms : List Deferred) : Prop where
  sub : ∀ b o, F b = some o → F' b = some o
  each : ∀ m ∈ ms, ∃ d, m = ⟨.collected d, #[]⟩ ∧ B ≤ d ∧ F d = none ∧ F' d = some (.deferred (some []))
  nd : ms.Nodup

def Base.withF (w0 : Base) (F : Nat → Option Obj) : Base := { w0 with F := F }

theorem Marks.none {B : Nat} {F : Nat → Option Obj} : Marks B F F [] := ⟨fun _ _ h => h, fun m h => (by cases h), List.nodup_nil⟩
theorem Marks.trans {B : Nat} {F F1 F2 : Nat → Option Obj} {ms ms2 : List Deferred} (h : Marks B F F1 ms) (h2 : Marks B F1 F2 ms2) : Marks B F F2 (ms2 ++ ms) := by
  refine ⟨fun b o k => h2.sub b o (h.sub b o k), fun m hm => ?_, ?_⟩
  · rcases List.mem_append.1 hm with hm | hm
    · obtain ⟨d, e1, e2, e3, e4⟩ := h2.each m hm
      refine ⟨d, e1, e2, ?_, e4⟩
      cases hf : F d with
      | none => rfl
      | some x => rw [h.sub d x hf] at e3; cases e3
    · obtain ⟨d, e1, e2, e3, e4⟩ := h.each m hm
      exact ⟨d, e1, e2, e3, h2.sub _ _ e4⟩
  · refine List.nodup_append.2 ⟨h2.nd, h.nd, fun a ha b hb e => ?_⟩
    subst e
    obtain ⟨d, e1, _, e3, _⟩ := h2.each a ha
    obtain ⟨d', f1, _, _, f4⟩ := h.each a hb
    rw [e1] at f1
    cases f1
    rw [f4] at e3
    cases e3

/-- What there is behind a piece of code. -/
def Nxt (B : Nat) (w0 : Base) (E : Env) (a : Act) (T' : List AV) (H' : Hp) (a' : Act) (w' : World) : Prop :=
  ∃ E' F' ms, E.Ext E' ∧ Marks B w0.F F' ms ∧ St B (w0.withF F') E' H' w' ∧ RelL E' T' a'.tmps ∧ a'.defers = ms ++ a.defers

theorem Nxt.plain {B : Nat} {w0 : Base} {E E' : Env} {a a' : Act} {T' : List AV} {H' : Hp} {w' : World} (e1 : E.Ext E') (e2 : St B w0 E' H' w') (e3 : RelL E' T' a'.tmps) (e4 : a'.defers = a.defers) : Nxt B w0 E a T' H' a' w' :=
  ⟨E', w0.F, [], e1, .none, e2, e3, e4⟩
theorem Nxt.trans {B : Nat} {w0 : Base} {E E1 : Env} {a a1 a2 : Act} {F1 : Nat → Option Obj} {ms : List Deferred} {T2 : List AV} {H2 : Hp} {w2 : World} (e1 : E.Ext E1) (e2 : Marks B w0.F F1 ms) (e5 : a1.defers = ms ++ a.defers) (h : Nxt B (w0.withF F1) E1 a1 T2 H2 a2 w2) : Nxt B w0 E a T2 H2 a2 w2 := by
  obtain ⟨E2, F2, ms2, f1, f2, f3, f4, f5⟩ := h
  exact ⟨E2, F2, ms2 ++ ms, e1.trans f1, e2.trans f2, f3, f4, by rw [f5, e5, List.append_assoc]⟩

/-- A region whose operations may come in several orders: whatever the order, this is what it comes to. -/
def DrawOk (σ : Sig) (ops : Array Oper) (T : List AV) (H : Hp) (T' : List AV) (H' : Hp) : Prop :=
  ∀ (B : Nat) (w0 : Base) (E : Env) (a : Act) (w : World), w0.σ = σ → St B w0 E H w → RelL E T a.tmps → ∀ (Q : Exit → Act → World → Prop),
    (∀ E' a' w', E.Ext E' → St B w0 E' H' w' → RelL E' T' a'.tmps → a'.defers = a.defers → Q .normal a' w') → ∀ ro id, (Code.region id ops true).wpIn (FW ro) 0 P Q a w

def unblock (id : Nat) : Exit → Exit
  | .exit i => if i = id then .normal else .exit i
  | e => e

def plainX : Exit → Bool
  | .normal => true
  | .exit _ => true
  | .ret => true
  | _ => false

/-- Code without a loop over a function. -/
def plainC : Code → Bool
  | .rangeFunc _ _ _ _ => false
  | .seq a b => plainC a && plainC b
  | .cond _ a b => plainC a && plainC b
  | .block _ c => plainC c
  | .loop c => plainC c
  | .scope c => plainC c
  | _ => true

inductive Ex : Code → List AV → Hp → Exit → List AV → Hp → Prop where
  | skip {T : List AV} {H : Hp} : Ex .skip T H .normal T H
  | exit {T : List AV} {H : Hp} {id : Nat} : Ex (.exit id) T H (.exit id) T H
  | ret {T : List AV} {H : Hp} : Ex .ret T H .ret T H
  | region {T T' : List AV} {H H' : Hp} {id : Nat} {ops : Array Oper} (h : Seqs C ops (List.range ops.size) T H T' H') : Ex (.region id ops false) T H .normal T' H'
  | draw {T T' : List AV} {H H' : Hp} {id : Nat} {ops : Array Oper} (h : DrawOk (P := P) C.σ ops T H T' H') : Ex (.region id ops true) T H .normal T' H'
  | seq {T T1 T2 : List AV} {H H1 H2 : Hp} {x y : Code} {e : Exit} (h1 : Ex x T H .normal T1 H1) (h2 : Ex y T1 H1 e T2 H2) : Ex (.seq x y) T H e T2 H2
  | seqX {T T1 : List AV} {H H1 : Hp} {x y : Code} {e : Exit} (h1 : Ex x T H e T1 H1) (he : e ≠ .normal) : Ex (.seq x y) T H e T1 H1
  | cond {T T1 : List AV} {H H1 : Hp} {c : Operand} {x y : Code} {e : Exit} {t : Bool} (hc : evO T c = .lit (.bool t)) (h : Ex (if t then x else y) T H e T1 H1) : Ex (.cond c x y) T H e T1 H1
  | condS {T T1 : List AV} {H H1 : Hp} {c : Operand} {x y : Code} {e : Exit} {b : BExp} {t : Bool} (hc : evO T c = .sb b) (hb : look C.as b = some t) (h : Ex (if t then x else y) T H e T1 H1) : Ex (.cond c x y) T H e T1 H1
  | block {T T1 : List AV} {H H1 : Hp} {id : Nat} {c : Code} {e : Exit} (h : Ex c T H e T1 H1) : Ex (.block id c) T H (unblock id e) T1 H1
  | loop {T T1 T2 : List AV} {H H1 H2 : Hp} {c : Code} {e : Exit} (h1 : Ex c T H .normal T1 H1) (h2 : Ex (.loop c) T1 H1 e T2 H2) : Ex (.loop c) T H e T2 H2
  | loopX {T T1 : List AV} {H H1 : Hp} {c : Code} {e : Exit} (h1 : Ex c T H e T1 H1) (he : e ≠ .normal) : Ex (.loop c) T H e T1 H1
  | rangeN {T : List AV} {H H2 : Hp} {f : Operand} {ps : Array Tmp} {assign body : Code} {g : Nat} {caps : List AV} {v : AV} {rec : LRec} {st : LoopState} (hf : evO T f = .fn g caps)
      (hg : Good P C.σ g (.yl H.n :: caps) (H.new (.loop ⟨T, ps, assign, body⟩ .ready none)) v H2) (hl : H2.get H.n = some (.loop rec st none)) (hb : st ≠ .busy) : Ex (.rangeFunc f ps assign body) T H .normal T (H2.set H.n none)
  | rangeX {T T' : List AV} {H H2 H' : Hp} {e : Exit} {f : Operand} {ps : Array Tmp} {assign body c : Code} {g : Nat} {caps : List AV} {v : AV} {rec : LRec} {st : LoopState} (hf : evO T f = .fn g caps)
      (hg : Good P C.σ g (.yl H.n :: caps) (H.new (.loop ⟨T, ps, assign, body⟩ .ready none)) v H2) (hl : H2.get H.n = some (.loop rec st (some c))) (hb : st ≠ .busy) (h : Ex c T (H2.set H.n none) e T' H') : Ex (.rangeFunc f ps assign body) T H e T' H'

/-- At the head of a loop's round. -/
def LoopAt (ro : Option Nat) (P : Program) (c : Code) (Q : Exit → Act → World → Prop) (a : Act) (w : World) : Prop :=
  ∀ (b : Frame) (k : List Item) (cs : List Frame), b.roundOf = (FW ro).round → (FW ro).fn b.fn → (FW ro).room (cs.length + 1 + 0) →
    ∃ e a' w', Q e a' w' ∧ ArrivesIn (Machine.fenced P (FW ro)) P (lone (b.atR a (.code c :: .inLoop c :: k)) cs w) b k cs e a' w'

theorem LoopAt.wp {ro : Option Nat} {c : Code} {Q : Exit → Act → World → Prop} {a : Act} {w : World} (h : LoopAt ro P c Q a w) : (Code.loop c).wpIn (FW ro) 0 P Q a w :=
  fun b k cs hro hb hr => let ⟨e, a', w', hq, hh⟩ := h b k cs hro hb hr; ⟨e, a', w', hq, .of_steps (.one (fenced_calm hb hr rfl) stepR_loop) hh⟩

theorem LoopAt.round {ro : Option Nat} {c : Code} {Q : Exit → Act → World → Prop} {a : Act} {w : World} (h : c.wpIn (FW ro) 0 P (Exit.then (LoopAt ro P c Q) Q) a w) : LoopAt ro P c Q a w := by
  intro b k cs hro hb hr
  obtain ⟨e, a₁, w₁, hq, harr⟩ := h b (.inLoop c :: k) cs hro hb hr
  cases e with
  | normal =>
    obtain ⟨e₂, a₂, w₂, hq₂, harr₂⟩ := hq b k cs hro hb hr
    exact ⟨e₂, a₂, w₂, hq₂, .of_steps (StepsIn.trans harr (.one (fenced_calm (fr := b.atR a₁ (.inLoop c :: k)) hb hr rfl) stepR_inLoop)) harr₂⟩
  | exit id => exact ⟨_, a₁, w₁, hq, .pass (x := .inLoop c) rfl (fun _ _ => .inl (by simp)) harr⟩
  | goto l => exact ⟨_, a₁, w₁, hq, .pass (x := .inLoop c) rfl (fun _ _ => .inl (by simp)) harr⟩
  | ret => exact ⟨_, a₁, w₁, hq, .pass (x := .inLoop c) rfl (fun _ _ => .inl (by simp)) harr⟩
  | panic ch => exact ⟨_, a₁, w₁, hq, .pass (x := .inLoop c) rfl (fun _ _ => .inl (by simp)) harr⟩
  | outgrown => exact ⟨_, a₁, w₁, hq, .pass (x := .inLoop c) rfl (fun _ _ => .inl (by simp)) harr⟩

/-- What code has to meet: a loop, at its round's head. -/
def Ent (ro : Option Nat) (P : Program) (c : Code) (Q : Exit → Act → World → Prop) (a : Act) (w : World) : Prop :=
  match c with
  | .loop c => LoopAt ro P c Q a w
  | c => c.wpIn (FW ro) 0 P Q a w

theorem Ent.wp {ro : Option Nat} {c : Code} {Q : Exit → Act → World → Prop} {a : Act} {w : World} (h : Ent ro P c Q a w) : c.wpIn (FW ro) 0 P Q a w := by
  cases c <;> first | exact h | exact LoopAt.wp h

theorem then_normal {next : Act → World → Prop} {Q : Exit → Act → World → Prop} {a : Act} {w : World} (h : next a w) : Exit.then next Q .normal a w := h
theorem then_other {next : Act → World → Prop} {Q : Exit → Act → World → Prop} {e : Exit} {a : Act} {w : World} (he : e ≠ .normal) (h : Q e a w) : Exit.then next Q e a w := by
  cases e <;> first | exact absurd rfl he | exact h

/-- A loop over a function, outside of all rounds. -/
theorem range_wp {B : Nat} {w0 : Base} {E : Env} {a : Act} {w : World} {T : List AV} {H H2 : Hp} {f : Operand} {ps : Array Tmp} {assign body : Code} {g : Nat} {caps : List AV} {v : AV} {rec : LRec} {st : LoopState} {pend : Option Code} {Q : Exit → Act → World → Prop}
    (hσ : w0.σ = C.σ) (hst : St B w0 E H w) (hT : RelL E T a.tmps) (hf : evO T f = .fn g caps)
    (hg : Good P C.σ g (.yl H.n :: caps) (H.new (.loop ⟨T, ps, assign, body⟩ .ready none)) v H2) (hl : H2.get H.n = some (.loop rec st pend)) (hb : st ≠ .busy)
    (hQ : ∀ a' w', Nxt B w0 E a T (H2.set H.n none) a' w' → match pend with
      | none => Q .normal a' w'
      | some c => c.wpIn (FW none) 0 P Q a' w') : (Code.rangeFunc f ps assign body).wpIn (FW none) 0 P Q a w := by
  refine wpIn_rangeFunc fun fn _ => ?_
  have hfv := rel_evO hT f
  rw [hf] at hfv
  generalize hv : a.eval f = u at hfv
  cases hfv with
  | fn hlen hr =>
  rename_i us
  -- the blocks that are laid
  have st1 := hst.newF (.deferred (some []))
  obtain ⟨F1, hF1⟩ : ∃ F1 : Nat → Option Obj, F1 = fun b => if b = w.heap.size then some (.deferred (some [])) else w0.F b := ⟨_, rfl⟩
  have hFD : F1 w.heap.size = some (.deferred (some [])) := by rw [hF1]; simp
  have hF0 : w0.F w.heap.size = none := by
    cases hf0 : w0.F w.heap.size with
    | none => rfl
    | some x => have := (Array.getElem?_eq_some_iff.1 (hst.fr _ _ hf0).1).1; omega
  have hsub : ∀ b o, w0.F b = some o → F1 b = some o := by
    intro b o hb'
    rw [hF1]
    show (if b = w.heap.size then some (Obj.deferred (some [])) else w0.F b) = some o
    split
    · rename_i e; subst e; rw [hF0] at hb'; cases hb'
    · exact hb'
  rw [← hF1] at st1
  have st1 : St B (w0.withF F1) E H { w with heap := w.heap.push (.deferred (some [])) } := st1
  have hnone := st1.dom H.n (Nat.le_refl _)
  have hext0 : E.Ext (E.put H.n (w.heap.size + 1, 0, 0)) := Env.ext_put (hst.dom _ (Nat.le_refl _))
  have hsz1 : (w.heap.push (.deferred (some []))).size = w.heap.size + 1 := by simp
  obtain ⟨e1, st2⟩ := st1.new (.loop ⟨.ready, none, fn, a.tmps, ps, assign, body, w.heap.size⟩) 0 0 (.loop ⟨T, ps, assign, body⟩ .ready none)
    ⟨fn, a.tmps, w.heap.size, Array.getElem?_push_size, (hT.ext (Env.ext_put (hst.dom _ (Nat.le_refl _))))⟩
  simp only [hsz1] at e1 st2
  have hcall := hg.2 B (w0.withF F1) _ _ (#[.func (.yield (w.heap.size + 1)) #[] #[]] ++ us) hσ st2 ⟨by simp [hlen]; omega, fun i x y hx hy => by
    cases i with
    | zero =>
      rw [Array.getElem?_append_left (by simp)] at hy
      simp at hx hy
      subst hx; subst hy
      exact .yl (n := 0) (o := 0) (by simp [Env.put])
    | succ i =>
      have hy' : us[i]? = some y := by
        rw [Array.getElem?_append_right (by simp)] at hy
        simpa using hy
      exact (hr i x y (by simpa using hx) hy').ext e1⟩
  obtain ⟨W1, hW1⟩ : ∃ W1, W1 = (w.alloc (.deferred (some []))).alloc (.loop ⟨.ready, none, fn, a.tmps, ps, assign, body, w.heap.size⟩) := ⟨_, rfl⟩
  have hcall : Calls P g (#[.func (.yield (w.heap.size + 1)) #[] #[]] ++ us) W1 (fun e w' => ∃ E' v_1, e = Ending.returned v_1 ∧ (E.put H.n (w.heap.size + 1, 0, 0)).Ext E' ∧ St B (w0.withF F1) E' H2 w' ∧ Rel E' v v_1) := by rw [hW1]; exact hcall
  refine ⟨w.heap.size + 1, [{ target := .collected w.heap.size, args := #[] }], W1, { target := .fn (.func g) us, args := #[.func (.yield (w.heap.size + 1)) #[] #[]] }, W1, g,
    #[.func (.yield (w.heap.size + 1)) #[] #[]] ++ us, W1, by rw [hW1]; exact run_enterLoop_outer _ _ _ _ _, ?_, fun _ _ => trivial, ?_, fun h => (by cases h), ?_⟩
  · simp only [resolve, hv, Deferred.ofValue, Sem.run_pure]
    simp [Act.eval]
  · simp only [invoke]
    exact callFunc_run hg.1 _ _
  · refine CallsIn.mono (callsIn_wide.2 hcall) fun e w' hh => ?_
    obtain ⟨E', r, rfl, h1, h2, h3⟩ := hh
    obtain ⟨b', o', n', p1, p2, p3, fn', tmps', D', p4, p5⟩ := h2.live _ _ hl
    have hρ : E'.ρ H.n = some (w.heap.size + 1, 0, 0) := h1.ρ _ _ (by simp [Env.put])
    rw [hρ] at p1
    cases p1
    refine ⟨pend, w'.putObj (w.heap.size + 1) (.loop { state := .exhausted, pending := pend, fn := fn', tmps := tmps', params := rec.ps, assign := rec.assign, body := rec.body, defers := D' }), ?_, ?_⟩
    · exact run_endLoop p4 (by simpa using hb)
    · have nxt : Nxt B w0 E a T (H2.set H.n none) { a with defers := [{ target := .collected w.heap.size, args := #[] }] ++ a.defers } (w'.putObj (w.heap.size + 1) (.loop { state := .exhausted, pending := pend, fn := fn', tmps := tmps', params := rec.ps, assign := rec.assign, body := rec.body, defers := D' })) := by
        refine ⟨E', F1, [{ target := .collected w.heap.size, args := #[] }], e1.trans h1, ⟨hsub, fun m hm => ?_, by simp⟩, ?_, hT.ext (e1.trans h1), rfl⟩
        · rw [List.mem_singleton] at hm
          exact ⟨_, hm, hst.size, hF0, hFD⟩
        · exact h2.killWrite hl hρ (fun c hc => World.putObj_heap_other hc) (by simp) rfl rfl rfl
      have := hQ _ _ nxt
      cases pend with
      | none => exact this
      | some c => exact this

theorem Ex.ent {c : Code} {T T' : List AV} {H H' : Hp} {e : Exit} (h : Ex C c T H e T' H') : ∀ {ro : Option Nat}, (ro = none ∨ plainC c = true) → ∀ {B : Nat} {w0 : Base} {E : Env} {a : Act} {w : World}, w0.σ = C.σ → St B w0 E H w → RelL E T a.tmps → ∀ {Q : Exit → Act → World → Prop},
    (∀ a' w', Nxt B w0 E a T' H' a' w' → Q e a' w') → Ent ro P c Q a w := by
  induction h with
  | skip => intro ro _ B w0 E a w hσ hst hT Q hQ; exact wpIn_skip (hQ a w (.plain (.refl E) hst hT rfl))
  | exit => intro ro _ B w0 E a w hσ hst hT Q hQ; exact wpIn_exit (hQ a w (.plain (.refl E) hst hT rfl))
  | ret => intro ro _ B w0 E a w hσ hst hT Q hQ; exact wpIn_ret (hQ a w (.plain (.refl E) hst hT rfl))
  | region h => intro ro _ B w0 E a w hσ hst hT Q hQ; exact wpIn_region (h.wp C hσ hst hT fun E' a' w' e1 e2 e3 e4 => hQ a' w' (.plain e1 e2 e3 e4))
  | draw h => intro ro _ B w0 E a w hσ hst hT Q hQ; exact h _ _ _ _ _ hσ hst hT _ (fun E' a' w' e1 e2 e3 e4 => hQ a' w' (.plain e1 e2 e3 e4)) _ _
  | seq h1 h2 ih1 ih2 =>
    intro ro hp B w0 E a w hσ hst hT Q hQ
    simp only [plainC, Bool.and_eq_true] at hp
    refine wpIn_seq (Ent.wp (ih1 (hp.imp id (·.1)) hσ hst hT (fun a' w' hn => ?_)))
    obtain ⟨E', F', ms, e1, e2, e3, e4, e5⟩ := hn
    exact Ent.wp (ih2 (hp.imp id (·.2)) (w0 := w0.withF F') hσ e3 e4 (fun a2 w2 hn2 => hQ a2 w2 (.trans e1 e2 e5 hn2)))
  | seqX h1 he ih =>
    intro ro hp B w0 E a w hσ hst hT Q hQ
    simp only [plainC, Bool.and_eq_true] at hp
    exact wpIn_seq (Ent.wp (ih (hp.imp id (·.1)) hσ hst hT (fun a' w' hn => then_other he (hQ a' w' hn))))
  | cond hc h ih =>
    intro ro hp B w0 E a w hσ hst hT Q hQ
    rename_i c x y e t
    have hv := rel_evO hT c
    rw [hc] at hv
    generalize hve : a.eval c = v at hv
    cases hv
    simp only [plainC, Bool.and_eq_true] at hp
    exact wpIn_cond hve (Ent.wp (ih (hp.imp id fun hh => by cases t; exact hh.2; exact hh.1) hσ hst hT hQ))
  | condS hc hb h ih =>
    intro ro hp B w0 E a w hσ hst hT Q hQ
    rename_i c x y e b t
    have hv := rel_evO hT c
    rw [hc] at hv
    generalize hve : a.eval c = v at hv
    simp only [plainC, Bool.and_eq_true] at hp
    cases hv with
    | sb hq =>
      have := look_ok (known C hσ hst) hb
      rw [hq] at this
      subst this
      exact wpIn_cond hve (Ent.wp (ih (hp.imp id fun hh => by split; exact hh.1; exact hh.2) hσ hst hT hQ))
  | block h ih =>
    intro ro hp B w0 E a w hσ hst hT Q hQ
    refine wpIn_block (Ent.wp (ih hp hσ hst hT (fun a' w' hn => ?_)))
    rename_i id c e
    have := hQ a' w' hn
    cases e <;> first
      | exact this
      | (simp only [unblock] at this
         simp only [Exit.inBlock]
         split at this
         · rename_i hh; rw [if_pos hh]; exact this
         · rename_i hh; rw [if_neg hh]; exact this)
  | loop h1 h2 ih1 ih2 =>
    intro ro hp B w0 E a w hσ hst hT Q hQ
    refine LoopAt.round (Ent.wp (ih1 hp hσ hst hT (fun a' w' hn => ?_)))
    obtain ⟨E', F', ms, e1, e2, e3, e4, e5⟩ := hn
    exact ih2 hp (w0 := w0.withF F') hσ e3 e4 (fun a2 w2 hn2 => hQ a2 w2 (.trans e1 e2 e5 hn2))
  | loopX h1 he ih =>
    intro ro hp B w0 E a w hσ hst hT Q hQ
    exact LoopAt.round (Ent.wp (ih hp hσ hst hT (fun a' w' hn => then_other he (hQ a' w' hn))))
  | rangeN hf hg hl hb =>
    intro ro hp B w0 E a w hσ hst hT Q hQ
    rcases hp with rfl | hp
    · exact range_wp C hσ hst hT hf hg hl hb fun a' w' hn => hQ a' w' hn
    · cases hp
  | rangeX hf hg hl hb h ih =>
    intro ro hp B w0 E a w hσ hst hT Q hQ
    rcases hp with rfl | hp
    · refine range_wp C hσ hst hT hf hg hl hb fun a' w' hn => ?_
      obtain ⟨E', F', ms, e1, e2, e3, e4, e5⟩ := hn
      exact Ent.wp (ih (.inl rfl) (w0 := w0.withF F') hσ e3 e4 (fun a2 w2 hn2 => hQ a2 w2 (.trans e1 e2 e5 hn2)))
    · cases hp

/-! ### rounds -/
def putsA : List AV → List Tmp → List AV → List AV
  | T, p :: ps, x :: xs => putsA (T.set p x) ps xs
  | T, _, _ => T

theorem puts_rel {E : Env} : ∀ (ps : List Tmp) (xs : List AV) (vs : List Value) {T : List AV} {tmps : Array Value}, RelL E T tmps → vs.length = xs.length → (∀ (i : Nat) (x : AV) (v : Value), xs[i]? = some x → vs[i]? = some v → Rel E x v) →
    RelL E (putsA T ps xs) ((ps.zip vs).foldl (fun t (p : Tmp × Value) => t.setIfInBounds p.1 p.2) tmps)
  | [], xs, vs, T, tmps, h, _, _ => by cases xs <;> exact h
  | p :: ps, [], vs, T, tmps, h, hl, _ => by
    have : vs = [] := List.eq_nil_of_length_eq_zero hl
    subst this
    exact h
  | p :: ps, x :: xs, [], T, tmps, h, hl, _ => by simp at hl
  | p :: ps, x :: xs, v :: vs, T, tmps, h, hl, hr => by
    refine puts_rel ps xs vs ?_ (by simpa using hl) (fun i x v a b => hr (i + 1) x v (by simpa using a) (by simpa using b))
    exact relL_put (a := ⟨tmps, []⟩) h (hr 0 x v rfl rfl) (some p)

/-- How a loop's body is left, and what is left to do then. -/
def jumpOf : Exit → Option (Option Code)
  | .normal => some none
  | .ret => some (some .ret)
  | .exit id => some (some (.exit id))
  | _ => none

theorem good_y {id : Nat} {T xs T1 T2 : List AV} {ps : Array Tmp} {assign body : Code} {H H1 H2 : Hp} {e : Exit} {j : Option Code} (hl : H.get id = some (.loop ⟨T, ps, assign, body⟩ .ready none)) (hn : xs.length = ps.size)
    (hpa : plainC assign = true) (ha : Ex C assign (putsA T ps.toList xs) H .normal T1 H1) (hl1 : H1.get id = some (.loop ⟨T, ps, assign, body⟩ .ready none))
    (hpb : plainC body = true) (hb : Ex C body T1 (H1.set id (some (.loop ⟨T, ps, assign, body⟩ .busy none))) e T2 H2) (hl2 : H2.get id = some (.loop ⟨T, ps, assign, body⟩ .busy none)) (hj : jumpOf e = some j) :
    GoodY P C.σ id xs H (.lit (.bool j.isNone)) (H2.set id (some (.loop ⟨T, ps, assign, body⟩ (if j.isNone then .ready else .done) j))) := by
  intro B w0 E w vs b o n hσ hst hρ hxs
  obtain ⟨b', o', n', p1, p2, p3, fn, tmps, D, p4, p5⟩ := hst.live _ _ hl
  rw [hρ] at p1
  cases p1
  have hvs : vs.size = ps.size := by rw [hxs.len, hn]
  refine ⟨fn, _, assign, body, run_yield p4 hvs, ?_⟩
  have hrel : RelL E (putsA T ps.toList xs) ((ps.zip vs).foldl (fun t (p : Tmp × Value) => t.setIfInBounds p.1 p.2) tmps) := by
    have := puts_rel (E := E) ps.toList xs vs.toList p5 (by simpa using hxs.len) (fun i x v a c => hxs.at_ i x v a (by simpa using c))
    have e : (ps.zip vs).foldl (fun t (p : Tmp × Value) => t.setIfInBounds p.1 p.2) tmps = (ps.toList.zip vs.toList).foldl (fun t (p : Tmp × Value) => t.setIfInBounds p.1 p.2) tmps := by
      rw [← Array.foldl_toList, Array.toList_zip]
    rw [e]; exact this
  refine roundIn_of_wpIn (F := Fence.wide) trivial ?_
  refine Ent.wp (ro := some b) (ha.ent C (.inr hpa) hσ hst hrel fun a1 w1 hn1 => ?_)
  obtain ⟨E1, F1, ms1, e1, e2, e3, e4, e5⟩ := hn1
  have hρ1 := e1.ρ _ _ hρ
  obtain ⟨b', o', n', q1, q2, q3, fn1, tmps1, D1, q4, q5⟩ := e3.live _ _ hl1
  rw [hρ1] at q1
  cases q1
  refine ⟨_, run_beginRound q4 rfl, ?_⟩
  have hlt1 := (Array.getElem?_eq_some_iff.1 q4).1
  have st2 := e3.write hl1 hρ1 (w' := w1.putObj b (.loop ⟨.busy, none, fn1, tmps1, ps, assign, body, D1⟩)) (k' := .loop ⟨T, ps, assign, body⟩ .busy none) (fun c hc => World.putObj_heap_other hc) (by simp) rfl rfl rfl
    ⟨fn1, tmps1, D1, World.putObj_heap_same hlt1, q5⟩
  refine Ent.wp (ro := some b) (hb.ent C (.inr hpb) (w0 := w0.withF F1) hσ st2 e4 fun a2 w2 hn2 => ?_)
  obtain ⟨E2, F2, ms2, f1, f2, f3, f4, f5⟩ := hn2
  have hρ2 := f1.ρ _ _ hρ1
  obtain ⟨b', o', n', r1, r2, r3, fn2, tmps2, D2, r4, r5⟩ := f3.live _ _ hl2
  rw [hρ2] at r1
  cases r1
  have hlt2 := (Array.getElem?_eq_some_iff.1 r4).1
  have fin : ∃ v w', (Instr.endRound b j).run P w2 = .ok v w' ∧ ∃ E' u, Ending.returned v = .returned u ∧ E.Ext E' ∧ St B w0 E' (H2.set id (some (.loop ⟨T, ps, assign, body⟩ (if j.isNone then .ready else .done) j))) w' ∧ Rel E' (.lit (.bool j.isNone)) u := by
    refine ⟨_, _, run_endRound j r4, E2, _, rfl, e1.trans f1, ?_, .lit _⟩
    have := f3.write hl2 hρ2 (w' := w2.putObj b (.loop ⟨if j.isNone then .ready else .done, j, fn2, tmps2, ps, assign, body, D2⟩)) (k' := .loop ⟨T, ps, assign, body⟩ (if j.isNone then .ready else .done) j) (fun c hc => World.putObj_heap_other hc) (by simp) rfl rfl rfl
      ⟨fn2, tmps2, D2, World.putObj_heap_same hlt2, r5⟩
    exact this.lessF (F0 := w0.F) fun c o h => f2.sub c o (e2.sub c o h)
  cases e with
  | normal => cases hj; exact fin
  | ret => cases hj; exact fin
  | exit i => cases hj; exact fin
  | _ => cases hj

/-- The end of a function that holds loops over functions. -/
theorem leaves_marks {fn : Func} {tmps : Array Value} {R : Ending → World → Prop} {B : Nat} {w0 : Base} {E : Env} {H : Hp} (hfin : ∀ w, St B w0 E H w → ∃ v, (results fn tmps).run P w = .ok v w ∧ R (.returned v) w) :
    ∀ (ms : List Deferred) (F : Nat → Option Obj) (w : World), St B (w0.withF F) E H w → Marks B w0.F F ms → LeavesInM Fence.wide 0 P fn tmps R ms .returning w
  | [], F, w, hst, hm => hfin w (hst.lessF (F0 := w0.F) hm.sub)
  | m :: ms, F, w, hst, hm => by
    refine ⟨by simp, .inl ?_⟩
    obtain ⟨d, e1, e2, e3, e4⟩ := hm.each m (by simp)
    obtain ⟨h1, h2⟩ := hst.fr d _ e4
    refine ⟨d, w.putObj d (.deferred none), by rw [e1], run_takeDeferred h1, ?_⟩
    have hsub : ∀ c o, (if c = d then none else F c) = some o → F c = some o := by
      intro c o h
      split at h
      · cases h
      · exact h
    refine leaves_marks hfin ms (fun c => if c = d then none else F c) _ (hst.wild hsub e2 h2 (by simp) (fun i k hi p hp hpd => ?_) (fun c hc => World.putObj_heap_other hc) (by simp) rfl rfl rfl) ⟨fun b o hb => ?_, fun m' hm' => ?_, (List.nodup_cons.1 hm.nd).2⟩
    · have := hst.frl i k hi p hp
      rw [hpd] at this
      have e4 : (w0.withF F).F d = some (.deferred (some [])) := e4
      rw [e4] at this
      cases this
    · show (if b = d then none else F b) = some o
      split
      · rename_i e; subst e; rw [e3] at hb; cases hb
      · exact hm.sub b o hb
    · obtain ⟨d', f1, f2, f3, f4⟩ := hm.each m' (by simp [hm'])
      refine ⟨d', f1, f2, f3, ?_⟩
      show (if d' = d then none else F d') = _
      split
      · rename_i e
        subst e
        rw [← e1] at f1
        subst f1
        exact absurd hm' (List.nodup_cons.1 hm.nd).1
      · exact f4

/-! ### functions -/
def resA (ti : Nat → Option TI) (T : List AV) (H : Hp) : ResultVar → Option AV
  | .tmp t => some (T.getD t (.lit undef))
  | .cell a t => loadA ti H t (T.getD a (.lit undef))

def ressA (ti : Nat → Option TI) (T : List AV) (H : Hp) : List ResultVar → Option (List AV)
  | [] => some []
  | r :: rs => match resA ti T H r, ressA ti T H rs with
    | some x, some xs => some (x :: xs)
    | _, _ => none

def resultA (ti : Nat → Option TI) (T : List AV) (H : Hp) (rs : List ResultVar) : Option AV :=
  match ressA ti T H rs with
  | some [x] => some x
  | some xs => some (.tup xs)
  | none => none

theorem res_ok {B : Nat} {w0 : Base} {E : Env} {H : Hp} {w : World} (h : St B w0 E H w) {T : List AV} {tmps : Array Value} (hT : RelL E T tmps) {r : ResultVar} {x : AV} (hr : resA C.ti T H r = some x) :
    ∃ v, ((match r with | .tmp t => pure (tmps.getD t undef) | .cell a t => do loadVar t (← asAddr (tmps.getD a undef)) : Sem Value)).run P w = .ok v w ∧ Rel E x v := by
  have hget : ∀ t, Rel E (T.getD t (.lit undef)) (tmps.getD t undef) := fun t => rel_evO (a := ⟨tmps, []⟩) hT (.tmp t)
  cases r with
  | tmp t => simp only [resA, Option.some.injEq] at hr; subst hr; exact ⟨_, rfl, hget t⟩
  | cell a t =>
    simp only [resA] at hr
    obtain ⟨u, h1, h2⟩ := loadA_ok (P := P) C.hti h (hget a) hr
    refine ⟨u, ?_, h2⟩
    have hv := hget a
    unfold loadA at hr
    generalize hval : tmps.getD a undef = v at h1 hv
    unfold Instr.loadAt Instr.sureAddr at h1
    cases v <;> simp only [Sem.run_bind, run_stuck, Result.andThen] at h1 <;> try (cases h1; done)
    rename_i o
    cases o with
    | none => simp at h1
    | some ad =>
      simp only [Sem.run_bind, Sem.run_pure, Result.andThen] at h1
      have : (asAddr (tmps.getD a undef)).run P w = .ok ad w := by rw [hval]; rfl
      simp only [Sem.run_bind, this, Result.andThen]
      exact h1

theorem ress_ok {B : Nat} {w0 : Base} {E : Env} {H : Hp} {w : World} (h : St B w0 E H w) {T : List AV} {tmps : Array Value} (hT : RelL E T tmps) : ∀ (rs : List ResultVar) {xs : List AV}, ressA C.ti T H rs = some xs →
    ∃ vs : List Value, (rs.mapM (fun r => (match r with | .tmp t => pure (tmps.getD t undef) | .cell a t => do loadVar t (← asAddr (tmps.getD a undef)) : Sem Value))).run P w = .ok vs w ∧ RelL E xs vs.toArray
  | [], xs, hr => by simp [ressA] at hr; subst hr; exact ⟨[], rfl, ⟨rfl, fun i x v hx => by simp at hx⟩⟩
  | r :: rs, xs, hr => by
    simp only [ressA] at hr
    cases h1 : resA C.ti T H r with
    | none => simp [h1] at hr
    | some x =>
      cases h2 : ressA C.ti T H rs with
      | none => simp [h1, h2] at hr
      | some ys =>
        simp [h1, h2] at hr
        subst hr
        obtain ⟨v, p1, p2⟩ := res_ok C h hT h1
        obtain ⟨vs, q1, q2⟩ := ress_ok h hT rs h2
        refine ⟨v :: vs, ?_, ⟨by have := q2.len; simp at this ⊢; exact this, fun i z u hz hu => ?_⟩⟩
        · simp only [List.mapM_cons, Sem.run_bind, p1, Result.andThen, q1, Sem.run_pure]
        · cases i with
          | zero => simp at hz hu; subst hz; subst hu; exact p2
          | succ i => exact q2.at_ i z u (by simpa using hz) (by simpa using hu)

def resF (tmps : Array Value) (r : ResultVar) : Sem Value :=
  match r with
  | .tmp t => pure (tmps.getD t undef)
  | .cell a t => do loadVar t (← asAddr (tmps.getD a undef))

theorem results_run (fn : Func) (tmps : Array Value) (w : World) {vs : List Value} (h : (fn.results.toList.mapM (resF tmps)).run P w = .ok vs w) :
    (results fn tmps).run P w = .ok (if h : vs.toArray.size = 1 then vs.toArray[0] else .tuple vs.toArray) w := by
  have : (results fn tmps).run P w = ((fn.results.toList.mapM (resF tmps)).run P w).andThen fun l w' => .ok (if h : l.toArray.size = 1 then l.toArray[0] else .tuple l.toArray) w' := by
    simp only [results, Array.mapM_eq_mapM_toList, Sem.run_bind, Sem.run_map]
    have e : (fn.results.toList.mapM (fun | .tmp t => pure (tmps.getD t undef) | .cell a t => do loadVar t (← asAddr (tmps.getD a undef)) : ResultVar → Sem Value)) = fn.results.toList.mapM (resF tmps) := rfl
    change (((fn.results.toList.mapM (resF tmps)).run P w).andThen _).andThen _ = _
    cases (fn.results.toList.mapM (resF tmps)).run P w <;> rfl
  rw [this, h]
  rfl

/-- A function, by what its body has to come to. -/
theorem good_of_ent {σ : Sig} {f : Nat} {fn : Func} {c : Code} {xs : List AV} {H H' : Hp} {T' : List AV} {r : AV} (hti : ∀ t i, C.ti t = some i → tiOf P t = some i) (hf : P.funcs[f]? = some fn) (hb : fn.body = some c) (hn : (fn.name == "runtime.NumGoroutine") = false)
    (h : ∀ {B : Nat} {w0 : Base} {E : Env} {a : Act} {w : World}, w0.σ = σ → St B w0 E H w → RelL E (xs ++ List.replicate (fn.ntmps - xs.length) (.lit undef)) a.tmps → ∀ {Q : Exit → Act → World → Prop}, (∀ e a' w', e = .normal ∨ e = .ret → Nxt B w0 E a T' H' a' w' → Q e a' w') → Ent none P c Q a w)
    (hr : resultA C.ti T' H' fn.results.toList = some r) : Good P σ f xs H r H' := by
  refine ⟨⟨fn, hf, hn, by rw [hb]; rfl⟩, fun B w0 E w vs hσ hst hxs => ?_⟩
  refine callsIn_wide.1 (callsIn_of_wp_marks (F := Fence.wide) (n := 0) hf hb trivial ?_)
  have hT : RelL E (xs ++ List.replicate (fn.ntmps - xs.length) (.lit undef)) (vs ++ Array.replicate (fn.ntmps - vs.size) undef) := by
    have hl := hxs.len
    refine ⟨by simp [hl], fun i x v hx hv => ?_⟩
    by_cases hi : i < xs.length
    · rw [List.getElem?_append_left hi] at hx
      rw [Array.getElem?_append_left (by omega)] at hv
      exact hxs.at_ i x v hx hv
    · rw [List.getElem?_append_right (by omega), List.getElem?_replicate] at hx
      rw [Array.getElem?_append_right (by omega), Array.getElem?_replicate] at hv
      split at hx
      · cases hx
        split at hv
        · cases hv; exact .lit _
        · cases hv
      · cases hx
  refine Ent.wp (ro := none) (h (a := ⟨_, []⟩) hσ hst hT (fun e a' w' he hn => ?_))
  obtain ⟨E', F', ms, e1, e2, e3, e4, e5⟩ := hn
  have e5 : a'.defers = ms := by rw [e5]; exact List.append_nil ms
  have main : ∀ w2, St B w0 E' H' w2 → ∃ v, (results fn a'.tmps).run P w2 = .ok v w2 ∧ Rel E' r v := by
    intro w2 e2
    unfold resultA at hr
    split at hr
    · rename_i x hx
      cases hr
      obtain ⟨vs, p1, p2⟩ := ress_ok C e2 e4 _ hx
      have hl : vs.length = 1 := by have := p2.len; simpa using this
      match vs, hl with
      | [v], _ =>
        exact ⟨v, results_run fn a'.tmps w2 p1, p2.at_ 0 _ v rfl (by simp)⟩
    · rename_i xs' hne hx
      cases hr
      obtain ⟨vs, p1, p2⟩ := ress_ok C e2 e4 _ hx
      have hl : vs.length = xs'.length := by have := p2.len; simpa using this
      refine ⟨.tuple vs.toArray, ?_, .tup p2.len p2.at_⟩
      have hn1 : ¬ vs.toArray.size = 1 := by
        intro h1
        have h1 : xs'.length = 1 := by rw [← hl]; simpa using h1
        match xs', h1 with
        | [x], _ => exact hne x rfl
      have := results_run fn a'.tmps w2 p1
      rwa [dif_neg hn1] at this
    · cases hr
  have fin := leaves_marks (R := fun e w' => ∃ E' v, e = Ending.returned v ∧ E.Ext E' ∧ St B w0 E' H' w' ∧ Rel E' r v) (fun w2 h2 => let ⟨v, p1, p2⟩ := main w2 h2; ⟨v, p1, E', v, rfl, e1, h2, p2⟩) ms F' w' e3 e2
  rw [← e5] at fin
  rcases he with rfl | rfl
  · exact fin
  · exact fin

theorem good_of_body {f : Nat} {fn : Func} {c : Code} {xs : List AV} {H H' : Hp} {T' : List AV} {e : Exit} {r : AV} (hf : P.funcs[f]? = some fn) (hb : fn.body = some c) (hn : (fn.name == "runtime.NumGoroutine") = false)
    (h : Ex C c (xs ++ List.replicate (fn.ntmps - xs.length) (.lit undef)) H e T' H') (he : e = .normal ∨ e = .ret) (hr : resultA C.ti T' H' fn.results.toList = some r) : Good P C.σ f xs H r H' :=
  good_of_ent C C.hti hf hb hn (fun hσ hst hT Q hQ => h.ent C (.inl rfl) hσ hst hT fun a' w' hn => hQ _ a' w' he hn) hr
end
end Go.Proofs.Ytikcninaepoojaa.Ev

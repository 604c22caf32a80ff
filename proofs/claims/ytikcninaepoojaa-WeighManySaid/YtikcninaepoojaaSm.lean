/- Code by what it does: a judgement that is put together by hand where the evaluator alone does not get through (loops, joins). -/
import Derived.Test.YtikcninaepoojaaLaw
namespace Go.Proofs.Ytikcninaepoojaa.Ev
open Go.RowKit (Below)
set_option linter.unusedVariables false
set_option linter.unusedSimpArgs false

/-- From this state the code ends so, in that state. -/
def Sm (P : Program) (σ : Sig) (c : Code) (T : List AV) (H : Hp) (e : Exit) (T' : List AV) (H' : Hp) : Prop :=
  ∀ ⦃ro : Option Nat⦄, (ro = none ∨ plainC c = true) → ∀ ⦃B : Nat⦄ ⦃w0 : Base⦄ ⦃E : Env⦄ ⦃a : Act⦄ ⦃w : World⦄, w0.σ = σ → St B w0 E H w → RelL E T a.tmps → ∀ ⦃Q : Exit → Act → World → Prop⦄,
    (∀ a' w', Nxt B w0 E a T' H' a' w' → Q e a' w') → Ent ro P c Q a w

/-- A state that tells no more than another. -/
def Wk (σ : Sig) (T : List AV) (H : Hp) (T' : List AV) (H' : Hp) : Prop :=
  ∀ ⦃B : Nat⦄ ⦃w0 : Base⦄ ⦃E : Env⦄ ⦃tmps : Array Value⦄ ⦃w : World⦄, w0.σ = σ → St B w0 E H w → RelL E T tmps → ∃ E', E.Ext E' ∧ St B w0 E' H' w ∧ RelL E' T' tmps

section
variable {P : Program} {σ : Sig}

theorem Sm.of_ex (C : Ctx P) {c : Code} {T T' : List AV} {H H' : Hp} {e : Exit} (h : Ex C c T H e T' H') : Sm P C.σ c T H e T' H' :=
  fun ro hp B w0 E a w hσ hst hT Q hQ => h.ent C hp hσ hst hT hQ

theorem Sm.wk {c : Code} {T T1 T2 : List AV} {H H1 H2 : Hp} {e : Exit} (h : Sm P σ c T H e T1 H1) (k : Wk σ T1 H1 T2 H2) : Sm P σ c T H e T2 H2 :=
  fun ro hp B w0 E a w hσ hst hT Q hQ => h hp hσ hst hT fun a1 w1 hn =>
    let ⟨E1, F', ms, e1, e2, e3, e4, e5⟩ := hn
    let ⟨E2, f1, f2, f3⟩ := k (w0 := w0.withF F') hσ e3 e4
    hQ a1 w1 ⟨E2, F', ms, e1.trans f1, e2, f2, f3, e5⟩

theorem Sm.pre {c : Code} {T0 T T1 : List AV} {H0 H H1 : Hp} {e : Exit} (k : Wk σ T0 H0 T H) (h : Sm P σ c T H e T1 H1) : Sm P σ c T0 H0 e T1 H1 :=
  fun ro hp B w0 E a w hσ hst hT Q hQ =>
    let ⟨E2, f1, f2, f3⟩ := k hσ hst hT
    h hp hσ f2 f3 fun a1 w1 hn =>
      let ⟨E1, F', ms, e1, e2, e3, e4, e5⟩ := hn
      hQ a1 w1 ⟨E1, F', ms, f1.trans e1, e2, e3, e4, e5⟩

theorem Sm.seq {x y : Code} {T T1 T2 : List AV} {H H1 H2 : Hp} {e : Exit} (h1 : Sm P σ x T H .normal T1 H1) (h2 : Sm P σ y T1 H1 e T2 H2) : Sm P σ (.seq x y) T H e T2 H2 :=
  fun ro hp B w0 E a w hσ hst hT Q hQ => by
    simp only [plainC, Bool.and_eq_true] at hp
    refine wpIn_seq (Ent.wp (h1 (hp.imp id (·.1)) hσ hst hT fun a1 w1 hn => ?_))
    obtain ⟨E', F', ms, e1, e2, e3, e4, e5⟩ := hn
    exact Ent.wp (h2 (hp.imp id (·.2)) (w0 := w0.withF F') hσ e3 e4 fun a2 w2 hn2 => hQ a2 w2 (.trans e1 e2 e5 hn2))

theorem Sm.seqX {x y : Code} {T T1 : List AV} {H H1 : Hp} {e : Exit} (h1 : Sm P σ x T H e T1 H1) (he : e ≠ .normal) : Sm P σ (.seq x y) T H e T1 H1 :=
  fun ro hp B w0 E a w hσ hst hT Q hQ => by
    simp only [plainC, Bool.and_eq_true] at hp
    exact wpIn_seq (Ent.wp (h1 (hp.imp id (·.1)) hσ hst hT fun a1 w1 hn => then_other he (hQ a1 w1 hn)))

theorem Sm.block {id : Nat} {c : Code} {T T1 : List AV} {H H1 : Hp} {e : Exit} (h : Sm P σ c T H e T1 H1) : Sm P σ (.block id c) T H (unblock id e) T1 H1 :=
  fun ro hp B w0 E a w hσ hst hT Q hQ => wpIn_block (Ent.wp (h hp hσ hst hT fun a' w' hn => by
    have := hQ a' w' hn
    cases e <;> first
      | exact this
      | (simp only [unblock] at this
         simp only [Exit.inBlock]
         split at this
         · rename_i hh; rw [if_pos hh]; exact this
         · rename_i hh; rw [if_neg hh]; exact this)))

theorem Sm.loop {c : Code} {T T1 T2 : List AV} {H H1 H2 : Hp} {e : Exit} (h1 : Sm P σ c T H .normal T1 H1) (h2 : Sm P σ (.loop c) T1 H1 e T2 H2) : Sm P σ (.loop c) T H e T2 H2 :=
  fun ro hp B w0 E a w hσ hst hT Q hQ => LoopAt.round (Ent.wp (h1 hp hσ hst hT fun a1 w1 hn => by
    obtain ⟨E', F', ms, e1, e2, e3, e4, e5⟩ := hn
    exact h2 hp (w0 := w0.withF F') hσ e3 e4 fun a2 w2 hn2 => hQ a2 w2 (.trans e1 e2 e5 hn2)))

theorem Sm.loopX {c : Code} {T T1 : List AV} {H H1 : Hp} {e : Exit} (h1 : Sm P σ c T H e T1 H1) (he : e ≠ .normal) : Sm P σ (.loop c) T H e T1 H1 :=
  fun ro hp B w0 E a w hσ hst hT Q hQ => LoopAt.round (Ent.wp (h1 hp hσ hst hT fun a1 w1 hn => then_other he (hQ a1 w1 hn)))

/-- A loop whose rounds go through a row of states. -/
theorem Sm.rounds {c : Code} {e : Exit} {T' : List AV} {H' : Hp} (S : Nat → List AV × Hp) (n : Nat) (hr : ∀ i, i < n → Sm P σ c (S i).1 (S i).2 .normal (S (i + 1)).1 (S (i + 1)).2)
    (hx : Sm P σ (.loop c) (S n).1 (S n).2 e T' H') : Sm P σ (.loop c) (S 0).1 (S 0).2 e T' H' := by
  have : ∀ k, k ≤ n → Sm P σ (.loop c) (S (n - k)).1 (S (n - k)).2 e T' H' := by
    intro k
    induction k with
    | zero => intro _; exact hx
    | succ k ih =>
      intro hk
      have := hr (n - (k + 1)) (by omega)
      rw [show n - (k + 1) + 1 = n - k by omega] at this
      exact .loop this (ih (by omega))
  have := this n (Nat.le_refl _)
  rwa [Nat.sub_self] at this

theorem good_of_sm {f : Nat} {fn : Func} {c : Code} {xs : List AV} {H H' : Hp} {T' : List AV} {e : Exit} {r : AV} (C : Ctx P) (hσ : C.σ = σ) (hf : P.funcs[f]? = some fn) (hb : fn.body = some c) (hn : (fn.name == "runtime.NumGoroutine") = false)
    (h : Sm P σ c (xs ++ List.replicate (fn.ntmps - xs.length) (.lit undef)) H e T' H') (he : e = .normal ∨ e = .ret) (hr : resultA C.ti T' H' fn.results.toList = some r) : Good P σ f xs H r H' :=
  good_of_ent C C.hti hf hb hn (fun hσ hst hT Q hQ => h (.inl rfl) hσ hst hT fun a' w' hn => hQ _ a' w' he hn) hr

/-! ### weakening, by computing -/
def exEq : Exit → Exit → Bool
  | .normal, .normal => true
  | .exit i, .exit j => Nat.beq i j
  | .ret, .ret => true
  | _, _ => false

/-- y tells no more than x. -/
def leA (kn : List (BExp × Bool)) (x y : AV) : Bool :=
  AV.beq x y || match y with
    | .any => true
    | .sy k e => match toI x with
      | some (k', e') => decide (k = k') && (match look kn (.cmp .eql e' e) with | some b => b | none => false)
      | none => false
    | _ => false

def leL (kn : List (BExp × Bool)) : List AV → List AV → Bool
  | [], [] => true
  | x :: xs, y :: ys => leA kn x y && leL kn xs ys
  | _, _ => false

theorem leA_ok {kn : List (BExp × Bool)} {E : Env} (hk : Known E.σ kn) {x y : AV} (h : leA kn x y = true) {v : Value} (hr : Rel E x v) : Rel E y v := by
  unfold leA at h
  simp only [Bool.or_eq_true] at h
  rcases h with h | h
  · rw [← AV.beq_eq h]; exact hr
  · split at h
    · exact .any v
    · split at h
      · rename_i k' e' he'
        have e1 := toI_ok hr he'
        subst e1
        simp only [Bool.and_eq_true, decide_eq_true_eq] at h
        obtain ⟨rfl, h⟩ := h
        split at h
        · rename_i b hb
          subst h
          have := look_ok hk hb
          exact .sy (by simpa [BExp.eval, icmp, eq_comm] using this)
        · cases h
      · cases h
    · cases h

theorem leL_ok {kn : List (BExp × Bool)} {E : Env} (hk : Known E.σ kn) : ∀ {xs ys : List AV}, leL kn xs ys = true → xs.length = ys.length ∧ ∀ (i : Nat) (y : AV), ys[i]? = some y → ∃ x, xs[i]? = some x ∧ ∀ v, Rel E x v → Rel E y v
  | [], [], _ => ⟨rfl, fun i y h => by simp at h⟩
  | x :: xs, y :: ys, h => by
    simp only [leL, Bool.and_eq_true] at h
    obtain ⟨h1, h2⟩ := leL_ok hk h.2
    refine ⟨by simp [h1], fun i z hz => ?_⟩
    cases i with
    | zero => simp at hz; subst hz; exact ⟨x, rfl, fun v hr => leA_ok hk h.1 hr⟩
    | succ i => simpa using h2 i z (by simpa using hz)
  | [], _ :: _, h => by simp [leL] at h
  | _ :: _, [], h => by simp [leL] at h

/-- Block by block: what the second heap tells, the first one tells. -/
def leB (kn : List (BExp × Bool)) : Option Blk → Blk → Bool
  | some (.cells cs ex), .cells ds ex' => leL kn cs ds && (ex == ex')
  | _, _ => false

def leH (kn : List (BExp × Bool)) (H H' : Hp) : Bool :=
  Nat.ble H.n H'.n && H'.t.toL.all fun p => Nat.blt p.1 H'.n && leB kn (H.get p.1) p.2

theorem wk_of {σ : Sig} {kn : List (BExp × Bool)} (hk : Known σ kn) {T T' : List AV} {H H' : Hp} (hT : leL kn T T' = true) (hH : leH kn H H' = true) : Wk σ T H T' H' := by
  intro B w0 E tmps w hσ hst hrel
  have hk : Known E.σ kn := by rw [hst.sig, hσ]; exact hk
  simp only [leH, Bool.and_eq_true] at hH
  have hn := Nat.le_of_ble_eq_true hH.1
  have hall := List.all_eq_true.1 hH.2
  have each : ∀ id k, H'.get id = some k → id < H'.n ∧ leB kn (H.get id) k = true := fun id k h => by
    have := hall (id, k) (Tr.mem_toL _ h)
    simp only [Bool.and_eq_true, Nat.blt] at this
    exact ⟨Nat.le_of_ble_eq_true this.1, this.2⟩
  have old : ∀ id k, H'.get id = some k → ∃ cs ds ex, H.get id = some (.cells cs ex) ∧ k = .cells ds ex ∧ leL kn cs ds = true := fun id k h => by
    have := (each id k h).2
    unfold leB at this
    split at this
    · rename_i cs ex ds ex' he
      simp only [Bool.and_eq_true, beq_iff_eq] at this
      obtain ⟨h1, rfl⟩ := this
      exact ⟨cs, ds, ex, he, rfl, h1⟩
    · cases this
  refine ⟨E, .refl E, ⟨hst.below, hst.size, hst.ro, fun id h => hst.dom id (by omega), fun id h => ?_, fun id k h => ?_, fun i j k l hi hj hne => ?_, hst.rob, hst.fr, fun i k h => ?_, hst.sig⟩, ?_⟩
  · cases hg : H'.get id with
    | none => rfl
    | some k => have := (each id k hg).1; omega
  · obtain ⟨cs, ds, ex, e1, rfl, e2⟩ := old id k h
    obtain ⟨b, o, n, r1, r2, r3, c, ty, lo, hi, p1, p2, p3, p4, p5, p6⟩ := hst.live id _ e1
    obtain ⟨l1, l2⟩ := leL_ok hk e2
    refine ⟨b, o, n, r1, r2, r3, c, ty, lo, hi, p1, p2, by omega, fun he => by have := p4 he; omega, p5, fun j y hy => ?_⟩
    obtain ⟨x, hx, hxy⟩ := l2 j y hy
    obtain ⟨v, hv, hr⟩ := p6 j x hx
    exact ⟨v, hv, hxy v hr⟩
  · obtain ⟨cs, ds, ex, e1, _, _⟩ := old i k hi
    obtain ⟨cs', ds', ex', e1', _, _⟩ := old j l hj
    exact hst.disj i j _ _ e1 e1' hne
  · obtain ⟨cs, ds, ex, e1, _, _⟩ := old i k h
    exact hst.frl i _ e1
  · obtain ⟨l1, l2⟩ := leL_ok hk hT
    refine ⟨by rw [hrel.len, l1], fun i y v hy hv => ?_⟩
    obtain ⟨x, hx, hxy⟩ := l2 i y hy
    exact hxy v (hrel.at_ i x v hx hv)

/-- A piece of code run by the evaluator, and weakened. -/
theorem sm_run {P : Program} (C : Ctx P) (hm : P.follows .mixedOrders = true) {call : Nat → List AV → Hp → Option (AV × Hp)} (hcall : ∀ g xs H r H', call g xs H = some (r, H') → Good P C.σ g xs H r H') {L : Nat} {c : Code} {T T' : List AV} {H H' : Hp} {e : Exit}
    (h : (match evC C call L c T H with
      | some (e1, T1, H1) => exEq e1 e && (leL C.as T1 T' && leH C.as H1 H')
      | none => false) = true) : Sm P C.σ c T H e T' H' := by
  split at h
  · rename_i e1 T1 H1 he
    simp only [Bool.and_eq_true] at h
    have := exEq_ok h.1
    subst this
    exact (Sm.of_ex C (evC_ok C hcall hm L c he)).wk (wk_of C.has h.2.1 h.2.2)
  · cases h
where
  exEq_ok {e1 e : Exit} (h : exEq e1 e = true) : e1 = e := by
    unfold exEq at h
    split at h
    · rfl
    · rw [Nat.eq_of_beq_eq_true h]
    · rfl
    · cases h

end
end Go.Proofs.Ytikcninaepoojaa.Ev

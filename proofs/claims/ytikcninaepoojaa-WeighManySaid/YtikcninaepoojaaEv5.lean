/- Places, lengths, slices. -/
import Derived.Test.YtikcninaepoojaaEv4
import Derived.Deep.Upon
namespace Go.Proofs.Ytikcninaepoojaa.Ev
open Go.RowKit (Below)
set_option linter.unusedVariables false
set_option linter.unusedSimpArgs false
set_option linter.unusedSectionVars false

section
variable {P : Program} {ti : Nat → Option TI} (hti : ∀ t i, ti t = some i → tiOf P t = some i)
variable {B : Nat} {w0 : Base} {E : Env} {H : Hp} {w : World}

/-! ### places -/
def shiftA (x : AV) (k : Nat) : Option AV :=
  match x with
  | .ptr id o => some (.ptr id (o + k))
  | .ip cs => some (.ip (cs.drop k))
  | _ => none

theorem shiftA_ok {x y : AV} {v : Value} {k : Nat} (hx : Rel E x v) (h : shiftA x k = some y) : ∃ a, v = .pointer (some a) ∧ Rel E y (.pointer (some (a.add k))) := by
  cases hx <;> simp only [shiftA, Option.some.injEq] at h <;> try (cases h)
  case ptr id off b o n hρ => exact ⟨_, rfl, by rw [addr_add, Nat.add_assoc]; exact .ptr hρ⟩
  case ip b o cs val hro hrel =>
    refine ⟨_, rfl, ?_⟩
    rw [addr_add]
    exact .ip (fun j => val (k + j)) (fun j x hj => by rw [Nat.add_assoc]; rw [List.getElem?_drop] at hj; exact hro _ _ hj) (fun j x hj => by rw [List.getElem?_drop] at hj; exact hrel _ _ hj)

def fieldAddrA (ti : Nat → Option TI) (t : Nat) (x : AV) (f : Nat) : Option AV :=
  match ti t with
  | some ⟨.struct fs, _, _, _⟩ => match fs[f]? with
    | some (off, ft) => match ti ft with
      | some j => bif Nat.beq j.size 0 then none else shiftA x off
      | none => none
    | none => none
  | _ => none

include hti in
theorem fieldAddrA_ok {t f : Nat} {x y : AV} {v : Value} (hx : Rel E x v) (hf : fieldAddrA ti t x f = some y) (w : World) : ∃ u, (Instr.fieldAt t v f).run P w = .ok u w ∧ Rel E y u := by
  unfold fieldAddrA at hf
  split at hf
  · rename_i fs a b z hi
    obtain ⟨ht⟩ := tiOf_ok (hti _ _ hi)
    obtain ⟨gs, hd, rfl⟩ := ht.struct
    split at hf
    · rename_i off ft hfs
      simp only [List.getElem?_map, Option.map_eq_some_iff, Array.getElem?_toList] at hfs
      obtain ⟨g, hg, hgg⟩ := hfs
      simp only [Prod.mk.injEq] at hgg
      obtain ⟨rfl, rfl⟩ := hgg
      split at hf
      · rename_i j hj
        obtain ⟨ht2⟩ := tiOf_ok (hti _ _ hj)
        cases hb : Nat.beq j.size 0 with
        | true => simp only [hb, cond_true] at hf; cases hf
        | false =>
          simp only [hb, cond_false] at hf
          have hne : j.size ≠ 0 := fun e => by rw [e] at hb; cases hb
          obtain ⟨a, rfl, hr⟩ := shiftA_ok hx hf
          refine ⟨_, ?_, hr⟩
          simp [Instr.fieldAt, ht.underlying, hd, hg, Instr.sureAddr, fieldPlace, ht2.sizeOf, hne]
      · cases hf
    · cases hf
  · cases hf

def indexAddrA (ti : Nat → Option TI) (t : Nat) (x ix : AV) : Option AV :=
  match intA ix, ti t with
  | some n, some ⟨.array len e, _, _, _⟩ => bif decide (0 ≤ n) && decide (n < len) then
      match ti e with
      | some j => shiftA x (n.toNat * j.size)
      | none => none
    else none
  | some n, some ⟨.slice e, _, _, _⟩ =>
    match ti e with
    | some j => match x with
      | .sl id off sz len cap => bif decide (0 ≤ n) && decide (n < len) then some (.ptr id (off + n.toNat * j.size)) else none
      | .imm sz xs => bif decide (0 ≤ n) && Nat.beq sz j.size then (xs[n.toNat]?).map .ip else none
      | _ => none
    | none => none
  | _, _ => none

include hti in
theorem indexAddrA_ok {t : Nat} {x ix y : AV} {v vi : Value} (hx : Rel E x v) (hi : Rel E ix vi) (hf : indexAddrA ti t x ix = some y) (w : World) :
    ∃ u, (Instr.indexAt t v vi).run P w = .ok u w ∧ Rel E y u := by
  unfold indexAddrA at hf
  split at hf
  · rename_i n len e a b z hn htt
    obtain ⟨k, rfl⟩ := intA_ok hi hn
    obtain ⟨ht⟩ := tiOf_ok (hti _ _ htt)
    have hd := ht.array
    cases hb : (decide (0 ≤ n) && decide (n < (len : Int))) with
    | false => simp only [hb, cond_false] at hf; cases hf
    | true =>
      simp only [hb, cond_true] at hf
      simp only [Bool.and_eq_true, decide_eq_true_eq] at hb
      split at hf
      · rename_i j hj
        obtain ⟨ht2⟩ := tiOf_ok (hti _ _ hj)
        obtain ⟨a, rfl, hr⟩ := shiftA_ok hx hf
        refine ⟨_, ?_, hr⟩
        simp [Instr.indexAt, asIntOf, ht.underlying, hd, Instr.sureAddr, hb, ht2.sizeOf]
      · cases hf
  · rename_i n e a b z hn htt
    obtain ⟨k, rfl⟩ := intA_ok hi hn
    obtain ⟨ht⟩ := tiOf_ok (hti _ _ htt)
    have hd := ht.slice
    split at hf
    · rename_i j hj
      obtain ⟨ht2⟩ := tiOf_ok (hti _ _ hj)
      split at hf
      · rename_i id off sz len cap
        cases hb : (decide (0 ≤ n) && decide (n < (len : Int))) with
        | false => simp only [hb, cond_false] at hf; cases hf
        | true =>
          simp only [hb, cond_true, Option.some.injEq] at hf
          subst hf
          simp only [Bool.and_eq_true, decide_eq_true_eq] at hb
          cases hx with
          | sl hρ hc hl hn =>
            rename_i b' o n' c
            refine ⟨.pointer (some ⟨b', o + (off + n.toNat * j.size), none⟩), ?_, .ptr hρ⟩
            simp [Instr.indexAt, asIntOf, ht.underlying, hd, hb, ht2.sizeOf, addr_add, Nat.add_assoc]
      · rename_i sz xs
        cases hb : (decide (0 ≤ n) && Nat.beq sz j.size) with
        | false => simp only [hb, cond_false] at hf; cases hf
        | true =>
          simp only [hb, cond_true, Option.map_eq_some_iff] at hf
          simp only [Bool.and_eq_true, decide_eq_true_eq] at hb
          obtain ⟨h0, hs⟩ := hb
          have hs := Nat.eq_of_beq_eq_true hs
          subst hs
          obtain ⟨cs, hcs, rfl⟩ := hf
          cases hx with
          | immE => simp at hcs
          | imm val hn' hl hsz hro hrel =>
            rename_i c b' o n'
            subst hn'
            have hlt := (List.getElem?_eq_some_iff.1 hcs).1
            have : n < (xs.length : Int) := by omega
            refine ⟨.pointer (some ⟨b', o + n.toNat * j.size, none⟩), ?_, .ip (val n.toNat) (fun q x hq => ?_) (fun q x hq => hrel _ _ _ _ hcs hq)⟩
            · simp [Instr.indexAt, asIntOf, ht.underlying, hd, h0, this, ht2.sizeOf, addr_add]
            · have := hro _ _ q x hcs hq
              rwa [← Nat.add_assoc] at this
      · cases hf
    · cases hf
  · cases hf

/-! ### lengths -/
def lenA (ti : Nat → Option TI) (t : Nat) (x : AV) : Option AV :=
  match ti t with
  | some ⟨.string, _, _, _⟩ => match x with
    | .lit (.string s) => some (.lit (.int .i64 s.data.size))
    | .ss i => some (.sy .i64 (.slen i))
    | _ => none
  | some ⟨.slice _, _, _, _⟩ => match x with
    | .sl _ _ _ len _ => some (.lit (.int .i64 len))
    | .imm _ xs => some (.lit (.int .i64 xs.length))
    | .emp => some (.lit (.int .i64 0))
    | .se _ _ _ => some (.lit (.int .i64 0))
    | .lit (.slice _ n _) => some (.lit (.int .i64 n))
    | _ => none
  | some ⟨.array n _, _, _, _⟩ => some (.lit (.int .i64 n))
  | _ => none

include hti in
theorem lenA_ok {t : Nat} {x y : AV} {v : Value} (hx : Rel E x v) (hf : lenA ti t x = some y) (ats : Array TypeId) (hat : ats[0]? = some t) (ty : TypeId) (vs : Array Value) (hv : vs[0]? = some v) (w : World) :
    ∃ u, (Builtin.len_ ats ty vs).run P w = .ok u w ∧ Rel E y u := by
  unfold lenA at hf
  split at hf
  · rename_i a b z htt
    obtain ⟨ht⟩ := tiOf_ok (hti _ _ htt)
    have hd := ht.string
    split at hf
    · cases hx; cases hf
      refine ⟨_, ?_, .lit _⟩
      simp [Builtin.len_, hat, hv, ht.underlying, hd, goInt]
    · rename_i i
      cases hf
      have e1 := toS_ok hx (e := .var i) rfl
      subst e1
      refine ⟨.int .i64 (E.σ.s i).data.size, ?_, .sy rfl⟩
      simp [Builtin.len_, hat, hv, ht.underlying, hd, goInt, SExp.eval]
    · cases hf
  · rename_i e a b z htt
    obtain ⟨ht⟩ := tiOf_ok (hti _ _ htt)
    have hd := ht.slice
    have fin : ∀ (o : Option Addr) (n c : Nat), v = .slice o n c → y = .lit (.int .i64 n) → ∃ u, (Builtin.len_ ats ty vs).run P w = .ok u w ∧ Rel E y u := by
      intro o n c hv' hy
      subst hv' hy
      exact ⟨_, by simp [Builtin.len_, hat, hv, ht.underlying, hd, goInt], .lit _⟩
    cases hx with
    | sl => cases hf; exact fin _ _ _ rfl rfl
    | emp => cases hf; exact fin _ _ _ rfl rfl
    | seE => cases hf; exact fin _ _ _ rfl rfl
    | seS => cases hf; exact fin _ _ _ rfl rfl
    | immE => cases hf; exact fin _ _ _ rfl rfl
    | imm val hn => cases hf; exact fin _ _ _ rfl (by rw [hn])
    | lit v =>
      cases v with
      | slice => cases hf; exact fin _ _ _ rfl rfl
      | _ => cases hf
    | _ => cases hf
  · rename_i n e a b z htt
    obtain ⟨ht⟩ := tiOf_ok (hti _ _ htt)
    have hd := ht.array
    cases hf
    exact ⟨_, by simp [Builtin.len_, hat, hv, ht.underlying, hd, goInt], .lit _⟩
  · cases hf

/-! ### slicing -/
def boundA (x : Option Int) (d top : Nat) : Option Nat :=
  match x with
  | none => some d
  | some n => bif decide (0 ≤ n) && decide (n ≤ top) then some n.toNat else none

def boundsA (len bd : Nat) (lo hi mx : Option Int) : Option (Nat × Nat × Option Nat) :=
  match mx with
  | none => match boundA hi len bd with
    | some h => (boundA lo 0 h).map fun l => (l, h, none)
    | none => none
  | some m => match hi with
    | none => none
    | some _ => match boundA (some m) 0 bd with
      | some m => match boundA hi 0 m with
        | some h => (boundA lo 0 h).map fun l => (l, h, some m)
        | none => none
      | none => none

theorem sliceBound_ok {n : Int} {k : IntKind} {top r d : Nat} {bd : Nat} (hb : bd ≤ top) (h : boundA (some n) d bd = some r) (code : BoundsCode) (w : World) :
    (Instr.sliceBound (.int k n) top code).run P w = .ok r w ∧ r ≤ bd := by
  simp only [boundA] at h
  cases hh : (decide (0 ≤ n) && decide (n ≤ (bd : Int))) with
  | false => simp only [hh, cond_false] at h; cases h
  | true =>
    simp only [hh, cond_true, Option.some.injEq] at h
    simp only [Bool.and_eq_true, decide_eq_true_eq] at hh
    have : n ≤ (top : Int) := by omega
    exact ⟨by simp [Instr.sliceBound, asIntOf, hh.1, this, h], by omega⟩

/-- The bounds' values, against what they are as numbers. -/
inductive Bd : Option Int → Option Value → Prop where
  | none : Bd none none
  | some (k : IntKind) (n : Int) : Bd (some n) (some (.int k n))

theorem bounds_ok {len bd cap : Nat} (hl : len ≤ bd) (hb : bd ≤ cap) {lo hi mx : Option Int} {vlo vhi vmx : Option Value} (h1 : Bd lo vlo) (h2 : Bd hi vhi) (h3 : Bd mx vmx) {l h : Nat} {m : Option Nat}
    (hr : boundsA len bd lo hi mx = some (l, h, m)) (isS : Bool) (w : World) :
    (Instr.sliceBounds isS len cap vlo vhi vmx).run P w = .ok (l, h, m.getD cap) w ∧ l ≤ h ∧ h ≤ bd ∧ (∀ k, m = some k → h ≤ k ∧ k ≤ bd) := by
  unfold boundsA at hr
  cases h3 with
  | none =>
    simp only at hr
    cases hh : boundA hi len bd with
    | none => simp [hh] at hr
    | some h' =>
      simp only [hh, Option.map_eq_some_iff, Prod.mk.injEq] at hr
      obtain ⟨l', hl', rfl, rfl, rfl⟩ := hr
      cases h2 with
      | none =>
        simp only [boundA, Option.some.injEq] at hh
        subst hh
        cases h1 with
        | none =>
          simp only [boundA, Option.some.injEq] at hl'
          subst hl'
          exact ⟨rfl, Nat.zero_le _, hl, fun k hk => by cases hk⟩
        | some k1 n1 =>
          have r := fun code w => sliceBound_ok (P := P) (k := k1) (Nat.le_refl _) hl' code w
          exact ⟨by simp [Instr.sliceBounds, (r _ w).1], (r .sliceB w).2, hl, fun k hk => by cases hk⟩
      | some k n =>
        have q := fun code w => sliceBound_ok (P := P) (k := k) hb hh code w
        cases h1 with
        | none =>
          simp only [boundA, Option.some.injEq] at hl'
          subst hl'
          exact ⟨by simp [Instr.sliceBounds, (q _ w).1], Nat.zero_le _, (q .sliceB w).2, fun k hk => by cases hk⟩
        | some k1 n1 =>
          have r := fun code w => sliceBound_ok (P := P) (k := k1) (Nat.le_refl _) hl' code w
          exact ⟨by simp [Instr.sliceBounds, (q _ w).1, (r _ w).1], (r .sliceB w).2, (q .sliceB w).2, fun k hk => by cases hk⟩
  | some km m' =>
    simp only at hr
    cases h2 with
    | none => simp at hr
    | some k n =>
      simp only at hr
      cases hm : boundA (some m') 0 bd with
      | none => simp [hm] at hr
      | some m2 =>
        simp only [hm] at hr
        cases hh : boundA (some n) 0 m2 with
        | none => simp [hh] at hr
        | some h' =>
          simp only [hh, Option.map_eq_some_iff, Prod.mk.injEq] at hr
          obtain ⟨l', hl', rfl, rfl, rfl⟩ := hr
          have p := fun code w => sliceBound_ok (P := P) (k := km) hb hm code w
          have q := fun code w => sliceBound_ok (P := P) (k := k) (Nat.le_refl _) hh code w
          have p2 := (p .sliceB w).2
          have q2 := (q .sliceB w).2
          cases h1 with
          | none =>
            simp only [boundA, Option.some.injEq] at hl'
            subst hl'
            exact ⟨by simp [Instr.sliceBounds, (p _ w).1, (q _ w).1], Nat.zero_le _, by omega, fun k hk => by cases hk; omega⟩
          | some k1 n1 =>
            have r := fun code w => sliceBound_ok (P := P) (k := k1) (Nat.le_refl _) hl' code w
            exact ⟨by simp [Instr.sliceBounds, (p _ w).1, (q _ w).1, (r _ w).1], (r .sliceB w).2, by omega, fun k hk => by cases hk; omega⟩

def extractS (s : ByteArray) (l h : Nat) : ByteArray := ⟨((s.data.toList.drop l).take (h - l)).toArray⟩

def sliceArrA (ti : Nat → Option TI) (H : Hp) (n e : Nat) (x : AV) (lo hi mx : Option Int) : Option AV :=
  match ti e with
  | some j => match x with
    | .ptr id off => match H.get id with
      | some (.cells cs _) => bif Nat.ble (off + n * j.size) cs.length then
        match boundsA n n lo hi mx with
        | some (l, h, m) => let m := m.getD n; bif Nat.beq m l then some .emp else some (.sl id (off + l * j.size) j.size (h - l) (some (m - l)))
        | none => none
        else none
      | _ => none
    | _ => none
  | none => none

def sliceA (ti : Nat → Option TI) (H : Hp) (t : Nat) (x : AV) (lo hi mx : Option Int) : Option AV :=
  match ti t with
  | some ⟨.string, _, _, _⟩ => match x, mx with
    | .lit (.string s), none => (boundsA s.data.size s.data.size lo hi none).map fun p => .lit (.string (extractS s p.1 p.2.1))
    | _, _ => none
  | some ⟨.slice e, _, _, _⟩ => match ti e with
    | some j => match x with
      | .sl id off sz len (some c) => bif Nat.beq sz j.size && Nat.ble len c then
          match boundsA len c lo hi mx with
          | some (l, h, m) => let m := m.getD c; bif Nat.beq m l then some .emp else some (.sl id (off + l * sz) sz (h - l) (some (m - l)))
          | none => none
        else none
      | .sl id off sz len none => bif Nat.beq sz j.size then
          match boundsA len len lo hi mx with
          | some (l, h, none) => bif Nat.beq l 0 then some (.sl id off sz h none) else bif Nat.beq h l then some (.se id (off + l * sz) sz) else some (.sl id (off + l * sz) sz (h - l) none)
          | some (l, h, some m) => bif Nat.beq m l then some .emp else some (.sl id (off + l * sz) sz (h - l) (some (m - l)))
          | none => none
        else none
      | .imm sz xs => bif Nat.beq sz j.size then
          match boundsA xs.length xs.length lo hi mx with
          | some (l, h, none) => some (.imm sz ((xs.drop l).take (h - l)))
          | some (l, h, some m) => bif Nat.beq m l then some .emp else some (.imm sz ((xs.drop l).take (h - l)))
          | none => none
        else none
      | .emp => match boundsA 0 0 lo hi mx with
          | some _ => some .emp
          | none => none
      | .se id off sz => bif Nat.beq sz j.size then
          match boundsA 0 0 lo hi mx with
          | some (_, _, none) => some (.se id off sz)
          | some (_, _, some _) => some .emp
          | none => none
        else none
      | .lit (.slice none 0 0) => match boundsA 0 0 lo hi mx with
          | some _ => some (.lit (.slice none 0 0))
          | none => none
      | _ => none
    | none => none
  | some ⟨.array n e, _, _, _⟩ => sliceArrA ti H n e x lo hi mx
  | _ => none

theorem rel_imm_cut {sz : Nat} {xs : List (List AV)} {b o c n : Nat} (hx : Rel E (.imm sz xs) (.slice (some ⟨b, o, none⟩) n c)) {l h c' : Nat} (hlh : l ≤ h) (hh : h ≤ n) (hc : h - l ≤ c') :
    Rel E (.imm sz ((xs.drop l).take (h - l))) (.slice (some ⟨b, o + l * sz, none⟩) (h - l) c') := by
  cases hx with
  | immE =>
    simp only [Nat.le_zero] at hh
    subst hh
    simp only [Nat.le_zero] at hlh
    subst hlh
    simpa using Rel.immE
  | imm val hn hl hsz hro hrel =>
    subst hn
    have key : ∀ i cs, ((xs.drop l).take (h - l))[i]? = some cs → xs[l + i]? = some cs := by
      intro i cs hi
      rw [List.getElem?_take] at hi
      split at hi
      · rwa [List.getElem?_drop] at hi
      · cases hi
    refine .imm (fun i j => val (l + i) j) (by simp; omega) hc (fun i cs hi => hsz _ _ (key i cs hi)) (fun i cs j x hi hj => ?_) (fun i cs j x hi hj => hrel _ _ _ _ (key i cs hi) hj)
    have := hro _ _ _ _ (key i cs hi) hj
    rw [Nat.add_mul] at this
    rwa [show o + (l * sz + i * sz + j) = o + l * sz + (i * sz + j) by omega] at this

theorem rel_imm_nil {sz n c : Nat} {a : Option Addr} (h : Rel E (.imm sz []) (.slice a n c)) : n = 0 := by
  cases h with
  | immE => rfl
  | imm val hn => simpa using hn

include hti in
theorem sliceA_ok (hst : St B w0 E H w) {t : Nat} {x y : AV} {v : Value} (hx : Rel E x v) {lo hi mx : Option Int} {vlo vhi vmx : Option Value} (h1 : Bd lo vlo) (h2 : Bd hi vhi) (h3 : Bd mx vmx)
    (hf : sliceA ti H t x lo hi mx = some y) : ∃ u, (Instr.sliceAt t v vlo vhi vmx).run P w = .ok u w ∧ Rel E y u := by
  unfold sliceA at hf
  split at hf
  · rename_i a b z htt
    obtain ⟨ht⟩ := tiOf_ok (hti _ _ htt)
    have hd := ht.string
    split at hf
    · rename_i s
      cases hx
      simp only [Option.map_eq_some_iff] at hf
      obtain ⟨⟨l, h, m⟩, hb, rfl⟩ := hf
      obtain ⟨r1, r2, r3, r4⟩ := bounds_ok (P := P) (Nat.le_refl _) (Nat.le_refl _) h1 h2 h3 hb false w
      cases h3
      refine ⟨_, ?_, .lit _⟩
      have r1' : (Instr.sliceBounds false s.size s.size vlo vhi none).run P w = .ok (l, h, m.getD s.data.size) w := r1
      simp only [Instr.sliceAt, Sem.run_bind, ht.underlying, hd, Result.andThen, Instr.slice, Option.isSome_none, Bool.false_eq_true, if_false, Sem.run_pure, r1', extractS, Lib.extract_eq]
    · cases hf
  · rename_i e a b z htt
    obtain ⟨ht⟩ := tiOf_ok (hti _ _ htt)
    have hd := ht.slice
    split at hf
    case h_2 => cases hf
    rename_i j hj
    obtain ⟨ht2⟩ := tiOf_ok (hti _ _ hj)
    have go : ∀ {a : Option Addr} {len cap bd l h : Nat} {m : Option Nat}, v = .slice a len cap → len ≤ bd → bd ≤ cap → boundsA len bd lo hi mx = some (l, h, m) →
        (Instr.sliceAt t v vlo vhi vmx).run P w = .ok (.slice (if m.getD cap = l then a else a.map (·.add (l * j.size))) (h - l) (m.getD cap - l)) w ∧ l ≤ h ∧ h ≤ bd ∧ (∀ k, m = some k → h ≤ k ∧ k ≤ bd) := by
      intro a len cap bd l h m hv hl hb hr
      obtain ⟨r1, r2, r3, r4⟩ := bounds_ok (P := P) hl hb h1 h2 h3 hr true w
      refine ⟨?_, r2, r3, r4⟩
      subst hv
      simp only [Instr.sliceAt, Sem.run_bind, ht.underlying, hd, Result.andThen, Instr.slice, r1, ht2.sizeOf, Sem.run_pure]
    split at hf
    · rename_i id off sz len c
      cases hb : (Nat.beq sz j.size && Nat.ble len c) with
      | false => simp only [hb, cond_false] at hf; cases hf
      | true =>
        simp only [hb, cond_true] at hf
        simp only [Bool.and_eq_true] at hb
        have hs := Nat.eq_of_beq_eq_true hb.1
        have hlc := Nat.le_of_ble_eq_true hb.2
        subst hs
        cases hx with
        | sl hρ hc hl hn =>
          rename_i b' o n' c'
          have hcc := hc c rfl
          subst hcc
          split at hf
          · rename_i l h m hbd
            obtain ⟨r1, r2, r3, r4⟩ := go rfl hlc (Nat.le_refl _) hbd
            refine ⟨_, r1, ?_⟩
            have hm : h ≤ m.getD c' ∧ m.getD c' ≤ c' := by
              cases m with
              | none => simp; omega
              | some k => have := r4 k rfl; simp; omega
            cases hq : Nat.beq (m.getD c') l with
            | true =>
              simp only [hq, cond_true, Option.some.injEq] at hf
              subst hf
              have hq := Nat.eq_of_beq_eq_true hq
              rw [if_pos hq, show h - l = 0 by omega, show m.getD c' - l = 0 by omega]
              exact .emp
            | false =>
              simp only [hq, cond_false, Option.some.injEq] at hf
              subst hf
              have hq : ¬ (m.getD c' = l) := fun e => by rw [e] at hq; simp at hq
              rw [if_neg hq]
              simp only [Option.map_some, addr_add, Nat.add_assoc]
              refine .sl hρ (fun k hk => by cases hk; rfl) (by omega) ?_
              have : l * j.size + (m.getD c' - l) * j.size ≤ c' * j.size := by rw [← Nat.add_mul]; exact Nat.mul_le_mul_right _ (by omega)
              omega
          · cases hf
    · rename_i id off sz len
      cases hb : Nat.beq sz j.size with
      | false => simp only [hb, cond_false] at hf; cases hf
      | true =>
        simp only [hb, cond_true] at hf
        have hs := Nat.eq_of_beq_eq_true hb
        subst hs
        cases hx with
        | sl hρ hc hl hn =>
          rename_i b' o n' c'
          split at hf
          · rename_i l h hbd
            obtain ⟨r1, r2, r3, r4⟩ := go rfl (Nat.le_refl _) hl hbd
            refine ⟨_, r1, ?_⟩
            simp only [Option.getD_none]
            cases hq : Nat.beq l 0 with
            | true =>
              simp only [hq, cond_true, Option.some.injEq] at hf
              subst hf
              have hq := Nat.eq_of_beq_eq_true hq
              subst hq
              have : (if c' = 0 then some (⟨b', o + off, none⟩ : Addr) else (some (⟨b', o + off, none⟩ : Addr)).map (·.add (0 * j.size))) = some ⟨b', o + off, none⟩ := by
                split
                · rfl
                · simp [addr_add]
              rw [this]
              exact .sl hρ (fun k hk => by cases hk) (by omega) (by simpa using hn)
            | false =>
              simp only [hq, cond_false] at hf
              cases hq2 : Nat.beq h l with
              | true =>
                simp only [hq2, cond_true, Option.some.injEq] at hf
                subst hf
                have hq2 := Nat.eq_of_beq_eq_true hq2
                rw [show h - l = 0 by omega]
                split
                · rename_i ec
                  rw [ec, Nat.sub_self]
                  exact .seE
                · simp only [Option.map_some, addr_add, Nat.add_assoc]
                  refine .seS hρ ?_
                  have : l * j.size + (c' - l) * j.size = c' * j.size := by rw [← Nat.add_mul]; congr 1; omega
                  omega
              | false =>
                simp only [hq2, cond_false, Option.some.injEq] at hf
                subst hf
                have hq2 : ¬ h = l := fun e => by rw [e] at hq2; simp at hq2
                rw [if_neg (by omega)]
                simp only [Option.map_some, addr_add, Nat.add_assoc]
                refine .sl hρ (fun k hk => by cases hk) (by omega) ?_
                have : l * j.size + (c' - l) * j.size = c' * j.size := by rw [← Nat.add_mul]; congr 1; omega
                omega
          · rename_i l h m hbd
            obtain ⟨r1, r2, r3, r4⟩ := go rfl (Nat.le_refl _) hl hbd
            obtain ⟨r5, r6⟩ := r4 m rfl
            refine ⟨_, r1, ?_⟩
            simp only [Option.getD_some]
            cases hq : Nat.beq m l with
            | true =>
              simp only [hq, cond_true, Option.some.injEq] at hf
              subst hf
              have hq := Nat.eq_of_beq_eq_true hq
              rw [if_pos hq, show h - l = 0 by omega, show m - l = 0 by omega]
              exact .emp
            | false =>
              simp only [hq, cond_false, Option.some.injEq] at hf
              subst hf
              have hq : ¬ (m = l) := fun e => by rw [e] at hq; simp at hq
              rw [if_neg hq]
              simp only [Option.map_some, addr_add, Nat.add_assoc]
              refine .sl hρ (fun k hk => by cases hk; rfl) (by omega) ?_
              have : l * j.size + (m - l) * j.size ≤ c' * j.size := by rw [← Nat.add_mul]; exact Nat.mul_le_mul_right _ (by omega)
              omega
          · cases hf
    · rename_i sz xs
      cases hb : Nat.beq sz j.size with
      | false => simp only [hb, cond_false] at hf; cases hf
      | true =>
        simp only [hb, cond_true] at hf
        have hs := Nat.eq_of_beq_eq_true hb
        subst hs
        have cut : ∀ {l h : Nat} {m : Option Nat}, boundsA xs.length xs.length lo hi mx = some (l, h, m) → m ≠ some l →
            ∃ u, (Instr.sliceAt t v vlo vhi vmx).run P w = .ok u w ∧ Rel E (.imm j.size ((xs.drop l).take (h - l))) u := by
          intro l h m hbd hm
          have hx' := hx
          cases hx with
          | immE =>
            rename_i c a
            obtain ⟨r1, r2, r3, r4⟩ := go rfl (Nat.le_refl _) (Nat.zero_le c) hbd
            refine ⟨_, r1, ?_⟩
            have : h = 0 := by simpa using r3
            subst this
            have : l = 0 := by omega
            subst this
            exact .immE
          | imm val hn hl hsz hro hrel =>
            rename_i c b' o n'
            subst hn
            obtain ⟨r1, r2, r3, r4⟩ := go rfl (Nat.le_refl _) hl hbd
            refine ⟨_, r1, ?_⟩
            have hm' : h ≤ m.getD c := by
              cases m with
              | none => simp; omega
              | some k => have := r4 k rfl; simp; omega
            split
            · rename_i e
              have : h - l = 0 := by omega
              rw [this]
              simpa using Rel.immE
            · simp only [Option.map_some, addr_add]
              exact rel_imm_cut hx' r2 (by omega) (by omega)
        split at hf
        · rename_i l h hbd
          cases hf
          exact cut hbd (by simp)
        · rename_i l h m hbd
          cases hq : Nat.beq m l with
          | true =>
            simp only [hq, cond_true, Option.some.injEq] at hf
            subst hf
            have hq := Nat.eq_of_beq_eq_true hq
            subst hq
            cases hx with
            | immE =>
              rename_i c a
              obtain ⟨r1, r2, r3, r4⟩ := go rfl (Nat.le_refl _) (Nat.zero_le c) hbd
              obtain ⟨r5, r6⟩ := r4 m rfl
              refine ⟨_, r1, ?_⟩
              simp only [Option.getD_some, if_pos]
              rw [show h - m = 0 by omega, Nat.sub_self]
              exact .emp
            | imm val hn hl hsz hro hrel =>
              subst hn
              obtain ⟨r1, r2, r3, r4⟩ := go rfl (Nat.le_refl _) hl hbd
              obtain ⟨r5, r6⟩ := r4 m rfl
              refine ⟨_, r1, ?_⟩
              simp only [Option.getD_some, if_pos]
              rw [show h - m = 0 by omega, Nat.sub_self]
              exact .emp
          | false =>
            simp only [hq, cond_false, Option.some.injEq] at hf
            subst hf
            exact cut hbd (fun e => by cases e; simp at hq)
        · cases hf
    · split at hf
      · rename_i q hbd
        obtain ⟨l, h, m⟩ := q
        cases hf
        cases hx with
        | emp =>
          obtain ⟨r1, r2, r3, r4⟩ := go rfl (Nat.le_refl _) (Nat.le_refl _) hbd
          refine ⟨_, r1, ?_⟩
          have : m.getD 0 = 0 := by
            cases m with
            | none => rfl
            | some k => have := (r4 k rfl).2; simp; omega
          rw [this, show h - l = 0 by omega, Nat.zero_sub]
          exact .emp
      · cases hf
    · rename_i id off sz
      cases hb : Nat.beq sz j.size with
      | false => simp only [hb, cond_false] at hf; cases hf
      | true =>
        simp only [hb, cond_true] at hf
        have hs := Nat.eq_of_beq_eq_true hb
        subst hs
        split at hf
        · rename_i l h hbd
          cases hf
          cases hx with
          | seE =>
            obtain ⟨r1, r2, r3, r4⟩ := go rfl (Nat.le_refl _) (Nat.le_refl _) hbd
            refine ⟨_, r1, ?_⟩
            rw [show h - l = 0 by omega]
            simp only [Option.getD_none, Nat.zero_sub]
            exact .seE
          | seS hρ hn =>
            rename_i b' o n' c'
            obtain ⟨r1, r2, r3, r4⟩ := go rfl (Nat.le_refl _) (Nat.zero_le c') hbd
            refine ⟨_, r1, ?_⟩
            have hl : l = 0 := by omega
            subst hl
            rw [show h - 0 = 0 by omega]
            simp only [Option.getD_none, Nat.sub_zero]
            have : (if c' = 0 then some (⟨b', o + off, none⟩ : Addr) else (some (⟨b', o + off, none⟩ : Addr)).map (·.add (0 * j.size))) = some ⟨b', o + off, none⟩ := by
              split
              · rfl
              · simp [addr_add]
            rw [this]
            exact .seS hρ hn
        · rename_i l h m hbd
          cases hf
          cases hx with
          | seE =>
            obtain ⟨r1, r2, r3, r4⟩ := go rfl (Nat.le_refl _) (Nat.le_refl _) hbd
            refine ⟨_, r1, ?_⟩
            have := r4 m rfl
            rw [show h - l = 0 by omega]
            simp only [Option.getD_some]
            rw [show m - l = 0 by omega]
            exact .emp
          | seS hρ hn =>
            rename_i b' o n' c'
            obtain ⟨r1, r2, r3, r4⟩ := go rfl (Nat.le_refl _) (Nat.zero_le c') hbd
            refine ⟨_, r1, ?_⟩
            have := r4 m rfl
            rw [show h - l = 0 by omega]
            simp only [Option.getD_some]
            rw [show m - l = 0 by omega]
            exact .emp
        · cases hf
    · split at hf
      · rename_i q hbd
        obtain ⟨l, h, m⟩ := q
        cases hf
        cases hx with
        | lit =>
          obtain ⟨r1, r2, r3, r4⟩ := go rfl (Nat.le_refl _) (Nat.le_refl _) hbd
          refine ⟨_, r1, ?_⟩
          have : m.getD 0 = 0 := by
            cases m with
            | none => rfl
            | some k => have := (r4 k rfl).2; simp; omega
          rw [this, show h - l = 0 by omega, Nat.zero_sub]
          simp only [Option.map_none, ite_self]
          exact .lit _
      · cases hf
    · cases hf
  · rename_i n e a b z htt
    obtain ⟨ht⟩ := tiOf_ok (hti _ _ htt)
    have hd := ht.array
    unfold sliceArrA at hf
    split at hf
    case h_2 => cases hf
    rename_i j hj
    obtain ⟨ht2⟩ := tiOf_ok (hti _ _ hj)
    split at hf
    case h_2 => cases hf
    rename_i id off
    split at hf
    case h_2 => cases hf
    rename_i cs ex hg
    cases hb : Nat.ble (off + n * j.size) cs.length with
    | false => simp only [hb, cond_false] at hf; cases hf
    | true =>
      simp only [hb, cond_true] at hf
      have hle := Nat.le_of_ble_eq_true hb
      cases hx with
      | ptr hρ =>
        rename_i b' o n'
        obtain ⟨b2, o2, n2, e2, _, _, c, ty, lo', hi', q1, q2, q3, q4⟩ := hst.live id _ hg
        rw [hρ] at e2
        cases e2
        split at hf
        · rename_i l h m hbd
          obtain ⟨r1, r2, r3, r4⟩ := bounds_ok (P := P) (Nat.le_refl _) (Nat.le_refl _) h1 h2 h3 hbd false w
          have hm : h ≤ m.getD n ∧ m.getD n ≤ n := by
            cases m with
            | none => simp; omega
            | some k => have := r4 k rfl; simp; omega
          refine ⟨.slice (some (if m.getD n = l then ⟨b', o + off, none⟩ else (⟨b', o + off, none⟩ : Addr).add (l * j.size))) (h - l) (m.getD n - l), ?_, ?_⟩
          · simp only [Instr.sliceAt, Sem.run_bind, ht.underlying, hd, Result.andThen, Instr.sureAddr, Sem.run_pure, r1, ht2.sizeOf]
          · cases hq : Nat.beq (m.getD n) l with
            | true =>
              simp only [hq, cond_true, Option.some.injEq] at hf
              subst hf
              have hq := Nat.eq_of_beq_eq_true hq
              rw [if_pos hq, show h - l = 0 by omega, show m.getD n - l = 0 by omega]
              exact .emp
            | false =>
              simp only [hq, cond_false, Option.some.injEq] at hf
              subst hf
              have hq : ¬ (m.getD n = l) := fun e => by rw [e] at hq; simp at hq
              rw [if_neg hq, addr_add, Nat.add_assoc]
              refine .sl hρ (fun k hk => by cases hk; rfl) (by omega) ?_
              have : l * j.size + (m.getD n - l) * j.size ≤ n * j.size := by rw [← Nat.add_mul]; exact Nat.mul_le_mul_right _ (by omega)
              omega
        · cases hf
  · cases hf
end
end Go.Proofs.Ytikcninaepoojaa.Ev

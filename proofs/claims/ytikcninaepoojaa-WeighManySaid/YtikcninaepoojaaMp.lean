/- Maps: made, asked, written; whatever their keys are (numbers, strings, structs of these). -/
import Derived.Test.YtikcninaepoojaaSm
import Derived.Test.YtikcninaepoojaaEvF
import Derived.MapKept
namespace Go.Proofs.Ytikcninaepoojaa.Ev
open Go.RowKit (Below)
set_option linter.unusedVariables false
set_option linter.unusedSimpArgs false
set_option linter.unusedSectionVars false

/-- A key of a map. -/
def kvOk : Bool → List KK → Value → Prop
  | true, ks, v => ∃ xs, v = .agg xs ∧ hasK ks xs.toList
  | false, ks, v => hasK ks [v]

/-- The keys of a type: how they are looked up. -/
structure MapKey (P : Program) (kt : Nat) (ag : Bool) (ks : List KK) : Prop where
  check : ∀ (em : Bool) (w : World) (v : Value), kvOk ag ks v → (Instr.checkKey em 10000 kt v).run P w = .ok () w
  find : ∀ (w : World) (v : Value) (es : List MapEntry), kvOk ag ks v → (∀ e ∈ es, kvOk ag ks e.key) →
    ∃ r, (Instr.findKey kt v es).run P w = .ok r w ∧ match r with
      | none => ∀ e ∈ es, e.key ≠ v
      | some (i, u) => ∃ e, es[i]? = some e ∧ e.key = v ∧ e.val = u ∧ ∀ (j : Nat) (e' : MapEntry), j < i → es[j]? = some e' → e'.key ≠ v

theorem bytesBeq (a : ByteArray) : (a == a) = true := (Go.MapKept.bytes_beq a a).2 rfl
theorem same_one {k : KK} {ks : List KK} {v : Value} {vs : List Value} (h : hasK (k :: ks) (v :: vs)) : (∀ n, Instr.sameBits (n + 1) v v = true) ∧ hasK ks vs := by
  cases k <;> cases v <;> simp [hasK] at h <;> refine ⟨fun n => ?_, ?_⟩ <;> first
    | exact h
    | exact h.2
    | (simp [Instr.sameBits]; done)
    | (simp only [Instr.sameBits]; exact bytesBeq _)
theorem same_cells : ∀ {ks : List KK} {vs : List Value}, hasK ks vs → ∀ n, ∀ p ∈ vs.zip vs, Instr.sameBits (n + 1) p.1 p.2 = true
  | [], [], _, n, p, hp => by cases hp
  | k :: ks, v :: vs, h, n, p, hp => by
    obtain ⟨h1, h2⟩ := same_one h
    rw [List.zip_cons_cons] at hp
    rcases List.mem_cons.1 hp with rfl | hp
    · exact h1 n
    · exact same_cells h2 n p hp
  | [], _ :: _, h, _, _, _ => h.elim
  | k :: _, [], h, _, _, hp => by cases hp
theorem same_kv {ag : Bool} {ks : List KK} {v : Value} (h : kvOk ag ks v) : Instr.sameBits 10000 v v = true := by
  cases ag with
  | true =>
    obtain ⟨xs, rfl, hk⟩ := h
    have := same_cells hk 9998
    simp only [Instr.sameBits, BEq.rfl, Bool.true_and]
    rw [List.all_eq_true]
    intro p hp
    exact this p hp
  | false =>
    have h : hasK ks [v] := h
    match ks, h with
    | k :: r, h => exact (same_one h).1 9999
    | [], h => cases v <;> exact h.elim

section
variable {P : Program} {kt : Nat}

theorem mapKey_plain {d : TypeDesc} {k : KK} (hu : P.underlying kt = some d) (hd : ∀ v, hasK [k] [v] → Go.MapKept.IsKey d v) : MapKey P kt false [k] := by
  refine ⟨fun em w v hv => Go.MapKept.run_checkKey hu (hd v hv) em 9999, fun w v es hv hes => ?_⟩
  have key : ∀ (l : List MapEntry) (i : Nat), (∀ e ∈ l, Go.MapKept.IsKey d e.key) → ∃ r, Instr.findNow d v l i = some r ∧ match r with
      | none => ∀ e ∈ l, e.key ≠ v
      | some (m, u) => ∃ q e, m = i + q ∧ l[q]? = some e ∧ e.key = v ∧ e.val = u ∧ ∀ (j : Nat) (e' : MapEntry), j < q → l[j]? = some e' → e'.key ≠ v := by
    intro l
    induction l with
    | nil => intro i _; exact ⟨none, rfl, fun e he => by cases he⟩
    | cons e es ih =>
      intro i hl
      obtain ⟨r, hr, hiff⟩ := Go.MapKept.sameNow_of_keys (hd v hv) (hl e (by simp))
      unfold Instr.findNow
      rw [hr]
      cases r with
      | true => exact ⟨_, rfl, 0, e, rfl, rfl, (hiff.1 rfl).symm, rfl, fun j e' hj => by omega⟩
      | false =>
        have hne : e.key ≠ v := fun h => by have := hiff.2 h.symm; cases this
        obtain ⟨r', h1, h2⟩ := ih (i + 1) (fun x hx => hl x (by simp [hx]))
        refine ⟨r', h1, ?_⟩
        cases r' with
        | none => intro x hx; rcases List.mem_cons.1 hx with rfl | hx; exact hne; exact h2 x hx
        | some p =>
          obtain ⟨m, u⟩ := p
          obtain ⟨q, e2, e3, e4, e5, e6, e7⟩ := h2
          refine ⟨q + 1, e2, by omega, by simpa using e4, e5, e6, fun j e' hj he' => ?_⟩
          cases j with
          | zero => simp at he'; subst he'; exact hne
          | succ j => exact e7 j e' (by omega) (by simpa using he')
  obtain ⟨r, h1, h2⟩ := key es 0 (fun e he => hd _ (hes e he))
  refine ⟨r, Go.MapKept.run_findKey hu h1, ?_⟩
  cases r with
  | none => exact h2
  | some p =>
    obtain ⟨m, u⟩ := p
    obtain ⟨q, e2, e3, e4⟩ := h2
    have : m = q := by omega
    subst this
    exact ⟨e2, e4⟩

theorem mapKey_agg {ks : List KK} (hu : (∃ n e, P.underlying kt = some (.array n e)) ∨ ∃ fs, P.underlying kt = some (.struct fs)) (K : KeyOk P kt ks) : MapKey P kt true ks := by
  refine ⟨fun em w v hv => ?_, fun w v es hv hes => ?_⟩
  · obtain ⟨xs, rfl, hk⟩ := hv
    exact K.chk em xs hk w
  · have hwide : (match P.underlying kt with | some (.array _ _) | some (.struct _) => true | _ => false) = true := by rcases hu with ⟨n, e, h⟩ | ⟨fs, h⟩ <;> simp only [h]
    have hfa : (Instr.findKey kt v es).run P w = (Instr.findAsking kt v es).run P w := Go.run_findKey_eq w hwide v es
    obtain ⟨xs, rfl, hk⟩ := hv
    have key : ∀ (l : List MapEntry) (i : Nat), (∀ e ∈ l, kvOk true ks e.key) → ∃ r, (Instr.findAsking kt (.agg xs) l i).run P w = .ok r w ∧ match r with
        | none => ∀ e ∈ l, e.key ≠ .agg xs
        | some (m, u) => ∃ q e, m = i + q ∧ l[q]? = some e ∧ e.key = .agg xs ∧ e.val = u ∧ ∀ (j : Nat) (e' : MapEntry), j < q → l[j]? = some e' → e'.key ≠ .agg xs := by
      intro l
      induction l with
      | nil => intro i _; exact ⟨none, by simp [Instr.findAsking], fun e he => by cases he⟩
      | cons e es ih =>
        intro i hl
        obtain ⟨ys, hy, hky⟩ := hl e (by simp)
        obtain ⟨r, hr, hiff⟩ := K.eq xs ys hk hky w
        unfold Instr.findAsking
        rw [hy]
        simp only [Sem.run_bind, hr, Result.andThen_ok]
        cases r with
        | true => exact ⟨some (i, e.val), by simp, 0, e, rfl, rfl, by rw [hy, hiff.1 rfl], rfl, fun j e' hj => by omega⟩
        | false =>
          have hne : e.key ≠ .agg xs := fun h => by
            rw [hy] at h
            cases h
            have := hiff.2 rfl
            cases this
          obtain ⟨r', h1, h2⟩ := ih (i + 1) (fun x hx => hl x (by simp [hx]))
          refine ⟨r', by simpa using h1, ?_⟩
          cases r' with
          | none => intro x hx; rcases List.mem_cons.1 hx with rfl | hx; exact hne; exact h2 x hx
          | some p =>
            obtain ⟨m, u⟩ := p
            obtain ⟨q, e2, e3, e4, e5, e6, e7⟩ := h2
            refine ⟨q + 1, e2, by omega, by simpa using e4, e5, e6, fun j e' hj he' => ?_⟩
            cases j with
            | zero => simp at he'; subst he'; exact hne
            | succ j => exact e7 j e' (by omega) (by simpa using he')
    obtain ⟨r, h1, h2⟩ := key es 0 hes
    refine ⟨r, by rw [hfa]; exact h1, ?_⟩
    cases r with
    | none => exact h2
    | some p =>
      obtain ⟨m, u⟩ := p
      obtain ⟨q, e2, e3, e4⟩ := h2
      have : m = q := by omega
      subst this
      exact ⟨e2, e4⟩

/-- How the keys of a type are looked up. -/
def mkOf (C : Ctx P) (kt : Nat) : Option (Bool × List KK) := match C.ti kt with
  | some i => match i.d with
    | .int k => some (false, [.int k])
    | .string => some (false, [.string])
    | .bool => some (false, [.bool])
    | .struct _ => (C.keys kt).map fun ks => (true, ks)
    | .array _ _ => (C.keys kt).map fun ks => (true, ks)
    | _ => none
  | none => none

theorem mkOf_ok (C : Ctx P) {ag : Bool} {ks : List KK} (h : mkOf C kt = some (ag, ks)) : MapKey P kt ag ks := by
  unfold mkOf at h
  split at h
  case h_2 => cases h
  rename_i i hi
  obtain ⟨ht⟩ := tiOf_ok (C.hti _ _ hi)
  have hu := ht.hu
  have hd := ht.d_eq
  split at h
  · rename_i k hdk
    cases h
    rw [hdk] at hd
    cases hdd : ht.d <;> rw [hdd] at hd hu <;> simp [TD.of] at hd
    subst hd
    exact mapKey_plain hu (fun v hv => by cases v <;> simp [hasK] at hv <;> simp [Go.MapKept.IsKey, hv])
  · rename_i hdk
    cases h
    rw [hdk] at hd
    cases hdd : ht.d <;> rw [hdd] at hd hu <;> simp [TD.of] at hd
    exact mapKey_plain hu (fun v hv => by cases v <;> simp [hasK] at hv <;> simp [Go.MapKept.IsKey])
  · rename_i hdk
    cases h
    rw [hdk] at hd
    cases hdd : ht.d <;> rw [hdd] at hd hu <;> simp [TD.of] at hd
    exact mapKey_plain hu (fun v hv => by cases v <;> simp [hasK] at hv <;> simp [Go.MapKept.IsKey])
  · rename_i fs hdk
    simp only [Option.map_eq_some_iff] at h
    obtain ⟨ks', hks, h⟩ := h
    cases h
    rw [hdk] at hd
    cases hdd : ht.d <;> rw [hdd] at hd hu <;> simp [TD.of] at hd
    exact mapKey_agg (.inr ⟨_, hu⟩) (C.hkeys _ _ hks)
  · rename_i n e hdk
    simp only [Option.map_eq_some_iff] at h
    obtain ⟨ks', hks, h⟩ := h
    cases h
    rw [hdk] at hd
    cases hdd : ht.d <;> rw [hdd] at hd hu <;> simp [TD.of] at hd
    exact mapKey_agg (.inl ⟨_, _, hu⟩) (C.hkeys _ _ hks)
  · cases h

/-! ### keys, by their cells -/
def litsK : List KK → List AV → Bool
  | [], [] => true
  | .int k :: ks, .lit (.int k' _) :: xs => decide (k = k') && litsK ks xs
  | .bool :: ks, .lit (.bool _) :: xs => litsK ks xs
  | .string :: ks, .lit (.string _) :: xs => litsK ks xs
  | _, _ => false

def kOk (ag : Bool) (ks : List KK) (x : AV) : Bool := match ag with
  | true => match x with
    | .agg cs => litsK ks cs
    | _ => false
  | false => litsK ks [x]

theorem litsK_ok : ∀ {ks : List KK} {xs : List AV}, litsK ks xs = true → ∃ vs : List Value, xs = vs.map .lit ∧ hasK ks vs
  | [], [], _ => ⟨[], rfl, trivial⟩
  | .int k :: ks, .lit (.int k' n) :: xs, h => by
    simp only [litsK, Bool.and_eq_true, decide_eq_true_eq] at h
    obtain ⟨vs, rfl, hv⟩ := litsK_ok h.2
    exact ⟨.int k' n :: vs, rfl, h.1, hv⟩
  | .bool :: ks, .lit (.bool b) :: xs, h => by
    obtain ⟨vs, rfl, hv⟩ := litsK_ok (ks := ks) (xs := xs) h
    exact ⟨.bool b :: vs, rfl, hv⟩
  | .string :: ks, .lit (.string s) :: xs, h => by
    obtain ⟨vs, rfl, hv⟩ := litsK_ok (ks := ks) (xs := xs) h
    exact ⟨.string s :: vs, rfl, hv⟩
  | [], _ :: _, h => by simp [litsK] at h
  | k :: _, [], h => by cases k <;> simp [litsK] at h
  | k :: ks, x :: xs, h => by
    unfold litsK at h
    split at h
    · rename_i e; cases e
    · rename_i e1 e2
      cases e1; cases e2
      simp only [Bool.and_eq_true, decide_eq_true_eq] at h
      obtain ⟨vs, rfl, hv⟩ := litsK_ok h.2
      exact ⟨.int _ _ :: vs, rfl, h.1, hv⟩
    · rename_i e1 e2
      cases e1; cases e2
      obtain ⟨vs, rfl, hv⟩ := litsK_ok h
      exact ⟨.bool _ :: vs, rfl, hv⟩
    · rename_i e1 e2
      cases e1; cases e2
      obtain ⟨vs, rfl, hv⟩ := litsK_ok h
      exact ⟨.string _ :: vs, rfl, hv⟩
    · cases h

/-- A key, and what it stands for. -/
def encK : Bool → Value → AV
  | true, .agg xs => .agg (xs.toList.map .lit)
  | _, v => .lit v

theorem rel_lits {E : Env} {vs : List Value} {us : Array Value} (h : RelL E (vs.map .lit) us) : us = vs.toArray := by
  have hl := h.len
  simp at hl
  apply Array.ext
  · simpa using hl
  · intro i h1 h2
    have hv : vs[i]? = some vs[i] := List.getElem?_eq_getElem (by simpa using h2)
    have := h.at_ i (.lit vs[i]) us[i] (by rw [List.getElem?_map, hv]; rfl) (Array.getElem?_eq_getElem h1)
    have e : us[i] = vs[i] := by
      generalize us[i] = x at this ⊢
      cases this
      rfl
    rw [e]
    simp

theorem kOk_ok {ag : Bool} {ks : List KK} {x : AV} (h : kOk ag ks x = true) : ∃ v, kvOk ag ks v ∧ x = encK ag v ∧ ∀ E u, Rel E x u → u = v := by
  cases ag with
  | true =>
    unfold kOk at h
    simp only at h
    split at h
    · rename_i cs
      obtain ⟨vs, rfl, hv⟩ := litsK_ok h
      refine ⟨.agg vs.toArray, ⟨vs.toArray, rfl, by simpa using hv⟩, by simp [encK], fun E u hr => ?_⟩
      cases hr with
      | agg hl hh => rw [rel_lits ⟨hl, hh⟩]
    · cases h
  | false =>
    unfold kOk at h
    obtain ⟨vs, he, hv⟩ := litsK_ok h
    match vs, he with
    | [v], he =>
      simp at he
      subst he
      exact ⟨v, hv, by cases v <;> rfl, fun E u hr => by cases hr; rfl⟩
    | [], he => simp at he
    | _ :: _ :: _, he => simp at he

theorem encK_inj {ag : Bool} {ks : List KK} {v u : Value} (hv : kvOk ag ks v) (hu : kvOk ag ks u) (h : encK ag v = encK ag u) : v = u := by
  cases ag with
  | true =>
    obtain ⟨xs, rfl, _⟩ := hv
    obtain ⟨ys, rfl, _⟩ := hu
    simp only [encK, AV.agg.injEq] at h
    have : xs.toList = ys.toList := by
      have := congrArg (List.map fun x : AV => match x with | .lit v => v | _ => undef) h
      simpa [List.map_map, Function.comp_def] using this
    rw [Array.ext' this]
  | false =>
    have e : ∀ v, encK false v = .lit v := fun v => by cases v <;> rfl
    rw [e, e] at h
    cases h; rfl

open Classical in
/-- What a map has at a key. -/
noncomputable def mfind (k : AV) : List (AV × AV) → Option AV
  | [] => none
  | (a, b) :: r => if a = k then some b else mfind k r
open Classical in
noncomputable def mput (k v : AV) : List (AV × AV) → List (AV × AV)
  | [] => [(k, v)]
  | (a, b) :: r => if a = k then (a, v) :: r else (a, b) :: mput k v r

theorem mfind_none {k : AV} : ∀ {es : List (AV × AV)}, (∀ p ∈ es, p.1 ≠ k) → mfind k es = none
  | [], _ => rfl
  | (a, b) :: r, h => by
    unfold mfind
    rw [if_neg (h (a, b) (by simp))]
    exact mfind_none fun p hp => h p (by simp [hp])
theorem mfind_some {k : AV} : ∀ {es : List (AV × AV)} (i : Nat) {v : AV}, es[i]? = some (k, v) → (∀ (j : Nat) (p : AV × AV), j < i → es[j]? = some p → p.1 ≠ k) → mfind k es = some v
  | [], i, v, h, _ => by simp at h
  | (a, b) :: r, 0, v, h, _ => by simp at h; obtain ⟨rfl, rfl⟩ := h; simp [mfind]
  | (a, b) :: r, i + 1, v, h, hj => by
    unfold mfind
    rw [if_neg (hj 0 (a, b) (by omega) rfl)]
    exact mfind_some i (by simpa using h) (fun j p hlt hp => hj (j + 1) p (by omega) (by simpa using hp))
theorem mput_none {k v : AV} : ∀ {es : List (AV × AV)}, (∀ p ∈ es, p.1 ≠ k) → mput k v es = es ++ [(k, v)]
  | [], _ => rfl
  | (a, b) :: r, h => by
    unfold mput
    rw [if_neg (h (a, b) (by simp)), mput_none fun p hp => h p (by simp [hp])]
    rfl
theorem mput_some {k v : AV} : ∀ {es : List (AV × AV)} (i : Nat) {u : AV}, es[i]? = some (k, u) → (∀ (j : Nat) (p : AV × AV), j < i → es[j]? = some p → p.1 ≠ k) → mput k v es = es.set i (k, v)
  | [], i, u, h, _ => by simp at h
  | (a, b) :: r, 0, u, h, _ => by simp at h; obtain ⟨rfl, rfl⟩ := h; simp [mput]
  | (a, b) :: r, i + 1, u, h, hj => by
    unfold mput
    rw [if_neg (hj 0 (a, b) (by omega) rfl), mput_some i (by simpa using h) (fun j p hlt hp => hj (j + 1) p (by omega) (by simpa using hp))]
    rfl

/-- The value that nothing is of a type. -/
def zeroA (i : TI) : Option AV := pack i.d.agg (i.zero.map .lit)

theorem zeroA_rel {t : Nat} {i : TI} (ht : TIok P t i) {x : AV} (h : zeroA i = some x) {E : Env} : Rel E x ht.z := by
  unfold zeroA at h
  have hz := ht.zero_eq
  have ha := ht.hza
  rw [← ht.d_eq] at ha
  cases hg : i.d.agg with
  | true =>
    rw [hg] at h ha
    simp only [pack, Option.some.injEq] at h
    subst h
    generalize ht.z = z at *
    cases z <;> simp [zAgg] at ha
    rename_i vs
    simp only [Value.cells] at hz
    subst hz
    refine .agg (by simp) fun j x v hx hv => ?_
    simp only [List.getElem?_map, Option.map_eq_some_iff] at hx
    obtain ⟨u, hu, rfl⟩ := hx
    simp only [List.getElem?_toArray] at hv
    rw [hu] at hv
    cases hv
    exact .lit _
  | false =>
    rw [hg] at h ha
    have : ht.z.cells = #[ht.z] := by
      generalize ht.z = z at *
      cases z <;> first | rfl | (simp [zAgg] at ha)
    rw [this] at hz
    have : i.zero = [ht.z] := by simpa using congrArg Array.toList hz
    rw [this] at h
    simp only [pack, List.map_cons, List.map_nil, Option.some.injEq] at h
    subst h
    exact .lit _

/-- m[k]; ok: whether it is there, beside it. -/
noncomputable def mres (z : AV) (ok : Bool) (r : Option AV) : AV := match ok with
  | true => .tup [r.getD z, .lit (.bool r.isSome)]
  | false => r.getD z
noncomputable def lookR (z : AV) (ag : Bool) (ks : List KK) (ok : Bool) (H : Hp) (m k : AV) : Option AV := match m with
  | .mp id => match H.get id with
    | some (.map es) => bif kOk ag ks k && es.all (fun p => kOk ag ks p.1) then some (mres z ok (mfind k es)) else none
    | _ => none
  | .lit (.map none) => bif kOk ag ks k then some (mres z ok none) else none
  | _ => none
noncomputable def putR (ag : Bool) (ks : List KK) (H : Hp) (m k v : AV) : Option Hp := match m with
  | .mp id => match H.get id with
    | some (.map es) => bif kOk ag ks k && (es.all (fun p => kOk ag ks p.1) && !v.isAny) then some (H.set id (some (.map (mput k v es)))) else none
    | _ => none
  | _ => none

section
variable {B : Nat} {w0 : Base} {E : Env} {H : Hp} {w : World}

/-- What is found among the entries of the world is found among the abstract ones. -/
theorem find_rel {ag : Bool} {ks : List KK} {es : List (AV × AV)} {vs : Array MapEntry} (hl : vs.size = es.length) (hr : ∀ (j : Nat) (p : AV × AV) (v : MapEntry), es[j]? = some p → vs[j]? = some v → Rel E p.1 v.key ∧ Rel E p.2 v.val)
    (hok : es.all (fun p => kOk ag ks p.1) = true) {k : AV} {u : Value} (hku : kvOk ag ks u) (hk : k = encK ag u) :
    (∀ e ∈ vs.toList, kvOk ag ks e.key) ∧ ∀ (j : Nat) (p : AV × AV) (v : MapEntry), es[j]? = some p → vs[j]? = some v → (v.key = u ↔ p.1 = k) := by
  have each : ∀ (j : Nat) (p : AV × AV) (v : MapEntry), es[j]? = some p → vs[j]? = some v → kvOk ag ks v.key ∧ p.1 = encK ag v.key := by
    intro j p v hp hv
    obtain ⟨u', h1, h2, h3⟩ := kOk_ok (List.all_eq_true.1 hok p (List.mem_of_getElem? hp))
    rw [h3 E _ (hr j p v hp hv).1]
    exact ⟨h1, h2⟩
  refine ⟨fun e he => ?_, fun j p v hp hv => ?_⟩
  · obtain ⟨j, hj⟩ := List.getElem?_of_mem he
    have hlt := (List.getElem?_eq_some_iff.1 hj).1
    have hlt' : j < es.length := by simp at hlt; omega
    exact (each j _ e (List.getElem?_eq_getElem hlt') (by simpa using hj)).1
  · obtain ⟨h1, h2⟩ := each j p v hp hv
    rw [h2, hk]
    exact ⟨fun h => by rw [h], fun h => encK_inj h1 hku h⟩

theorem lookup_run {t kt et : Nat} {ie : TI} (hte : TIok P et ie) (hum : P.underlying t = some (.map kt et)) {vm u : Value} {vs : Array MapEntry} {fr : Option (Nat × Value)} (ok : Bool)
    (hm : (vm = .map none ∧ vs = #[]) ∨ ∃ r clock, vm = .map (some r) ∧ w.heap[r]? = some (.map vs clock)) (hchk : (Instr.checkKey vs.isEmpty 10000 kt u).run P w = .ok () w) (hf : (Instr.findKey kt u vs.toList).run P w = .ok fr w) :
    (Instr.lookup t vm u ok).run P w = .ok (if ok then .tuple #[(fr.map (·.2)).getD hte.z, .bool fr.isSome] else (fr.map (·.2)).getD hte.z) w := by
  rcases hm with ⟨rfl, rfl⟩ | ⟨r, clock, rfl, hr⟩
  · unfold Instr.lookup
    simp only [Sem.run_bind, run_underlying hum, Result.andThen_ok, Sem.run_pure, hchk, hf]
    cases fr with
    | none => cases ok <;> simp [hte.zeroValue]
    | some p => cases ok <;> simp
  · unfold Instr.lookup
    simp only [Sem.run_bind, run_underlying hum, Result.andThen_ok, Sem.run_pure, Go.MapKept.run_getObj_map hr, hchk, hf]
    cases fr with
    | none => cases ok <;> simp [hte.zeroValue]
    | some p => cases ok <;> simp

theorem semOk_lookup (C : Ctx P) {t kt et : Nat} {m k : Operand} {ok : Bool} {i ie : TI} (hi : C.ti t = some i) (hd : i.d = .map kt et) (he : C.ti et = some ie) {ag : Bool} {ks : List KK} (hk : mkOf C kt = some (ag, ks)) {z : AV} (hz : zeroA ie = some z) {H : Hp} {xm xk r : AV}
    (h : lookR z ag ks ok H xm xk = some r) : SemOk P C.σ (.lookup t m k ok) [xm, xk] H r H := by
  intro oper ho B w0 E w a hσ hst hrel
  obtain ⟨dst, op, ty, pos, after, guard⟩ := oper
  simp only at ho
  subst ho
  have hm := hrel 0 xm m rfl rfl
  have hkk := hrel 1 xk k rfl rfl
  obtain ⟨ht⟩ := tiOf_ok (C.hti _ _ hi)
  obtain ⟨hte⟩ := tiOf_ok (C.hti _ _ he)
  have hu := ht.hu
  have hde := ht.d_eq
  rw [hd] at hde
  have hum : P.underlying t = some (.map kt et) := by
    cases hdd : ht.d <;> rw [hdd] at hde hu <;> simp [TD.of] at hde
    rw [hde.1, hde.2]; exact hu
  have M := mkOf_ok C hk
  have fin : ∀ (es : List (AV × AV)) (vs : Array MapEntry), ((a.eval m = .map none ∧ vs = #[]) ∨ ∃ r clock, a.eval m = .map (some r) ∧ w.heap[r]? = some (.map vs clock)) →
      vs.size = es.length → (∀ (j : Nat) (p : AV × AV) (v : MapEntry), es[j]? = some p → vs[j]? = some v → Rel E p.1 v.key ∧ Rel E p.2 v.val) → es.all (fun p => kOk ag ks p.1) = true → kOk ag ks xk = true → r = mres z ok (mfind xk es) →
      Step P B w0 E (execOp a.eval ⟨dst, .lookup t m k ok, ty, pos, after, guard⟩) w r H := by
    intro es vs hvm hl hr hok hko hres
    obtain ⟨u, hku, hke, hue⟩ := kOk_ok hko
    have hku2 := hue E _ hkk
    obtain ⟨hall, hiff⟩ := find_rel hl hr hok hku hke
    obtain ⟨fr, hf1, hf2⟩ := M.find w u vs.toList hku hall
    have hchk := M.check vs.isEmpty w u hku
    have hz' := zeroA_rel hte hz (E := E)
    have run := lookup_run hte hum ok hvm hchk hf1
    rw [← hku2] at run
    refine ⟨E, _, w, (by simp only [execOp, Sem.run_bind, run, Result.andThen_ok, Sem.run_pure]; rfl), .refl E, hst, .inl ⟨_, rfl, ?_⟩⟩
    have key : Rel E ((mfind xk es).getD z) ((fr.map (·.2)).getD hte.z) ∧ (mfind xk es).isSome = fr.isSome := by
      cases fr with
      | none =>
        have : mfind xk es = none := mfind_none fun p hp => by
          obtain ⟨j, hj⟩ := List.getElem?_of_mem hp
          have hlt := (List.getElem?_eq_some_iff.1 hj).1
          have hv : vs[j]? = some vs[j] := Array.getElem?_eq_getElem (by omega)
          intro e
          exact hf2 vs[j] (by simp) ((hiff j p _ hj hv).2 e)
        rw [this]
        exact ⟨hz', rfl⟩
      | some q =>
        obtain ⟨n, x⟩ := q
        obtain ⟨e, h1, h2, h3, h4⟩ := hf2
        have hlt := (List.getElem?_eq_some_iff.1 h1).1
        have hlt' : n < es.length := by simp at hlt; omega
        have hv : vs[n]? = some e := by simpa using h1
        have hes : es[n]? = some es[n] := List.getElem?_eq_getElem hlt'
        have hkey := (hiff n _ e hes hv).1 h2
        have : mfind xk es = some es[n].2 := mfind_some n (by rw [hes, ← hkey]) fun j p hj hp => by
          have hltj := (List.getElem?_eq_some_iff.1 hp).1
          have hvj : vs[j]? = some vs[j] := Array.getElem?_eq_getElem (by omega)
          exact fun e => h4 j vs[j] hj (by simp) ((hiff j p _ hp hvj).2 e)
        rw [this]
        exact ⟨by rw [← h3]; exact (hr n _ e hes hv).2, rfl⟩
    obtain ⟨k1, k2⟩ := key
    rw [hres]
    unfold mres
    cases ok with
    | false => exact k1
    | true =>
      simp only [if_true]
      refine .tup (by simp) fun j x v hx hv => ?_
      match j with
      | 0 => simp at hx hv; subst hx; subst hv; exact k1
      | 1 => simp at hx hv; subst hx; subst hv; rw [k2]; exact .lit _
      | j + 2 => simp at hx
  unfold lookR at h
  split at h
  · rename_i id
    split at h
    case h_2 => cases h
    rename_i es hg
    cases hb : (kOk ag ks xk && es.all (fun p => kOk ag ks p.1)) with
    | false => rw [hb] at h; cases h
    | true =>
      rw [hb] at h
      simp only [cond_true, Option.some.injEq] at h
      simp only [Bool.and_eq_true] at hb
      generalize hv : a.eval m = vm at hm
      cases hm with
      | mp hρ =>
        obtain ⟨b', o', n', e1, e2, e3, vs, clock, e4, e5, e6⟩ := hst.live _ _ hg
        rw [hρ] at e1
        cases e1
        exact fin es vs (.inr ⟨_, _, hv, e4⟩) e5 e6 hb.2 hb.1 h.symm
  · cases hb : kOk ag ks xk with
    | false => rw [hb] at h; cases h
    | true =>
      rw [hb] at h
      simp only [cond_true, Option.some.injEq] at h
      generalize hv : a.eval m = vm at hm
      cases hm
      exact fin [] #[] (.inl ⟨hv, rfl⟩) rfl (fun j p v hp => by simp at hp) rfl hb (by rw [← h]; rfl)
  · cases h

theorem semOk_put (C : Ctx P) {t kt et : Nat} {m k v : Operand} {i : TI} (hi : C.ti t = some i) (hd : i.d = .map kt et) {ag : Bool} {ks : List KK} (hk : mkOf C kt = some (ag, ks)) {H H' : Hp} {xm xk xv : AV}
    (h : putR ag ks H xm xk xv = some H') : SemOk P C.σ (.mapUpdate t m k v) [xm, xk, xv] H (.lit undef) H' := by
  intro oper ho B w0 E w a hσ hst hrel
  obtain ⟨dst, op, ty, pos, after, guard⟩ := oper
  simp only at ho
  subst ho
  have hm := hrel 0 xm m rfl rfl
  have hkk := hrel 1 xk k rfl rfl
  have hvv := hrel 2 xv v rfl rfl
  obtain ⟨ht⟩ := tiOf_ok (C.hti _ _ hi)
  have hu := ht.hu
  have hde := ht.d_eq
  rw [hd] at hde
  have hum : P.underlying t = some (.map kt et) := by
    cases hdd : ht.d <;> rw [hdd] at hde hu <;> simp [TD.of] at hde
    rw [hde.1, hde.2]; exact hu
  have M := mkOf_ok C hk
  unfold putR at h
  split at h
  case h_2 => cases h
  rename_i id
  split at h
  case h_2 => cases h
  rename_i es hg
  cases hb : (kOk ag ks xk && (es.all (fun p => kOk ag ks p.1) && !xv.isAny)) with
  | false => rw [hb] at h; cases h
  | true =>
    rw [hb] at h
    simp only [cond_true, Option.some.injEq] at h
    subst h
    simp only [Bool.and_eq_true] at hb
    generalize hvm : a.eval m = vm at hm
    cases hm with
    | mp hρ =>
      rename_i b o n
      obtain ⟨b', o', n', e1, e2, e3, vs, clock, e4, e5, e6⟩ := hst.live _ _ hg
      rw [hρ] at e1
      cases e1
      obtain ⟨u, hku, hke, hue⟩ := kOk_ok hb.1
      have hku2 := hue E _ hkk
      obtain ⟨hall, hiff⟩ := find_rel e5 e6 hb.2.1 hku hke
      obtain ⟨fr, hf1, hf2⟩ := M.find w u vs.toList hku hall
      have hchk := M.check false w u hku
      have hlt := (Array.getElem?_eq_some_iff.1 e4).1
      have fin : ∀ (vs' : Array MapEntry) (clock' : Nat), (Instr.mapUpdate t (a.eval m) (a.eval k) (a.eval v)).run P w = .ok () { w with heap := w.heap.setIfInBounds b (.map vs' clock') } →
          vs'.size = (mput xk xv es).length → (∀ (j : Nat) (p : AV × AV) (x : MapEntry), (mput xk xv es)[j]? = some p → vs'[j]? = some x → Rel E p.1 x.key ∧ Rel E p.2 x.val) →
          Step P B w0 E (execOp a.eval ⟨dst, .mapUpdate t m k v, ty, pos, after, guard⟩) w (.lit undef) (H.set id (some (.map (mput xk xv es)))) := by
        intro vs' clock' hrun h1 h2
        refine ⟨E, .skip, { w with heap := w.heap.setIfInBounds b (.map vs' clock') }, (by simp only [execOp, Sem.run_bind, hrun, Result.andThen_ok, Sem.run_pure]), .refl E, ?_, .inr ⟨rfl, rfl⟩⟩
        refine hst.write hg hρ (k' := .map (mput xk xv es)) (fun c hc => by simp [Array.getElem?_setIfInBounds_ne (Ne.symm hc)]) (by simp) rfl rfl rfl ⟨vs', clock', by simp [hlt], h1, h2⟩
      cases fr with
      | none =>
        have hno : ∀ p ∈ es, p.1 ≠ xk := fun p hp => by
          obtain ⟨j, hj⟩ := List.getElem?_of_mem hp
          have hlt := (List.getElem?_eq_some_iff.1 hj).1
          have hv : vs[j]? = some vs[j] := Array.getElem?_eq_getElem (by omega)
          intro e
          exact hf2 vs[j] (by simp) ((hiff j p _ hj hv).2 e)
        refine fin (vs.push { key := u, val := a.eval v, born := clock }) (clock + 1) ?_ (by rw [mput_none hno]; simp [e5]) ?_
        · unfold Instr.mapUpdate
          rw [hvm, hku2]
          simp only [Sem.run_bind, run_underlying hum, Result.andThen_ok, Go.MapKept.run_getObj_map e4, hchk, hf1, Go.MapKept.run_setObj_map _ e4]
        · rw [mput_none hno]
          intro j p x hp hx
          by_cases hj : j < es.length
          · rw [List.getElem?_append_left hj] at hp
            rw [Array.getElem?_push, if_neg (by omega)] at hx
            exact e6 j p x hp hx
          · rw [List.getElem?_append_right (by omega)] at hp
            have : j = es.length := by have := (List.getElem?_eq_some_iff.1 hp).1; simp at this; omega
            subst this
            rw [← e5, Array.getElem?_push_size] at hx
            simp at hp
            subst hp
            cases hx
            exact ⟨by rw [← hku2]; exact hkk, hvv⟩
      | some q =>
        obtain ⟨n', x⟩ := q
        obtain ⟨e, h1, h2, h3, h4⟩ := hf2
        have hltn := (List.getElem?_eq_some_iff.1 h1).1
        have hlt' : n' < es.length := by simp at hltn; omega
        have hv : vs[n']? = some e := by simpa using h1
        have hes : es[n']? = some es[n'] := List.getElem?_eq_getElem hlt'
        have hkey := (hiff n' _ e hes hv).1 h2
        have hput : mput xk xv es = es.set n' (xk, xv) := mput_some n' (u := es[n'].2) (by rw [hes, ← hkey]) fun j p hj hp => by
          have hltj := (List.getElem?_eq_some_iff.1 hp).1
          have hvj : vs[j]? = some vs[j] := Array.getElem?_eq_getElem (by omega)
          exact fun e => h4 j vs[j] hj (by simp) ((hiff j p _ hp hvj).2 e)
        have hstay : (Instr.keyThatStays u u).run P w = .ok u w := by simp [Instr.keyThatStays, same_kv hku]
        refine fin (vs.modify n' fun e => { e with key := u, val := a.eval v }) clock ?_ (by rw [hput]; simp [e5]) ?_
        · unfold Instr.mapUpdate
          rw [hvm, hku2]
          simp only [Sem.run_bind, run_underlying hum, Result.andThen_ok, Go.MapKept.run_getObj_map e4, hchk, hf1, Go.MapKept.run_setObj_map _ e4, hv, Option.map_some, Option.getD_some, h2, hstay]
        · rw [hput]
          intro j p y hp hy
          rw [List.getElem?_set] at hp
          rw [Array.getElem?_modify] at hy
          by_cases hj : n' = j
          · subst hj
            rw [if_pos rfl, hv] at hy
            simp [hlt'] at hp hy
            subst hp; subst hy
            exact ⟨by rw [← hku2]; exact hkk, hvv⟩
          · rw [if_neg hj] at hp hy
            exact e6 j p y hp hy

theorem semOk_make (C : Ctx P) {t : Nat} {H : Hp} : SemOk P C.σ (.makeMap t none) [] H (.mp H.n) (H.new (.map [])) := by
  intro oper ho B w0 E w a hσ hst hrel
  obtain ⟨dst, op, ty, pos, after, guard⟩ := oper
  simp only at ho
  subst ho
  obtain ⟨e1, st1⟩ := hst.new (.map #[] 0) 0 0 (.map []) ⟨#[], 0, Array.getElem?_push_size, rfl, fun j p v hp => by simp at hp⟩
  refine ⟨_, .value (.map (some w.heap.size)), _, ?_, e1, st1, .inl ⟨_, rfl, .mp (o := 0) (n := 0) (by simp [Env.put])⟩⟩
  rfl
end
end
end Go.Proofs.Ytikcninaepoojaa.Ev

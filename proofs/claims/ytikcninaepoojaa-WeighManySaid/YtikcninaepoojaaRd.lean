/- What a call is handed, read as abstract values. -/
import Derived.Test.YtikcninaepoojaaEvE
import Derived.ProofKit
import Derived.OpenShut
import Derived.ShutString
import Derived.ChangeOld
import Derived.SizedLaws
namespace Go.Proofs.Ytikcninaepoojaa.Ev
open Go.RowKit Go.ChangeShapes Go.WideShapes Go.ChangeAt
set_option linter.unusedVariables false
set_option linter.unusedSimpArgs false

/-- Cells of types, one behind the other. -/
inductive Sh (ti : Nat → Option TI) : List Nat → List AV → Prop where
  | nil : Sh ti [] []
  | bool {t : Nat} {i : TI} {ts : List Nat} {ys : List AV} {b : Bool} (h : ti t = some i) (hd : i.d = .bool) (hs : Sh ti ts ys) : Sh ti (t :: ts) (.lit (.bool b) :: ys)
  | int {t : Nat} {i : TI} {ts : List Nat} {ys : List AV} {k : IntKind} {n : Int} (h : ti t = some i) (hd : i.d = .int k) (hw : (Lit.int k n).wf = true) (hs : Sh ti ts ys) : Sh ti (t :: ts) (.lit (.int k n) :: ys)
  | str {t : Nat} {i : TI} {ts : List Nat} {ys : List AV} {s : ByteArray} (h : ti t = some i) (hd : i.d = .string) (hw : s.size ≤ maxLen) (hs : Sh ti ts ys) : Sh ti (t :: ts) (.lit (.string s) :: ys)
  | ptrN {t : Nat} {i : TI} {ts : List Nat} {ys : List AV} {e : Nat} (h : ti t = some i) (hd : i.d = .ptr e) (hs : Sh ti ts ys) : Sh ti (t :: ts) (.lit (.pointer none) :: ys)
  | ptr {t : Nat} {i : TI} {ts : List Nat} {ys cs : List AV} {e : Nat} (h : ti t = some i) (hd : i.d = .ptr e) (hc : Sh ti [e] cs) (hs : Sh ti ts ys) : Sh ti (t :: ts) (.ip cs :: ys)
  | sl {t : Nat} {i j : TI} {ts : List Nat} {ys : List AV} {rows : List (List AV)} {e : Nat} (h : ti t = some i) (hd : i.d = .slice e) (he : ti e = some j) (hc : ∀ row ∈ rows, Sh ti [e] row) (hl : ∀ row ∈ rows, row.length = j.size)
      (hm : rows.length ≤ maxLen) (hs : Sh ti ts ys) : Sh ti (t :: ts) (.imm j.size rows :: ys)
  | struct {t : Nat} {i : TI} {ts : List Nat} {ys : List AV} {fs : List (Nat × Nat)} (h : ti t = some i) (hd : i.d = .struct fs) (hs : Sh ti (fs.map (·.2) ++ ts) ys) : Sh ti (t :: ts) ys
  | array {t : Nat} {i : TI} {ts : List Nat} {ys : List AV} {n e : Nat} (h : ti t = some i) (hd : i.d = .array n e) (hs : Sh ti (List.replicate n e ++ ts) ys) : Sh ti (t :: ts) ys

/-- Types that are read so: a list that has with each its parts. -/
def fieldsAt (ti : Nat → Option TI) : Nat → List (Nat × Nat) → Option Nat
  | o, [] => some o
  | o, (f, t) :: fs => match ti t with
    | some i => bif Nat.beq o f then fieldsAt ti (o + i.size) fs else none
    | none => none

def inB (S : List Nat) (t : Nat) : Bool := S.any (Nat.beq t)

def closed1 (ti : Nat → Option TI) (S : List Nat) (i : TI) : Bool :=
  match i.d with
  | .int _ => true
  | .bool => true
  | .string => true
  | .slice e => inB S e && (match ti e with | some j => Nat.blt 0 j.size | none => false)
  | .ptr e => inB S e && (match ti e with | some j => Nat.blt 0 j.size | none => false)
  | .array n e => inB S e && (match ti e with | some j => Nat.beq i.size (n * j.size) | none => false)
  | .struct fs => (fs.all fun f => inB S f.2) && (match fieldsAt ti 0 fs with | some n => Nat.beq n i.size | none => false)
  | _ => false

def closedB (ti : Nat → Option TI) (S : List Nat) : Bool :=
  S.all fun t => match ti t with
    | some i => closed1 ti S i
    | none => false

def rdE (σ : Sig) (W : World) : Env := ⟨fun _ => none, fun b => W.heap[b]?, σ⟩
def rdB (σ : Sig) (W : World) : Base := ⟨W, fun b => b < W.heap.size, fun _ => none, σ⟩

theorem St.start (σ : Sig) (W : World) : St W.heap.size (rdB σ W) (rdE σ W) Hp.empty W :=
  ⟨Below.refl _ _, Nat.le_refl _, fun _ _ h => h, fun _ _ => rfl, fun _ _ => rfl, fun id k h => by simp [Hp.empty, Hp.get, Tr.get] at h,
    fun i j k l h => by simp [Hp.empty, Hp.get, Tr.get] at h, fun b o h => .inr (Array.getElem?_eq_some_iff.1 h).1, fun b o h => by simp [rdB] at h, fun i k h => by simp [Hp.empty, Hp.get, Tr.get] at h, rfl⟩

theorem inB_mem {S : List Nat} {t : Nat} (h : inB S t = true) : t ∈ S := by
  simp only [inB, List.any_eq_true] at h
  obtain ⟨x, hx, he⟩ := h
  rw [Nat.eq_of_beq_eq_true he]
  exact hx

section
variable {P : Program} {ti : Nat → Option TI} (hti : ∀ t i, ti t = some i → tiOf P t = some i)
variable {H : Type} {enc : TypeId × Value → H} {W : World} {base : Nat} {spare : Nat → Bool} {held : Bool} {σ : Sig}

theorem cellsOf_ti {t : Nat} {i : TI} (h : TIok P t i) : P.cellsOf t = i.size := by
  simp [Program.cellsOf, h.hi, h.size_eq]

theorem cells?_ro {a : Addr} {n : Nat} {cs : List Value} (h : W.cells? base a n = some cs) (hn : 0 < n) :
    ∃ b o, a = ⟨b, o, none⟩ ∧ cs.length = n ∧ ∀ j v, cs[j]? = some v → (rdE σ W).cell b (o + j) = some v := by
  unfold World.cells? at h
  split at h
  case isFalse => cases h
  have hl := mapM_some_length h
  have hg := mapM_some_get h
  simp at hl
  obtain ⟨b, o, s⟩ := a
  have hs : s = none := by
    have h0 := hg 0 0 (by simp [hn])
    have hc : ∃ v, cs[0]? = some v := ⟨cs[0], List.getElem?_eq_getElem (by omega)⟩
    obtain ⟨v, hv⟩ := hc
    rw [hv] at h0
    simp only [Addr.add, if_true] at h0
    unfold World.cell? at h0
    split at h0
    · split at h0
      · cases h0
      · rename_i hs; cases s with
        | none => rfl
        | some _ => simp at hs
    · cases h0
  subst hs
  refine ⟨b, o, rfl, hl, fun j v hv => ?_⟩
  have hj : j < n := by have := (List.getElem?_eq_some_iff.1 hv).1; omega
  have h0 := hg j j (by simp [hj])
  rw [hv, addr_add] at h0
  unfold World.cell? at h0
  unfold Env.cell rdE
  simp only
  split at h0
  · rename_i c ty fr hh
    simp only at hh
    rw [hh]
    simpa using h0
  · cases h0

/-- Values one behind the other. -/
theorem RelL.append {E : Env} {xs ys : List AV} {a b : List Value} (h : RelL E xs a.toArray) (k : RelL E ys b.toArray) : RelL E (xs ++ ys) (a ++ b).toArray := by
  have h1 := h.len
  have h2 := k.len
  simp at h1 h2
  refine ⟨by simp [h1, h2], fun i x v hx hv => ?_⟩
  simp only [List.getElem?_toArray] at hv
  by_cases hi : i < xs.length
  · rw [List.getElem?_append_left hi] at hx
    rw [List.getElem?_append_left (by omega)] at hv
    exact h.at_ i x v hx (by simpa using hv)
  · rw [List.getElem?_append_right (by omega)] at hx
    rw [List.getElem?_append_right (by omega), h1] at hv
    exact k.at_ _ x v hx (by simpa using hv)

theorem RelL.one' {E : Env} {x : AV} {v : Value} (h : Rel E x v) : RelL E [x] [v].toArray := ⟨rfl, fun i y u hy hu => by
  cases i with
  | zero => simp at hy hu; subst hy; subst hu; exact h
  | succ i => simp at hy⟩

include hti in
theorem trod_sh {S : List Nat} (hS : closedB ti S = true) : ∀ (fuel : Nat) (t : Nat) (cs : List Value) (x : DataW H × List MemPlace), t ∈ S → DataW.trod enc P W base spare held fuel t cs = some x →
    ∃ xs, RelL (rdE σ W) xs cs.toArray ∧ ∀ ts ys, Sh ti ts ys → Sh ti (t :: ts) (xs ++ ys)
  | 0, t, cs, x, ht, h => by simp [DataW.trod] at h
  | fuel + 1, t, cs, x, ht, h => by
    have hc := List.all_eq_true.1 hS t ht
    have ih := trod_sh hS fuel
    split at hc
    case h_2 => cases hc
    rename_i i hi
    obtain ⟨tk⟩ := tiOf_ok (hti _ _ hi)
    have hu := tk.hu
    have hd := tk.d_eq
    have hsz := cellsOf_ti tk
    unfold closed1 at hc
    cases hdd : tk.d <;> rw [hdd] at hu hd <;> simp only [TD.of] at hd <;> rw [hd] at hc <;> simp only [Bool.false_eq_true] at hc
    case int k =>
      obtain ⟨n, rfl, _, hw⟩ := DataW.trod_int hu h
      exact ⟨[.lit (.int k n)], .one' (.lit _), fun ts ys hs => .int hi hd hw hs⟩
    case bool =>
      obtain ⟨b, rfl, _⟩ := DataW.trod_bool hu h
      exact ⟨[.lit (.bool b)], .one' (.lit _), fun ts ys hs => .bool hi hd hs⟩
    case string =>
      obtain ⟨s, rfl, _, hw⟩ := DataW.trod_string hu h
      exact ⟨[.lit (.string s)], .one' (.lit _), fun ts ys hs => .str hi hd hw hs⟩
    case pointer e =>
      simp only [Bool.and_eq_true] at hc
      have hm := inB_mem hc.1
      have hc := hc.2
      split at hc
      case h_2 => cases hc
      rename_i j hj
      obtain ⟨tj⟩ := tiOf_ok (hti _ _ hj)
      have hpos : 0 < P.cellsOf e := by rw [cellsOf_ti tj]; simp only [Nat.blt] at hc; exact Nat.le_of_ble_eq_true hc
      rcases DataW.trod_pointer hu h with ⟨rfl, _⟩ | ⟨a, cs', y, n, hn, rfl, _, hcs, hy⟩
      · exact ⟨[.lit (.pointer none)], .one' (.lit _), fun ts ys hs => .ptrN hi hd hs⟩
      · cases hn
        obtain ⟨zs, hz, hsh⟩ := ih e cs' y hm hy
        obtain ⟨b, o, rfl, hl, hro⟩ := cells?_ro (σ := σ) hcs hpos
        have hzl := hz.len
        simp at hzl
        have hv : ∀ j x, zs[j]? = some x → ∃ v, cs'[j]? = some v := fun j x hx => ⟨cs'[j]'(by have := (List.getElem?_eq_some_iff.1 hx).1; omega), List.getElem?_eq_getElem _⟩
        refine ⟨[.ip zs], .one' (.ip (fun j => cs'.getD j default) (fun j x hx => ?_) (fun j x hx => ?_)), fun ts ys hs => .ptr hi hd (by simpa using hsh [] [] .nil) hs⟩
        · obtain ⟨v, hv⟩ := hv j x hx
          rw [hro j v hv]
          simp [hv]
        · obtain ⟨v, hv⟩ := hv j x hx
          refine hz.at_ j x _ hx ?_
          simp [hv]
    case slice e =>
      simp only [Bool.and_eq_true] at hc
      have hm := inB_mem hc.1
      have hc := hc.2
      split at hc
      case h_2 => cases hc
      rename_i j hj
      obtain ⟨tj⟩ := tiOf_ok (hti _ _ hj)
      have hej := cellsOf_ti tj
      have hpos : 0 < P.cellsOf e := by rw [hej]; simp only [Nat.blt] at hc; exact Nat.le_of_ble_eq_true hc
      rcases DataW.trod_slice hu h with ⟨rfl, _⟩ | ⟨a, len, cap, elems, rest, n, hn, rfl, _, _, hlc, hcm, hel, hcells, _, _⟩
      · exact ⟨[.imm j.size []], .one' .immE, fun ts ys hs => .sl hi hd hj (by simp) (by simp) (by simp) hs⟩
      · cases hn
        have each : ∀ i, i < len → ∃ (cs' : List Value) (y : DataW H × List MemPlace), W.cells? base (a.add (i * P.cellsOf e)) (P.cellsOf e) = some cs' ∧ DataW.trod enc P W base spare held fuel e cs' = some y := by
          intro i hi
          have h0 := hcells i hi
          have : elems[i]? = some (elems[i]'(by omega)) := List.getElem?_eq_getElem _
          rw [this] at h0
          exact (Option.bind_eq_some_iff.1 h0).elim fun cs' ⟨h1, h2⟩ => ⟨cs', _, h1, h2⟩
        by_cases h0 : len = 0
        · subst h0
          exact ⟨[.imm j.size []], .one' .immE, fun ts ys hs => .sl hi hd hj (by simp) (by simp) (by simp) hs⟩
        · obtain ⟨b, o, s⟩ := a
          have hs0 : s = none := by
            obtain ⟨cs', y, h1, h2⟩ := each 0 (by omega)
            obtain ⟨b', o', he, _⟩ := cells?_ro (σ := σ) h1 hpos
            simp only [Nat.zero_mul, Addr.add, if_true] at he
            cases he; rfl
          subst hs0
          have rowsEx : ∃ rows : List (List AV × List Value), rows.length = len ∧ ∀ i p, rows[i]? = some p → Sh ti [e] p.1 ∧ p.1.length = j.size ∧ RelL (rdE σ W) p.1 p.2.toArray ∧ ∀ j' v, p.2[j']? = some v → (rdE σ W).cell b (o + (i * j.size + j')) = some v := by
            have one : ∀ i, i < len → ∃ p : List AV × List Value, Sh ti [e] p.1 ∧ p.1.length = j.size ∧ RelL (rdE σ W) p.1 p.2.toArray ∧ ∀ j' v, p.2[j']? = some v → (rdE σ W).cell b (o + (i * j.size + j')) = some v := by
              intro i hi
              obtain ⟨cs', y, h1, h2⟩ := each i hi
              obtain ⟨zs, hz, hsh⟩ := ih e cs' y hm h2
              obtain ⟨b', o', he, hl, hro⟩ := cells?_ro (σ := σ) h1 hpos
              rw [addr_add, hej] at he
              cases he
              have hzl := hz.len
              simp at hzl
              refine ⟨(zs, cs'), by simpa using hsh [] [] .nil, by rw [← hzl, hl, hej], hz, fun j' v hv => ?_⟩
              rw [← Nat.add_assoc]
              exact hro j' v hv
            clear hcells each hel hlc h
            have build : ∀ m, m ≤ len → ∃ rows : List (List AV × List Value), rows.length = m ∧ ∀ i p, rows[i]? = some p → Sh ti [e] p.1 ∧ p.1.length = j.size ∧ RelL (rdE σ W) p.1 p.2.toArray ∧ ∀ j' v, p.2[j']? = some v → (rdE σ W).cell b (o + (i * j.size + j')) = some v := by
              intro m
              induction m with
              | zero => intro _; exact ⟨[], rfl, fun i p hp => by simp at hp⟩
              | succ m ihm =>
                intro hm'
                obtain ⟨rows, hl, hr⟩ := ihm (by omega)
                obtain ⟨p, hp⟩ := one m (by omega)
                refine ⟨rows ++ [p], by simp [hl], fun i q hq => ?_⟩
                by_cases hi' : i < m
                · rw [List.getElem?_append_left (by omega)] at hq
                  exact hr i q hq
                · rw [List.getElem?_append_right (by omega)] at hq
                  have : i = m := by
                    have := (List.getElem?_eq_some_iff.1 hq).1
                    simp at this; omega
                  subst this
                  simp [hl] at hq
                  subst hq
                  exact hp
            exact build len (Nat.le_refl _)
          obtain ⟨rows, hrl, hrows⟩ := rowsEx
          refine ⟨[.imm j.size (rows.map (·.1))], .one' (.imm (fun i k => (rows.getD i ([], [])).2.getD k default) (by simp [hrl]) hlc (fun i cs hcs => ?_) (fun i cs k x hcs hx => ?_) (fun i cs k x hcs hx => ?_)), fun ts ys hs =>
            .sl hi hd hj (fun row hrow => ?_) (fun row hrow => ?_) (by simp [hrl]; omega) hs⟩
          · simp only [List.getElem?_map, Option.map_eq_some_iff] at hcs
            obtain ⟨p, hp, rfl⟩ := hcs
            exact (hrows i p hp).2.1
          · simp only [List.getElem?_map, Option.map_eq_some_iff] at hcs
            obtain ⟨p, hp, rfl⟩ := hcs
            obtain ⟨h1, h2, h3, h4⟩ := hrows i p hp
            have hl3 := h3.len
            simp at hl3
            have hk : p.2[k]? = some (p.2[k]'(by have := (List.getElem?_eq_some_iff.1 hx).1; omega)) := List.getElem?_eq_getElem _
            rw [h4 k _ hk]
            simp [hp, hk]
          · simp only [List.getElem?_map, Option.map_eq_some_iff] at hcs
            obtain ⟨p, hp, rfl⟩ := hcs
            obtain ⟨h1, h2, h3, h4⟩ := hrows i p hp
            have hl3 := h3.len
            simp at hl3
            have hk : p.2[k]? = some (p.2[k]'(by have := (List.getElem?_eq_some_iff.1 hx).1; omega)) := List.getElem?_eq_getElem _
            refine h3.at_ k x _ hx ?_
            simp [hp, hk]
          · obtain ⟨p, hp, rfl⟩ := List.mem_map.1 hrow
            obtain ⟨i', hi'⟩ := List.getElem?_of_mem hp
            exact (hrows i' p hi').1
          · obtain ⟨p, hp, rfl⟩ := List.mem_map.1 hrow
            obtain ⟨i', hi'⟩ := List.getElem?_of_mem hp
            exact (hrows i' p hi').2.1
    case array n e =>
      simp only [Bool.and_eq_true] at hc
      have hm := inB_mem hc.1
      have hc := hc.2
      split at hc
      case h_2 => cases hc
      rename_i j hj
      obtain ⟨tj⟩ := tiOf_ok (hti _ _ hj)
      have hej := cellsOf_ti tj
      have hsize := Nat.eq_of_beq_eq_true hc
      obtain ⟨xs, m, hm', _, hl, hxl, hx⟩ := DataW.trod_array hu h
      cases hm'
      have main : ∀ k, k ≤ n → ∃ zs, RelL (rdE σ W) zs (cs.drop ((n - k) * j.size)).toArray ∧ ∀ ts ys, Sh ti ts ys → Sh ti (List.replicate k e ++ ts) (zs ++ ys) := by
        intro k
        induction k with
        | zero =>
          intro _
          refine ⟨[], ⟨by simp; rw [hl, hsz, hsize]; omega, fun i x v hx => by simp at hx⟩, fun ts ys hs => hs⟩
        | succ k ihk =>
          intro hk
          obtain ⟨zs, hz, hsh⟩ := ihk (by omega)
          have hxi := hx (n - (k + 1)) (by omega)
          have : xs[n - (k + 1)]? = some (xs[n - (k + 1)]'(by omega)) := List.getElem?_eq_getElem _
          rw [this, hej] at hxi
          obtain ⟨us, hus, hush⟩ := ih e _ _ hm hxi
          refine ⟨us ++ zs, ?_, fun ts ys hs => ?_⟩
          · have e1 : cs.drop ((n - (k + 1)) * j.size) = (cs.drop ((n - (k + 1)) * j.size)).take j.size ++ cs.drop ((n - k) * j.size) := by
              conv => lhs; rw [← List.take_append_drop j.size (cs.drop ((n - (k + 1)) * j.size))]
              rw [List.drop_drop]
              congr 2
              rw [show n - k = n - (k + 1) + 1 by omega, Nat.add_mul, Nat.one_mul]
            rw [e1]
            exact hus.append hz
          · rw [List.replicate_succ, List.append_assoc]
            exact hush _ _ (hsh ts ys hs)
      obtain ⟨zs, hz, hsh⟩ := main n (Nat.le_refl _)
      refine ⟨zs, by simpa using hz, fun ts ys hs => .array hi hd (hsh ts ys hs)⟩
    case struct fs =>
      simp only [Bool.and_eq_true] at hc
      have hall := List.all_eq_true.1 hc.1
      have hc := hc.2
      split at hc
      case h_2 => cases hc
      rename_i tot htot
      have hsize := Nat.eq_of_beq_eq_true hc
      obtain ⟨xs, m, hm', _, hl, hxl, hx⟩ := DataW.trod_struct hu h
      cases hm'
      have main : ∀ (l : List (Nat × Nat)) (o : Nat), fieldsAt ti o l = some tot → (∀ f ∈ l, f ∈ fs.toList.map fun f => (f.offset, f.type)) → ∃ zs, RelL (rdE σ W) zs (cs.drop o).toArray ∧ ∀ ts ys, Sh ti ts ys → Sh ti (l.map (·.2) ++ ts) (zs ++ ys) := by
        intro l
        induction l with
        | nil =>
          intro o ho _
          simp only [fieldsAt, Option.some.injEq] at ho
          refine ⟨[], ⟨by simp; rw [hl, hsz, ho, hsize]; omega, fun i x v hx => by simp at hx⟩, fun ts ys hs => hs⟩
        | cons f l ihl =>
          intro o ho hmem
          obtain ⟨fo, ft⟩ := f
          simp only [fieldsAt] at ho
          split at ho
          case h_2 => cases ho
          rename_i j hj
          cases hb : Nat.beq o fo with
          | false => simp [hb] at ho
          | true =>
            simp only [hb, cond_true] at ho
            have := Nat.eq_of_beq_eq_true hb
            subst this
            obtain ⟨tj⟩ := tiOf_ok (hti _ _ hj)
            have hej := cellsOf_ti tj
            obtain ⟨zs, hz, hsh⟩ := ihl (o + j.size) ho (fun g hg => hmem g (List.mem_cons_of_mem _ hg))
            have hf := hmem (o, ft) (List.mem_cons_self ..)
            obtain ⟨fld, hfld, hfe⟩ := List.mem_map.1 hf
            obtain ⟨q, hq⟩ := List.getElem?_of_mem hfld
            simp only [Prod.mk.injEq] at hfe
            have hxi := hx q fld (by simpa using hq)
            have hqlt := (List.getElem?_eq_some_iff.1 hq).1
            simp at hqlt
            have : xs[q]? = some (xs[q]'(by omega)) := List.getElem?_eq_getElem _
            rw [this, hfe.1, hfe.2, hej] at hxi
            have hin := hall (o, ft) hf
            obtain ⟨us, hus, hush⟩ := ih ft _ _ (inB_mem hin) hxi
            refine ⟨us ++ zs, ?_, fun ts ys hs => ?_⟩
            · have e1 : cs.drop o = (cs.drop o).take j.size ++ cs.drop (o + j.size) := by
                conv => lhs; rw [← List.take_append_drop j.size (cs.drop o)]
                rw [List.drop_drop]
              rw [e1]
              exact hus.append hz
            · rw [List.map_cons, List.cons_append, List.append_assoc]
              exact hush _ _ (hsh ts ys hs)
      obtain ⟨zs, hz, hsh⟩ := main _ 0 htot (fun f hf => hf)
      exact ⟨zs, by simpa using hz, fun ts ys hs => .struct hi hd (hsh ts ys hs)⟩

/-- An argument. -/
def ShV (ti : Nat → Option TI) (t : Nat) (x : AV) : Prop :=
  match ti t with
  | some i => match i.d.agg with
    | true => ∃ ys, x = .agg ys ∧ Sh ti [t] ys
    | false => Sh ti [t] [x]
  | none => False

include hti in
theorem read_arg {S : List Nat} (hS : closedB ti S = true) {t : Nat} (ht : t ∈ S) {v : Value} {r : Reach} {b0 : Nat} (hval : Value.okWide P W r b0 t v) {d : DataW H} {ps : List MemPlace} (h : DataW.Trod enc P W base spare held t v d ps) :
    ∃ x, Rel (rdE σ W) x v ∧ ShV ti t x := by
  have _ := σ
  obtain ⟨fuel, hf⟩ := h
  obtain ⟨xs, h1, h2⟩ := trod_sh (σ := σ) hti hS fuel t _ _ ht hf
  have h2 := h2 [] [] .nil
  rw [List.append_nil] at h2
  have hc := List.all_eq_true.1 hS t ht
  split at hc
  case h_2 => cases hc
  rename_i i hi
  obtain ⟨tk⟩ := tiOf_ok (hti _ _ hi)
  have hu := tk.hu
  have hd := tk.d_eq
  have one : (∀ cs, v ≠ .agg cs) → i.d.agg = false → ∃ x, Rel (rdE σ W) x v ∧ ShV ti t x := by
    intro hv hag
    have hcells : v.cells = #[v] := by cases v <;> first | rfl | exact absurd rfl (hv _)
    rw [hcells] at h1
    have hl := h1.len
    simp at hl
    match xs, hl, h1, h2 with
    | [x], _, h1, h2 => exact ⟨x, h1.at_ 0 x v rfl (by simp), by simp only [ShV, hi, hag]; exact h2⟩
  have ag : (∃ cs, v = .agg cs) → i.d.agg = true → ∃ x, Rel (rdE σ W) x v ∧ ShV ti t x := by
    rintro ⟨cs, rfl⟩ hag
    refine ⟨.agg xs, .agg (by have := h1.len; simpa [Value.cells] using this) (fun j x v hx hv => h1.at_ j x v hx (by simpa [Value.cells] using hv)), by simp only [ShV, hi, hag]; exact ⟨xs, rfl, h2⟩⟩
  unfold closed1 at hc
  cases hdd : tk.d <;> rw [hdd] at hu hd <;> simp only [TD.of] at hd <;> rw [hd] at hc <;> simp only [Bool.false_eq_true] at hc
  case int k => obtain ⟨n, rfl⟩ := okWide_int hu hval; exact one (fun cs e => by cases e) (by rw [hd]; rfl)
  case bool => obtain ⟨n, rfl⟩ := okWide_bool hu hval; exact one (fun cs e => by cases e) (by rw [hd]; rfl)
  case string => obtain ⟨n, rfl⟩ := okWide_string hu hval; exact one (fun cs e => by cases e) (by rw [hd]; rfl)
  case slice e => obtain ⟨a, l, c, rfl⟩ := okWide_slice hu hval; exact one (fun cs e => by cases e) (by rw [hd]; rfl)
  case pointer e =>
    refine one (fun cs e => ?_) (by rw [hd]; rfl)
    subst e
    unfold Value.okWide at hval
    rw [hu] at hval
    simp only [Cell.okWide, Cell.ok] at hval
    rw [hu] at hval
    exact hval.elim
  case struct fs =>
    unfold Value.okWide at hval
    rw [hu] at hval
    obtain ⟨cs, e, _⟩ := hval
    exact ag ⟨cs, e⟩ (by rw [hd]; rfl)
  case array n e =>
    unfold Value.okWide at hval
    rw [hu] at hval
    obtain ⟨cs, e, _⟩ := hval
    exact ag ⟨cs, e⟩ (by rw [hd]; rfl)

/-- A good call that is handed what a law is handed. -/
theorem law_of_good {f : Nat} {xs : List AV} {vs : Array Value} {Hf : Hp} (hx : RelL (rdE σ W) xs vs) (hg : Good P σ f xs Hp.empty (.lit (.bool true)) Hf) :
    Calls P f vs W fun e W' => e = .returned (.bool true) ∧ Below W.heap.size W W' := by
  refine (hg.2 W.heap.size (rdB σ W) (rdE σ W) W vs rfl (St.start σ W) hx).mono fun e W' hh => ?_
  obtain ⟨E', v, rfl, h1, h2, h3⟩ := hh
  cases h3
  exact ⟨rfl, h2.below⟩
end
end Go.Proofs.Ytikcninaepoojaa.Ev

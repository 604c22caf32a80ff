/- Regions whose operations may come in several orders. -/
import Derived.Test.YtikcninaepoojaaEvA
namespace Go.Proofs.Ytikcninaepoojaa.Ev
open Go.RowKit (Below)
set_option linter.unusedVariables false
set_option linter.unusedSimpArgs false
set_option linter.unusedSectionVars false

def LeH (M H : Hp) : Prop := ∀ id k, M.get id = some k → H.get id = some k
theorem LeH.refl (H : Hp) : LeH H H := fun _ _ h => h

/-- Operations that only read. -/
def quietOp (o : Op) : Bool :=
  match o with
  | .move _ => true
  | .assign _ => true
  | .pick _ _ _ => true
  | .build _ _ => true
  | .load _ _ => true
  | .nilCheck _ => true
  | .binOp _ _ _ _ _ => true
  | .unOp _ _ _ => true
  | .makeFunc _ _ _ => true
  | .slice _ _ _ _ _ => true
  | .fieldAddr _ _ _ => true
  | .field _ _ _ => true
  | .indexAddr _ _ _ => true
  | .index _ _ _ => true
  | .extract _ _ => true
  | .call ⟨.builtin .len, _, _⟩ => true
  | .call ⟨.builtin .min, _, _⟩ => true
  | .call ⟨.builtin .max, _, _⟩ => true
  | _ => false

section
variable {P : Program} (C : Ctx P)

theorem cellsAt_mono {M H : Hp} (h : LeH M H) {x : AV} {n : Nat} {l : List AV} (hc : cellsAt M x n = some l) : cellsAt H x n = some l := by
  cases x <;> simp only [cellsAt] at hc ⊢ <;> try exact hc
  rename_i id off
  cases hg : M.get id with
  | none => simp [hg] at hc
  | some k => rw [h _ _ hg]; rw [hg] at hc; exact hc

theorem sliceArrA_mono {ti : Nat → Option TI} {M H : Hp} (h : LeH M H) {n e : Nat} {x y : AV} {lo hi mx : Option Int} (hc : sliceArrA ti M n e x lo hi mx = some y) : sliceArrA ti H n e x lo hi mx = some y := by
  unfold sliceArrA at hc ⊢
  cases hj : ti e with
  | none => simp only [hj] at hc; cases hc
  | some j =>
    simp only [hj] at hc ⊢
    cases x <;> simp only at hc ⊢ <;> try (cases hc; done)
    rename_i id off
    cases hg : M.get id with
    | none => simp only [hg] at hc; cases hc
    | some k => rw [hg] at hc; rw [h _ _ hg]; exact hc

theorem sliceA_mono {ti : Nat → Option TI} {M H : Hp} (h : LeH M H) {t : Nat} {x y : AV} {lo hi mx : Option Int} (hc : sliceA ti M t x lo hi mx = some y) : sliceA ti H t x lo hi mx = some y := by
  unfold sliceA at hc ⊢
  cases ht : ti t with
  | none => rw [ht] at hc; exact hc
  | some i =>
    rw [ht] at hc
    obtain ⟨d, a, b, z⟩ := i
    cases d <;> first | exact hc | exact sliceArrA_mono h hc

theorem map_heap {M M' H : Hp} {f : Option AV} {x : AV} (h : f.map (fun y => (y, M)) = some (x, M')) : f.map (fun y => (y, H)) = some (x, H) := by
  cases f with
  | none => cases h
  | some z => cases h; rfl

theorem map_heap2 {M M' H : Hp} {f g : Option AV} {x : AV} (hfg : ∀ z, f = some z → g = some z) (h : f.map (fun y => (y, M)) = some (x, M')) : g.map (fun y => (y, H)) = some (x, H) := by
  cases f with
  | none => cases h
  | some z => rw [hfg z rfl]; cases h; rfl

theorem loadA_mono {ti : Nat → Option TI} {M H : Hp} (h : LeH M H) {t : Nat} {x y : AV} (hc : loadA ti M t x = some y) : loadA ti H t x = some y := by
  unfold loadA at hc ⊢
  cases hi : ti t with
  | none => rw [hi] at hc; cases hc
  | some i =>
    simp only [hi] at hc ⊢
    cases hl : cellsAt M x i.size with
    | none => rw [hl] at hc; cases hc
    | some l => rw [hl] at hc; rw [cellsAt_mono h hl]; exact hc

theorem evOp_mono {T : List AV} {M H : Hp} (h : LeH M H) {o : Oper} (hq : quietOp o.op = true) {x : AV} {M' : Hp} (he : evOp C.ti C.keys C.as T M o = some (x, M')) : evOp C.ti C.keys C.as T H o = some (x, H) := by
  obtain ⟨dst, op, type, pos, after, guard⟩ := o
  cases op with
  | move y => cases he; rfl
  | assign y => cases he; rfl
  | pick c p q =>
    change (match evO T c with | .lit (.bool t) => some (pickA t (evO T p) (evO T q), M) | .sb e => (match look C.as e with | some t => some (pickA t (evO T p) (evO T q), M) | none => none) | _ => none) = _ at he
    change (match evO T c with | .lit (.bool t) => some (pickA t (evO T p) (evO T q), H) | .sb e => (match look C.as e with | some t => some (pickA t (evO T p) (evO T q), H) | none => none) | _ => none) = _
    generalize evO T c = z at he ⊢
    cases z with
    | lit v => cases v <;> first | (cases he; rfl) | (cases he; done)
    | sb e =>
      simp only at he ⊢
      generalize look C.as e = l at he ⊢
      cases l <;> first | (cases he; rfl) | (cases he; done)
    | _ => cases he
  | build t ps => exact map_heap he
  | load t y => exact map_heap2 (fun z hz => loadA_mono h hz) he
  | nilCheck y =>
    change (match evO T y with | .ptr id o => some (AV.ptr id o, M) | .ip cs => some (AV.ip cs, M) | .fn f cs => some (AV.fn f cs, M) | _ => none) = _ at he
    change (match evO T y with | .ptr id o => some (AV.ptr id o, H) | .ip cs => some (AV.ip cs, H) | .fn f cs => some (AV.fn f cs, H) | _ => none) = _
    generalize evO T y = z at he ⊢
    cases z <;> first | (cases he; rfl) | (cases he; done)
  | binOp op t y z yt => exact map_heap he
  | unOp op t y =>
    change (match evO T y with | .lit v => (sun op v).map fun u => (AV.lit u, M) | .sb e => (match (generalizing := false) op with | .not => some (AV.sb (.not e), M) | _ => none) | .sy k e => (match (generalizing := false) op with | .neg => some (AV.sy k (.bin .sub k (.num 0) e), M) | _ => none) | _ => none) = _ at he
    change (match evO T y with | .lit v => (sun op v).map fun u => (AV.lit u, H) | .sb e => (match (generalizing := false) op with | .not => some (AV.sb (.not e), H) | _ => none) | .sy k e => (match (generalizing := false) op with | .neg => some (AV.sy k (.bin .sub k (.num 0) e), H) | _ => none) | _ => none) = _
    generalize evO T y = z at he ⊢
    cases z with
    | lit v =>
      simp only at he ⊢
      generalize sun op v = u at he ⊢
      cases u with
      | none => cases he
      | some u => cases he; rfl
    | sb e => cases op <;> first | (cases he; rfl) | (cases he; done)
    | sy k e => cases op <;> first | (cases he; rfl) | (cases he; done)
    | _ => cases he
  | makeFunc fn first caps =>
    obtain ⟨first⟩ := first
    cases fn <;> cases first <;> first | (cases he; rfl) | (cases he; done)
  | slice t y lo hi mx =>
    change (match optInt T lo, optInt T hi, optInt T mx with | some lo, some hi, some mx => (sliceA C.ti M t (evO T y) lo hi mx).map fun y => (y, M) | _, _, _ => none) = _ at he
    change (match optInt T lo, optInt T hi, optInt T mx with | some lo, some hi, some mx => (sliceA C.ti H t (evO T y) lo hi mx).map fun y => (y, H) | _, _, _ => none) = _
    generalize optInt T lo = a at he ⊢
    generalize optInt T hi = b at he ⊢
    generalize optInt T mx = c at he ⊢
    cases a <;> cases b <;> cases c <;> first | (cases he; done) | exact map_heap2 (fun z hz => sliceA_mono h hz) he
  | fieldAddr t y f => exact map_heap he
  | field t y f => exact map_heap he
  | indexAddr t y i => exact map_heap he
  | index t y i => exact map_heap he
  | extract y i =>
    change (match evO T y with | .tup vs => (vs[i]?).map fun y => (y, M) | _ => none) = _ at he
    change (match evO T y with | .tup vs => (vs[i]?).map fun y => (y, H) | _ => none) = _
    generalize evO T y = z at he ⊢
    cases z <;> first | exact map_heap he | (cases he; done)
  | call c =>
    obtain ⟨callee, args, ts⟩ := c
    cases callee with
    | builtin b =>
      change builtinA C.ti M b ts (args.toList.map (evO T)) = _ at he
      change builtinA C.ti H b ts (args.toList.map (evO T)) = _
      generalize args.toList.map (evO T) = xs at he ⊢
      cases b with
      | len =>
        change (match ts[0]?, xs with | some t, [x] => (lenA C.ti t x).map fun y => (y, M) | _, _ => none) = _ at he
        change (match ts[0]?, xs with | some t, [x] => (lenA C.ti t x).map fun y => (y, H) | _, _ => none) = _
        generalize ts[0]? = t at he ⊢
        cases t with
        | none => cases he
        | some t =>
          match xs, he with
          | [x], he => exact map_heap he
          | [], he => cases he
          | _ :: _ :: _, he => cases he
      | min => exact map_heap he
      | max => exact map_heap he
      | _ => cases hq
    | _ => cases hq
  | _ => cases hq

/-! ### which orders there are -/
def preFold (acc : List Nat) (es : List Edge) (s : Nat) : Nat := es.foldl (fun s e => bif Region.binds .any e then s ||| (2 ^ e.on ||| acc.getD e.on 0) else s) s

def masksL : List Oper → List Nat → List Nat
  | [], acc => acc
  | o :: os, acc => masksL os (acc ++ [preFold acc o.after.toList 0])

theorem preFold_bit (acc : List Nat) (j : Nat) : ∀ (es : List Edge) (s : Nat), (preFold acc es s).testBit j = true → s.testBit j = true ∨ ∃ e ∈ es, Region.binds .any e = true ∧ (e.on = j ∨ (acc.getD e.on 0).testBit j = true)
  | [], s, h => .inl h
  | e :: es, s, h => by
    simp only [preFold, List.foldl_cons] at h
    rcases preFold_bit acc j es _ h with h | ⟨e', he, h1, h2⟩
    · cases hb : Region.binds .any e with
      | false => rw [hb, cond_false] at h; exact .inl h
      | true =>
        rw [hb, cond_true, Nat.testBit_or, Nat.testBit_or, Nat.testBit_two_pow] at h
        simp only [Bool.or_eq_true, decide_eq_true_eq] at h
        rcases h with h | h | h
        · exact .inl h
        · exact .inr ⟨e, by simp, hb, .inl h⟩
        · exact .inr ⟨e, by simp, hb, .inr h⟩
    · exact .inr ⟨e', by simp [he], h1, h2⟩

theorem masksL_prefix : ∀ (os : List Oper) (acc : List Nat), ∃ r, masksL os acc = acc ++ r ∧ r.length = os.length
  | [], acc => ⟨[], by simp [masksL], rfl⟩
  | o :: os, acc => by
    obtain ⟨r, h1, h2⟩ := masksL_prefix os (acc ++ [preFold acc o.after.toList 0])
    exact ⟨preFold acc o.after.toList 0 :: r, by rw [masksL, h1]; simp, by simp [h2]⟩

theorem masksL_at : ∀ (os : List Oper) (acc : List Nat) (i : Nat) (o : Oper), os[i]? = some o → (masksL os acc).getD (acc.length + i) 0 = preFold ((masksL os acc).take (acc.length + i)) o.after.toList 0
  | [], _, _, _, h => by simp at h
  | o :: os, acc, 0, o', h => by
    simp only [List.getElem?_cons_zero, Option.some.injEq] at h
    subst h
    obtain ⟨r, h1, _⟩ := masksL_prefix os (acc ++ [preFold acc o.after.toList 0])
    simp only [masksL, h1, Nat.add_zero]
    simp
  | o :: os, acc, i + 1, o', h => by
    have := masksL_at os (acc ++ [preFold acc o.after.toList 0]) i o' (by simpa using h)
    simp only [masksL]
    simp only [List.length_append, List.length_singleton] at this
    rw [show acc.length + (i + 1) = acc.length + 1 + i by omega]
    exact this

def preOf (ops : Array Oper) (i j : Nat) : Bool := ((masksL ops.toList []).getD i 0).testBit j

def edgesOk (ops : Array Oper) : Bool := ops.toList.zipIdx.all fun p => p.1.after.toList.all fun e => bif Region.binds .any e then Nat.blt e.on p.2 else true

theorem preOf_clos {ops : Array Oper} (hok : edgesOk ops = true) {i j : Nat} (h : preOf ops i j = true) : ∃ o, ops[i]? = some o ∧ ∃ e ∈ o.after.toList, Region.binds .any e = true ∧ e.on < i ∧ (e.on = j ∨ preOf ops e.on j = true) := by
  unfold preOf at h
  obtain ⟨r, h1, h2⟩ := masksL_prefix ops.toList []
  cases ho : ops.toList[i]? with
  | none =>
    have : (masksL ops.toList [])[i]? = none := by
      rw [List.getElem?_eq_none_iff] at ho ⊢
      rw [h1]; simp [h2] at *; omega
    rw [List.getD_eq_getElem?_getD, this] at h
    simp at h
  | some o =>
    have hat := masksL_at ops.toList [] i o ho
    simp only [List.length_nil, Nat.zero_add] at hat
    rw [hat] at h
    rcases preFold_bit _ _ _ _ h with h | ⟨e, he, hb, hj⟩
    · simp at h
    · refine ⟨o, by rw [← Array.getElem?_toList]; exact ho, e, he, hb, ?_⟩
      have hlt : e.on < i := by
        unfold edgesOk at hok
        have hm : (o, i) ∈ ops.toList.zipIdx := by
          rw [List.mem_zipIdx_iff_getElem?]
          exact ho
        have := List.all_eq_true.1 hok _ hm
        have := List.all_eq_true.1 this e he
        simp only [hb, cond_true] at this
        simpa [Nat.blt_eq] using this
      refine ⟨hlt, ?_⟩
      rcases hj with hj | hj
      · exact .inl hj
      · right
        unfold preOf
        rw [List.getD_eq_getElem?_getD, List.getElem?_take, if_pos hlt, ← List.getD_eq_getElem?_getD] at hj
        exact hj

theorem preOf_lt {ops : Array Oper} (hok : edgesOk ops = true) : ∀ (i : Nat) {j : Nat}, preOf ops i j = true → j < i := by
  intro i
  induction i using Nat.strongRecOn with
  | _ i ih =>
    intro j h
    obtain ⟨o, ho, e, he, hb, hlt, hj⟩ := preOf_clos hok h
    rcases hj with rfl | hj
    · exact hlt
    · have := ih _ hlt hj
      omega

/-- Down-closed sets of operations hold what must be ahead of theirs. -/
theorem closed_pre {ops : Array Oper} (hok : edgesOk ops = true) {S : Nat → Prop} (hS : ∀ i o, S i → ops[i]? = some o → ∀ e ∈ o.after.toList, Region.binds .any e = true → S e.on) :
    ∀ (i : Nat) {j : Nat}, S i → preOf ops i j = true → S j := by
  intro i
  induction i using Nat.strongRecOn with
  | _ i ih =>
    intro j hi h
    obtain ⟨o, ho, e, he, hb, hlt, hj⟩ := preOf_clos hok h
    have hse := hS i o hi ho e he hb
    rcases hj with rfl | hj
    · exact hse
    · exact ih _ hlt hse hj
end
end Go.Proofs.Ytikcninaepoojaa.Ev

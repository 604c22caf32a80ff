/- Regions whose operations may come in several orders: what they come to. -/
import Derived.Test.YtikcninaepoojaaEvB
namespace Go.Proofs.Ytikcninaepoojaa.Ev
open Go.RowKit (Below)
set_option linter.unusedVariables false
set_option linter.unusedSimpArgs false
set_option linter.unusedSectionVars false

section
variable {P : Program} (C : Ctx P)

/-! ### an operation looks at its operands alone -/
theorem evO_congr {T T' : List AV} {x : Operand} (h : ∀ t, x = .tmp t → T[t]? = T'[t]?) : evO T x = evO T' x := by
  cases x with
  | tmp t => simp only [evO, List.getD_eq_getElem?_getD, h t rfl]
  | _ => rfl

theorem pairs_congr {T T' : List AV} : ∀ (ps : List (Nat × Operand)), (∀ p ∈ ps, evO T p.2 = evO T' p.2) → (ps.map fun p => (p.1, evO T p.2)) = ps.map fun p => (p.1, evO T' p.2)
  | [], _ => rfl
  | p :: ps, h => by simp only [List.map_cons]; rw [h p (by simp), pairs_congr ps (fun q hq => h q (by simp [hq]))]

theorem optInt_congr {T T' : List AV} {o : Option Operand} (h : ∀ x, o = some x → evO T x = evO T' x) : optInt T o = optInt T' o := by
  cases o with
  | none => rfl
  | some x => simp only [optInt, h x rfl]

theorem map_congrL {T T' : List AV} (xs : Array Operand) (h : ∀ x ∈ xs, evO T x = evO T' x) : xs.toList.map (evO T) = xs.toList.map (evO T') :=
  List.map_congr_left fun x hx => h x (by simpa using hx)

theorem evOp_congr {T T' : List AV} {H : Hp} {o : Oper} (h : ∀ x ∈ o.op.operands, evO T x = evO T' x) : evOp C.ti C.keys C.as T H o = evOp C.ti C.keys C.as T' H o := by
  obtain ⟨dst, op, type, pos, after, guard⟩ := o
  cases op with
  | move y => exact congrArg (fun z => some (z, H)) (h y (by simp [Op.operands]))
  | assign y => exact congrArg (fun z => some (z, H)) (h y (by simp [Op.operands]))
  | pick c p q =>
    have e1 := h c (by simp [Op.operands]); have e2 := h p (by simp [Op.operands]); have e3 := h q (by simp [Op.operands])
    simp only [evOp, e1, e2, e3]
  | box t y => have e := h y (by simp [Op.operands]); simp only [evOp, e]
  | build t ps => have e := pairs_congr ps.toList (fun p hp => h p.2 (by simp [Op.operands]; exact ⟨p.1, by simpa using hp⟩)); simp only [evOp, e]
  | buildSlice t n ps => have e := pairs_congr ps.toList (fun p hp => h p.2 (by simp [Op.operands]; exact ⟨p.1, by simpa using hp⟩)); simp only [evOp, e]
  | load t y => have e := h y (by simp [Op.operands]); simp only [evOp, e]
  | store t p y => have e1 := h p (by simp [Op.operands]); have e2 := h y (by simp [Op.operands]); simp only [evOp, e1, e2]
  | nilCheck y => have e := h y (by simp [Op.operands]); simp only [evOp, e]
  | binOp op t p q yt => have e1 := h p (by simp [Op.operands]); have e2 := h q (by simp [Op.operands]); simp only [evOp, e1, e2]
  | unOp op t y => have e := h y (by simp [Op.operands]); simp only [evOp, e]
  | convert s d y => have e := h y (by simp [Op.operands]); simp only [evOp, e]
  | makeFunc fn first caps => have e := map_congrL caps (fun x hx => h x (by simp [Op.operands]; exact .inr hx)); simp only [evOp, e]
  | makeSlice t l c => have e1 := h l (by simp [Op.operands]); have e2 := h c (by simp [Op.operands]); simp only [evOp, e1, e2]
  | slice t y lo hi mx =>
    have e := h y (by simp [Op.operands])
    have e1 := optInt_congr (T := T) (T' := T') (o := lo) (fun x hx => h x (by simp [Op.operands, hx]))
    have e2 := optInt_congr (T := T) (T' := T') (o := hi) (fun x hx => h x (by simp [Op.operands, hx]))
    have e3 := optInt_congr (T := T) (T' := T') (o := mx) (fun x hx => h x (by simp [Op.operands, hx]))
    simp only [evOp, e, e1, e2, e3]
  | fieldAddr t y f => have e := h y (by simp [Op.operands]); simp only [evOp, e]
  | field t y f => have e := h y (by simp [Op.operands]); simp only [evOp, e]
  | indexAddr t y i => have e1 := h y (by simp [Op.operands]); have e2 := h i (by simp [Op.operands]); simp only [evOp, e1, e2]
  | index t y i => have e1 := h y (by simp [Op.operands]); have e2 := h i (by simp [Op.operands]); simp only [evOp, e1, e2]
  | extract y i => have e := h y (by simp [Op.operands]); simp only [evOp, e]
  | call c =>
    obtain ⟨callee, args, ts⟩ := c
    have e := map_congrL args (fun x hx => h x (by simp [Op.operands, Call.operands]; exact .inr hx))
    cases callee with
    | builtin b => simp only [evOp, e]
    | _ => rfl
  | _ => rfl

theorem Op1.congr {T T' : List AV} {H H' : Hp} {o : Oper} {x : AV} (h : ∀ x ∈ o.op.operands, evO T x = evO T' x) (h1 : Op1 C T H o x H') : Op1 C T' H o x H' := by
  cases h1 with
  | op he => exact .op (by rw [← evOp_congr C h]; exact he)
  | sem hd hs =>
    have e := map_congrL o.op.operands h
    exact .sem hd (by rw [← e]; exact hs)
  | yield ho hf hg =>
    rename_i f args ts id
    rw [ho] at h
    have e := map_congrL args (fun x hx => h x (by simp [Op.operands, Call.operands, hx]))
    refine .yield ho (by rw [← h f (by simp [Op.operands, Call.operands])]; exact hf) ?_
    rw [← e]; exact hg
  | call ho hf hg =>
    rename_i f args ts g caps
    rw [ho] at h
    have e := map_congrL args (fun x hx => h x (by simp [Op.operands, Call.operands, hx]))
    refine .call ho (by rw [← h f (by simp [Op.operands, Call.operands])]; exact hf) ?_
    rw [← e]; exact hg

theorem mem_looks {ops : Array Oper} {o : Oper} {t : Nat} (h : Operand.tmp t ∈ o.op.operands) : t ∈ o.looksAt ops := by
  unfold Oper.looksAt
  refine List.mem_append.2 (.inl ?_)
  rw [List.mem_filterMap]
  exact ⟨.tmp t, by simpa using h, rfl⟩

theorem wanted_congr {as : List (BExp × Bool)} {ops : Array Oper} {o : Oper} {T T' : List AV} (h : ∀ t ∈ o.looksAt ops, T[t]? = T'[t]?) : wantA as ops T o = wantA as ops T' o := by
  unfold wantA
  cases hg : o.guard with
  | none => rfl
  | some p =>
    obtain ⟨g, want⟩ := p
    simp only
    cases hd : (ops[g]?).bind (·.dst) with
    | none => rfl
    | some d =>
      have hm : d ∈ o.looksAt ops := by
        unfold Oper.looksAt
        refine List.mem_append.2 (.inr ?_)
        simp [hg, hd]
      simp only [Option.bind_some, h d hm]

/-! ### the slots behind a set of operations -/
def dstAt (ops : Array Oper) (i : Nat) : Option Tmp := (ops[i]?).bind (·.dst)

def TS (ops : Array Oper) (xs : Nat → AV) (S : Nat → Bool) (l : List Nat) (T : List AV) : List AV := l.foldl (fun T i => bif S i then putA T (dstAt ops i) (xs i) else T) T

theorem TS_len (ops : Array Oper) (xs : Nat → AV) (S : Nat → Bool) : ∀ (l : List Nat) (T : List AV), (TS ops xs S l T).length = T.length
  | [], _ => rfl
  | i :: l, T => by
    show (TS ops xs S l (bif S i then putA T (dstAt ops i) (xs i) else T)).length = _
    rw [TS_len ops xs S l]
    cases S i
    · rfl
    · rw [cond_true]; unfold putA; split <;> simp

theorem TS_get {ops : Array Oper} (hinj : ∀ i j d, dstAt ops i = some d → dstAt ops j = some d → i = j) (xs : Nat → AV) (S : Nat → Bool) (t : Nat) : ∀ (l : List Nat) (T : List AV),
    (∀ j ∈ l, S j = true → dstAt ops j = some t → (TS ops xs S l T)[t]? = if t < T.length then some (xs j) else none) ∧
    ((∀ j ∈ l, S j = true → dstAt ops j ≠ some t) → (TS ops xs S l T)[t]? = T[t]?)
  | [], T => ⟨fun j hj => by simp at hj, fun _ => rfl⟩
  | i :: l, T => by
    obtain ⟨h1, h2⟩ := TS_get hinj xs S t l (bif S i then putA T (dstAt ops i) (xs i) else T)
    have hlen : (bif S i then putA T (dstAt ops i) (xs i) else T).length = T.length := by
      cases S i
      · rfl
      · rw [cond_true]; unfold putA; split <;> simp
    have hcons : TS ops xs S (i :: l) T = TS ops xs S l (bif S i then putA T (dstAt ops i) (xs i) else T) := rfl
    rw [hcons]
    by_cases hl : ∃ j ∈ l, S j = true ∧ dstAt ops j = some t
    · obtain ⟨j, hj, hSj, hdj⟩ := hl
      have := h1 j hj hSj hdj
      rw [hlen] at this
      refine ⟨fun k hk hSk hdk => ?_, fun hno => absurd hdj (hno j (by simp [hj]) hSj)⟩
      have : k = j := hinj k j t hdk hdj
      subst this
      assumption
    · have hno : ∀ j ∈ l, S j = true → dstAt ops j ≠ some t := fun j hj hS hd => hl ⟨j, hj, hS, hd⟩
      have e := h2 hno
      refine ⟨fun k hk hSk hdk => ?_, fun hno' => ?_⟩
      · rcases List.mem_cons.1 hk with rfl | hk
        · rw [e, hSk, cond_true, hdk]
          simp only [putA, List.getElem?_set, if_true]
        · exact absurd hdk (hno k hk hSk)
      · rw [e]
        cases hS : S i with
        | false => rfl
        | true =>
          rw [cond_true]
          have hne := hno' i (by simp) hS
          cases hd : dstAt ops i with
          | none => rfl
          | some d =>
            have : d ≠ t := fun e => hne (by rw [hd, e])
            simp only [putA, List.getElem?_set, if_neg this]

/-- The slots as the text's order has them ahead of operation i. -/
def TT (ops : Array Oper) (xs : Nat → AV) (T : List AV) (i : Nat) : List AV := TS ops xs (fun _ => true) (List.range i) T

theorem TT_succ (ops : Array Oper) (xs : Nat → AV) (T : List AV) (i : Nat) : TT ops xs T (i + 1) = putA (TT ops xs T i) (dstAt ops i) (xs i) := by
  unfold TT TS
  rw [List.range_succ, List.foldl_append]
  rfl

structure Stat (ops : Array Oper) : Prop where
  edges : edgesOk ops = true
  dst : ∀ i j d, dstAt ops i = some d → dstAt ops j = some d → i = j
  rd : ∀ i o, ops[i]? = some o → ∀ t, t ∈ o.looksAt ops → ∀ j, dstAt ops j = some t → j = i ∨ preOf ops i j = true ∨ preOf ops j i = true

structure Dyn (ops : Array Oper) (T0 : List AV) (H0 : Hp) (xs : Nat → AV) (hs : Nat → Hp) (louds : List Nat) : Prop where
  h0 : hs 0 = H0
  each : ∀ i o, ops[i]? = some o →
    (wantA C.as ops (TT ops xs T0 i) o = some false ∧ xs i = .lit undef ∧ i ∉ louds) ∨
    (wantA C.as ops (TT ops xs T0 i) o = some true ∧ i ∉ louds ∧ quietOp o.op = true ∧ ∃ lo hi, lo ≤ louds.length ∧ (∀ k, lo ≤ k → k ≤ hi → ∃ M, evOp C.ti C.keys C.as (TT ops xs T0 i) (hs k) o = some (xs i, M)) ∧
      ∀ m l, louds[m]? = some l → (m < lo → preOf ops i l = true) ∧ (hi ≤ m → preOf ops l i = true)) ∨
    (wantA C.as ops (TT ops xs T0 i) o = some true ∧ ∃ m, louds[m]? = some i ∧ Op1 C (TT ops xs T0 i) (hs m) o (xs i) (hs (m + 1)))
  ord : ∀ m l l', louds[m]? = some l → louds[m + 1]? = some l' → preOf ops l' l = true
  lt : ∀ l ∈ louds, l < ops.size

theorem len_filter {p q : Nat → Bool} : ∀ (l : List Nat), (∀ x ∈ l, q x = true → p x = true) → ∀ i, i ∈ l → p i = true → q i = false → (l.filter q).length < (l.filter p).length
  | [], _, i, hi, _, _ => by simp at hi
  | x :: l, h, i, hi, hp, hq => by
    have hle : (l.filter q).length ≤ (l.filter p).length := by
      clear hi hp hq
      induction l with
      | nil => simp
      | cons y l ih =>
        have := ih (fun z hz => h z (by simp at hz ⊢; rcases hz with h | h <;> simp [h]))
        have hy := h y (by simp)
        simp only [List.filter_cons]
        cases hqy : q y
        · cases hpy : p y <;> simp <;> omega
        · rw [hy hqy]; simp; omega
    simp only [List.filter_cons]
    by_cases hx : i = x
    · subst hx
      rw [hp, hq]
      simp; omega
    · have hil : i ∈ l := by simpa [hx] using hi
      have := len_filter l (fun z hz => h z (by simp [hz])) i hil hp hq
      have hxx := h x (by simp)
      cases hqx : q x
      · cases hpx : p x <;> simp <;> omega
      · rw [hxx hqx]; simp; omega

theorem louds_pre {ops : Array Oper} (hok : edgesOk ops = true) {louds : List Nat} (ord : ∀ m l l', louds[m]? = some l → louds[m + 1]? = some l' → preOf ops l' l = true) {S : Nat → Prop}
    (hS : ∀ i j, S i → preOf ops i j = true → S j) : ∀ (d m l l' : Nat), louds[m]? = some l → louds[m + d]? = some l' → S l' → S l
  | 0, m, l, l', h1, h2, hs => by rw [Nat.add_zero, h1] at h2; cases h2; exact hs
  | d + 1, m, l, l', h1, h2, hs => by
    have hlt := (List.getElem?_eq_some_iff.1 h2).1
    have hmid : louds[m + d]? = some louds[m + d] := List.getElem?_eq_getElem (by omega)
    have := ord (m + d) _ _ hmid (by rw [show m + d + 1 = m + (d + 1) by omega]; exact h2)
    exact louds_pre hok ord hS d m l _ h1 hmid (hS _ _ hs this)

theorem draw_ok (hm : P.follows .mixedOrders = true) {ops : Array Oper} (hst : Stat ops) {T0 : List AV} {H0 : Hp} {xs : Nat → AV} {hs : Nat → Hp} {louds : List Nat} (hd : Dyn C ops T0 H0 xs hs louds) :
    DrawOk (P := P) C.σ ops T0 H0 (TT ops xs T0 ops.size) (hs louds.length) := by
  intro B w0 E a w hσ hw hT Q hQ ro id
  refine wpIn_region_any hm ?_
  -- the invariant
  have key : ∀ (fuel : Nat) (listed : Array Bool) (a' : Act) (w' : World), listed.size = ops.size →
      ((List.range ops.size).filter fun i => !listed.getD i false).length ≤ fuel →
      (∀ i o, listed.getD i false = true → ops[i]? = some o → ∀ e ∈ o.after.toList, Region.binds .any e = true → listed.getD e.on false = true) →
      (∃ E' k, E.Ext E' ∧ k ≤ louds.length ∧ (∀ m l, louds[m]? = some l → (listed.getD l false = true ↔ m < k)) ∧ St B w0 E' (hs k) w' ∧ RelL E' (TS ops xs (fun i => listed.getD i false) (List.range ops.size) T0) a'.tmps ∧ a'.defers = a.defers) →
      wpAnyIn (FW ro) 0 P .any ops Q fuel listed a' w' := by
    intro fuel
    have fin : ∀ (listed : Array Bool) (a' : Act) (w' : World), listed.size = ops.size →
        (∀ i o, listed.getD i false = true → ops[i]? = some o → ∀ e ∈ o.after.toList, Region.binds .any e = true → listed.getD e.on false = true) →
        (∃ E' k, E.Ext E' ∧ k ≤ louds.length ∧ (∀ m l, louds[m]? = some l → (listed.getD l false = true ↔ m < k)) ∧ St B w0 E' (hs k) w' ∧ RelL E' (TS ops xs (fun i => listed.getD i false) (List.range ops.size) T0) a'.tmps ∧ a'.defers = a.defers) →
        Region.ready .any ops listed = [] → Q .normal a' w' := by
      intro listed a' w' hsz hcl hinv hrd
      -- all are listed
      have hall : ∀ i, i < ops.size → listed.getD i false = true := by
        intro i
        induction i using Nat.strongRecOn with
        | _ i ih =>
          intro hi
          cases hli : listed.getD i false with
          | true => rfl
          | false =>
            exfalso
            have hmem : i ∈ Region.ready .any ops listed := by
              unfold Region.ready
              rw [List.mem_filter]
              refine ⟨List.mem_range.2 hi, ?_⟩
              have hli' : listed.getD i true = false := by
                rw [Array.getD_eq_getD_getElem?] at hli ⊢
                rw [Array.getElem?_eq_getElem (by omega)] at hli ⊢
                exact hli
              have hoi : ops[i]? = some ops[i] := Array.getElem?_eq_getElem hi
              rw [hli', hoi]
              simp only [Bool.not_false, Bool.true_and, Option.map_some, Option.getD_some, Array.all_eq_true']
              intro e he
              cases hb : Region.binds .any e with
              | false => rfl
              | true =>
                have hlt : e.on < i := by
                  have hok := hst.edges
                  unfold edgesOk at hok
                  have hm : (ops[i], i) ∈ ops.toList.zipIdx := by
                    rw [List.mem_zipIdx_iff_getElem?]
                    simp
                  have := List.all_eq_true.1 hok _ hm
                  have := List.all_eq_true.1 this e (by simpa using he)
                  simp only [hb, cond_true] at this
                  simpa [Nat.blt_eq] using this
                simp [ih _ hlt (by omega)]
            rw [hrd] at hmem
            cases hmem
      obtain ⟨E', k, hE, hk, hlk, hS, hR, hdef⟩ := hinv
      have hkk : k = louds.length := by
        rcases Nat.lt_or_ge k louds.length with h | h
        · have := (hlk k louds[k] (List.getElem?_eq_getElem h)).1 (hall _ (hd.lt _ (List.getElem_mem h)))
          omega
        · omega
      subst hkk
      refine hQ E' a' w' hE hS ?_ hdef
      have : TS ops xs (fun i => listed.getD i false) (List.range ops.size) T0 = TT ops xs T0 ops.size := by
        unfold TT TS
        have : ∀ (l : List Nat), (∀ i ∈ l, i < ops.size) → ∀ T, l.foldl (fun T i => bif listed.getD i false then putA T (dstAt ops i) (xs i) else T) T = l.foldl (fun T i => bif true then putA T (dstAt ops i) (xs i) else T) T := by
          intro l
          induction l with
          | nil => intro _ T; rfl
          | cons i l ih =>
            intro h T
            simp only [List.foldl_cons]
            rw [hall i (h i (by simp))]
            exact ih (fun j hj => h j (by simp [hj])) _
        exact this _ (fun i hi => List.mem_range.1 hi) T0
      rw [← this]
      exact hR
    induction fuel with
    | zero =>
      intro listed a' w' hsz hun hcl hinv
      have hrd : Region.ready .any ops listed = [] := by
        unfold Region.ready
        rw [List.filter_eq_nil_iff]
        intro i hi
        have : ¬ (!listed.getD i false) = true := by
          have hnil : ((List.range ops.size).filter fun i => !listed.getD i false) = [] := List.eq_nil_of_length_eq_zero (by omega)
          exact (List.filter_eq_nil_iff.1 hnil) i hi
        have hlt := List.mem_range.1 hi
        have h2 : listed.getD i true = true := by
          rw [Array.getD_eq_getD_getElem?] at this ⊢
          rw [Array.getElem?_eq_getElem (by omega)] at this ⊢
          simpa using this
        simp [h2]
      exact ⟨hrd, fin listed a' w' hsz hcl hinv hrd⟩
    | succ fuel ih =>
      intro listed a' w' hsz hun hcl hinv
      refine ⟨fin listed a' w' hsz hcl hinv, fun i hi => ?_⟩
      -- an operation that is ready
      unfold Region.ready at hi
      rw [List.mem_filter] at hi
      obtain ⟨hir, hic⟩ := hi
      have hin := List.mem_range.1 hir
      have hoi : ops[i]? = some ops[i] := Array.getElem?_eq_getElem hin
      rw [hoi] at hic
      simp only [Option.map_some, Option.getD_some, Bool.and_eq_true, Array.all_eq_true'] at hic
      obtain ⟨hnl, hpre⟩ := hic
      have hnl : listed.getD i false = false := by
        rw [Array.getD_eq_getD_getElem?] at hnl ⊢
        rw [Array.getElem?_eq_getElem (by omega)] at hnl ⊢
        simp at hnl ⊢
        exact hnl
      have hpre : ∀ e ∈ ops[i].after.toList, Region.binds .any e = true → listed.getD e.on false = true := by
        intro e he hb
        have := hpre e (by simpa using he)
        simpa [hb] using this
      have hclp : ∀ i j, listed.getD i false = true → preOf ops i j = true → listed.getD j false = true := fun i j h1 h2 => closed_pre hst.edges (S := fun i => listed.getD i false = true) hcl i h1 h2
      have hprei : ∀ j, preOf ops i j = true → listed.getD j false = true := by
        intro j hj
        obtain ⟨o, ho, e, he, hb, hlt, hjj⟩ := preOf_clos hst.edges hj
        rw [hoi] at ho
        cases ho
        have := hpre e he hb
        rcases hjj with rfl | hjj
        · exact this
        · exact hclp _ _ this hjj
      obtain ⟨E', k, hE, hk, hlk, hS, hR, hdef⟩ := hinv
      -- what it looks at is as in the text's order
      have hlook : ∀ t ∈ (ops[i]).looksAt ops, (TT ops xs T0 i)[t]? = (TS ops xs (fun i => listed.getD i false) (List.range ops.size) T0)[t]? := by
        intro t ht
        obtain ⟨g1, g2⟩ := TS_get hst.dst xs (fun _ => true) t (List.range i) T0
        obtain ⟨s1, s2⟩ := TS_get hst.dst xs (fun i => listed.getD i false) t (List.range ops.size) T0
        by_cases hj : ∃ j, dstAt ops j = some t ∧ preOf ops i j = true
        · obtain ⟨j, hdj, hpj⟩ := hj
          have hlt := preOf_lt hst.edges i hpj
          unfold TT
          rw [g1 j (List.mem_range.2 hlt) rfl hdj, s1 j (List.mem_range.2 (by omega)) (hprei j hpj) hdj]
        · have hno : ∀ j, dstAt ops j = some t → j = i ∨ preOf ops j i = true := by
            intro j hdj
            rcases hst.rd i _ hoi t ht j hdj with h | h | h
            · exact .inl h
            · exact absurd ⟨j, hdj, h⟩ hj
            · exact .inr h
          unfold TT
          have q1 := g2 (fun j hj' _ hdj => by
            rcases hno j hdj with rfl | h
            · have := List.mem_range.1 hj'; omega
            · have := preOf_lt hst.edges j h; have := List.mem_range.1 hj'; omega)
          have q2 := s2 (fun j hj' hSj hdj => by
            rcases hno j hdj with rfl | h
            · rw [hnl] at hSj; cases hSj
            · have := hclp _ _ hSj h; rw [hnl] at this; cases this)
          rw [q1, q2]
      have hops : ∀ x ∈ (ops[i]).op.operands, evO (TT ops xs T0 i) x = evO (TS ops xs (fun i => listed.getD i false) (List.range ops.size) T0) x := fun x hx => evO_congr fun t ht => by
        subst ht
        exact hlook t (mem_looks hx)
      have hwant := wanted_congr (as := C.as) hlook
      -- the next list
      have hset : ∀ j, (listed.setIfInBounds i true).getD j false = if j = i then true else listed.getD j false := by
        intro j
        rw [Array.getD_eq_getD_getElem?, Array.getD_eq_getD_getElem?, Array.getElem?_setIfInBounds]
        by_cases hji : i = j
        · subst hji; simp [hsz, hin]
        · rw [if_neg hji, if_neg (fun e => hji e.symm)]
      have hnext : ∀ (E2 : Env) (k2 : Nat) (a2 : Act) (w2 : World) (v : Value), E'.Ext E2 → k2 ≤ louds.length → (∀ m l, louds[m]? = some l → ((if l = i then true else listed.getD l false) = true ↔ m < k2)) → St B w0 E2 (hs k2) w2 → Rel E2 (xs i) v →
          a2 = a'.put ops[i].dst v → wpAnyIn (FW ro) 0 P .any ops Q fuel (listed.setIfInBounds i true) a2 w2 := by
        intro E2 k2 a2 w2 v hE2 hk2 hlk2 hS2 hrel ha2
        refine ih _ a2 w2 (by simp [hsz]) ?_ ?_ ⟨E2, k2, hE.trans hE2, hk2, fun m l hl => by rw [hset]; exact hlk2 m l hl, hS2, ?_, by rw [ha2, put_defers]; exact hdef⟩
        · have := len_filter (p := fun i => !listed.getD i false) (q := fun j => !(listed.setIfInBounds i true).getD j false) (List.range ops.size) (fun x _ hx => by
            simp only [hset] at hx
            split at hx
            · cases hx
            · exact hx) i (List.mem_range.2 hin) (by simp only [hnl, Bool.not_false]) (by simp only [hset, if_true, Bool.not_true])
          omega
        · intro j o hj ho e he hb
          rw [hset] at hj ⊢
          split
          · rfl
          · rename_i hne
            split at hj
            · rename_i hji
              subst hji
              rw [hoi] at ho
              cases ho
              exact hpre e he hb
            · exact hcl j o hj ho e he hb
        · -- the slots
          have hput : RelL E2 (putA (TS ops xs (fun i => listed.getD i false) (List.range ops.size) T0) (dstAt ops i) (xs i)) a2.tmps := by
            rw [ha2]
            have : dstAt ops i = ops[i].dst := by simp [dstAt, hoi]
            rw [this]
            exact relL_put (hR.ext hE2) hrel _
          have heq : TS ops xs (fun j => (listed.setIfInBounds i true).getD j false) (List.range ops.size) T0 = putA (TS ops xs (fun i => listed.getD i false) (List.range ops.size) T0) (dstAt ops i) (xs i) := by
            apply List.ext_getElem?
            intro t
            obtain ⟨s1, s2⟩ := TS_get hst.dst xs (fun i => listed.getD i false) t (List.range ops.size) T0
            obtain ⟨n1, n2⟩ := TS_get hst.dst xs (fun j => (listed.setIfInBounds i true).getD j false) t (List.range ops.size) T0
            by_cases hdi : dstAt ops i = some t
            · rw [n1 i hir (by simp only [hset, if_true]) hdi, hdi]
              simp only [putA, List.getElem?_set, if_true, TS_len]
            · have hright : (putA (TS ops xs (fun i => listed.getD i false) (List.range ops.size) T0) (dstAt ops i) (xs i))[t]? = (TS ops xs (fun i => listed.getD i false) (List.range ops.size) T0)[t]? := by
                cases hd' : dstAt ops i with
                | none => rfl
                | some d =>
                  have : d ≠ t := fun e => hdi (by rw [hd', e])
                  simp only [putA, List.getElem?_set, if_neg this]
              rw [hright]
              by_cases hj : ∃ j ∈ List.range ops.size, listed.getD j false = true ∧ dstAt ops j = some t
              · obtain ⟨j, hjr, hSj, hdj⟩ := hj
                rw [s1 j hjr hSj hdj, n1 j hjr (by simp only [hset]; split; rfl; exact hSj) hdj]
              · rw [s2 (fun j hjr hSj hdj => hj ⟨j, hjr, hSj, hdj⟩), n2 (fun j hjr hSj hdj => ?_)]
                simp only [hset] at hSj
                split at hSj
                · rename_i e; subst e; exact hdi hdj
                · exact hj ⟨j, hjr, hSj, hdj⟩
          rw [heq]
          exact hput
      have hsame : i ∉ louds → ∀ m l, louds[m]? = some l → ((if l = i then true else listed.getD l false) = true ↔ m < k) := by
        intro hni m l hl
        rw [if_neg (fun e => hni (by rw [← e]; exact List.mem_of_getElem? hl))]
        exact hlk m l hl
      unfold wpOpIn
      simp only [hoi]
      rcases hd.each i _ hoi with ⟨hwf, hx, hni⟩ | ⟨hwt, hni, hq, lo, hi', hlol, hev, hlh⟩ | ⟨hwt, m, hlm, hop⟩
      · rw [if_neg (by rw [wanted_eq hR (known C hσ hS) (hwant ▸ hwf)]; simp)]
        refine ⟨fun f _ => trivial, ?_⟩
        exact hnext E' k _ w' undef (.refl E') hk (hsame hni) hS (by rw [hx]; exact .lit _) rfl
      · rw [if_pos (wanted_eq hR (known C hσ hS) (hwant ▸ hwt))]
        have hlok : lo ≤ k := by
          rcases Nat.lt_or_ge k lo with h | h
          · exfalso
            rcases Nat.lt_or_ge k louds.length with h2 | h2
            · have hlk' : louds[k]? = some louds[k] := List.getElem?_eq_getElem h2
              have := (hlk k _ hlk').1 (hprei _ ((hlh k _ hlk').1 h))
              omega
            · omega
          · exact h
        have hkhi : k ≤ hi' := by
          rcases Nat.lt_or_ge hi' k with h | h
          · exfalso
            have h2 : hi' < louds.length := by omega
            have hlk' : louds[hi']? = some louds[hi'] := List.getElem?_eq_getElem h2
            have h3 := (hlk hi' _ hlk').2 h
            have h4 := (hlh hi' _ hlk').2 (Nat.le_refl _)
            have := hclp _ _ h3 h4
            rw [hnl] at this
            cases this
          · exact h
        obtain ⟨M, hev'⟩ := hev k hlok hkhi
        have hev2 := evOp_mono C (LeH.refl _) hq hev'
        have hop : Op1 C (TS ops xs (fun i => listed.getD i false) (List.range ops.size) T0) (hs k) ops[i] (xs i) (hs k) := (Op1.op hev2).congr C hops
        exact hop.wp C hσ hS hR (fun E2 v w2 e1 e2 e3 => hnext E2 k _ w2 v e1 hk (hsame hni) e2 e3 rfl)
      · rw [if_pos (wanted_eq hR (known C hσ hS) (hwant ▸ hwt))]
        have hmk : m = k := by
          have h1 : ¬ m < k := fun h => by have := (hlk m i hlm).2 h; rw [hnl] at this; cases this
          rcases Nat.lt_or_ge k m with h | h
          · exfalso
            have hml := (List.getElem?_eq_some_iff.1 hlm).1
            obtain ⟨lk, hlk'⟩ : ∃ l, louds[k]? = some l := ⟨_, List.getElem?_eq_getElem (by omega)⟩
            -- the loud one at k must be ahead of i, so it is listed
            obtain ⟨lm, hp⟩ : ∃ l, louds[m - 1]? = some l := ⟨_, List.getElem?_eq_getElem (by omega)⟩
            have ho := hd.ord (m - 1) _ _ hp (by rw [show m - 1 + 1 = m by omega]; exact hlm)
            have hl1 := hprei _ ho
            have := louds_pre hst.edges hd.ord (S := fun i => listed.getD i false = true) hclp (m - 1 - k) k _ _ hlk' (by rw [show k + (m - 1 - k) = m - 1 by omega]; exact hp) hl1
            have := (hlk k _ hlk').1 this
            omega
          · omega
        subst hmk
        have hml := (List.getElem?_eq_some_iff.1 hlm).1
        have hop' := hop.congr C hops
        refine hop'.wp C hσ hS hR (fun E2 v w2 e1 e2 e3 => hnext E2 (m + 1) _ w2 v e1 (by omega) (fun q l hl => ?_) e2 e3 rfl)
        by_cases hli : l = i
        · subst hli
          simp only [if_true, true_iff]
          -- louds names i once
          rcases Nat.lt_or_ge q (m + 1) with h | h
          · exact h
          · exfalso
            obtain ⟨lq, hp⟩ : ∃ l, louds[q - 1]? = some l := ⟨_, List.getElem?_eq_getElem (by have := (List.getElem?_eq_some_iff.1 hl).1; omega)⟩
            have ho := hd.ord (q - 1) _ _ hp (by rw [show q - 1 + 1 = q by omega]; exact hl)
            have hl1 := hprei _ ho
            have := louds_pre hst.edges hd.ord (S := fun i => listed.getD i false = true) hclp (q - 1 - m) m _ _ hlm (by rw [show m + (q - 1 - m) = q - 1 by omega]; exact hp) hl1
            rw [hnl] at this
            cases this
        · rw [if_neg hli]
          rw [hlk q l hl]
          constructor
          · intro h; omega
          · intro h
            rcases Nat.lt_or_ge q m with h2 | h2
            · exact h2
            · have : q = m := by omega
              subst this
              rw [hlm] at hl
              cases hl
              exact absurd rfl hli
  refine key ops.size _ a _ (by simp) ?_ ?_ ?_
  · refine Nat.le_trans (List.length_filter_le _ _) (by simp)
  · intro i o hi
    exfalso
    rw [Array.getD_eq_getD_getElem?, Array.getElem?_replicate] at hi
    split at hi <;> simp at hi
  · have hzero : ∀ i, (Array.replicate ops.size false).getD i false = false := by
      intro i
      rw [Array.getD_eq_getD_getElem?, Array.getElem?_replicate]
      split <;> rfl
    refine ⟨E, 0, .refl E, Nat.zero_le _, fun m l hl => by rw [hzero]; simp, by rw [hd.h0]; exact hw.drew _, ?_, rfl⟩
    have : ∀ (l : List Nat) (T : List AV), TS ops xs (fun i => (Array.replicate ops.size false).getD i false) l T = T := by
      intro l
      induction l with
      | nil => intro T; rfl
      | cons i l ih =>
        intro T
        show TS ops xs _ l (bif (Array.replicate ops.size false).getD i false then _ else T) = T
        rw [hzero, cond_false]
        exact ih T
    rw [this]
    exact hT
end
end Go.Proofs.Ytikcninaepoojaa.Ev

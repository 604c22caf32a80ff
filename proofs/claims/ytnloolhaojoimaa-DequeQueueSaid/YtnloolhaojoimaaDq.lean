/- The deque in memory, and what its operations do there. -/
import Derived.Test.YtnloolhaojoimaaDc
import Derived.Test.YtnloolhaojoimaaApp
namespace Go.Proofs.Ytnloolhaojoimaa.Ev
set_option linter.unusedVariables false
set_option linter.unusedSimpArgs false
variable {σ : Sig}
@[simp] theorem st_fn (H : Hp) (id off f : Nat) (cs : List AV) : stA 1 H (.ptr id off) (.fn f cs) = stO 1 off [.fn f cs] H id (H.get id) := st_ptr 1 H id off _ rfl rfl
@[simp] theorem st_nf (H : Hp) (id off : Nat) : stA 1 H (.ptr id off) (.lit .nilFunc) = stO 1 off [.lit .nilFunc] H id (H.get id) := st_ptr 1 H id off _ rfl rfl
@[simp] theorem e_fn1 (f : Nat) (cs : List AV) : eqFnR .eql (.fn f cs) (.lit .nilFunc) = some (Bo false) := rfl
@[simp] theorem e_fn2 : eqFnR .eql (.lit .nilFunc) (.lit .nilFunc) = some (Bo true) := rfl
@[simp] theorem e_fn3 (f : Nat) (cs : List AV) : eqFnR .neq (.fn f cs) (.lit .nilFunc) = some (Bo true) := rfl
@[simp] theorem e_fn4 : eqFnR .neq (.lit .nilFunc) (.lit .nilFunc) = some (Bo false) := rfl
@[simp] theorem callV_fn (P : Program) (σ : Sig) (g : Nat) (cs xs : List AV) (H : Hp) (K : AV → Hp → Prop) : callV P σ (.fn g cs) xs H K = callK P σ g (xs ++ cs) H K := rfl

structure O where
  id : Nat
  x : Int
  t : Int
  b : Int
  ok : Bool
  nx : AV
structure S where
  ip : Nat
  pl : List Int
  top : Int
  bot : Int
  op : Nat → Option O
  lw : Int
  lc : Int
  lr : Bool
  la : Bool
def encO : Option O → AV
  | none => .lit (.pointer none)
  | some o => .ptr o.id 0
def opl (f : Nat → Option O) : List AV := (List.range 65).map fun w => encO (f w)
def lsc (s : S) : List AV := [I s.lw, I s.lc, Bo s.lr, Bo s.la]
def hdc (s : S) : List AV := [.sl s.ip 0 1 s.pl.length (some s.pl.length), I s.top, I s.bot]
def dqc (s : S) : List AV := hdc s ++ (opl s.op ++ lsc s)
def opc (d w : Nat) (o : O) : List AV := [.ptr d 0, I w, I o.x, I o.t, I o.b, Bo o.ok, o.nx]
def upd (f : Nat → Option O) (w : Nat) (o : Option O) : Nat → Option O := fun i => if i = w then o else f i
@[simp] theorem upd_same (f : Nat → Option O) (w : Nat) (o : Option O) : upd f w o w = o := by simp [upd]
@[simp] theorem upd_ne (f : Nat → Option O) {w i : Nat} (o : Option O) (h : i ≠ w) : upd f w o i = f i := by simp [upd, h]
theorem opl_len (f : Nat → Option O) : (opl f).length = 65 := by simp [opl]
theorem dqc_len (s : S) : (dqc s).length = 72 := by simp [dqc, hdc, lsc, opl_len]
theorem opl_drop (f : Nat → Option O) {w : Nat} (h : w < 65) : ∃ r, (opl f).drop w = encO (f w) :: r := by
  have hl : w < (opl f).length := by rw [opl_len]; exact h
  refine ⟨(opl f).drop (w + 1), ?_⟩
  rw [List.drop_eq_getElem_cons hl]
  congr 1
  simp [opl]
theorem dq_0 (s : S) : ldL false 1 (dqc s) = some (.sl s.ip 0 1 s.pl.length (some s.pl.length)) := rfl
theorem dq_1 (s : S) : ldL false 1 ((dqc s).drop 1) = some (I s.top) := rfl
theorem dq_1' (s : S) : ldL false 1 (dqc s).tail = some (I s.top) := rfl
theorem dq_2 (s : S) : ldL false 1 ((dqc s).drop 2) = some (I s.bot) := rfl
theorem dq_op (s : S) {w : Nat} (h : w < 65) : ldL false 1 ((dqc s).drop (3 + w)) = some (encO (s.op w)) := by
  obtain ⟨r, hr⟩ := opl_drop s.op h
  have : (dqc s).drop (3 + w) = encO (s.op w) :: (r ++ lsc s) := by
    rw [← List.drop_drop]
    show (opl s.op ++ lsc s).drop w = _
    rw [List.drop_append_of_le_length (by rw [opl_len]; omega), hr]; rfl
  rw [this]; simp
theorem dq_last (s : S) : ldL true 4 ((dqc s).drop 68) = some (.agg (lsc s)) := by
  have : (dqc s).drop 68 = lsc s := by
    rw [show 68 = 3 + 65 from rfl, ← List.drop_drop]
    show (opl s.op ++ lsc s).drop 65 = _
    rw [List.drop_append_of_le_length (by rw [opl_len]; omega), List.drop_eq_nil_of_le (by rw [opl_len]; omega)]; rfl
  rw [this]; rfl
theorem dq_s1 (s : S) (v : Int) : overlay (dqc s) 1 [I v] = dqc { s with top := v } := by simp [dqc, hdc, lsc]
theorem dq_s2 (s : S) (v : Int) : overlay (dqc s) 2 [I v] = dqc { s with bot := v } := by simp [dqc, hdc, lsc]
theorem ov_set {cs : List AV} {k : Nat} {x : AV} (h : k < cs.length) : overlay cs k [x] = cs.set k x := by
  induction cs generalizing k with
  | nil => simp at h
  | cons c cs ih =>
    cases k with
    | zero => simp
    | succ k => simp; exact ih (by simpa using h)
theorem dq_sop (s : S) {w : Nat} (h : w < 65) (o : Option O) : overlay (dqc s) (3 + w) [encO o] = dqc { s with op := upd s.op w o } := by
  rw [ov_set (by rw [dqc_len]; omega)]
  have e : (opl s.op).set w (encO o) = opl (upd s.op w o) := by
    apply List.ext_getElem
    · simp [opl]
    · intro i h1 h2
      simp only [List.getElem_set, opl, List.getElem_map, List.getElem_range]
      by_cases hi : w = i
      · subst hi; simp
      · rw [if_neg hi, upd_ne _ _ (Ne.symm hi)]
  show (hdc s ++ (opl s.op ++ lsc s)).set (3 + w) (encO o) = hdc s ++ (opl (upd s.op w o) ++ lsc s)
  rw [List.set_append_right _ _ (by simp [hdc]), List.set_append_left _ _ (by simp [hdc, opl_len]; omega), ← e]
  simp [hdc]
theorem dq_slast (s : S) (w c : Int) (r a : Bool) : overlay (dqc s) 68 [I w, I c, Bo r, Bo a] = dqc { s with lw := w, lc := c, lr := r, la := a } := by
  have h1 : (dqc s).take 68 = hdc s ++ opl s.op := by
    show (hdc s ++ (opl s.op ++ lsc s)).take 68 = _
    rw [← List.append_assoc, List.take_append_of_le_length (by simp [hdc, opl_len]), List.take_of_length_le (by simp [hdc, opl_len])]
  unfold overlay
  rw [h1, List.drop_eq_nil_of_le (by rw [dqc_len]; simp)]
  simp [dqc, hdc, lsc]

structure Dq (H : Hp) (d : Nat) (s : S) : Prop where
  hd : H.get d = some (.cells (dqc s) true)
  hp : H.get s.ip = some (.cells (s.pl.map I) true)
  ho : ∀ w o, w < 65 → s.op w = some o → H.get o.id = some (.cells (opc d w o) true) ∧ o.id < H.n ∧ o.id ≠ d ∧ o.id ≠ s.ip
  hi : ∀ w w' o o', w < 65 → w' < 65 → s.op w = some o → s.op w' = some o' → o.id = o'.id → w = w'
  dl : d < H.n
  pl : s.ip < H.n
  dp : d ≠ s.ip
/-- What stays. -/
structure Fd (d : Nat) (s : S) (H H' : Hp) : Prop where
  n : H'.n = H.n
  g : ∀ j, j ≠ d → j ≠ s.ip → (∀ w o, w < 65 → s.op w = some o → j ≠ o.id) → H'.get j = H.get j
theorem Fd.refl {d : Nat} {s : S} {H : Hp} : Fd d s H H := ⟨rfl, fun _ _ _ _ => rfl⟩
theorem Fd.trans {d : Nat} {s s' : S} {H H' H'' : Hp} (h : Fd d s H H') (h' : Fd d s' H' H'') (hi : s'.ip = s.ip) (ho : ∀ w o', s'.op w = some o' → ∃ o, s.op w = some o ∧ o.id = o'.id) : Fd d s H H'' :=
  ⟨h'.n.trans h.n, fun j h1 h2 h3 => (h'.g j h1 (by rw [hi]; exact h2) fun w o' hw hs => by
    obtain ⟨o, ho, e⟩ := ho w o' hs
    rw [← e]; exact h3 w o hw ho).trans (h.g j h1 h2 h3)⟩
theorem Dq.setD {H : Hp} {d : Nat} {s s' : S} (h : Dq H d s) (e1 : s'.ip = s.ip) (e2 : s'.pl = s.pl) (e3 : s'.op = s.op) : Dq (H.set d (some (.cells (dqc s') true))) d s' := by
  refine ⟨by simp, ?_, ?_, ?_, by simpa using h.dl, by rw [e1]; simpa using h.pl, by rw [e1]; exact h.dp⟩
  · rw [e1, e2]; simp [Ne.symm h.dp]; exact h.hp
  · intro w o hw ho
    rw [e3] at ho
    obtain ⟨a, b, c, e⟩ := h.ho w o hw ho
    exact ⟨by simp [c]; exact a, by simpa using b, c, by rw [e1]; exact e⟩
  · intro w w' o o' hw hw' ho ho'
    rw [e3] at ho ho'
    exact h.hi w w' o o' hw hw' ho ho'
theorem Fd.setD {H : Hp} {d : Nat} {s : S} {b : Option Blk} : Fd d s H (H.set d b) := ⟨by simp, fun j h1 _ _ => by simp [h1]⟩
theorem Dq.setO {H : Hp} {d w : Nat} {s : S} {o o' : O} (h : Dq H d s) (hw : w < 65) (ho : s.op w = some o) (e : o'.id = o.id) : Dq (H.set o.id (some (.cells (opc d w o') true))) d { s with op := upd s.op w (some o') } := by
  obtain ⟨_, hl, hnd, hnp⟩ := h.ho w o hw ho
  have hd' : dqc { s with op := upd s.op w (some o') } = dqc s := by
    rw [← dq_sop s hw (some o'), show encO (some o') = encO (s.op w) by rw [ho]; simp [encO, e]]
    rw [ov_set (by rw [dqc_len]; omega)]
    obtain ⟨r, hr⟩ := opl_drop s.op hw
    apply List.ext_getElem (by simp)
    intro i h1 h2
    rw [List.getElem_set]
    split
    · rename_i hi
      subst hi
      have := dq_op s hw
      rw [List.drop_eq_getElem_cons h2, ldL_one] at this
      exact (Option.some.inj this).symm
    · rfl
  refine ⟨?_, ?_, ?_, ?_, by simpa using h.dl, by simpa using h.pl, h.dp⟩
  · rw [hd']; simp [Ne.symm hnd]; exact h.hd
  · simp [Ne.symm hnp]; exact h.hp
  · intro w2 o2 hw2 ho2
    by_cases hww : w2 = w
    · subst hww
      simp at ho2
      subst ho2
      exact ⟨by simp [e], by simpa [e] using hl, by rw [e]; exact hnd, by rw [e]; exact hnp⟩
    · simp [hww] at ho2
      obtain ⟨a, b, c, f⟩ := h.ho w2 o2 hw2 ho2
      have : o2.id ≠ o.id := fun he => hww (h.hi w2 w o2 o hw2 hw ho2 ho he)
      exact ⟨by simp [this]; exact a, by simpa using b, c, f⟩
  · intro w1 w2 o1 o2 hw1 hw2 h1 h2 he
    have key : ∀ w1 o1, upd s.op w (some o') w1 = some o1 → ∃ oo, s.op w1 = some oo ∧ oo.id = o1.id := by
      intro w1 o1 h1
      by_cases hww : w1 = w
      · subst hww; simp at h1; subst h1; exact ⟨o, ho, e.symm⟩
      · simp [hww] at h1; exact ⟨o1, h1, rfl⟩
    obtain ⟨a, ha, ea⟩ := key w1 o1 h1
    obtain ⟨b, hb, eb⟩ := key w2 o2 h2
    exact h.hi w1 w2 a b hw1 hw2 ha hb (by rw [ea, eb, he])
theorem Fd.setO {H : Hp} {d w : Nat} {s : S} {o : O} {b : Option Blk} (hw : w < 65) (ho : s.op w = some o) : Fd d s H (H.set o.id b) := ⟨by simp, fun j _ _ h => by simp [h w o hw ho]⟩
theorem Dq.setP {H : Hp} {d : Nat} {s : S} {p : List Int} (h : Dq H d s) (e : p.length = s.pl.length) : Dq (H.set s.ip (some (.cells (p.map I) true))) d { s with pl := p } := by
  have hd' : dqc { s with pl := p } = dqc s := by simp [dqc, hdc, lsc, e]
  refine ⟨by rw [hd']; simp [h.dp]; exact h.hd, by simp, ?_, h.hi, by simpa using h.dl, by simpa using h.pl, h.dp⟩
  intro w o hw ho
  obtain ⟨a, b, c, f⟩ := h.ho w o hw ho
  exact ⟨by simp [f]; exact a, by simpa using b, c, f⟩
theorem Fd.setP {H : Hp} {d : Nat} {s : S} {b : Option Blk} : Fd d s H (H.set s.ip b) := ⟨by simp, fun j _ h _ => by simp [h]⟩
end Go.Proofs.Ytnloolhaojoimaa.Ev

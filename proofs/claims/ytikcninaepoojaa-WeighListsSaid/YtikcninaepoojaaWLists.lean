/- WeighLists: the walk. -/
import Derived.Test.YtikcninaepoojaaWeigh
import Derived.Test.YtikcninaepoojaaDeep
import Derived.Test.YtikcninaepoojaaFrz
import Derived.Test.YtikcninaepoojaaAlive11
namespace Go.Proofs.Ytikcninaepoojaa.Ev
set_option linter.unusedVariables false
set_option linter.unusedSimpArgs false
variable {σ : Sig}

/-! ### the plain law -/
theorem foldl_congr' {α β : Type} {f g : β → α → β} : ∀ (l : List α) (b : β), (∀ b, ∀ x ∈ l, f b x = g b x) → l.foldl f b = l.foldl g b
  | [], _, _ => rfl
  | x :: r, b, h => by
    simp only [List.foldl_cons]
    rw [h b x (by simp)]
    exact foldl_congr' r _ fun b y hy => h b y (by simp [hy])

theorem topW_congr {g g' : Sl → Int} (l : List Sl) (m : Int) (h : ∀ x ∈ l, g x = g' x) : topW g l m = topW g' l m := foldl_congr' l m fun b x hx => by rw [h x hx]

theorem slW_congr {g g' : Sl → Int} {a a' : Bool} (x : Sl) (h : ∀ p ∈ x, ∀ q ∈ p.c.pseudos, ∀ s, psW g a s q = psW g' a' s q) : slW g a x = slW g' a' x := by
  unfold slW
  congr 1
  exact foldl_congr' x _ fun s p hp => foldl_congr' p.c.pseudos _ fun s q hq => h p hp q hq s

/-- Where lists do not stand deeper, one more depth makes no difference. -/
theorem ofW_succ : ∀ (f : Nat) (x : Sl), dpS f x = false → ofW f x = ofW (f + 1) x
  | 0, x, h => by
    simp only [dpS, dpS1, Bool.or_eq_false_iff, List.any_eq_false] at h
    refine slW_congr x fun p hp q hq s => ?_
    have h1 := h.2 p hp
    simp only [dpC, List.any_eq_true, not_exists, not_and, Bool.and_true, Bool.not_eq_true] at h1
    have h2 := h1 q hq
    simp only [isList, Bool.or_eq_false_iff, decide_eq_false_iff_not] at h2
    unfold psW
    rw [if_pos h2, if_pos h2]
  | f + 1, x, h => by
    simp only [dpS, dpS1, Bool.or_eq_false_iff, List.any_eq_false] at h
    refine slW_congr x fun p hp q hq s => ?_
    have h1 := h.2 p hp
    simp only [dpC, List.any_eq_true, not_exists, not_and, Bool.not_eq_true] at h1
    have h2 := h1 q hq
    unfold psW
    by_cases hk : q.kind ≠ 7 ∧ q.kind ≠ 8
    · rw [if_pos hk, if_pos hk]
    · rw [if_neg hk, if_neg hk]
      simp only [Bool.false_eq_true, if_false]
      congr 1
      refine topW_congr _ _ fun y hy => ofW_succ f y ?_
      have : isList q = true := by
        simp only [isList, Bool.or_eq_true, decide_eq_true_eq]
        omega
      rw [this, Bool.true_and, List.any_eq_false] at h2
      simpa using h2 y hy

theorem weightW_add {w : Int} (h0 : 0 ≤ w) (h1 : w ≤ 16777215) : weightW (addW ⟨0, 0, 0⟩ w) = w := by
  unfold weightW addW lst
  simp only
  have : w / 256 / 256 % 256 = w / 256 / 256 := by omega
  rw [if_neg (by omega), if_neg (by omega), if_neg (by omega)]
  omega

/-- The selector whose one thing is a list of two. -/
def two (k : Int) (a b : Sl) : Sl := [.mk 0 (.mk ⟨#[]⟩ [] [] [] [.mk k 0 0 [a, b]])]

theorem two_weighs {k : Int} (hk : k = 7 ∨ k = 8) {a b : Sl} (ha : 0 ≤ ofW 7 a ∧ ofW 7 a ≤ 16777215) (hb : 0 ≤ ofW 7 b ∧ ofW 7 b ≤ 16777215) (da : dpS 7 a = false) (db : dpS 7 b = false) :
    ofW 8 (two k a b) = if ofW 8 a < ofW 8 b then ofW 8 b else ofW 8 a := by
  have e1 := ofW_succ 7 a da
  have e2 := ofW_succ 7 b db
  rw [← e1, ← e2]
  show slW (ofW 7) false (two k a b) = _
  unfold slW two
  simp only [List.foldl_cons, List.foldl_nil, Pt.c, cpW, Cp.pseudos, lensW, Cp.ids, Cp.classes, Cp.attrs, Cp.tag]
  unfold psW
  rw [if_neg (by simp only [Ps.kind]; omega)]
  simp only [Bool.false_eq_true, if_false, Ps.list, topW, List.foldl_cons, List.foldl_nil]
  have e3 : (if (0 : Int) < ofW 7 a then ofW 7 a else 0) = ofW 7 a := by split <;> omega
  rw [e3]
  have e4 : (⟨0 + (([] : List ByteArray).length : Int), 0 + ((([] : List ByteArray).length : Int) + (([] : List At).length : Int)), if (Pt.mk 0 (.mk ⟨#[]⟩ [] [] [] [.mk k 0 0 [a, b]])).c.tag ≠ ⟨#[]⟩ then 0 + 1 else 0⟩ : W3) = ⟨0, 0, 0⟩ := by simp [Pt.c, Cp.tag]
  refine Eq.trans (congrArg (fun z => weightW (addW z _)) e4) ?_
  exact weightW_add (by split <;> omega) (by split <;> omega)

theorem two_fit {f : Nat} {k : Int} {a b : Sl} (ha : FitS f a) (hb : FitS f b) : FitS (f + 1) (two k a b) := by
  refine ⟨by simp [two], fun p hp => ?_⟩
  simp only [two, List.mem_singleton] at hp
  subst hp
  refine ⟨⟨by simp [Pt.c, Cp.ids], by simp [Pt.c, Cp.classes], by simp [Pt.c, Cp.attrs], by simp [Pt.c, Cp.pseudos]⟩, fun q hq => ?_⟩
  simp only [Pt.c, Cp.pseudos, List.mem_singleton] at hq
  subst hq
  intro s hs
  simp only [Ps.list, List.mem_cons, List.not_mem_nil, or_false] at hs
  rcases hs with rfl | rfl
  · exact ha
  · exact hb

theorem two_wf {k : Int} (hk : i64 k) {a b : Sl} (ha : slWf Lmax a) (hb : slWf Lmax b) : slWf Lmax (two k a b) := by
  refine ⟨by simp [two, Lmax], fun p hp => ?_⟩
  simp only [two, List.mem_singleton] at hp
  subst hp
  rw [Pt.wf_iff]
  refine ⟨by simp [Pt.comb, i64], by simp [Pt.c, Cp.tag], ⟨by simp [Pt.c, Cp.ids], by simp [Pt.c, Cp.ids]⟩, ⟨by simp [Pt.c, Cp.classes], by simp [Pt.c, Cp.classes]⟩, by simp [Pt.c, Cp.attrs], by simp [Pt.c, Cp.attrs], by simp [Pt.c, Cp.pseudos, Lmax], fun q hq => ?_⟩
  simp only [Pt.c, Cp.pseudos, List.mem_singleton] at hq
  subst hq
  rw [Ps.wf_iff]
  refine ⟨hk, by simp [Ps.a, i64], by simp [Ps.b, i64], by simp [Ps.list, Lmax], fun s hs => ?_⟩
  simp only [Ps.list, List.mem_cons, List.not_mem_nil, or_false] at hs
  rcases hs with rfl | rfl
  · exact ha
  · exact hb

/-! ### the walk -/
theorem two_fz {H : Hp} {a b : Sl} {k : Int} {i j m : Nat} {c0 c1 c2 : Option Nat} {e0 e1 e2 : Bool} (h0 : H.get i = some (.cells [I 0, Sx ⟨#[]⟩, .lit (.slice none 0 0), .lit (.slice none 0 0), .lit (.slice none 0 0), .sl j 0 4 1 c1] e0))
    (h1 : H.get j = some (.cells [I k, I 0, I 0, .sl m 0 1 2 c2] e1)) (h2 : H.get m = some (.cells [.imm 6 (a.map encPt), .imm 6 (b.map encPt)] e2)) : FzL H [.agg [.sl i 0 6 1 c0]] [.agg (encSl (two k a b))] := by
  have na := noId_Sl a
  have nb := noId_Sl b
  simp only [encSl, noIds, Bool.and_true] at na nb
  have e : encSl (two k a b) = [.imm 6 [[I 0, Sx ⟨#[]⟩, .imm 1 [], .imm 1 [], .imm 3 [], .imm 4 [[I k, I 0, I 0, .imm 1 [[.imm 6 (a.map encPt)], [.imm 6 (b.map encPt)]]]]]]] := by
    simp [encSl, two, encPt, encCp, encPss, encPs, encSls, encPts_map, strs]
  rw [e]
  refine .cons (.aggL (.cons (.sl1 h0 (.cons (.refl rfl) (.cons (.refl rfl) (.cons .nil (.cons .nil (.cons .nil (.cons ?_ .nil)))))) rfl) .nil)) .nil
  refine .sl1 h1 (.cons (.refl rfl) (.cons (.refl rfl) (.cons (.refl rfl) (.cons ?_ .nil)))) rfl
  exact Fz.cells1 h2 (by simp only [noIds, na, nb, Bool.and_self]) rfl

theorem walk_J2 {a b : Sl} (ha : slWf Lmax a) (hb : slWf Lmax b) (fa : FitS 10 a) (fb : FitS 10 b) (da : dpS 7 a = false) (db : dpS 7 b = false) {k : Int} (hk : k = 7 ∨ k = 8) {H : Hp} {i0 i1 i2 : Nat}
    (g0 : H.get i0 = some (.cells (encSl a) true)) (g1 : H.get i1 = some (.cells (encSl b) true)) (g2 : H.get i2 = some (.cells (encSl a ++ encSl b) true)) (l0 : i0 < H.n) (l1 : i1 < H.n) (l2 : i2 < H.n) {y2 y10 : AV} :
    law11_WeighLists.J2 σ (fun r _ => r = Bo true) y2 (.ptr i0 0) (.ptr i1 0) (.sl i2 0 1 2 (some 2)) y10 (I k) (I (if ofW 8 a < ofW 8 b then ofW 8 b else ofW 8 a)) H := by
  have hk' : i64 k := by unfold i64; omega
  have oa := (of_ok (σ := σ) 7 (by omega) 10 a (by omega) ha fa).2
  have ob := (of_ok (σ := σ) 7 (by omega) 10 b (by omega) hb fb).2
  have w1 := two_weighs hk oa ob da db
  have w2 := two_weighs hk ob oa db da
  have w3 : (if ofW 8 b < ofW 8 a then ofW 8 a else ofW 8 b) = if ofW 8 a < ofW 8 b then ofW 8 b else ofW 8 a := by split <;> split <;> omega
  rw [w3] at w2
  have c1 := Of_ok (σ := σ) (f := 11) (by omega) (two_wf hk' ha hb) (two_fit fa fb) Hp.empty
  have c2 := Of_ok (σ := σ) (f := 11) (by omega) (two_wf hk' hb ha) (two_fit fb fa) Hp.empty
  rw [w1] at c1
  rw [w2] at c2
  generalize (if ofW 8 a < ofW 8 b then ofW 8 b else ofW 8 a) = best at c1 c2 ⊢
  refine law11_WeighLists.J2_step ?_
  have n0 : i0 ≠ H.n := by omega
  have n0' : i0 ≠ H.n + 1 := by omega
  have n0'' : i0 ≠ H.n + 1 + 1 := by omega
  have n1 : i1 ≠ H.n := by omega
  have n1' : i1 ≠ H.n + 1 := by omega
  have n1'' : i1 ≠ H.n + 1 + 1 := by omega
  have m2 : ∀ k, i2 ≠ H.n + k := by omega
  have m2' : i2 ≠ H.n := by omega
  simp [bldR, bldSlR, zrow, overlay, bleN, beqN, List.range_succ, g0, g1, g2, n0, n0', n0'', n1, n1', n1'', encSl, ldL, pack]
  refine callK_of (Good.frzA c1 (two_fz (i := H.n + 1) (j := H.n) (m := i2) (c1 := some 1) (c2 := some 2) (e0 := true) (e1 := true) (e2 := true) (by simp [Nat.add_assoc]) (by simp [Nat.add_assoc]) (by simp [m2, m2', g2, encSl, Nat.add_assoc])) rfl) ?_
  simp [ldL, pack]
  refine callK_of (Good.frzA c2 (two_fz (i := H.n + 1 + 1 + 1 + 1 + 1) (j := H.n + 1 + 1 + 1 + 1) (m := H.n + 1 + 1 + 1) (c1 := some 1) (c2 := some 2) (e0 := true) (e1 := true) (e2 := true) (by simp [Nat.add_assoc]) (by simp [Nat.add_assoc]) (by simp [Nat.add_assoc])) rfl) ?_
  simp

theorem walk_J1 {a b : Sl} (ha : slWf Lmax a) (hb : slWf Lmax b) (fa : FitS 10 a) (fb : FitS 10 b) (da : dpS 7 a = false) (db : dpS 7 b = false) {k : Int} (hk : k = 7 ∨ k = 8) {H : Hp} {i0 i1 i2 : Nat}
    (g0 : H.get i0 = some (.cells (encSl a) true)) (g1 : H.get i1 = some (.cells (encSl b) true)) (g2 : H.get i2 = some (.cells (encSl a ++ encSl b) true)) (l0 : i0 < H.n) (l1 : i1 < H.n) (l2 : i2 < H.n) {y2 y10 y13 : AV} :
    law11_WeighLists.J1 σ (fun r _ => r = Bo true) y2 (.ptr i0 0) (.ptr i1 0) (.sl i2 0 1 2 (some 2)) y10 (I k) y13 H := by
  refine law11_WeighLists.J1_step ?_
  simp [g0, g1]
  refine callK_of (Of_ok (f := 10) (by omega) ha fa H) ?_
  simp [g1]
  refine callK_of (Of_ok (f := 10) (by omega) hb fb H) ?_
  simp [g1]
  have := @walk_J2 σ a b ha hb fa fb da db k hk H i0 i1 i2 g0 g1 g2 l0 l1 l2 y2 y10
  split
  · rename_i h
    refine callK_of (Of_ok (f := 10) (by omega) hb fb H) ?_
    rwa [if_pos h] at this
  · rename_i h
    rwa [if_neg h] at this

theorem WeighLists_good (a b : Sl) (is : Bool) (ha : slWf Lmax a) (hb : slWf Lmax b) : ∃ H', Good Try.prog σ n_law11_WeighLists [.agg (encSl a), .agg (encSl b), Bo is] Hp.empty (Bo true) H' := by
  have hl : slsWf Lmax [a, b] := ⟨by simp [Lmax], fun s hs => by
    simp only [List.mem_cons, List.not_mem_nil, or_false] at hs
    rcases hs with rfl | rfl <;> assumption⟩
  obtain ⟨dear, hd, hfit⟩ := Dear_ok (σ := σ) [a, b] hl
  have run : ∃ r H', Good Try.prog σ n_law11_WeighLists [.agg (encSl a), .agg (encSl b), Bo is] Hp.empty r H' ∧ r = Bo true := by
    refine law11_WeighLists.run ?_
    simp
    refine callK_of (alive11 _) ?_
    have na := noId_Sl a
    have nb := noId_Sl b
    simp only [encSl, noIds, Bool.and_true] at na nb
    simp [bldR, bldSlR, zrow, overlay, bleN, beqN, List.range_succ, Hp.empty, encSl]
    refine callK_of (Good.frzA (hd Hp.empty) (.cons (Fz.cells1 (cs := [.imm 6 (a.map encPt), .imm 6 (b.map encPt)]) (ex := true) (by simp) (by simp only [noIds, na, nb, Bool.and_self]) rfl) .nil) rfl) ?_
    simp
    cases hdr : dear with
    | true => simp
    | false =>
      simp
      have hf := hfit hdr
      have fa : FitS 10 a := hf a (by simp)
      have fb : FitS 10 b := hf b (by simp)
      have d7 : ∀ s, slWf Lmax s → ∀ H, Good Try.prog σ n_ref9_DeepSel [.agg (encSl s), I 1] H (Bo (dpS 7 s)) H := fun s hs H => DeepSel_ok 7 (by omega) s hs H
      refine law11_WeighLists.L0_step ?_
      simp [ix_sl, ldL, pack]
      refine callK_of (d7 a ha _) ?_
      simp
      intro da'
      rw [wr64 (by omega) (by omega)]
      refine law11_WeighLists.L0_step ?_
      simp [ix_sl, ldL, pack]
      refine callK_of (d7 b hb _) ?_
      simp
      intro db'
      rw [wr64 (by omega) (by omega)]
      refine law11_WeighLists.L0_step ?_
      simp
      split
      · exact walk_J1 ha hb fa fb da' db' (.inr rfl) (by simp [encSl]) (by simp [encSl]) (by simp [encSl]) (by simp) (by simp) (by simp)
      · exact walk_J1 ha hb fa fb da' db' (.inl rfl) (by simp [encSl]) (by simp [encSl]) (by simp [encSl]) (by simp) (by simp) (by simp)
  obtain ⟨r, H', hg, rfl⟩ := run
  exact ⟨H', hg⟩
end Go.Proofs.Ytikcninaepoojaa.Ev

/- 'CascadeFast' (Upto): whatever the input, the call answers true and leaves what it was handed as it was. Conditions: the bulk that the statement names. -/
import Derived.Test.YthdcghnjndhecaaGreatRows
import Derived.Test.YthdcghnjndhecaaGreatZ8
import Derived.WalkKit
import Derived.ProofKit
import Derived.OpenShut
import Derived.ShutString
import Derived.ChangeOld
import Derived.Below
import Derived.SizedLaws
import Derived.HandedShaped
import Derived.JoinedCond
namespace Go.Proofs.YthdcghnjndhecaaGreat.cascadeFast
open Go.ChangeShapes Go.WideShapes Go.ChangeAt Go.RowKit Go.Proofs.YthdcghnjndhecaaGreat.Ev
open Go.ChangeMaps (open_string shut_string)
set_option linter.unusedVariables false
theorem own : ownKnob Tryz.prog.godebug = none := by kernel_rfl
theorem laidOut : laidOutB Tryz.prog = true := by kernel_rfl
mutual
theorem sJ {H : Type} : ∀ d : DataW H, Rows.uptoBulk d = ed d
  | .lit l => by cases l <;> simp [Rows.uptoBulk, ed]
  | .nil => by simp [Rows.uptoBulk, ed]
  | .ptr d => by simp [Rows.uptoBulk, ed, sJ d]
  | .slice a b => by simp [Rows.uptoBulk, ed, oq a, oq b]
  | .agg a => by simp [Rows.uptoBulk, ed, oq a]
  | .iface t d => by simp [Rows.uptoBulk, ed, sJ d]
  | .map e => by simp [Rows.uptoBulk, ed, yu e]
  | .held h => by simp [Rows.uptoBulk, ed]
theorem oq {H : Type} : ∀ l : List (DataW H), Rows.uptoBulkAll l = gm l
  | [] => by simp [Rows.uptoBulkAll, gm]
  | d :: r => by simp [Rows.uptoBulkAll, gm, sJ d, oq r]
theorem yu {H : Type} : ∀ l : List (Lit × DataW H), Rows.uptoBulkEntries l = tQ l
  | [] => by simp [Rows.uptoBulkEntries, tQ]
  | x :: r => by simp [Rows.uptoBulkEntries, tQ, Jx x, yu r]
theorem Jx {H : Type} : ∀ x : Lit × DataW H, Rows.uptoBulkEntry x = zZ x
  | (l, d) => by cases l <;> simp [Rows.uptoBulkEntry, zZ, sJ d]
end
set_option maxRecDepth 100000 in
theorem lifted (os : Os) (started : os.Started) (H : Type) (enc : TypeId × Value → H) (F : Stop.Interp) :
    ReturnsInHanded {} Tryz.checked os 8 .any ((Rows.OpenSpec.upto Rows.cascadeFastSpec).pre6 enc Tryz.prog Tryz.f8 Rows.cascadeFastUptoRow.domain false) (((Rows.OpenSpec.upto Rows.cascadeFastSpec).at F).post enc Tryz.prog Tryz.f8 false true false false) := by
  refine jq (C := Tryz.checked) (s := Rows.OpenSpec.upto Rows.cascadeFastSpec) (k := Rows.uptoSmall) rfl own started (by kernel_rfl) Tryz.func8
    (OpenSpec.witness (enc := enc) (C := Tryz.checked) (s := Rows.OpenSpec.upto Rows.cascadeFastSpec) (k := Rows.uptoSmall) rfl false ⟨#[], #[.slice none 0 0, .slice none 0 0, .slice none 0 0], []⟩ 8 (by kernel_rfl) (by kernel_rfl) (by kernel_rfl) (x := ([.nil, .nil, .nil], [], [])) (by kernel_rfl) (by kernel_rfl) (by kernel_rfl)) ?_
  intro W base args ds gs dA hval0 hW hcnd hk hsz0 hsh _
  have hval : ∀ (j : Nat) t v, Tryz.f8.params[j]? = some t → args[j]? = some v → Value.okWide Tryz.prog W .any base t v := hval0
  have hW' := hW
  obtain ⟨p, q, hA0, hV, rfl, hfz, hnd⟩ := hW
  have hA : DataW.TrodAll enc Tryz.prog W 0 (fun _ => true) true Tryz.f8.params.toList args.toList ds p := hA0
  have hsz : ∀ n ∈ DataW.weightsEach Tryz.prog (Tryz.f8.params.toList ++ _) (ds ++ gs), n ≤ reachBytes := fun n hn => of_decide_eq_true (List.all_eq_true.1 hsz0 n hn)
  rw [Tryz.params8] at hA hval hsz
  obtain ⟨v0, vs0, d0, ds0, p0, q0, hargs, rfl, rfl, h0, r0⟩ := trodAll_cons hA
  obtain ⟨v1, vs1, d1, ds1, p1, q1, rfl, rfl, rfl, h1, r1⟩ := trodAll_cons r0
  obtain ⟨v2, vs2, d2, ds2, p2, q2, rfl, rfl, rfl, h2, r2⟩ := trodAll_cons r1
  obtain ⟨rfl, rfl, rfl⟩ := trodAll_nil r2
  obtain rfl : args = #[v0, v1, v2] := by cases args; simp_all
  obtain ⟨rfl, rfl⟩ := trodVars_none hV
  have hk2 : gm [d0, d1, d2] ≤ 1048576 := by
    have hk1 : Rows.uptoBulkAll ([d0, d1, d2] ++ []) ≤ 1048576 := of_decide_eq_true hk
    rw [List.append_nil, oq] at hk1
    exact hk1
  have lt0 : ∀ x ∈ p0, x.block < W.heap.size := by obtain ⟨m, hm⟩ := h0; exact DataW.trod_lt m _ _ _ hm
  have lt1 : ∀ x ∈ p1, x.block < W.heap.size := by obtain ⟨m, hm⟩ := h1; exact DataW.trod_lt m _ _ _ hm
  have lt2 : ∀ x ∈ p2, x.block < W.heap.size := by obtain ⟨m, hm⟩ := h2; exact DataW.trod_lt m _ _ _ hm
  have wt0 : ∀ n ∈ d0.weights Tryz.prog 22, n ≤ reachBytes := fun n hn => hsz n (DataW.weights_mem_each (j := 0) rfl rfl n hn)
  have wt1 : ∀ n ∈ d1.weights Tryz.prog 23, n ≤ reachBytes := fun n hn => hsz n (DataW.weights_mem_each (j := 1) rfl rfl n hn)
  have wt2 : ∀ n ∈ d2.weights Tryz.prog 63, n ≤ reachBytes := fun n hn => hsz n (DataW.weights_mem_each (j := 2) rfl rfl n hn)
  refine (CascadeFast_walk W hsh (hval 0 22 v0 rfl rfl) h0 wt0 (hval 1 23 v1 rfl rfl) h1 wt1 (hval 2 63 v2 rfl rfl) h2 wt2 hk2).mono fun e W2 hh => ?_
  obtain ⟨he, bel⟩ := hh
  subst he
  exact ⟨_, rfl, _, _, _, [], _, [], hW', trodAll_mk1 (shut_bool Tryz.underlying4 _), (trodAll_cons_mk (Below.trod laidOut (by kernel_rfl) (of_decide_eq_true (by kernel_rfl)) h0 bel lt0) (trodAll_cons_mk (Below.trod laidOut (by kernel_rfl) (of_decide_eq_true (by kernel_rfl)) h1 bel lt1) (trodAll_cons_mk (Below.trod laidOut (by kernel_rfl) (of_decide_eq_true (by kernel_rfl)) h2 bel lt2) trodAll_mk0))), rfl, bel.frame _, fun h => by cases h⟩
theorem over : Rows.cascadeFastUptoRow.holds Tryz.pinned (Rows.OpenSpec.upto Rows.cascadeFastSpec) :=
  OpenClaim.holds_of_cond 8 Tryz.f8 rfl rfl rfl rfl rfl rfl rfl ⟨rfl, rfl, rfl, rfl, rfl⟩ rfl rfl rfl rfl rfl (by kernel_rfl) Tryz.func8 (by kernel_rfl)
    (of_decide_eq_true (by kernel_rfl)) (by unfold Func.isWrapper; first | (rw [if_pos (by decide +kernel)]; kernel_rfl) | (rw [if_neg (by decide +kernel)]; exact ⟨rfl, rfl⟩))
    (fun os started H enc _ F => lifted os started H enc F)
end Go.Proofs.YthdcghnjndhecaaGreat.cascadeFast
namespace Go.Proofs.YthdcghnjndhecaaGreat
/-- The row. -/
theorem cascadeFast_holds : Rows.CascadeFastUptoSaid := cascadeFast.over
#print axioms cascadeFast_holds
end Go.Proofs.YthdcghnjndhecaaGreat

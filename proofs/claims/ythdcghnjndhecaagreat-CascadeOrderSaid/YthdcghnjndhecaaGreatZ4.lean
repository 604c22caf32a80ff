/- The walks, part 4: the evaluator, the functions, the laws. Conditions: none. -/
import Derived.Test.YthdcghnjndhecaaGreatZ3
namespace Go.Proofs.YthdcghnjndhecaaGreat.Ev
set_option maxRecDepth 100000
set_option maxHeartbeats 4000000
set_option linter.unusedVariables false
variable {σ:Sig}
noncomputable def match_is.code:Code:=bodyOf Tryz.f136
theorem match_is.run {a0 a1:AV} {H:Hp} {K:AV→Hp→Prop} (h:bnd (eqPtrR .neq a0 (.lit (.pointer none))) fun x1=>ifB x1 (bnd (binR .geq a1 (.lit (.int .i64 0))) fun x2=>ifB x2 (callK Tryz.prog σ n_dom_Tree_Len [a0] H fun x3 H4=>bnd (binR .lss a1 x3) fun x5=>K x5 H4) (K (.lit (.bool false)) H)) (K (.lit (.bool false)) H)):∃ r H1,Good Tryz.prog σ n_match_is [a0,a1] H r H1∧K r H1 :=
 good_of_wp (CX σ [] known_nil) mixed 0 (fn:=Tryz.f136) (f:=n_match_is) (c:=match_is.code) (fnT_ok 136 _ (by kernel_rfl)).1 (by kernel_rfl) (fnT_ok 136 _ (by kernel_rfl)).2 (Eq.mpr (by kernel_rfl) h)
noncomputable def match_begin.code:Code:=bodyOf Tryz.f137
theorem match_begin.run {a0:AV} {H:Hp} {K:AV→Hp→Prop} (h:bnd (bldR [.lit (.pointer none),.lit (.slice none 0 0),.lit (.map none)] [(0,1,a0),(2,1,(.mp H.n))]) fun l1=>boxK (.agg l1) (H.new (.map [])) fun x2 H3=>K x2 H3):∃ r H1,Good Tryz.prog σ n_match_begin [a0] H r H1∧K r H1 :=
 good_of_wp (CX σ [] known_nil) mixed 0 (fn:=Tryz.f137) (f:=n_match_begin) (c:=match_begin.code) (fnT_ok 137 _ (by kernel_rfl)).1 (by kernel_rfl) (fnT_ok 137 _ (by kernel_rfl)).2 (Eq.mpr (by kernel_rfl) h)
noncomputable def match_may.code:Code:=bodyOf Tryz.f138
noncomputable def match_may.Q0 (σ:Sig) (K:AV→Hp→Prop):Exit→List AV→Hp→Prop:=(nx (fnQ (CX σ [] known_nil).ti Tryz.f138.results.toList K) fun T1 H1=>wp (CX σ [] known_nil) 7343618 (sR (sR match_may.code)) T1 H1 (fnQ (CX σ [] known_nil).ti Tryz.f138.results.toList K))
noncomputable def match_may.L0 (σ:Sig) (K:AV→Hp→Prop) (y1 y9 y10 y11 y20 y21 y22:AV) (H:Hp):Prop:=∀ js:Nat→AV,LoopP (CX σ [] known_nil) (lB (bB (sR (sL (sR match_may.code))))) [js 0,y1,js 2,js 3,js 4,js 5,js 6,js 7,js 8,y9,y10,y11,js 12,js 13,js 14,js 15,js 16,js 17,js 18,js 19,y20,y21,y22,js 23,js 24,js 25,js 26,js 27,js 28,js 29,js 30,js 31,js 32] H (fun e T1 H1=>(match_may.Q0 σ K) (unblock 0 e) T1 H1)
noncomputable def match_may.L1 (σ:Sig) (K:AV→Hp→Prop) (y1 y9 y10 y11 y20 y21 y22:AV) (H:Hp):Prop:=∀ js:Nat→AV,LoopP (CX σ [] known_nil) (lB (bB (sR (sR (sR (bB (sL (sR (sR (lB (bB (sR (sL (sR match_may.code)))))))))))))) [js 0,y1,js 2,js 3,js 4,js 5,js 6,js 7,js 8,y9,y10,y11,js 12,js 13,js 14,js 15,js 16,js 17,js 18,js 19,y20,y21,y22,js 23,js 24,js 25,js 26,js 27,js 28,js 29,js 30,js 31,js 32] H (fun e T1 H1=>(fun e T1 H1=>(nx (nx (fun e T1 H1=>(match_may.Q0 σ K) (unblock 0 e) T1 H1) fun T1 H1=>∀ js,LoopP (CX σ [] known_nil) (lB (bB (sR (sL (sR match_may.code))))) (maskA 7343618 js 0 T1) H1 (fun e T1 H1=>(match_may.Q0 σ K) (unblock 0 e) T1 H1)) fun T1 H1=>wp (CX σ [] known_nil) 7343618 (sR (sR (sR (lB (bB (sR (sL (sR match_may.code)))))))) T1 H1 (nx (fun e T1 H1=>(match_may.Q0 σ K) (unblock 0 e) T1 H1) fun T1 H1=>∀ js,LoopP (CX σ [] known_nil) (lB (bB (sR (sL (sR match_may.code))))) (maskA 7343618 js 0 T1) H1 (fun e T1 H1=>(match_may.Q0 σ K) (unblock 0 e) T1 H1))) (unblock 1 e) T1 H1) (unblock 2 e) T1 H1)
theorem match_may.L0_step {K:AV→Hp→Prop} {y1 y9 y10 y11 y20 y21 y22:AV} {H:Hp} (h:bnd (binR .lss y11 y10) fun x1=>ifB x1 (bnd (ixaSl 1 y9 y11) fun x2=>bnd (ldA true 1 H x2) fun x3=>allocK [.lit (.slice none 0 0)] H fun x4 H5=>bnd (stA 1 H5 x4 x3) fun H6=>bnd (shiftA x4 0) fun x7=>bnd (ldA false 1 H6 x7) fun x8=>bnd (lenSl x8) fun x9=>bnd (binR .gtr x9 (.lit (.int .i64 50))) fun x10=>ifB x10 (K (.lit (.bool false)) H6) (bnd (shiftA x4 0) fun x11=>bnd (ldA false 1 H6 x11) fun x12=>bnd (lenSl x12) fun x13=>match_may.L1 σ K y1 y9 y10 y11 x12 x13 (.lit (.int .i64 0)) H6)) (K (.lit (.bool true)) H)):match_may.L0 σ K y1 y9 y10 y11 y20 y21 y22 H :=
 fun js=>LoopP.round (CX σ [] known_nil) mixed (g:=7343618) (Eq.mpr (by kernel_rfl) h)
theorem match_may.L1_step {K:AV→Hp→Prop} {y1 y9 y10 y11 y20 y21 y22:AV} {H:Hp} (h:bnd (binR .lss y22 y21) fun x1=>ifB x1 (bnd (ixaSl 6 y20 y22) fun x2=>bnd (ldA true 6 H x2) fun x3=>allocK [.lit (.int .i64 0),.lit (.string ⟨#[]⟩),.lit (.slice none 0 0),.lit (.slice none 0 0),.lit (.slice none 0 0),.lit (.slice none 0 0)] H fun x4 H5=>bnd (stA 6 H5 x4 x3) fun H6=>bnd (shiftA x4 1) fun x7=>bnd (ldA true 5 H6 x7) fun x8=>callK Tryz.prog σ n_match_mayCompound [x8,y1] H6 fun x9 H10=>bnd (unR .not x9) fun x11=>ifB x11 (K (.lit (.bool false)) H10) (bnd (binR .add y22 (.lit (.int .i64 1))) fun x12=>match_may.L1 σ K y1 y9 y10 y11 y20 y21 x12 H10)) (bnd (binR .add y11 (.lit (.int .i64 1))) fun x13=>match_may.L0 σ K y1 y9 y10 x13 y20 y21 y22 H)):match_may.L1 σ K y1 y9 y10 y11 y20 y21 y22 H :=
 fun js=>LoopP.round (CX σ [] known_nil) mixed (g:=7343618) (Eq.mpr (by kernel_rfl) h)
theorem match_may.run {a0 a1:AV} {H:Hp} {K:AV→Hp→Prop} (h:bnd (lenSl a0) fun x1=>match_may.L0 σ K a1 a0 x1 (.lit (.int .i64 0)) (.lit undef) (.lit undef) (.lit undef) H):∃ r H1,Good Tryz.prog σ n_match_may [a0,a1] H r H1∧K r H1 :=
 good_of_wp (CX σ [] known_nil) mixed 7343618 (fn:=Tryz.f138) (f:=n_match_may) (c:=match_may.code) (fnT_ok 138 _ (by kernel_rfl)).1 (by kernel_rfl) (fnT_ok 138 _ (by kernel_rfl)).2 (Eq.mpr (by kernel_rfl) h)
noncomputable def match_asked_any.code:Code:=bodyOf Tryz.f139
noncomputable def match_asked_any.L0 (σ:Sig) (K:AV→Hp→Prop) (y0 y1 y10 y11 y12:AV) (H:Hp):Prop:=∀ js:Nat→AV,LoopP (CX σ [] known_nil) (lB (bB (sR (sL (sR match_asked_any.code))))) [y0,y1,js 2,js 3,js 4,js 5,js 6,js 7,js 8,js 9,y10,y11,y12,js 13,js 14,js 15,js 16,js 17,js 18,js 19,js 20,js 21,js 22,js 23,js 24,js 25,js 26,js 27,js 28,js 29,js 30,js 31,js 32,js 33,js 34] H (fun e T1 H1=>(nx (fnQ (CX σ [] known_nil).ti Tryz.f139.results.toList K) fun T1 H1=>wp (CX σ [] known_nil) 7171 (sR (sR match_asked_any.code)) T1 H1 (fnQ (CX σ [] known_nil).ti Tryz.f139.results.toList K)) (unblock 0 e) T1 H1)
theorem match_asked_any.L0_step {K:AV→Hp→Prop} {y0 y1 y10 y11 y12:AV} {H:Hp} (h:bnd (binR .lss y12 y11) fun x1=>ifB x1 (bnd (ixaSl 1 y10 y12) fun x2=>bnd (ldA false 1 H x2) fun x3=>bnd (nilR y0) fun x4=>bnd (shiftA x4 1) fun x5=>bnd (ldA false 1 H x5) fun x6=>bnd (ixaSl 1 x6 x3) fun x7=>bnd (ldA false 1 H x7) fun x8=>bnd (lenSl x8) fun x9=>bnd (binR .gtr x9 (.lit (.int .i64 0))) fun x10=>ifB x10 (bnd (binR .sub x9 (.lit (.int .i64 1))) fun x11=>callK Tryz.prog σ n_match_asked_is [y0,x3,x11,y1] H fun x12 H13=>ifB x12 (K (.lit (.bool true)) H13) (bnd (binR .add y12 (.lit (.int .i64 1))) fun x14=>match_asked_any.L0 σ K y0 y1 y10 y11 x14 H13)) (bnd (binR .add y12 (.lit (.int .i64 1))) fun x15=>match_asked_any.L0 σ K y0 y1 y10 y11 x15 H)) (K (.lit (.bool false)) H)):match_asked_any.L0 σ K y0 y1 y10 y11 y12 H :=
 fun js=>LoopP.round (CX σ [] known_nil) mixed (g:=7171) (Eq.mpr (by kernel_rfl) h)
theorem match_asked_any.run {a0 a1 a2:AV} {H:Hp} {K:AV→Hp→Prop} (h:bnd (lenSl a2) fun x1=>match_asked_any.L0 σ K a0 a1 a2 x1 (.lit (.int .i64 0)) H):∃ r H1,Good Tryz.prog σ n_match_asked_any [a0,a1,a2] H r H1∧K r H1 :=
 good_of_wp (CX σ [] known_nil) mixed 7171 (fn:=Tryz.f139) (f:=n_match_asked_any) (c:=match_asked_any.code) (fnT_ok 139 _ (by kernel_rfl)).1 (by kernel_rfl) (fnT_ok 139 _ (by kernel_rfl)).2 (Eq.mpr (by kernel_rfl) h)
noncomputable def match_asked_add.code:Code:=bodyOf Tryz.f140
noncomputable def match_asked_add.Q0 (σ:Sig) (K:AV→Hp→Prop):Exit→List AV→Hp→Prop:=(nx (fnQ (CX σ [] known_nil).ti Tryz.f140.results.toList K) fun T1 H1=>wp (CX σ [] known_nil) 15047182625 (sR (sR (sR match_asked_add.code))) T1 H1 (fnQ (CX σ [] known_nil).ti Tryz.f140.results.toList K))
noncomputable def match_asked_add.Q1 (σ:Sig) (K:AV→Hp→Prop):Exit→List AV→Hp→Prop:=(nx (fun e T1 H1=>(match_asked_add.Q0 σ K) (unblock 0 e) T1 H1) fun T1 H1=>∀ js,LoopP (CX σ [] known_nil) (lB (bB (sR (sL (sR (sR match_asked_add.code)))))) (maskA 15047182625 js 0 T1) H1 (fun e T1 H1=>(match_asked_add.Q0 σ K) (unblock 0 e) T1 H1))
noncomputable def match_asked_add.Q2 (σ:Sig) (K:AV→Hp→Prop):Exit→List AV→Hp→Prop:=(nx (match_asked_add.Q1 σ K) fun T1 H1=>wp (CX σ [] known_nil) 15047182625 (sR (sR (sR (lB (bB (sR (sL (sR (sR match_asked_add.code))))))))) T1 H1 (match_asked_add.Q1 σ K))
noncomputable def match_asked_add.Q3 (σ:Sig) (K:AV→Hp→Prop):Exit→List AV→Hp→Prop:=(nx (fun e T1 H1=>(match_asked_add.Q2 σ K) (unblock 1 e) T1 H1) fun T1 H1=>wp (CX σ [] known_nil) 15047182625 (sR (sR (sR (bB (sL (sR (sR (lB (bB (sR (sL (sR (sR match_asked_add.code))))))))))))) T1 H1 (fun e T1 H1=>(match_asked_add.Q2 σ K) (unblock 1 e) T1 H1))
noncomputable def match_asked_add.Q4 (σ:Sig) (K:AV→Hp→Prop):Exit→List AV→Hp→Prop:=(nx (fun e T1 H1=>(match_asked_add.Q3 σ K) (unblock 2 e) T1 H1) fun T1 H1=>∀ js,LoopP (CX σ [] known_nil) (lB (bB (sR (sL (sR (sR (bB (sL (sR (sR (lB (bB (sR (sL (sR (sR match_asked_add.code)))))))))))))))) (maskA 15047182625 js 0 T1) H1 (fun e T1 H1=>(match_asked_add.Q3 σ K) (unblock 2 e) T1 H1))
noncomputable def match_asked_add.L0 (σ:Sig) (K:AV→Hp→Prop) (y0 y5 y8 y11 y14 y15 y16 y21 y22 y23 y31 y32 y33:AV) (H:Hp):Prop:=∀ js:Nat→AV,LoopP (CX σ [] known_nil) (lB (bB (sR (sL (sR (sR match_asked_add.code)))))) [y0,js 1,js 2,js 3,js 4,y5,js 6,js 7,y8,js 9,js 10,y11,js 12,js 13,y14,y15,y16,js 17,js 18,js 19,js 20,y21,y22,y23,js 24,js 25,js 26,js 27,js 28,js 29,js 30,y31,y32,y33,js 34,js 35,js 36,js 37,js 38,js 39,js 40,js 41,js 42,js 43,js 44,js 45,js 46,js 47,js 48,js 49,js 50,js 51,js 52,js 53,js 54,js 55,js 56,js 57,js 58,js 59,js 60,js 61,js 62,js 63,js 64,js 65,js 66,js 67,js 68,js 69,js 70,js 71] H (fun e T1 H1=>(match_asked_add.Q0 σ K) (unblock 0 e) T1 H1)
noncomputable def match_asked_add.L1 (σ:Sig) (K:AV→Hp→Prop) (y0 y5 y8 y11 y14 y15 y16 y21 y22 y23 y31 y32 y33:AV) (H:Hp):Prop:=∀ js:Nat→AV,LoopP (CX σ [] known_nil) (lB (bB (sR (sL (sR (sR (bB (sL (sR (sR (lB (bB (sR (sL (sR (sR match_asked_add.code)))))))))))))))) [y0,js 1,js 2,js 3,js 4,y5,js 6,js 7,y8,js 9,js 10,y11,js 12,js 13,y14,y15,y16,js 17,js 18,js 19,js 20,y21,y22,y23,js 24,js 25,js 26,js 27,js 28,js 29,js 30,y31,y32,y33,js 34,js 35,js 36,js 37,js 38,js 39,js 40,js 41,js 42,js 43,js 44,js 45,js 46,js 47,js 48,js 49,js 50,js 51,js 52,js 53,js 54,js 55,js 56,js 57,js 58,js 59,js 60,js 61,js 62,js 63,js 64,js 65,js 66,js 67,js 68,js 69,js 70,js 71] H (fun e T1 H1=>(match_asked_add.Q3 σ K) (unblock 2 e) T1 H1)
noncomputable def match_asked_add.L2 (σ:Sig) (K:AV→Hp→Prop) (y0 y5 y8 y11 y14 y15 y16 y21 y22 y23 y31 y32 y33:AV) (H:Hp):Prop:=∀ js:Nat→AV,LoopP (CX σ [] known_nil) (lB (bB (sR (sL (sR (sR (bB (sL (sR (sR (lB (bB (sR (sL (sR (sR (bB (sL (sR (sR (lB (bB (sR (sL (sR (sR match_asked_add.code)))))))))))))))))))))))))) [y0,js 1,js 2,js 3,js 4,y5,js 6,js 7,y8,js 9,js 10,y11,js 12,js 13,y14,y15,y16,js 17,js 18,js 19,js 20,y21,y22,y23,js 24,js 25,js 26,js 27,js 28,js 29,js 30,y31,y32,y33,js 34,js 35,js 36,js 37,js 38,js 39,js 40,js 41,js 42,js 43,js 44,js 45,js 46,js 47,js 48,js 49,js 50,js 51,js 52,js 53,js 54,js 55,js 56,js 57,js 58,js 59,js 60,js 61,js 62,js 63,js 64,js 65,js 66,js 67,js 68,js 69,js 70,js 71] H (fun e T1 H1=>(nx (fun e T1 H1=>(nx (match_asked_add.Q4 σ K) fun T1 H1=>wp (CX σ [] known_nil) 15047182625 (sR (sR (sR (lB (bB (sR (sL (sR (sR (bB (sL (sR (sR (lB (bB (sR (sL (sR (sR match_asked_add.code))))))))))))))))))) T1 H1 (match_asked_add.Q4 σ K)) (unblock 3 e) T1 H1) fun T1 H1=>wp (CX σ [] known_nil) 15047182625 (sR (sR (sR (bB (sL (sR (sR (lB (bB (sR (sL (sR (sR (bB (sL (sR (sR (lB (bB (sR (sL (sR (sR match_asked_add.code))))))))))))))))))))))) T1 H1 (fun e T1 H1=>(nx (match_asked_add.Q4 σ K) fun T1 H1=>wp (CX σ [] known_nil) 15047182625 (sR (sR (sR (lB (bB (sR (sL (sR (sR (bB (sL (sR (sR (lB (bB (sR (sL (sR (sR match_asked_add.code))))))))))))))))))) T1 H1 (match_asked_add.Q4 σ K)) (unblock 3 e) T1 H1)) (unblock 4 e) T1 H1)
theorem match_asked_add.L0_step {K:AV→Hp→Prop} {y0 y5 y8 y11 y14 y15 y16 y21 y22 y23 y31 y32 y33:AV} {H:Hp} (h:bnd (binR .lss y16 y15) fun x1=>ifB x1 (bnd (ixaSl 1 y14 y16) fun x2=>bnd (ldA true 1 H x2) fun x3=>allocK [.lit (.slice none 0 0)] H fun x4 H5=>bnd (stA 1 H5 x4 x3) fun H6=>bnd (shiftA x4 0) fun x7=>bnd (ldA false 1 H6 x7) fun x8=>bnd (lenSl x8) fun x9=>match_asked_add.L1 σ K y0 y5 (.lit (.slice none 0 0)) y11 y14 y15 y16 x8 x9 (.lit (.int .i64 0)) y31 y32 y33 H6) (K y5 H)):match_asked_add.L0 σ K y0 y5 y8 y11 y14 y15 y16 y21 y22 y23 y31 y32 y33 H :=
 fun js=>LoopP.round (CX σ [] known_nil) mixed (g:=15047182625) (Eq.mpr (by kernel_rfl) h)
theorem match_asked_add.L1_step {K:AV→Hp→Prop} {y0 y5 y8 y11 y14 y15 y16 y21 y22 y23 y31 y32 y33:AV} {H:Hp} (h:bnd (binR .lss y23 y22) fun x1=>ifB x1 (bnd (ixaSl 6 y21 y23) fun x2=>bnd (ldA true 6 H x2) fun x3=>allocK [.lit (.int .i64 0),.lit (.string ⟨#[]⟩),.lit (.slice none 0 0),.lit (.slice none 0 0),.lit (.slice none 0 0),.lit (.slice none 0 0)] H fun x4 H5=>bnd (stA 6 H5 x4 x3) fun H6=>bnd (ldA true 6 H6 x4) fun x7=>bnd (bldR [.lit (.int .i64 0),.lit (.string ⟨#[]⟩),.lit (.slice none 0 0),.lit (.slice none 0 0),.lit (.slice none 0 0),.lit (.slice none 0 0),.lit (.slice none 0 0)] [(0,6,x7)]) fun l8=>allocK [.lit (.int .i64 0),.lit (.string ⟨#[]⟩),.lit (.slice none 0 0),.lit (.slice none 0 0),.lit (.slice none 0 0),.lit (.slice none 0 0),.lit (.slice none 0 0)] H6 fun x9 H10=>bnd (stA 7 H10 x9 (.agg l8)) fun H11=>bnd (shiftA x4 1) fun x12=>bnd (shiftA x12 4) fun x13=>bnd (ldA false 1 H11 x13) fun x14=>bnd (lenSl x14) fun x15=>match_asked_add.L2 σ K y0 y5 y8 x9 y14 y15 y16 y21 y22 y23 x14 x15 (.lit (.int .i64 0)) H11) (bnd (nilR y0) fun x16=>bnd (shiftA x16 1) fun x17=>bnd (ldA false 1 H x17) fun x18=>bnd (lenSl x18) fun x19=>bnd (bldSlR [.int .i64 0] 1 1 H [(0,1,x19)]) fun p20=>bnd (appR false 1 8 p20.2 y5 p20.1) fun p21=>bnd (nilR y0) fun x22=>bnd (shiftA x22 1) fun x23=>bnd (ldA false 1 p21.2 x23) fun x24=>bnd (bldSlR [.slice none 0 0] 1 1 p21.2 [(0,1,y8)]) fun p25=>bnd (appR false 1 24 p25.2 x24 p25.1) fun p26=>bnd (nilR y0) fun x27=>bnd (shiftA x27 1) fun x28=>bnd (stA 1 p26.2 x28 p26.1) fun H29=>bnd (binR .add y16 (.lit (.int .i64 1))) fun x30=>match_asked_add.L0 σ K y0 p21.1 y8 y11 y14 y15 x30 y21 y22 y23 y31 y32 y33 H29)):match_asked_add.L1 σ K y0 y5 y8 y11 y14 y15 y16 y21 y22 y23 y31 y32 y33 H :=
 fun js=>LoopP.round (CX σ [] known_nil) mixed (g:=15047182625) (Eq.mpr (by kernel_rfl) h)
theorem match_asked_add.L2_step {K:AV→Hp→Prop} {y0 y5 y8 y11 y14 y15 y16 y21 y22 y23 y31 y32 y33:AV} {H:Hp} (h:bnd (binR .lss y33 y32) fun x1=>ifB x1 (bnd (ixaSl 4 y31 y33) fun x2=>bnd (ldA true 4 H x2) fun x3=>allocK [.lit (.int .i64 0),.lit (.int .i64 0),.lit (.int .i64 0),.lit (.slice none 0 0)] H fun x4 H5=>bnd (stA 4 H5 x4 x3) fun H6=>bnd (shiftA y11 6) fun x7=>bnd (ldA false 1 H6 x7) fun x8=>bnd (shiftA x4 3) fun x9=>bnd (ldA false 1 H6 x9) fun x10=>callK Tryz.prog σ n_match_asked_add [y0,x10] H6 fun x11 H12=>kpK (x7,some 1) H6 H12 (bnd (bldSlR [.slice none 0 0] 1 1 H12 [(0,1,x11)]) fun p13=>kpK (x7,some 1) H12 p13.2 (bnd (appR false 1 24 p13.2 x8 p13.1) fun p14=>bnd (shiftA y11 6) fun x15=>bnd (stA 1 p14.2 x15 p14.1) fun H16=>bnd (binR .add y33 (.lit (.int .i64 1))) fun x17=>match_asked_add.L2 σ K y0 y5 y8 y11 y14 y15 y16 y21 y22 y23 y31 y32 x17 H16))) (bnd (ldA true 7 H y11) fun x18=>bnd (bldSlR [.int .i64 0,.string ⟨#[]⟩,.slice none 0 0,.slice none 0 0,.slice none 0 0,.slice none 0 0,.slice none 0 0] 7 1 H [(0,7,x18)]) fun p19=>bnd (appR false 7 144 p19.2 y8 p19.1) fun p20=>bnd (binR .add y23 (.lit (.int .i64 1))) fun x21=>match_asked_add.L1 σ K y0 y5 p20.1 y11 y14 y15 y16 y21 y22 x21 y31 y32 y33 p20.2)):match_asked_add.L2 σ K y0 y5 y8 y11 y14 y15 y16 y21 y22 y23 y31 y32 y33 H :=
 fun js=>LoopP.round (CX σ [] known_nil) mixed (g:=15047182625) (Eq.mpr (by kernel_rfl) h)
theorem match_asked_add.run {a0 a1:AV} {H:Hp} {K:AV→Hp→Prop} (h:bnd (lenSl a1) fun x1=>match_asked_add.L0 σ K a0 (.lit (.slice none 0 0)) (.lit undef) (.lit undef) a1 x1 (.lit (.int .i64 0)) (.lit undef) (.lit undef) (.lit undef) (.lit undef) (.lit undef) (.lit undef) H):∃ r H1,Good Tryz.prog σ n_match_asked_add [a0,a1] H r H1∧K r H1 :=
 good_of_wp (CX σ [] known_nil) mixed 15047182625 (fn:=Tryz.f140) (f:=n_match_asked_add) (c:=match_asked_add.code) (fnT_ok 140 _ (by kernel_rfl)).1 (by kernel_rfl) (fnT_ok 140 _ (by kernel_rfl)).2 (Eq.mpr (by kernel_rfl) h)
noncomputable def weigh_sums_compound.code:Code:=bodyOf Tryz.f141
noncomputable def weigh_sums_compound.Q0 (σ:Sig) (K:AV→Hp→Prop):Exit→List AV→Hp→Prop:=(nx (fun e T1 H1=>(fnQ (CX σ [] known_nil).ti Tryz.f141.results.toList K) (unblock 0 e) T1 H1) fun T1 H1=>∀ js,LoopP (CX σ [] known_nil) (lB (bB (sR (sR (sR (sR (sR weigh_sums_compound.code))))))) (maskA 8264141837603088367893 js 0 T1) H1 (fun e T1 H1=>(fnQ (CX σ [] known_nil).ti Tryz.f141.results.toList K) (unblock 0 e) T1 H1))
noncomputable def weigh_sums_compound.Q1 (σ:Sig) (K:AV→Hp→Prop):Exit→List AV→Hp→Prop:=(fun e T1 H1=>(nx (weigh_sums_compound.Q0 σ K) fun T1 H1=>∀ js,wp (CX σ [] known_nil) 8264141837603088367893 (sR (sR (sR (lB (bB (sR (sR (sR (sR (sR weigh_sums_compound.code)))))))))) (maskA 8264141837603088367893 js 0 T1) H1 (weigh_sums_compound.Q0 σ K)) (unblock 1 e) T1 H1)
noncomputable def weigh_sums_compound.J0 (σ:Sig) (K:AV→Hp→Prop) (y0 y2 y4 y8 y46 y47 y48 y70 y71 y72:AV) (H:Hp):Prop:=∀ js:Nat→AV,wp (CX σ [] known_nil) 8264141837603088367893 (sR (sR (sR (sR weigh_sums_compound.code)))) [y0,js 1,y2,js 3,y4,js 5,js 6,js 7,y8,js 9,js 10,js 11,js 12,js 13,js 14,js 15,js 16,js 17,js 18,js 19,js 20,js 21,js 22,js 23,js 24,js 25,js 26,js 27,js 28,js 29,js 30,js 31,js 32,js 33,js 34,js 35,js 36,js 37,js 38,js 39,js 40,js 41,js 42,js 43,js 44,js 45,y46,y47,y48,js 49,js 50,js 51,js 52,js 53,js 54,js 55,js 56,js 57,js 58,js 59,js 60,js 61,js 62,js 63,js 64,js 65,js 66,js 67,js 68,js 69,y70,y71,y72,js 73,js 74,js 75,js 76,js 77,js 78,js 79,js 80,js 81,js 82,js 83,js 84,js 85,js 86] H (fnQ (CX σ [] known_nil).ti Tryz.f141.results.toList K)
noncomputable def weigh_sums_compound.L1 (σ:Sig) (K:AV→Hp→Prop) (y0 y2 y4 y8 y46 y47 y48 y70 y71 y72:AV) (H:Hp):Prop:=∀ js:Nat→AV,LoopP (CX σ [] known_nil) (lB (bB (sR (sR (sR (sR (sR weigh_sums_compound.code))))))) [y0,js 1,y2,js 3,y4,js 5,js 6,js 7,y8,js 9,js 10,js 11,js 12,js 13,js 14,js 15,js 16,js 17,js 18,js 19,js 20,js 21,js 22,js 23,js 24,js 25,js 26,js 27,js 28,js 29,js 30,js 31,js 32,js 33,js 34,js 35,js 36,js 37,js 38,js 39,js 40,js 41,js 42,js 43,js 44,js 45,y46,y47,y48,js 49,js 50,js 51,js 52,js 53,js 54,js 55,js 56,js 57,js 58,js 59,js 60,js 61,js 62,js 63,js 64,js 65,js 66,js 67,js 68,js 69,y70,y71,y72,js 73,js 74,js 75,js 76,js 77,js 78,js 79,js 80,js 81,js 82,js 83,js 84,js 85,js 86] H (fun e T1 H1=>(fnQ (CX σ [] known_nil).ti Tryz.f141.results.toList K) (unblock 0 e) T1 H1)
noncomputable def weigh_sums_compound.J2 (σ:Sig) (K:AV→Hp→Prop) (y0 y2 y4 y8 y46 y47 y48 y70 y71 y72:AV) (H:Hp):Prop:=∀ js:Nat→AV,wp (CX σ [] known_nil) 8264141837603088367893 (sR (sR (sR (lB (bB (sR (sR (sR (sR (sR weigh_sums_compound.code)))))))))) [y0,js 1,y2,js 3,y4,js 5,js 6,js 7,y8,js 9,js 10,js 11,js 12,js 13,js 14,js 15,js 16,js 17,js 18,js 19,js 20,js 21,js 22,js 23,js 24,js 25,js 26,js 27,js 28,js 29,js 30,js 31,js 32,js 33,js 34,js 35,js 36,js 37,js 38,js 39,js 40,js 41,js 42,js 43,js 44,js 45,y46,y47,y48,js 49,js 50,js 51,js 52,js 53,js 54,js 55,js 56,js 57,js 58,js 59,js 60,js 61,js 62,js 63,js 64,js 65,js 66,js 67,js 68,js 69,y70,y71,y72,js 73,js 74,js 75,js 76,js 77,js 78,js 79,js 80,js 81,js 82,js 83,js 84,js 85,js 86] H (weigh_sums_compound.Q0 σ K)
noncomputable def weigh_sums_compound.L3 (σ:Sig) (K:AV→Hp→Prop) (y0 y2 y4 y8 y46 y47 y48 y70 y71 y72:AV) (H:Hp):Prop:=∀ js:Nat→AV,LoopP (CX σ [] known_nil) (lB (bB (sR (sL (sR (sR (sR (sR (bB (sL (sR (sR (lB (bB (sR (sR (sR (sR (sR weigh_sums_compound.code))))))))))))))))))) [y0,js 1,y2,js 3,y4,js 5,js 6,js 7,y8,js 9,js 10,js 11,js 12,js 13,js 14,js 15,js 16,js 17,js 18,js 19,js 20,js 21,js 22,js 23,js 24,js 25,js 26,js 27,js 28,js 29,js 30,js 31,js 32,js 33,js 34,js 35,js 36,js 37,js 38,js 39,js 40,js 41,js 42,js 43,js 44,js 45,y46,y47,y48,js 49,js 50,js 51,js 52,js 53,js 54,js 55,js 56,js 57,js 58,js 59,js 60,js 61,js 62,js 63,js 64,js 65,js 66,js 67,js 68,js 69,y70,y71,y72,js 73,js 74,js 75,js 76,js 77,js 78,js 79,js 80,js 81,js 82,js 83,js 84,js 85,js 86] H (fun e T1 H1=>(nx (weigh_sums_compound.Q1 σ K) fun T1 H1=>wp (CX σ [] known_nil) 8264141837603088367893 (sR (sR (sR (sR (sR (bB (sL (sR (sR (lB (bB (sR (sR (sR (sR (sR weigh_sums_compound.code)))))))))))))))) T1 H1 (weigh_sums_compound.Q1 σ K)) (unblock 2 e) T1 H1)
theorem weigh_sums_compound.J0_step {K:AV→Hp→Prop} {y0 y2 y4 y8 y46 y47 y48 y70 y71 y72:AV} {H:Hp} (h:bnd (shiftA y4 4) fun x1=>bnd (ldA false 1 H x1) fun x2=>bnd (lenSl x2) fun x3=>weigh_sums_compound.L1 σ K y0 y2 y4 y8 x2 x3 (.lit (.int .i64 0)) y70 y71 y72 H):weigh_sums_compound.J0 σ K y0 y2 y4 y8 y46 y47 y48 y70 y71 y72 H :=
 fun js=>Eq.mpr (by kernel_rfl) h
theorem weigh_sums_compound.L1_step {K:AV→Hp→Prop} {y0 y2 y4 y8 y46 y47 y48 y70 y71 y72:AV} {H:Hp} (h:bnd (binR .lss y48 y47) fun x1=>ifB x1 (bnd (ixaSl 4 y46 y48) fun x2=>bnd (ldA true 4 H x2) fun x3=>allocK [.lit (.int .i64 0),.lit (.int .i64 0),.lit (.int .i64 0),.lit (.slice none 0 0)] H fun x4 H5=>bnd (stA 4 H5 x4 x3) fun H6=>bnd (shiftA x4 0) fun x7=>bnd (ldA false 1 H6 x7) fun x8=>bnd (binR .neq x8 (.lit (.int .i64 7))) fun x9=>ifB x9 (bnd (shiftA x4 0) fun x10=>bnd (ldA false 1 H6 x10) fun x11=>bnd (binR .neq x11 (.lit (.int .i64 8))) fun x12=>ifB x12 (bnd (nilR y0) fun x13=>bnd (ixaArr 3 1 x13 (.lit (.int .i64 1))) fun x14=>bnd (ldA false 1 H6 x14) fun x15=>bnd (binR .add x15 (.lit (.int .i64 1))) fun x16=>bnd (nilR y0) fun x17=>bnd (ixaArr 3 1 x17 (.lit (.int .i64 1))) fun x18=>bnd (stA 1 H6 x18 x16) fun H19=>weigh_sums_compound.J2 σ K y0 y2 y4 y8 y46 y47 y48 y70 y71 y72 H19) (bnd (binR .eql y2 (.lit (.int .i64 0))) fun x20=>ifB x20 (weigh_sums_compound.J2 σ K y0 y2 y4 y8 y46 y47 y48 y70 y71 y72 H6) (bnd (shiftA x4 3) fun x21=>bnd (ldA false 1 H6 x21) fun x22=>bnd (lenSl x22) fun x23=>weigh_sums_compound.L3 σ K y0 y2 y4 (.lit (.int .i64 0)) y46 y47 y48 x22 x23 (.lit (.int .i64 0)) H6))) (bnd (binR .eql y2 (.lit (.int .i64 0))) fun x24=>ifB x24 (weigh_sums_compound.J2 σ K y0 y2 y4 y8 y46 y47 y48 y70 y71 y72 H6) (bnd (shiftA x4 3) fun x25=>bnd (ldA false 1 H6 x25) fun x26=>bnd (lenSl x26) fun x27=>weigh_sums_compound.L3 σ K y0 y2 y4 (.lit (.int .i64 0)) y46 y47 y48 x26 x27 (.lit (.int .i64 0)) H6))) (K (.tup []) H)):weigh_sums_compound.L1 σ K y0 y2 y4 y8 y46 y47 y48 y70 y71 y72 H :=
 fun js=>LoopP.round (CX σ [] known_nil) mixed (g:=8264141837603088367893) (Eq.mpr (by kernel_rfl) h)
theorem weigh_sums_compound.J2_step {K:AV→Hp→Prop} {y0 y2 y4 y8 y46 y47 y48 y70 y71 y72:AV} {H:Hp} (h:bnd (binR .add y48 (.lit (.int .i64 1))) fun x1=>weigh_sums_compound.L1 σ K y0 y2 y4 y8 y46 y47 x1 y70 y71 y72 H):weigh_sums_compound.J2 σ K y0 y2 y4 y8 y46 y47 y48 y70 y71 y72 H :=
 fun js=>Eq.mpr (by kernel_rfl) h
theorem weigh_sums_compound.L3_step {K:AV→Hp→Prop} {y0 y2 y4 y8 y46 y47 y48 y70 y71 y72:AV} {H:Hp} (h:bnd (binR .lss y72 y71) fun x1=>ifB x1 (bnd (ixaSl 1 y70 y72) fun x2=>bnd (ldA true 1 H x2) fun x3=>allocK [.lit (.slice none 0 0)] H fun x4 H5=>bnd (stA 1 H5 x4 x3) fun H6=>bnd (ldA true 1 H6 x4) fun x7=>bnd (binR .sub y2 (.lit (.int .i64 1))) fun x8=>callK Tryz.prog σ n_weigh_of [x7,x8] H6 fun x9 H10=>bnd (maxA [y8,x9]) fun x11=>bnd (binR .add y72 (.lit (.int .i64 1))) fun x12=>weigh_sums_compound.L3 σ K y0 y2 y4 x11 y46 y47 y48 y70 y71 x12 H10) (callK Tryz.prog σ n_weigh_sums_add [y0,y8] H fun x13 H14=>weigh_sums_compound.J2 σ K y0 y2 y4 y8 y46 y47 y48 y70 y71 y72 H14)):weigh_sums_compound.L3 σ K y0 y2 y4 y8 y46 y47 y48 y70 y71 y72 H :=
 fun js=>LoopP.round (CX σ [] known_nil) mixed (g:=8264141837603088367893) (Eq.mpr (by kernel_rfl) h)
theorem weigh_sums_compound.run {a0 a1 a2:AV} {H:Hp} {K:AV→Hp→Prop} (h:boxK a1 H fun x1 H2=>bnd (nilR a0) fun x3=>bnd (ixaArr 3 1 x3 (.lit (.int .i64 0))) fun x4=>bnd (ldA false 1 H2 x4) fun x5=>bnd (shiftA x1 1) fun x6=>bnd (ldA false 1 H2 x6) fun x7=>bnd (lenSl x7) fun x8=>bnd (binR .add x5 x8) fun x9=>bnd (nilR a0) fun x10=>bnd (ixaArr 3 1 x10 (.lit (.int .i64 0))) fun x11=>bnd (stA 1 H2 x11 x9) fun H12=>bnd (nilR a0) fun x13=>bnd (ixaArr 3 1 x13 (.lit (.int .i64 1))) fun x14=>bnd (ldA false 1 H12 x14) fun x15=>bnd (shiftA x1 2) fun x16=>bnd (ldA false 1 H12 x16) fun x17=>bnd (lenSl x17) fun x18=>bnd (shiftA x1 3) fun x19=>bnd (ldA false 1 H12 x19) fun x20=>bnd (lenSl x20) fun x21=>bnd (binR .add x18 x21) fun x22=>bnd (binR .add x15 x22) fun x23=>bnd (nilR a0) fun x24=>bnd (ixaArr 3 1 x24 (.lit (.int .i64 1))) fun x25=>bnd (stA 1 H12 x25 x23) fun H26=>bnd (shiftA x1 0) fun x27=>bnd (ldA false 1 H26 x27) fun x28=>bnd (binR .neq x28 (.lit (.string ⟨#[]⟩))) fun x29=>ifB x29 (bnd (nilR a0) fun x30=>bnd (ixaArr 3 1 x30 (.lit (.int .i64 2))) fun x31=>bnd (ldA false 1 H26 x31) fun x32=>bnd (binR .add x32 (.lit (.int .i64 1))) fun x33=>bnd (nilR a0) fun x34=>bnd (ixaArr 3 1 x34 (.lit (.int .i64 2))) fun x35=>bnd (stA 1 H26 x35 x33) fun H36=>weigh_sums_compound.J0 σ K a0 a2 x1 (.lit undef) (.lit undef) (.lit undef) (.lit undef) (.lit undef) (.lit undef) (.lit undef) H36) (weigh_sums_compound.J0 σ K a0 a2 x1 (.lit undef) (.lit undef) (.lit undef) (.lit undef) (.lit undef) (.lit undef) (.lit undef) H26)):∃ r H1,Good Tryz.prog σ n_weigh_sums_compound [a0,a1,a2] H r H1∧K r H1 :=
 good_of_wp (CX σ [] known_nil) mixed 8264141837603088367893 (fn:=Tryz.f141) (f:=n_weigh_sums_compound) (c:=weigh_sums_compound.code) (fnT_ok 141 _ (by kernel_rfl)).1 (by kernel_rfl) (fnT_ok 141 _ (by kernel_rfl)).2 (Eq.mpr (by kernel_rfl) h)
noncomputable def weigh_sums_weight.code:Code:=bodyOf Tryz.f142
noncomputable def weigh_sums_weight.L0 (σ:Sig) (K:AV→Hp→Prop) (y3 y6 y7:AV) (H:Hp):Prop:=∀ js:Nat→AV,LoopP (CX σ [] known_nil) (lB (bB (sR (sL (sR (sR weigh_sums_weight.code)))))) [js 0,js 1,js 2,y3,js 4,js 5,y6,y7,js 8,js 9,js 10,js 11,js 12,js 13,js 14,js 15,js 16] H (fun e T1 H1=>(nx (fnQ (CX σ [] known_nil).ti Tryz.f142.results.toList K) fun T1 H1=>wp (CX σ [] known_nil) 200 (sR (sR (sR weigh_sums_weight.code))) T1 H1 (fnQ (CX σ [] known_nil).ti Tryz.f142.results.toList K)) (unblock 0 e) T1 H1)
theorem weigh_sums_weight.L0_step {K:AV→Hp→Prop} {y3 y6 y7:AV} {H:Hp} (h:bnd (binR .lss y7 (.lit (.int .i64 3))) fun x1=>ifB x1 (bnd (ixArr false 3 1 y6 y7) fun x2=>bnd (binR .mul y3 (.lit (.int .i64 256))) fun x3=>callK Tryz.prog σ n_weigh_capped_int [x2,(.lit (.int .i64 255))] H fun x4 H5=>bnd (binR .add x3 x4) fun x6=>bnd (binR .add y7 (.lit (.int .i64 1))) fun x7=>weigh_sums_weight.L0 σ K x6 y6 x7 H5) (K y3 H)):weigh_sums_weight.L0 σ K y3 y6 y7 H :=
 fun js=>LoopP.round (CX σ [] known_nil) mixed (g:=200) (Eq.mpr (by kernel_rfl) h)
theorem weigh_sums_weight.run {a0:AV} {H:Hp} {K:AV→Hp→Prop} (h:boxK a0 H fun x1 H2=>bnd (ldA true 3 H2 x1) fun x3=>weigh_sums_weight.L0 σ K (.lit (.int .i64 0)) x3 (.lit (.int .i64 0)) H2):∃ r H1,Good Tryz.prog σ n_weigh_sums_weight [a0] H r H1∧K r H1 :=
 good_of_wp (CX σ [] known_nil) mixed 200 (fn:=Tryz.f142) (f:=n_weigh_sums_weight) (c:=weigh_sums_weight.code) (fnT_ok 142 _ (by kernel_rfl)).1 (by kernel_rfl) (fnT_ok 142 _ (by kernel_rfl)).2 (Eq.mpr (by kernel_rfl) h)
noncomputable def dom_Tree_Len.code:Code:=bodyOf Tryz.f156
theorem dom_Tree_Len.run {a0:AV} {H:Hp} {K:AV→Hp→Prop} (h:bnd (nilR a0) fun x1=>bnd (shiftA x1 0) fun x2=>bnd (ldA false 1 H x2) fun x3=>bnd (lenSl x3) fun x4=>K x4 H):∃ r H1,Good Tryz.prog σ n_dom_Tree_Len [a0] H r H1∧K r H1 :=
 good_of_wp (CX σ [] known_nil) mixed 0 (fn:=Tryz.f156) (f:=n_dom_Tree_Len) (c:=dom_Tree_Len.code) (fnT_ok 156 _ (by kernel_rfl)).1 (by kernel_rfl) (fnT_ok 156 _ (by kernel_rfl)).2 (Eq.mpr (by kernel_rfl) h)
noncomputable def match_mayCompound.code:Code:=bodyOf Tryz.f157
noncomputable def match_mayCompound.Q0 (σ:Sig) (K:AV→Hp→Prop):Exit→List AV→Hp→Prop:=(nx (fnQ (CX σ [] known_nil).ti Tryz.f157.results.toList K) fun T1 H1=>wp (CX σ [] known_nil) 1794 (sR (sR match_mayCompound.code)) T1 H1 (fnQ (CX σ [] known_nil).ti Tryz.f157.results.toList K))
noncomputable def match_mayCompound.L0 (σ:Sig) (K:AV→Hp→Prop) (y1 y8 y9 y10:AV) (H:Hp):Prop:=∀ js:Nat→AV,LoopP (CX σ [] known_nil) (lB (bB (sR (sL (sR match_mayCompound.code))))) [js 0,y1,js 2,js 3,js 4,js 5,js 6,js 7,y8,y9,y10,js 11,js 12,js 13,js 14,js 15,js 16,js 17,js 18,js 19,js 20,js 21,js 22,js 23,js 24,js 25,js 26,js 27,js 28,js 29,js 30,js 31,js 32] H (fun e T1 H1=>(match_mayCompound.Q0 σ K) (unblock 0 e) T1 H1)
noncomputable def match_mayCompound.J1 (σ:Sig) (K:AV→Hp→Prop) (y1 y8 y9 y10:AV) (H:Hp):Prop:=∀ js:Nat→AV,wp (CX σ [] known_nil) 1794 (sR (sR (sR (lB (bB (sR (sL (sR match_mayCompound.code)))))))) [js 0,y1,js 2,js 3,js 4,js 5,js 6,js 7,y8,y9,y10,js 11,js 12,js 13,js 14,js 15,js 16,js 17,js 18,js 19,js 20,js 21,js 22,js 23,js 24,js 25,js 26,js 27,js 28,js 29,js 30,js 31,js 32] H (nx (fun e T1 H1=>(match_mayCompound.Q0 σ K) (unblock 0 e) T1 H1) fun T1 H1=>∀ js,LoopP (CX σ [] known_nil) (lB (bB (sR (sL (sR match_mayCompound.code))))) (maskA 1794 js 0 T1) H1 (fun e T1 H1=>(match_mayCompound.Q0 σ K) (unblock 0 e) T1 H1))
theorem match_mayCompound.L0_step {K:AV→Hp→Prop} {y1 y8 y9 y10:AV} {H:Hp} (h:bnd (binR .lss y10 y9) fun x1=>ifB x1 (bnd (ixaSl 4 y8 y10) fun x2=>bnd (ldA true 4 H x2) fun x3=>allocK [.lit (.int .i64 0),.lit (.int .i64 0),.lit (.int .i64 0),.lit (.slice none 0 0)] H fun x4 H5=>bnd (stA 4 H5 x4 x3) fun H6=>bnd (shiftA x4 0) fun x7=>bnd (ldA false 1 H6 x7) fun x8=>bnd (binR .neq x8 (.lit (.int .i64 7))) fun x9=>ifB x9 (bnd (shiftA x4 0) fun x10=>bnd (ldA false 1 H6 x10) fun x11=>bnd (binR .neq x11 (.lit (.int .i64 8))) fun x12=>ifB x12 (match_mayCompound.J1 σ K y1 y8 y9 y10 H6) (bnd (binR .eql y1 (.lit (.int .i64 0))) fun x13=>ifB x13 (K (.lit (.bool false)) H6) (bnd (shiftA x4 3) fun x14=>bnd (ldA false 1 H6 x14) fun x15=>bnd (binR .sub y1 (.lit (.int .i64 1))) fun x16=>callK Tryz.prog σ n_match_may [x15,x16] H6 fun x17 H18=>bnd (unR .not x17) fun x19=>ifB x19 (K (.lit (.bool false)) H18) (match_mayCompound.J1 σ K y1 y8 y9 y10 H18)))) (bnd (binR .eql y1 (.lit (.int .i64 0))) fun x20=>ifB x20 (K (.lit (.bool false)) H6) (bnd (shiftA x4 3) fun x21=>bnd (ldA false 1 H6 x21) fun x22=>bnd (binR .sub y1 (.lit (.int .i64 1))) fun x23=>callK Tryz.prog σ n_match_may [x22,x23] H6 fun x24 H25=>bnd (unR .not x24) fun x26=>ifB x26 (K (.lit (.bool false)) H25) (match_mayCompound.J1 σ K y1 y8 y9 y10 H25)))) (K (.lit (.bool true)) H)):match_mayCompound.L0 σ K y1 y8 y9 y10 H :=
 fun js=>LoopP.round (CX σ [] known_nil) mixed (g:=1794) (Eq.mpr (by kernel_rfl) h)
theorem match_mayCompound.J1_step {K:AV→Hp→Prop} {y1 y8 y9 y10:AV} {H:Hp} (h:bnd (binR .add y10 (.lit (.int .i64 1))) fun x1=>match_mayCompound.L0 σ K y1 y8 y9 x1 H):match_mayCompound.J1 σ K y1 y8 y9 y10 H :=
 fun js=>Eq.mpr (by kernel_rfl) h
theorem match_mayCompound.run {a0 a1:AV} {H:Hp} {K:AV→Hp→Prop} (h:boxK a0 H fun x1 H2=>bnd (shiftA x1 4) fun x3=>bnd (ldA false 1 H2 x3) fun x4=>bnd (lenSl x4) fun x5=>match_mayCompound.L0 σ K a1 x4 x5 (.lit (.int .i64 0)) H2):∃ r H1,Good Tryz.prog σ n_match_mayCompound [a0,a1] H r H1∧K r H1 :=
 good_of_wp (CX σ [] known_nil) mixed 1794 (fn:=Tryz.f157) (f:=n_match_mayCompound) (c:=match_mayCompound.code) (fnT_ok 157 _ (by kernel_rfl)).1 (by kernel_rfl) (fnT_ok 157 _ (by kernel_rfl)).2 (Eq.mpr (by kernel_rfl) h)
noncomputable def match_asked_is.code:Code:=bodyOf Tryz.f158
theorem match_asked_is.run {a0 a1 a2 a3:AV} {H:Hp} {K:AV→Hp→Prop} (h:boxK a0 H fun x1 H2=>boxK a1 H2 fun x3 H4=>boxK a2 H4 fun x5 H6=>boxK a3 H6 fun x7 H8=>bnd (ldA false 1 H8 x1) fun x9=>bnd (ldA false 1 H8 x3) fun x10=>bnd (ldA false 1 H8 x5) fun x11=>bnd (ldA false 1 H8 x7) fun x12=>bnd (bldR [.lit (.int .i64 0),.lit (.int .i64 0),.lit (.int .i64 0),.lit (.bool false)] [(0,1,x10),(1,1,x11),(2,1,x12),(3,1,(.lit (.bool false)))]) fun l13=>callK Tryz.prog σ n_match_asked_once [x9,(.agg l13),(.fn n_match_asked_is_1 [x1,x7,x3,x5])] H8 fun x14 H15=>K x14 H15):∃ r H1,Good Tryz.prog σ n_match_asked_is [a0,a1,a2,a3] H r H1∧K r H1 :=
 good_of_wp (CX σ [] known_nil) mixed 0 (fn:=Tryz.f158) (f:=n_match_asked_is) (c:=match_asked_is.code) (fnT_ok 158 _ (by kernel_rfl)).1 (by kernel_rfl) (fnT_ok 158 _ (by kernel_rfl)).2 (Eq.mpr (by kernel_rfl) h)
noncomputable def weigh_sums_add.code:Code:=bodyOf Tryz.f159
noncomputable def weigh_sums_add.L0 (σ:Sig) (K:AV→Hp→Prop) (y0 y1 y4:AV) (H:Hp):Prop:=∀ js:Nat→AV,LoopP (CX σ [] known_nil) (lB (bB (sR weigh_sums_add.code))) [y0,y1,js 2,js 3,y4,js 5,js 6,js 7,js 8,js 9,js 10,js 11,js 12,js 13,js 14,js 15,js 16,js 17,js 18,js 19,js 20] H (fun e T1 H1=>(fnQ (CX σ [] known_nil).ti Tryz.f159.results.toList K) (unblock 0 e) T1 H1)
theorem weigh_sums_add.L0_step {K:AV→Hp→Prop} {y0 y1 y4:AV} {H:Hp} (h:bnd (binR .geq y4 (.lit (.int .i64 0))) fun x1=>ifB x1 (bnd (nilR y0) fun x2=>bnd (ixaArr 3 1 x2 y4) fun x3=>bnd (ldA false 1 H x3) fun x4=>bnd (binR .rem y1 (.lit (.int .i64 256))) fun x5=>bnd (binR .add x4 x5) fun x6=>bnd (nilR y0) fun x7=>bnd (ixaArr 3 1 x7 y4) fun x8=>bnd (stA 1 H x8 x6) fun H9=>bnd (binR .quo y1 (.lit (.int .i64 256))) fun x10=>bnd (binR .sub y4 (.lit (.int .i64 1))) fun x11=>weigh_sums_add.L0 σ K y0 x10 x11 H9) (K (.tup []) H)):weigh_sums_add.L0 σ K y0 y1 y4 H :=
 fun js=>LoopP.round (CX σ [] known_nil) mixed (g:=19) (Eq.mpr (by kernel_rfl) h)
theorem weigh_sums_add.run {a0 a1:AV} {H:Hp} {K:AV→Hp→Prop} (h:weigh_sums_add.L0 σ K a0 a1 (.lit (.int .i64 2)) H):∃ r H1,Good Tryz.prog σ n_weigh_sums_add [a0,a1] H r H1∧K r H1 :=
 good_of_wp (CX σ [] known_nil) mixed 19 (fn:=Tryz.f159) (f:=n_weigh_sums_add) (c:=weigh_sums_add.code) (fnT_ok 159 _ (by kernel_rfl)).1 (by kernel_rfl) (fnT_ok 159 _ (by kernel_rfl)).2 (Eq.mpr (by kernel_rfl) h)
noncomputable def weigh_capped_int.code:Code:=bodyOf Tryz.f160
theorem weigh_capped_int.run {a0 a1:AV} {H:Hp} {K:AV→Hp→Prop} (h:bnd (minA [a0,a1]) fun x1=>K x1 H):∃ r H1,Good Tryz.prog σ n_weigh_capped_int [a0,a1] H r H1∧K r H1 :=
 good_of_wp (CX σ [] known_nil) mixed 0 (fn:=Tryz.f160) (f:=n_weigh_capped_int) (c:=weigh_capped_int.code) (fnT_ok 160 _ (by kernel_rfl)).1 (by kernel_rfl) (fnT_ok 160 _ (by kernel_rfl)).2 (Eq.mpr (by kernel_rfl) h)
noncomputable def match_asked_once.code:Code:=bodyOf Tryz.f173
theorem match_asked_once.run {a0 a1 a2:AV} {H:Hp} {K:AV→Hp→Prop} (h:boxK a1 H fun x1 H2=>bnd (nilR a0) fun x3=>bnd (shiftA x3 2) fun x4=>bnd (ldA false 1 H2 x4) fun x5=>bnd (ldA true 4 H2 x1) fun x6=>bnd (lookR (.lit (.bool false)) true [.int .i64,.int .i64,.int .i64,.bool] true H2 x5 x6) fun x7=>bnd (exR x7 0) fun x8=>bnd (exR x7 1) fun x9=>ifB x9 (K x8 H2) (callV Tryz.prog σ a2 [] H2 fun x10 H11=>bnd (nilR a0) fun x12=>bnd (shiftA x12 2) fun x13=>bnd (ldA false 1 H11 x13) fun x14=>bnd (ldA true 4 H11 x1) fun x15=>bnd (putR true [.int .i64,.int .i64,.int .i64,.bool] H11 x14 x15 x10) fun H16=>K x10 H16)):∃ r H1,Good Tryz.prog σ n_match_asked_once [a0,a1,a2] H r H1∧K r H1 :=
 good_of_wp (CX σ [] known_nil) mixed 0 (fn:=Tryz.f173) (f:=n_match_asked_once) (c:=match_asked_once.code) (fnT_ok 173 _ (by kernel_rfl)).1 (by kernel_rfl) (fnT_ok 173 _ (by kernel_rfl)).2 (Eq.mpr (by kernel_rfl) h)
noncomputable def match_asked_is_1.code:Code:=bodyOf Tryz.f174
theorem match_asked_is_1.run {a0 a1 a2 a3:AV} {H:Hp} {K:AV→Hp→Prop} (h:bnd (ldA false 1 H a0) fun x1=>bnd (ldA false 1 H a1) fun x2=>bnd (ldA false 1 H a0) fun x3=>bnd (nilR x3) fun x4=>bnd (shiftA x4 1) fun x5=>bnd (ldA false 1 H x5) fun x6=>bnd (ldA false 1 H a2) fun x7=>bnd (ixaSl 1 x6 x7) fun x8=>bnd (ldA false 1 H x8) fun x9=>bnd (ldA false 1 H a3) fun x10=>bnd (ixaSl 7 x9 x10) fun x11=>bnd (ldA true 7 H x11) fun x12=>callK Tryz.prog σ n_match_asked_compound [x1,x2,x12] H fun x13 H14=>ifB x13 (bnd (ldA false 1 H14 a3) fun x15=>bnd (binR .eql x15 (.lit (.int .i64 0))) fun x16=>ifB x16 (K (.lit (.bool true)) H14) (bnd (ldA false 1 H14 a0) fun x17=>bnd (ldA false 1 H14 a2) fun x18=>bnd (ldA false 1 H14 a3) fun x19=>bnd (ldA false 1 H14 a1) fun x20=>callK Tryz.prog σ n_match_asked_ahead [x17,x18,x19,x20] H14 fun x21 H22=>K x21 H22)) (K (.lit (.bool false)) H14)):∃ r H1,Good Tryz.prog σ n_match_asked_is_1 [a0,a1,a2,a3] H r H1∧K r H1 :=
 good_of_wp (CX σ [] known_nil) mixed 0 (fn:=Tryz.f174) (f:=n_match_asked_is_1) (c:=match_asked_is_1.code) (fnT_ok 174 _ (by kernel_rfl)).1 (by kernel_rfl) (fnT_ok 174 _ (by kernel_rfl)).2 (Eq.mpr (by kernel_rfl) h)
noncomputable def match_asked_compound.code:Code:=bodyOf Tryz.f175
noncomputable def match_asked_compound.L0 (σ:Sig) (K:AV→Hp→Prop) (y0 y1 y5 y19 y20 y21:AV) (H:Hp):Prop:=∀ js:Nat→AV,LoopP (CX σ [] known_nil) (lB (bB (sR (sL (sR (sR match_asked_compound.code)))))) [y0,y1,js 2,js 3,js 4,y5,js 6,js 7,js 8,js 9,js 10,js 11,js 12,js 13,js 14,js 15,js 16,js 17,js 18,y19,y20,y21,js 22,js 23,js 24,js 25,js 26,js 27,js 28,js 29,js 30,js 31,js 32,js 33,js 34,js 35,js 36] H (fun e T1 H1=>(nx (fnQ (CX σ [] known_nil).ti Tryz.f175.results.toList K) fun T1 H1=>wp (CX σ [] known_nil) 3670051 (sR (sR (sR match_asked_compound.code))) T1 H1 (fnQ (CX σ [] known_nil).ti Tryz.f175.results.toList K)) (unblock 0 e) T1 H1)
theorem match_asked_compound.L0_step {K:AV→Hp→Prop} {y0 y1 y5 y19 y20 y21:AV} {H:Hp} (h:bnd (binR .lss y21 y20) fun x1=>ifB x1 (bnd (ixaSl 4 y19 y21) fun x2=>bnd (ldA true 4 H x2) fun x3=>allocK [.lit (.int .i64 0),.lit (.int .i64 0),.lit (.int .i64 0),.lit (.slice none 0 0)] H fun x4 H5=>bnd (stA 4 H5 x4 x3) fun H6=>bnd (ldA true 4 H6 x4) fun x7=>bnd (shiftA y5 6) fun x8=>bnd (ldA false 1 H6 x8) fun x9=>bnd (ixaSl 1 x9 y21) fun x10=>bnd (ldA false 1 H6 x10) fun x11=>callK Tryz.prog σ n_match_asked_pseudo [y0,y1,x7,x11] H6 fun x12 H13=>bnd (unR .not x12) fun x14=>ifB x14 (K (.lit (.bool false)) H13) (bnd (binR .add y21 (.lit (.int .i64 1))) fun x15=>match_asked_compound.L0 σ K y0 y1 y5 y19 y20 x15 H13)) (K (.lit (.bool true)) H)):match_asked_compound.L0 σ K y0 y1 y5 y19 y20 y21 H :=
 fun js=>LoopP.round (CX σ [] known_nil) mixed (g:=3670051) (Eq.mpr (by kernel_rfl) h)
theorem match_asked_compound.run {a0 a1 a2:AV} {H:Hp} {K:AV→Hp→Prop} (h:boxK a2 H fun x1 H2=>bnd (shiftA x1 0) fun x3=>bnd (shiftA x3 1) fun x4=>bnd (ldA true 5 H2 x4) fun x5=>callK Tryz.prog σ n_match_asked_plain [a0,a1,x5] H2 fun x6 H7=>bnd (unR .not x6) fun x8=>ifB x8 (K (.lit (.bool false)) H7) (bnd (shiftA x1 0) fun x9=>bnd (shiftA x9 1) fun x10=>bnd (shiftA x10 4) fun x11=>bnd (ldA false 1 H7 x11) fun x12=>bnd (lenSl x12) fun x13=>match_asked_compound.L0 σ K a0 a1 x1 x12 x13 (.lit (.int .i64 0)) H7)):∃ r H1,Good Tryz.prog σ n_match_asked_compound [a0,a1,a2] H r H1∧K r H1 :=
 good_of_wp (CX σ [] known_nil) mixed 3670051 (fn:=Tryz.f175) (f:=n_match_asked_compound) (c:=match_asked_compound.code) (fnT_ok 175 _ (by kernel_rfl)).1 (by kernel_rfl) (fnT_ok 175 _ (by kernel_rfl)).2 (Eq.mpr (by kernel_rfl) h)
noncomputable def match_asked_ahead.code:Code:=bodyOf Tryz.f176
theorem match_asked_ahead.run {a0 a1 a2 a3:AV} {H:Hp} {K:AV→Hp→Prop} (h:boxK a0 H fun x1 H2=>boxK a1 H2 fun x3 H4=>boxK a2 H4 fun x5 H6=>bnd (ldA false 1 H6 x1) fun x7=>bnd (ldA false 1 H6 x1) fun x8=>bnd (nilR x8) fun x9=>bnd (shiftA x9 1) fun x10=>bnd (ldA false 1 H6 x10) fun x11=>bnd (ldA false 1 H6 x3) fun x12=>bnd (ixaSl 1 x11 x12) fun x13=>bnd (ldA false 1 H6 x13) fun x14=>bnd (ldA false 1 H6 x5) fun x15=>bnd (ixaSl 7 x14 x15) fun x16=>bnd (shiftA x16 0) fun x17=>bnd (shiftA x17 0) fun x18=>bnd (ldA false 1 H6 x18) fun x19=>callK Tryz.prog σ n_match_asked_stands [x7,a3,x19] H6 fun x20 H21=>bnd (exR x20 0) fun x22=>bnd (exR x20 1) fun x23=>allocK [.lit (.int .i64 0)] H21 fun x24 H25=>allocK [.lit (.bool false)] H25 fun x26 H27=>bnd (stA 1 H27 x24 x22) fun H28=>bnd (stA 1 H28 x26 x23) fun H29=>bnd (ldA false 1 H29 x24) fun x30=>bnd (binR .geq x30 (.lit (.int .i64 0))) fun x31=>ifB x31 (bnd (ldA false 1 H29 x1) fun x32=>bnd (ldA false 1 H29 x3) fun x33=>bnd (ldA false 1 H29 x5) fun x34=>bnd (bldR [.lit (.int .i64 0),.lit (.int .i64 0),.lit (.int .i64 0),.lit (.bool false)] [(0,1,x33),(1,1,x34),(2,1,a3),(3,1,(.lit (.bool true)))]) fun l35=>callK Tryz.prog σ n_match_asked_once [x32,(.agg l35),(.fn n_match_asked_ahead_1 [x1,x3,x5,x24,x26])] H29 fun x36 H37=>K x36 H37) (K (.lit (.bool false)) H29)):∃ r H1,Good Tryz.prog σ n_match_asked_ahead [a0,a1,a2,a3] H r H1∧K r H1 :=
 good_of_wp (CX σ [] known_nil) mixed 0 (fn:=Tryz.f176) (f:=n_match_asked_ahead) (c:=match_asked_ahead.code) (fnT_ok 176 _ (by kernel_rfl)).1 (by kernel_rfl) (fnT_ok 176 _ (by kernel_rfl)).2 (Eq.mpr (by kernel_rfl) h)
noncomputable def match_asked_plain.code:Code:=bodyOf Tryz.f179
noncomputable def match_asked_plain.L0 (σ:Sig) (K:AV→Hp→Prop) (y5 y7 y31 y32 y33 y47 y48 y49 y60 y61 y62:AV) (H:Hp):Prop:=∀ js:Nat→AV,LoopP (CX σ [] known_nil) (lB (bB (sR (sL (sR (sR (sR match_asked_plain.code))))))) [js 0,js 1,js 2,js 3,js 4,y5,js 6,y7,js 8,js 9,js 10,js 11,js 12,js 13,js 14,js 15,js 16,js 17,js 18,js 19,js 20,js 21,js 22,js 23,js 24,js 25,js 26,js 27,js 28,js 29,js 30,y31,y32,y33,js 34,js 35,js 36,js 37,js 38,js 39,js 40,js 41,js 42,js 43,js 44,js 45,js 46,y47,y48,y49,js 50,js 51,js 52,js 53,js 54,js 55,js 56,js 57,js 58,js 59,y60,y61,y62,js 63,js 64,js 65,js 66,js 67,js 68,js 69,js 70] H (fun e T1 H1=>(nx (fnQ (CX σ [] known_nil).ti Tryz.f179.results.toList K) fun T1 H1=>wp (CX σ [] known_nil) 8071435709698801824 (sR (sR (sR (sR match_asked_plain.code)))) T1 H1 (fnQ (CX σ [] known_nil).ti Tryz.f179.results.toList K)) (unblock 0 e) T1 H1)
noncomputable def match_asked_plain.L1 (σ:Sig) (K:AV→Hp→Prop) (y5 y7 y31 y32 y33 y47 y48 y49 y60 y61 y62:AV) (H:Hp):Prop:=∀ js:Nat→AV,LoopP (CX σ [] known_nil) (lB (bB (sR (sL (sR (sR (sR (sR match_asked_plain.code)))))))) [js 0,js 1,js 2,js 3,js 4,y5,js 6,y7,js 8,js 9,js 10,js 11,js 12,js 13,js 14,js 15,js 16,js 17,js 18,js 19,js 20,js 21,js 22,js 23,js 24,js 25,js 26,js 27,js 28,js 29,js 30,y31,y32,y33,js 34,js 35,js 36,js 37,js 38,js 39,js 40,js 41,js 42,js 43,js 44,js 45,js 46,y47,y48,y49,js 50,js 51,js 52,js 53,js 54,js 55,js 56,js 57,js 58,js 59,y60,y61,y62,js 63,js 64,js 65,js 66,js 67,js 68,js 69,js 70] H (fun e T1 H1=>(nx (fnQ (CX σ [] known_nil).ti Tryz.f179.results.toList K) fun T1 H1=>wp (CX σ [] known_nil) 8071435709698801824 (sR (sR (sR (sR (sR match_asked_plain.code))))) T1 H1 (fnQ (CX σ [] known_nil).ti Tryz.f179.results.toList K)) (unblock 2 e) T1 H1)
noncomputable def match_asked_plain.L2 (σ:Sig) (K:AV→Hp→Prop) (y5 y7 y31 y32 y33 y47 y48 y49 y60 y61 y62:AV) (H:Hp):Prop:=∀ js:Nat→AV,LoopP (CX σ [] known_nil) (lB (bB (sR (sL (sR (sR (sR (sR (sR match_asked_plain.code))))))))) [js 0,js 1,js 2,js 3,js 4,y5,js 6,y7,js 8,js 9,js 10,js 11,js 12,js 13,js 14,js 15,js 16,js 17,js 18,js 19,js 20,js 21,js 22,js 23,js 24,js 25,js 26,js 27,js 28,js 29,js 30,y31,y32,y33,js 34,js 35,js 36,js 37,js 38,js 39,js 40,js 41,js 42,js 43,js 44,js 45,js 46,y47,y48,y49,js 50,js 51,js 52,js 53,js 54,js 55,js 56,js 57,js 58,js 59,y60,y61,y62,js 63,js 64,js 65,js 66,js 67,js 68,js 69,js 70] H (fun e T1 H1=>(nx (fnQ (CX σ [] known_nil).ti Tryz.f179.results.toList K) fun T1 H1=>wp (CX σ [] known_nil) 8071435709698801824 (sR (sR (sR (sR (sR (sR match_asked_plain.code)))))) T1 H1 (fnQ (CX σ [] known_nil).ti Tryz.f179.results.toList K)) (unblock 4 e) T1 H1)
theorem match_asked_plain.L0_step {K:AV→Hp→Prop} {y5 y7 y31 y32 y33 y47 y48 y49 y60 y61 y62:AV} {H:Hp} (h:bnd (binR .lss y33 y32) fun x1=>ifB x1 (bnd (ixaSl 1 y31 y33) fun x2=>bnd (ldA false 1 H x2) fun x3=>bnd (binR .eql x3 (.lit (.string ⟨#[]⟩))) fun x4=>ifB x4 (K (.lit (.bool false)) H) (bnd (shiftA y7 2) fun x5=>bnd (ldA false 1 H x5) fun x6=>bnd (binR .neq x3 x6) fun x7=>ifB x7 (K (.lit (.bool false)) H) (bnd (binR .add y33 (.lit (.int .i64 1))) fun x8=>match_asked_plain.L0 σ K y5 y7 y31 y32 x8 y47 y48 y49 y60 y61 y62 H))) (bnd (shiftA y5 2) fun x9=>bnd (ldA false 1 H x9) fun x10=>bnd (lenSl x10) fun x11=>match_asked_plain.L1 σ K y5 y7 y31 y32 y33 x10 x11 (.lit (.int .i64 0)) y60 y61 y62 H)):match_asked_plain.L0 σ K y5 y7 y31 y32 y33 y47 y48 y49 y60 y61 y62 H :=
 fun js=>LoopP.round (CX σ [] known_nil) mixed (g:=8071435709698801824) (Eq.mpr (by kernel_rfl) h)
theorem match_asked_plain.L1_step {K:AV→Hp→Prop} {y5 y7 y31 y32 y33 y47 y48 y49 y60 y61 y62:AV} {H:Hp} (h:bnd (binR .lss y49 y48) fun x1=>ifB x1 (bnd (ixaSl 1 y47 y49) fun x2=>bnd (ldA false 1 H x2) fun x3=>bnd (shiftA y7 3) fun x4=>bnd (ldA false 1 H x4) fun x5=>callK Tryz.prog σ n_match_has [x5,x3] H fun x6 H7=>bnd (unR .not x6) fun x8=>ifB x8 (K (.lit (.bool false)) H7) (bnd (binR .add y49 (.lit (.int .i64 1))) fun x9=>match_asked_plain.L1 σ K y5 y7 y31 y32 y33 y47 y48 x9 y60 y61 y62 H7)) (bnd (shiftA y5 3) fun x10=>bnd (ldA false 1 H x10) fun x11=>bnd (lenSl x11) fun x12=>match_asked_plain.L2 σ K y5 y7 y31 y32 y33 y47 y48 y49 x11 x12 (.lit (.int .i64 0)) H)):match_asked_plain.L1 σ K y5 y7 y31 y32 y33 y47 y48 y49 y60 y61 y62 H :=
 fun js=>LoopP.round (CX σ [] known_nil) mixed (g:=8071435709698801824) (Eq.mpr (by kernel_rfl) h)
theorem match_asked_plain.L2_step {K:AV→Hp→Prop} {y5 y7 y31 y32 y33 y47 y48 y49 y60 y61 y62:AV} {H:Hp} (h:bnd (binR .lss y62 y61) fun x1=>ifB x1 (bnd (ixaSl 3 y60 y62) fun x2=>bnd (ldA true 3 H x2) fun x3=>allocK [.lit (.string ⟨#[]⟩),.lit (.int .i64 0),.lit (.string ⟨#[]⟩)] H fun x4 H5=>bnd (stA 3 H5 x4 x3) fun H6=>bnd (ldA true 5 H6 y7) fun x7=>bnd (ldA true 3 H6 x4) fun x8=>callK Tryz.prog σ n_match_attr [x7,x8] H6 fun x9 H10=>bnd (unR .not x9) fun x11=>ifB x11 (K (.lit (.bool false)) H10) (bnd (binR .add y62 (.lit (.int .i64 1))) fun x12=>match_asked_plain.L2 σ K y5 y7 y31 y32 y33 y47 y48 y49 y60 y61 x12 H10)) (K (.lit (.bool true)) H)):match_asked_plain.L2 σ K y5 y7 y31 y32 y33 y47 y48 y49 y60 y61 y62 H :=
 fun js=>LoopP.round (CX σ [] known_nil) mixed (g:=8071435709698801824) (Eq.mpr (by kernel_rfl) h)
theorem match_asked_plain.run {a0 a1 a2:AV} {H:Hp} {K:AV→Hp→Prop} (h:boxK a2 H fun x1 H2=>bnd (nilR a0) fun x3=>bnd (shiftA x3 0) fun x4=>bnd (ldA false 1 H2 x4) fun x5=>callK Tryz.prog σ n_dom_Tree_View [x5,a1] H2 fun x6 H7=>allocK [.lit (.int .i64 0),.lit (.string ⟨#[]⟩),.lit (.string ⟨#[]⟩),.lit (.slice none 0 0),.lit (.slice none 0 0)] H7 fun x8 H9=>bnd (stA 5 H9 x8 x6) fun H10=>bnd (shiftA x1 0) fun x11=>bnd (ldA false 1 H10 x11) fun x12=>bnd (binR .neq x12 (.lit (.string ⟨#[]⟩))) fun x13=>ifB x13 (bnd (shiftA x1 0) fun x14=>bnd (ldA false 1 H10 x14) fun x15=>bnd (shiftA x8 1) fun x16=>bnd (ldA false 1 H10 x16) fun x17=>bnd (binR .neq x15 x17) fun x18=>ifB x18 (K (.lit (.bool false)) H10) (bnd (shiftA x1 1) fun x19=>bnd (ldA false 1 H10 x19) fun x20=>bnd (lenSl x20) fun x21=>match_asked_plain.L0 σ K x1 x8 x20 x21 (.lit (.int .i64 0)) (.lit undef) (.lit undef) (.lit undef) (.lit undef) (.lit undef) (.lit undef) H10)) (bnd (shiftA x1 1) fun x22=>bnd (ldA false 1 H10 x22) fun x23=>bnd (lenSl x23) fun x24=>match_asked_plain.L0 σ K x1 x8 x23 x24 (.lit (.int .i64 0)) (.lit undef) (.lit undef) (.lit undef) (.lit undef) (.lit undef) (.lit undef) H10)):∃ r H1,Good Tryz.prog σ n_match_asked_plain [a0,a1,a2] H r H1∧K r H1 :=
 good_of_wp (CX σ [] known_nil) mixed 8071435709698801824 (fn:=Tryz.f179) (f:=n_match_asked_plain) (c:=match_asked_plain.code) (fnT_ok 179 _ (by kernel_rfl)).1 (by kernel_rfl) (fnT_ok 179 _ (by kernel_rfl)).2 (Eq.mpr (by kernel_rfl) h)
noncomputable def match_asked_pseudo.code:Code:=bodyOf Tryz.f180
theorem match_asked_pseudo.run {a0 a1 a2 a3:AV} {H:Hp} {K:AV→Hp→Prop} (h:boxK a2 H fun x1 H2=>bnd (shiftA x1 0) fun x3=>bnd (ldA false 1 H2 x3) fun x4=>bnd (binR .eql x4 (.lit (.int .i64 1))) fun x5=>ifB x5 (bnd (nilR a0) fun x6=>bnd (shiftA x6 0) fun x7=>bnd (ldA false 1 H2 x7) fun x8=>callK Tryz.prog σ n_dom_Tree_Parent [x8,a1] H2 fun x9 H10=>bnd (binR .lss x9 (.lit (.int .i64 0))) fun x11=>K x11 H10) (bnd (binR .eql x4 (.lit (.int .i64 2))) fun x12=>ifB x12 (bnd (nilR a0) fun x13=>bnd (shiftA x13 0) fun x14=>bnd (ldA false 1 H2 x14) fun x15=>callK Tryz.prog σ n_dom_Tree_Place [x15,a1] H2 fun x16 H17=>bnd (binR .eql x16 (.lit (.int .i64 1))) fun x18=>K x18 H17) (bnd (binR .eql x4 (.lit (.int .i64 3))) fun x19=>ifB x19 (callK Tryz.prog σ n_match_asked_last [a0,a1] H2 fun x20 H21=>K x20 H21) (bnd (binR .eql x4 (.lit (.int .i64 4))) fun x22=>ifB x22 (bnd (nilR a0) fun x23=>bnd (shiftA x23 0) fun x24=>bnd (ldA false 1 H2 x24) fun x25=>callK Tryz.prog σ n_dom_Tree_Place [x25,a1] H2 fun x26 H27=>bnd (binR .eql x26 (.lit (.int .i64 1))) fun x28=>ifB x28 (callK Tryz.prog σ n_match_asked_last [a0,a1] H27 fun x29 H30=>K x29 H30) (K (.lit (.bool false)) H27)) (bnd (binR .eql x4 (.lit (.int .i64 5))) fun x31=>ifB x31 (bnd (nilR a0) fun x32=>bnd (shiftA x32 0) fun x33=>bnd (ldA false 1 H2 x33) fun x34=>callK Tryz.prog σ n_dom_Tree_Child [x34,a1,(.lit (.int .i64 0))] H2 fun x35 H36=>bnd (binR .lss x35 (.lit (.int .i64 0))) fun x37=>K x37 H36) (bnd (binR .eql x4 (.lit (.int .i64 6))) fun x38=>ifB x38 (bnd (nilR a0) fun x39=>bnd (shiftA x39 0) fun x40=>bnd (ldA false 1 H2 x40) fun x41=>callK Tryz.prog σ n_dom_Tree_Place [x41,a1] H2 fun x42 H43=>bnd (shiftA x1 1) fun x44=>kpK (x44,some 1) H2 H43 (bnd (ldA false 1 H43 x44) fun x45=>bnd (shiftA x1 2) fun x46=>kpK (x46,some 1) H2 H43 (bnd (ldA false 1 H43 x46) fun x47=>callK Tryz.prog σ n_match_nth [x42,x45,x47] H43 fun x48 H49=>K x48 H49))) (bnd (binR .eql x4 (.lit (.int .i64 7))) fun x50=>ifB x50 (callK Tryz.prog σ n_match_asked_any [a0,a1,a3] H2 fun x51 H52=>bnd (unR .not x51) fun x53=>K x53 H52) (bnd (binR .eql x4 (.lit (.int .i64 8))) fun x54=>ifB x54 (callK Tryz.prog σ n_match_asked_any [a0,a1,a3] H2 fun x55 H56=>K x55 H56) (K (.lit (.bool false)) H2))))))))):∃ r H1,Good Tryz.prog σ n_match_asked_pseudo [a0,a1,a2,a3] H r H1∧K r H1 :=
 good_of_wp (CX σ [] known_nil) mixed 0 (fn:=Tryz.f180) (f:=n_match_asked_pseudo) (c:=match_asked_pseudo.code) (fnT_ok 180 _ (by kernel_rfl)).1 (by kernel_rfl) (fnT_ok 180 _ (by kernel_rfl)).2 (Eq.mpr (by kernel_rfl) h)
noncomputable def match_asked_stands.code:Code:=bodyOf Tryz.f181
noncomputable def match_asked_stands.J0 (σ:Sig) (K:AV→Hp→Prop) (y0 y1 y2 y8 y9 y20:AV) (H:Hp):Prop:=∀ js:Nat→AV,wp (CX σ [] known_nil) 1049351 (sR (bB (sR (sL (sR match_asked_stands.code))))) [y0,y1,y2,js 3,js 4,js 5,js 6,js 7,y8,y9,js 10,js 11,js 12,js 13,js 14,js 15,js 16,js 17,js 18,js 19,y20,js 21,js 22,js 23,js 24,js 25,js 26,js 27,js 28,js 29,js 30] H (fun e T1 H1=>(nx (fnQ (CX σ [] known_nil).ti Tryz.f181.results.toList K) fun T1 H1=>wp (CX σ [] known_nil) 1049351 (sR (sR match_asked_stands.code)) T1 H1 (fnQ (CX σ [] known_nil).ti Tryz.f181.results.toList K)) (unblock 0 e) T1 H1)
noncomputable def match_asked_stands.J1 (σ:Sig) (K:AV→Hp→Prop) (y0 y1 y2 y8 y9 y20:AV) (H:Hp):Prop:=∀ js:Nat→AV,wp (CX σ [] known_nil) 1049351 (sR (cE (sR (bB (sR (sL (sR match_asked_stands.code))))))) [y0,y1,y2,js 3,js 4,js 5,js 6,js 7,y8,y9,js 10,js 11,js 12,js 13,js 14,js 15,js 16,js 17,js 18,js 19,y20,js 21,js 22,js 23,js 24,js 25,js 26,js 27,js 28,js 29,js 30] H (fun e T1 H1=>(nx (fnQ (CX σ [] known_nil).ti Tryz.f181.results.toList K) fun T1 H1=>wp (CX σ [] known_nil) 1049351 (sR (sR match_asked_stands.code)) T1 H1 (fnQ (CX σ [] known_nil).ti Tryz.f181.results.toList K)) (unblock 0 e) T1 H1)
theorem match_asked_stands.J0_step {K:AV→Hp→Prop} {y0 y1 y2 y8 y9 y20:AV} {H:Hp} (h:ifB y9 (bnd (nilR y0) fun x1=>bnd (shiftA x1 0) fun x2=>bnd (ldA false 1 H x2) fun x3=>callK Tryz.prog σ n_dom_Tree_Parent [x3,y1] H fun x4 H5=>bnd (binR .eql y2 (.lit (.int .i64 1))) fun x6=>K (.tup [x4,x6]) H5) (bnd (binR .eql y8 (.lit (.int .i64 3))) fun x7=>ifB x7 (match_asked_stands.J1 σ K y0 y1 y2 y8 y9 x7 H) (bnd (binR .eql y8 (.lit (.int .i64 4))) fun x8=>match_asked_stands.J1 σ K y0 y1 y2 y8 y9 x8 H))):match_asked_stands.J0 σ K y0 y1 y2 y8 y9 y20 H :=
 fun js=>Eq.mpr (by kernel_rfl) h
theorem match_asked_stands.J1_step {K:AV→Hp→Prop} {y0 y1 y2 y8 y9 y20:AV} {H:Hp} (h:ifB y20 (bnd (nilR y0) fun x1=>bnd (shiftA x1 0) fun x2=>bnd (ldA false 1 H x2) fun x3=>callK Tryz.prog σ n_dom_Tree_Before [x3,y1] H fun x4 H5=>bnd (binR .eql y2 (.lit (.int .i64 4))) fun x6=>K (.tup [x4,x6]) H5) (K (.tup [(.lit (.int .i64 (-1))),(.lit (.bool false))]) H)):match_asked_stands.J1 σ K y0 y1 y2 y8 y9 y20 H :=
 fun js=>Eq.mpr (by kernel_rfl) h
theorem match_asked_stands.run {a0 a1 a2:AV} {H:Hp} {K:AV→Hp→Prop} (h:bnd (binR .eql a2 (.lit (.int .i64 1))) fun x1=>ifB x1 (match_asked_stands.J0 σ K a0 a1 a2 a2 x1 (.lit undef) H) (bnd (binR .eql a2 (.lit (.int .i64 2))) fun x2=>match_asked_stands.J0 σ K a0 a1 a2 a2 x2 (.lit undef) H)):∃ r H1,Good Tryz.prog σ n_match_asked_stands [a0,a1,a2] H r H1∧K r H1 :=
 good_of_wp (CX σ [] known_nil) mixed 1049351 (fn:=Tryz.f181) (f:=n_match_asked_stands) (c:=match_asked_stands.code) (fnT_ok 181 _ (by kernel_rfl)).1 (by kernel_rfl) (fnT_ok 181 _ (by kernel_rfl)).2 (Eq.mpr (by kernel_rfl) h)
noncomputable def match_asked_ahead_1.code:Code:=bodyOf Tryz.f182
theorem match_asked_ahead_1.run {a0 a1 a2 a3 a4:AV} {H:Hp} {K:AV→Hp→Prop} (h:bnd (ldA false 1 H a0) fun x1=>bnd (ldA false 1 H a1) fun x2=>bnd (ldA false 1 H a2) fun x3=>bnd (binR .sub x3 (.lit (.int .i64 1))) fun x4=>bnd (ldA false 1 H a3) fun x5=>callK Tryz.prog σ n_match_asked_is [x1,x2,x4,x5] H fun x6 H7=>ifB x6 (K (.lit (.bool true)) H7) (bnd (ldA false 1 H7 a4) fun x8=>ifB x8 (bnd (ldA false 1 H7 a0) fun x9=>bnd (ldA false 1 H7 a1) fun x10=>bnd (ldA false 1 H7 a2) fun x11=>bnd (ldA false 1 H7 a3) fun x12=>callK Tryz.prog σ n_match_asked_ahead [x9,x10,x11,x12] H7 fun x13 H14=>K x13 H14) (K (.lit (.bool false)) H7))):∃ r H1,Good Tryz.prog σ n_match_asked_ahead_1 [a0,a1,a2,a3,a4] H r H1∧K r H1 :=
 good_of_wp (CX σ [] known_nil) mixed 0 (fn:=Tryz.f182) (f:=n_match_asked_ahead_1) (c:=match_asked_ahead_1.code) (fnT_ok 182 _ (by kernel_rfl)).1 (by kernel_rfl) (fnT_ok 182 _ (by kernel_rfl)).2 (Eq.mpr (by kernel_rfl) h)
noncomputable def dom_Tree_View.code:Code:=bodyOf Tryz.f183
theorem dom_Tree_View.run {a0 a1:AV} {H:Hp} {K:AV→Hp→Prop} (h:allocK [.lit (.int .i64 0),.lit (.string ⟨#[]⟩),.lit (.string ⟨#[]⟩),.lit (.slice none 0 0),.lit (.slice none 0 0)] H fun x1 H2=>callK Tryz.prog σ n_dom_Tree_at [a0,a1] H2 fun x3 H4=>bnd (partR true 0 5 x3) fun x5=>bnd (stA 5 H4 x1 x5) fun H6=>bnd (ldA true 5 H6 x1) fun r7=>K r7 H6):∃ r H1,Good Tryz.prog σ n_dom_Tree_View [a0,a1] H r H1∧K r H1 :=
 good_of_wp (CX σ [] known_nil) mixed 0 (fn:=Tryz.f183) (f:=n_dom_Tree_View) (c:=dom_Tree_View.code) (fnT_ok 183 _ (by kernel_rfl)).1 (by kernel_rfl) (fnT_ok 183 _ (by kernel_rfl)).2 (Eq.mpr (by kernel_rfl) h)
noncomputable def match_has.code:Code:=bodyOf Tryz.f184
noncomputable def match_has.L0 (σ:Sig) (K:AV→Hp→Prop) (y1 y7 y8 y9:AV) (H:Hp):Prop:=∀ js:Nat→AV,LoopP (CX σ [] known_nil) (lB (bB (sR (sL (sR match_has.code))))) [js 0,y1,js 2,js 3,js 4,js 5,js 6,y7,y8,y9,js 10,js 11,js 12,js 13,js 14,js 15,js 16] H (fun e T1 H1=>(nx (fnQ (CX σ [] known_nil).ti Tryz.f184.results.toList K) fun T1 H1=>wp (CX σ [] known_nil) 898 (sR (sR match_has.code)) T1 H1 (fnQ (CX σ [] known_nil).ti Tryz.f184.results.toList K)) (unblock 0 e) T1 H1)
theorem match_has.L0_step {K:AV→Hp→Prop} {y1 y7 y8 y9:AV} {H:Hp} (h:bnd (binR .lss y9 y8) fun x1=>ifB x1 (bnd (ixaSl 1 y7 y9) fun x2=>bnd (ldA false 1 H x2) fun x3=>bnd (binR .eql x3 y1) fun x4=>ifB x4 (K (.lit (.bool true)) H) (bnd (binR .add y9 (.lit (.int .i64 1))) fun x5=>match_has.L0 σ K y1 y7 y8 x5 H)) (K (.lit (.bool false)) H)):match_has.L0 σ K y1 y7 y8 y9 H :=
 fun js=>LoopP.round (CX σ [] known_nil) mixed (g:=898) (Eq.mpr (by kernel_rfl) h)
theorem match_has.run {a0 a1:AV} {H:Hp} {K:AV→Hp→Prop} (h:bnd (lenSl a0) fun x1=>match_has.L0 σ K a1 a0 x1 (.lit (.int .i64 0)) H):∃ r H1,Good Tryz.prog σ n_match_has [a0,a1] H r H1∧K r H1 :=
 good_of_wp (CX σ [] known_nil) mixed 898 (fn:=Tryz.f184) (f:=n_match_has) (c:=match_has.code) (fnT_ok 184 _ (by kernel_rfl)).1 (by kernel_rfl) (fnT_ok 184 _ (by kernel_rfl)).2 (Eq.mpr (by kernel_rfl) h)
noncomputable def match_attr.code:Code:=bodyOf Tryz.f185
noncomputable def match_attr.L0 (σ:Sig) (K:AV→Hp→Prop) (y3 y8 y9 y10:AV) (H:Hp):Prop:=∀ js:Nat→AV,LoopP (CX σ [] known_nil) (lB (bB (sR (sL (sR match_attr.code))))) [js 0,js 1,js 2,y3,js 4,js 5,js 6,js 7,y8,y9,y10,js 11,js 12,js 13,js 14,js 15,js 16,js 17,js 18,js 19,js 20,js 21,js 22,js 23] H (fun e T1 H1=>(nx (fnQ (CX σ [] known_nil).ti Tryz.f185.results.toList K) fun T1 H1=>wp (CX σ [] known_nil) 1800 (sR (sR match_attr.code)) T1 H1 (fnQ (CX σ [] known_nil).ti Tryz.f185.results.toList K)) (unblock 0 e) T1 H1)
theorem match_attr.L0_step {K:AV→Hp→Prop} {y3 y8 y9 y10:AV} {H:Hp} (h:bnd (binR .lss y10 y9) fun x1=>ifB x1 (bnd (ixaSl 2 y8 y10) fun x2=>bnd (ldA true 2 H x2) fun x3=>allocK [.lit (.string ⟨#[]⟩),.lit (.string ⟨#[]⟩)] H fun x4 H5=>bnd (stA 2 H5 x4 x3) fun H6=>bnd (shiftA x4 0) fun x7=>bnd (ldA false 1 H6 x7) fun x8=>bnd (shiftA y3 0) fun x9=>bnd (ldA false 1 H6 x9) fun x10=>bnd (binR .eql x8 x10) fun x11=>ifB x11 (bnd (shiftA x4 1) fun x12=>bnd (ldA false 1 H6 x12) fun x13=>bnd (ldA true 3 H6 y3) fun x14=>callK Tryz.prog σ n_match_so [x13,x14] H6 fun x15 H16=>K x15 H16) (bnd (binR .add y10 (.lit (.int .i64 1))) fun x17=>match_attr.L0 σ K y3 y8 y9 x17 H6)) (K (.lit (.bool false)) H)):match_attr.L0 σ K y3 y8 y9 y10 H :=
 fun js=>LoopP.round (CX σ [] known_nil) mixed (g:=1800) (Eq.mpr (by kernel_rfl) h)
theorem match_attr.run {a0 a1:AV} {H:Hp} {K:AV→Hp→Prop} (h:boxK a0 H fun x1 H2=>boxK a1 H2 fun x3 H4=>bnd (shiftA x1 4) fun x5=>bnd (ldA false 1 H4 x5) fun x6=>bnd (lenSl x6) fun x7=>match_attr.L0 σ K x3 x6 x7 (.lit (.int .i64 0)) H4):∃ r H1,Good Tryz.prog σ n_match_attr [a0,a1] H r H1∧K r H1 :=
 good_of_wp (CX σ [] known_nil) mixed 1800 (fn:=Tryz.f185) (f:=n_match_attr) (c:=match_attr.code) (fnT_ok 185 _ (by kernel_rfl)).1 (by kernel_rfl) (fnT_ok 185 _ (by kernel_rfl)).2 (Eq.mpr (by kernel_rfl) h)
noncomputable def dom_Tree_Parent.code:Code:=bodyOf Tryz.f186
theorem dom_Tree_Parent.run {a0 a1:AV} {H:Hp} {K:AV→Hp→Prop} (h:bnd (binR .lss a1 (.lit (.int .i64 0))) fun x1=>ifB x1 (K (.lit (.int .i64 (-1))) H) (bnd (nilR a0) fun x2=>bnd (shiftA x2 0) fun x3=>bnd (ldA false 1 H x3) fun x4=>bnd (lenSl x4) fun x5=>bnd (binR .geq a1 x5) fun x6=>ifB x6 (K (.lit (.int .i64 (-1))) H) (bnd (nilR a0) fun x7=>bnd (shiftA x7 0) fun x8=>bnd (ldA false 1 H x8) fun x9=>bnd (ixaSl 9 x9 a1) fun x10=>bnd (shiftA x10 0) fun x11=>bnd (shiftA x11 0) fun x12=>bnd (ldA false 1 H x12) fun x13=>K x13 H))):∃ r H1,Good Tryz.prog σ n_dom_Tree_Parent [a0,a1] H r H1∧K r H1 :=
 good_of_wp (CX σ [] known_nil) mixed 0 (fn:=Tryz.f186) (f:=n_dom_Tree_Parent) (c:=dom_Tree_Parent.code) (fnT_ok 186 _ (by kernel_rfl)).1 (by kernel_rfl) (fnT_ok 186 _ (by kernel_rfl)).2 (Eq.mpr (by kernel_rfl) h)
noncomputable def dom_Tree_Place.code:Code:=bodyOf Tryz.f187
theorem dom_Tree_Place.run {a0 a1:AV} {H:Hp} {K:AV→Hp→Prop} (h:callK Tryz.prog σ n_dom_Tree_at [a0,a1] H fun x1 H2=>bnd (partR false 7 1 x1) fun x3=>K x3 H2):∃ r H1,Good Tryz.prog σ n_dom_Tree_Place [a0,a1] H r H1∧K r H1 :=
 good_of_wp (CX σ [] known_nil) mixed 0 (fn:=Tryz.f187) (f:=n_dom_Tree_Place) (c:=dom_Tree_Place.code) (fnT_ok 187 _ (by kernel_rfl)).1 (by kernel_rfl) (fnT_ok 187 _ (by kernel_rfl)).2 (Eq.mpr (by kernel_rfl) h)
noncomputable def match_asked_last.code:Code:=bodyOf Tryz.f188
theorem match_asked_last.run {a0 a1:AV} {H:Hp} {K:AV→Hp→Prop} (h:bnd (nilR a0) fun x1=>bnd (shiftA x1 0) fun x2=>bnd (ldA false 1 H x2) fun x3=>callK Tryz.prog σ n_dom_Tree_Parent [x3,a1] H fun x4 H5=>bnd (binR .lss x4 (.lit (.int .i64 0))) fun x6=>ifB x6 (K (.lit (.bool true)) H5) (bnd (nilR a0) fun x7=>bnd (shiftA x7 0) fun x8=>bnd (ldA false 1 H5 x8) fun x9=>bnd (nilR a0) fun x10=>bnd (shiftA x10 0) fun x11=>bnd (ldA false 1 H5 x11) fun x12=>callK Tryz.prog σ n_dom_Tree_Place [x12,a1] H5 fun x13 H14=>kpK (x8,some 1) H5 H14 (callK Tryz.prog σ n_dom_Tree_Child [x9,x4,x13] H14 fun x15 H16=>bnd (binR .lss x15 (.lit (.int .i64 0))) fun x17=>K x17 H16))):∃ r H1,Good Tryz.prog σ n_match_asked_last [a0,a1] H r H1∧K r H1 :=
 good_of_wp (CX σ [] known_nil) mixed 0 (fn:=Tryz.f188) (f:=n_match_asked_last) (c:=match_asked_last.code) (fnT_ok 188 _ (by kernel_rfl)).1 (by kernel_rfl) (fnT_ok 188 _ (by kernel_rfl)).2 (Eq.mpr (by kernel_rfl) h)
noncomputable def dom_Tree_Child.code:Code:=bodyOf Tryz.f189
theorem dom_Tree_Child.run {a0 a1 a2:AV} {H:Hp} {K:AV→Hp→Prop} (h:callK Tryz.prog σ n_dom_Tree_at [a0,a1] H fun x1 H2=>bnd (partR false 5 1 x1) fun x3=>bnd (lenSl x3) fun x4=>bnd (binR .lss a2 x4) fun x5=>ifB x5 (bnd (ixaSl 1 x3 a2) fun x6=>bnd (ldA false 1 H2 x6) fun x7=>K x7 H2) (K (.lit (.int .i64 (-1))) H2)):∃ r H1,Good Tryz.prog σ n_dom_Tree_Child [a0,a1,a2] H r H1∧K r H1 :=
 good_of_wp (CX σ [] known_nil) mixed 0 (fn:=Tryz.f189) (f:=n_dom_Tree_Child) (c:=dom_Tree_Child.code) (fnT_ok 189 _ (by kernel_rfl)).1 (by kernel_rfl) (fnT_ok 189 _ (by kernel_rfl)).2 (Eq.mpr (by kernel_rfl) h)
noncomputable def match_nth.code:Code:=bodyOf Tryz.f190
theorem match_nth.run {a0 a1 a2:AV} {H:Hp} {K:AV→Hp→Prop} (h:bnd (binR .eql a1 (.lit (.int .i64 0))) fun x1=>ifB x1 (bnd (binR .eql a0 a2) fun x2=>K x2 H) (bnd (binR .gtr a1 (.lit (.int .i64 0))) fun x3=>ifB x3 (bnd (binR .leq a2 a0) fun x4=>ifB x4 (bnd (cvInt .u64 a0) fun x5=>bnd (cvInt .u64 a2) fun x6=>bnd (binR .sub x5 x6) fun x7=>bnd (cvInt .u64 a1) fun x8=>bnd (binR .rem x7 x8) fun x9=>bnd (binR .eql x9 (.lit (.int .u64 0))) fun x10=>K x10 H) (K (.lit (.bool false)) H)) (bnd (binR .geq a2 a0) fun x11=>ifB x11 (bnd (cvInt .u64 a2) fun x12=>bnd (cvInt .u64 a0) fun x13=>bnd (binR .sub x12 x13) fun x14=>bnd (cvInt .u64 a1) fun x15=>bnd (unR .neg x15) fun x16=>bnd (binR .rem x14 x16) fun x17=>bnd (binR .eql x17 (.lit (.int .u64 0))) fun x18=>K x18 H) (K (.lit (.bool false)) H)))):∃ r H1,Good Tryz.prog σ n_match_nth [a0,a1,a2] H r H1∧K r H1 :=
 good_of_wp (CX σ [] known_nil) mixed 0 (fn:=Tryz.f190) (f:=n_match_nth) (c:=match_nth.code) (fnT_ok 190 _ (by kernel_rfl)).1 (by kernel_rfl) (fnT_ok 190 _ (by kernel_rfl)).2 (Eq.mpr (by kernel_rfl) h)
noncomputable def dom_Tree_Before.code:Code:=bodyOf Tryz.f191
theorem dom_Tree_Before.run {a0 a1:AV} {H:Hp} {K:AV→Hp→Prop} (h:callK Tryz.prog σ n_dom_Tree_at [a0,a1] H fun x1 H2=>bnd (partR false 8 1 x1) fun x3=>K x3 H2):∃ r H1,Good Tryz.prog σ n_dom_Tree_Before [a0,a1] H r H1∧K r H1 :=
 good_of_wp (CX σ [] known_nil) mixed 0 (fn:=Tryz.f191) (f:=n_dom_Tree_Before) (c:=dom_Tree_Before.code) (fnT_ok 191 _ (by kernel_rfl)).1 (by kernel_rfl) (fnT_ok 191 _ (by kernel_rfl)).2 (Eq.mpr (by kernel_rfl) h)
noncomputable def match_so.code:Code:=bodyOf Tryz.f192
theorem match_so.run {a0 a1:AV} {H:Hp} {K:AV→Hp→Prop} (h:boxK a1 H fun x1 H2=>bnd (shiftA x1 2) fun x3=>bnd (ldA false 1 H2 x3) fun x4=>bnd (binR .neq x4 (.lit (.string ⟨#[]⟩))) fun x5=>bnd (shiftA x1 1) fun x6=>bnd (ldA false 1 H2 x6) fun x7=>bnd (binR .eql x7 (.lit (.int .i64 0))) fun x8=>ifB x8 (K (.lit (.bool true)) H2) (bnd (binR .eql x7 (.lit (.int .i64 1))) fun x9=>ifB x9 (bnd (shiftA x1 2) fun x10=>bnd (ldA false 1 H2 x10) fun x11=>bnd (binR .eql a0 x11) fun x12=>K x12 H2) (bnd (binR .eql x7 (.lit (.int .i64 2))) fun x13=>ifB x13 (ifB x5 (bnd (shiftA x1 2) fun x14=>bnd (ldA false 1 H2 x14) fun x15=>callK Tryz.prog σ n_match_word [a0,x15] H2 fun x16 H17=>K x16 H17) (K (.lit (.bool false)) H2)) (bnd (binR .eql x7 (.lit (.int .i64 3))) fun x18=>ifB x18 (bnd (shiftA x1 2) fun x19=>bnd (ldA false 1 H2 x19) fun x20=>bnd (binR .eql a0 x20) fun x21=>ifB x21 (K (.lit (.bool true)) H2) (bnd (shiftA x1 2) fun x22=>bnd (ldA false 1 H2 x22) fun x23=>bnd (binR .add x23 (.lit (.string ⟨#[45]⟩))) fun x24=>callK Tryz.prog σ n_strings_HasPrefix [a0,x24] H2 fun x25 H26=>K x25 H26)) (bnd (binR .eql x7 (.lit (.int .i64 4))) fun x27=>ifB x27 (ifB x5 (bnd (shiftA x1 2) fun x28=>bnd (ldA false 1 H2 x28) fun x29=>callK Tryz.prog σ n_strings_HasPrefix [a0,x29] H2 fun x30 H31=>K x30 H31) (K (.lit (.bool false)) H2)) (bnd (binR .eql x7 (.lit (.int .i64 5))) fun x32=>ifB x32 (ifB x5 (bnd (shiftA x1 2) fun x33=>bnd (ldA false 1 H2 x33) fun x34=>callK Tryz.prog σ n_strings_HasSuffix [a0,x34] H2 fun x35 H36=>K x35 H36) (K (.lit (.bool false)) H2)) (bnd (binR .eql x7 (.lit (.int .i64 6))) fun x37=>ifB x37 (ifB x5 (bnd (shiftA x1 2) fun x38=>bnd (ldA false 1 H2 x38) fun x39=>callK Tryz.prog σ n_strings_Contains [a0,x39] H2 fun x40 H41=>K x40 H41) (K (.lit (.bool false)) H2)) (K (.lit (.bool false)) H2)))))))):∃ r H1,Good Tryz.prog σ n_match_so [a0,a1] H r H1∧K r H1 :=
 good_of_wp (CX σ [] known_nil) mixed 0 (fn:=Tryz.f192) (f:=n_match_so) (c:=match_so.code) (fnT_ok 192 _ (by kernel_rfl)).1 (by kernel_rfl) (fnT_ok 192 _ (by kernel_rfl)).2 (Eq.mpr (by kernel_rfl) h)
noncomputable def match_word.code:Code:=bodyOf Tryz.f193
noncomputable def match_word.R0 (js:Nat→AV) (y3 y4:AV):LRec:=⟨[js 0,js 1,js 2,y3,y4,js 5,js 6,js 7,js 8,js 9,js 10,js 11],rP (bB (sR (sL (sR match_word.code)))),rA (bB (sR (sL (sR match_word.code)))),rB (bB (sR (sL (sR match_word.code))))⟩
theorem match_word.R0_round {K:AV→Hp→Prop} {js:Nat→AV} {y3 y4 p0:AV} {id:Nat} {H:Hp} (hl:H.get id=some (.loop (match_word.R0 js y3 y4) .ready none)) (h:H.get id=some (.loop (match_word.R0 js y3 y4) .ready none)∧(bnd (some (H.set id (some (.loop (match_word.R0 js y3 y4) .busy none)))) fun H1=>bnd (ldA false 1 H1 y3) fun x2=>bnd (binR .eql p0 x2) fun x3=>ifB x3 (bnd (stA 1 H1 y4 (.lit (.bool true))) fun H4=>roundE id (match_word.R0 js y3 y4) K .ret H4) (roundE id (match_word.R0 js y3 y4) K .normal H1))):callV Tryz.prog σ (.yl id) [p0] H K :=
 yield_of_wp (CX σ [] known_nil) mixed 24 hl (by kernel_rfl) (by kernel_rfl) (by kernel_rfl) (Eq.mpr (by kernel_rfl) h)
theorem match_word.run {a0 a1:AV} {H:Hp} {K:AV→Hp→Prop} (h:boxK a1 H fun x1 H2=>allocK [.lit (.bool false)] H2 fun x3 H4=>callK Tryz.prog σ n_match_words [a0] H4 fun x5 H6=>∀ js:Nat→AV,rangeK Tryz.prog σ x5 (match_word.R0 js x1 x3) H6 (fun H7=>bnd (stA 1 H7 x3 (.lit (.bool false))) fun H9=>bnd (ldA false 1 H9 x3) fun r10=>K r10 H9) (fun H7=>bnd (ldA false 1 H7 x3) fun r11=>K r11 H7) (fun i8 H7=>False)):∃ r H1,Good Tryz.prog σ n_match_word [a0,a1] H r H1∧K r H1 :=
 good_of_wp (CX σ [] known_nil) mixed 24 (fn:=Tryz.f193) (f:=n_match_word) (c:=match_word.code) (fnT_ok 193 _ (by kernel_rfl)).1 (by kernel_rfl) (fnT_ok 193 _ (by kernel_rfl)).2 (Eq.mpr (by kernel_rfl) h)
noncomputable def strings_HasPrefix.code:Code:=bodyOf Tryz.f194
theorem strings_HasPrefix.run {a0 a1:AV} {H:Hp} {K:AV→Hp→Prop} (h:callK Tryz.prog σ n_internal_stringslite_HasPrefix [a0,a1] H fun x1 H2=>K x1 H2):∃ r H1,Good Tryz.prog σ n_strings_HasPrefix [a0,a1] H r H1∧K r H1 :=
 good_of_wp (CX σ [] known_nil) mixed 0 (fn:=Tryz.f194) (f:=n_strings_HasPrefix) (c:=strings_HasPrefix.code) (fnT_ok 194 _ (by kernel_rfl)).1 (by kernel_rfl) (fnT_ok 194 _ (by kernel_rfl)).2 (Eq.mpr (by kernel_rfl) h)
noncomputable def strings_HasSuffix.code:Code:=bodyOf Tryz.f195
theorem strings_HasSuffix.run {a0 a1:AV} {H:Hp} {K:AV→Hp→Prop} (h:callK Tryz.prog σ n_internal_stringslite_HasSuffix [a0,a1] H fun x1 H2=>K x1 H2):∃ r H1,Good Tryz.prog σ n_strings_HasSuffix [a0,a1] H r H1∧K r H1 :=
 good_of_wp (CX σ [] known_nil) mixed 0 (fn:=Tryz.f195) (f:=n_strings_HasSuffix) (c:=strings_HasSuffix.code) (fnT_ok 195 _ (by kernel_rfl)).1 (by kernel_rfl) (fnT_ok 195 _ (by kernel_rfl)).2 (Eq.mpr (by kernel_rfl) h)
noncomputable def match_words.code:Code:=bodyOf Tryz.f197
theorem match_words.run {a0:AV} {H:Hp} {K:AV→Hp→Prop} (h:boxK a0 H fun x1 H2=>K (.fn n_match_words_1 [x1]) H2):∃ r H1,Good Tryz.prog σ n_match_words [a0] H r H1∧K r H1 :=
 good_of_wp (CX σ [] known_nil) mixed 0 (fn:=Tryz.f197) (f:=n_match_words) (c:=match_words.code) (fnT_ok 197 _ (by kernel_rfl)).1 (by kernel_rfl) (fnT_ok 197 _ (by kernel_rfl)).2 (Eq.mpr (by kernel_rfl) h)
noncomputable def internal_stringslite_HasPrefix.code:Code:=bodyOf Tryz.f198
theorem internal_stringslite_HasPrefix.run {a0 a1:AV} {H:Hp} {K:AV→Hp→Prop} (h:bnd (lenStr a0) fun x1=>bnd (lenStr a1) fun x2=>bnd (binR .geq x1 x2) fun x3=>ifB x3 (bnd (lenStr a1) fun x4=>bnd (slStr a0 none (some x4)) fun x5=>bnd (binR .eql x5 a1) fun x6=>K x6 H) (K (.lit (.bool false)) H)):∃ r H1,Good Tryz.prog σ n_internal_stringslite_HasPrefix [a0,a1] H r H1∧K r H1 :=
 good_of_wp (CX σ [] known_nil) mixed 0 (fn:=Tryz.f198) (f:=n_internal_stringslite_HasPrefix) (c:=internal_stringslite_HasPrefix.code) (fnT_ok 198 _ (by kernel_rfl)).1 (by kernel_rfl) (fnT_ok 198 _ (by kernel_rfl)).2 (Eq.mpr (by kernel_rfl) h)
noncomputable def internal_stringslite_HasSuffix.code:Code:=bodyOf Tryz.f199
theorem internal_stringslite_HasSuffix.run {a0 a1:AV} {H:Hp} {K:AV→Hp→Prop} (h:bnd (lenStr a0) fun x1=>bnd (lenStr a1) fun x2=>bnd (binR .geq x1 x2) fun x3=>ifB x3 (bnd (lenStr a0) fun x4=>bnd (lenStr a1) fun x5=>bnd (binR .sub x4 x5) fun x6=>bnd (slStr a0 (some x6) none) fun x7=>bnd (binR .eql x7 a1) fun x8=>K x8 H) (K (.lit (.bool false)) H)):∃ r H1,Good Tryz.prog σ n_internal_stringslite_HasSuffix [a0,a1] H r H1∧K r H1 :=
 good_of_wp (CX σ [] known_nil) mixed 0 (fn:=Tryz.f199) (f:=n_internal_stringslite_HasSuffix) (c:=internal_stringslite_HasSuffix.code) (fnT_ok 199 _ (by kernel_rfl)).1 (by kernel_rfl) (fnT_ok 199 _ (by kernel_rfl)).2 (Eq.mpr (by kernel_rfl) h)
noncomputable def match_words_1.code:Code:=bodyOf Tryz.f201
noncomputable def match_words_1.Q0 (σ:Sig) (K:AV→Hp→Prop):Exit→List AV→Hp→Prop:=(nx (fun e T1 H1=>(fnQ (CX σ [] known_nil).ti Tryz.f201.results.toList K) (unblock 0 e) T1 H1) fun T1 H1=>∀ js,LoopP (CX σ [] known_nil) (lB (bB match_words_1.code)) (maskA 11 js 0 T1) H1 (fun e T1 H1=>(fnQ (CX σ [] known_nil).ti Tryz.f201.results.toList K) (unblock 0 e) T1 H1))
noncomputable def match_words_1.L0 (σ:Sig) (K:AV→Hp→Prop) (y0 y1 y3:AV) (H:Hp):Prop:=∀ js:Nat→AV,LoopP (CX σ [] known_nil) (lB (bB match_words_1.code)) [y0,y1,js 2,y3,js 4,js 5,js 6,js 7,js 8,js 9,js 10,js 11,js 12,js 13,js 14,js 15,js 16,js 17,js 18,js 19,js 20,js 21,js 22,js 23,js 24,js 25,js 26,js 27,js 28,js 29,js 30,js 31,js 32,js 33,js 34,js 35] H (fun e T1 H1=>(fnQ (CX σ [] known_nil).ti Tryz.f201.results.toList K) (unblock 0 e) T1 H1)
noncomputable def match_words_1.L1 (σ:Sig) (K:AV→Hp→Prop) (y0 y1 y3:AV) (H:Hp):Prop:=∀ js:Nat→AV,LoopP (CX σ [] known_nil) (lB (bB (sL (sR (bB (sR (lB (bB match_words_1.code)))))))) [y0,y1,js 2,y3,js 4,js 5,js 6,js 7,js 8,js 9,js 10,js 11,js 12,js 13,js 14,js 15,js 16,js 17,js 18,js 19,js 20,js 21,js 22,js 23,js 24,js 25,js 26,js 27,js 28,js 29,js 30,js 31,js 32,js 33,js 34,js 35] H (fun e T1 H1=>(nx (fun e T1 H1=>(match_words_1.Q0 σ K) (unblock 1 e) T1 H1) fun T1 H1=>wp (CX σ [] known_nil) 11 (sR (sR (bB (sR (lB (bB match_words_1.code)))))) T1 H1 (fun e T1 H1=>(match_words_1.Q0 σ K) (unblock 1 e) T1 H1)) (unblock 2 e) T1 H1)
theorem match_words_1.L0_step {K:AV→Hp→Prop} {y0 y1 y3:AV} {H:Hp} (h:bnd (ldA false 1 H y1) fun x1=>bnd (binR .neq x1 (.lit (.string ⟨#[]⟩))) fun x2=>ifB x2 (match_words_1.L1 σ K y0 y1 (.lit (.int .i64 0)) H) (K (.tup []) H)):match_words_1.L0 σ K y0 y1 y3 H :=
 fun js=>LoopP.round (CX σ [] known_nil) mixed (g:=11) (Eq.mpr (by kernel_rfl) h)
theorem match_words_1.L1_step {K:AV→Hp→Prop} {y0 y1 y3:AV} {H:Hp} (h:bnd (ldA false 1 H y1) fun x1=>bnd (lenStr x1) fun x2=>bnd (binR .lss y3 x2) fun x3=>ifB x3 (bnd (ldA false 1 H y1) fun x4=>bnd (ixStr x4 y3) fun x5=>callK Tryz.prog σ n_match_white [x5] H fun x6 H7=>bnd (unR .not x6) fun x8=>ifB x8 (bnd (binR .add y3 (.lit (.int .i64 1))) fun x9=>match_words_1.L1 σ K y0 y1 x9 H7) (bnd (binR .gtr y3 (.lit (.int .i64 0))) fun x10=>ifB x10 (bnd (ldA false 1 H7 y1) fun x11=>bnd (slStr x11 none (some y3)) fun x12=>callV Tryz.prog σ y0 [x12] H7 fun x13 H14=>bnd (unR .not x13) fun x15=>ifB x15 (K (.tup []) H14) (bnd (ldA false 1 H14 y1) fun x16=>bnd (binR .add y3 (.lit (.int .i64 1))) fun x17=>bnd (ldA false 1 H14 y1) fun x18=>bnd (lenStr x18) fun x19=>bnd (minA [x17,x19]) fun x20=>bnd (slStr x16 (some x20) none) fun x21=>bnd (stA 1 H14 y1 x21) fun H22=>match_words_1.L0 σ K y0 y1 y3 H22)) (bnd (ldA false 1 H7 y1) fun x23=>bnd (binR .add y3 (.lit (.int .i64 1))) fun x24=>bnd (ldA false 1 H7 y1) fun x25=>bnd (lenStr x25) fun x26=>bnd (minA [x24,x26]) fun x27=>bnd (slStr x23 (some x27) none) fun x28=>bnd (stA 1 H7 y1 x28) fun H29=>match_words_1.L0 σ K y0 y1 y3 H29))) (bnd (binR .gtr y3 (.lit (.int .i64 0))) fun x30=>ifB x30 (bnd (ldA false 1 H y1) fun x31=>bnd (slStr x31 none (some y3)) fun x32=>callV Tryz.prog σ y0 [x32] H fun x33 H34=>bnd (unR .not x33) fun x35=>ifB x35 (K (.tup []) H34) (bnd (ldA false 1 H34 y1) fun x36=>bnd (binR .add y3 (.lit (.int .i64 1))) fun x37=>bnd (ldA false 1 H34 y1) fun x38=>bnd (lenStr x38) fun x39=>bnd (minA [x37,x39]) fun x40=>bnd (slStr x36 (some x40) none) fun x41=>bnd (stA 1 H34 y1 x41) fun H42=>match_words_1.L0 σ K y0 y1 y3 H42)) (bnd (ldA false 1 H y1) fun x43=>bnd (binR .add y3 (.lit (.int .i64 1))) fun x44=>bnd (ldA false 1 H y1) fun x45=>bnd (lenStr x45) fun x46=>bnd (minA [x44,x46]) fun x47=>bnd (slStr x43 (some x47) none) fun x48=>bnd (stA 1 H y1 x48) fun H49=>match_words_1.L0 σ K y0 y1 y3 H49))):match_words_1.L1 σ K y0 y1 y3 H :=
 fun js=>LoopP.round (CX σ [] known_nil) mixed (g:=11) (Eq.mpr (by kernel_rfl) h)
theorem match_words_1.run {a0 a1:AV} {H:Hp} {K:AV→Hp→Prop} (h:match_words_1.L0 σ K a0 a1 (.lit undef) H):∃ r H1,Good Tryz.prog σ n_match_words_1 [a0,a1] H r H1∧K r H1 :=
 good_of_wp (CX σ [] known_nil) mixed 11 (fn:=Tryz.f201) (f:=n_match_words_1) (c:=match_words_1.code) (fnT_ok 201 _ (by kernel_rfl)).1 (by kernel_rfl) (fnT_ok 201 _ (by kernel_rfl)).2 (Eq.mpr (by kernel_rfl) h)
noncomputable def match_white.code:Code:=bodyOf Tryz.f202
theorem match_white.run {a0:AV} {H:Hp} {K:AV→Hp→Prop} (h:bnd (binR .eql a0 (.lit (.int .u8 9))) fun x1=>ifB x1 (K (.lit (.bool true)) H) (bnd (binR .eql a0 (.lit (.int .u8 10))) fun x2=>ifB x2 (K (.lit (.bool true)) H) (bnd (binR .eql a0 (.lit (.int .u8 12))) fun x3=>ifB x3 (K (.lit (.bool true)) H) (bnd (binR .eql a0 (.lit (.int .u8 13))) fun x4=>ifB x4 (K (.lit (.bool true)) H) (bnd (binR .eql a0 (.lit (.int .u8 32))) fun x5=>K x5 H))))):∃ r H1,Good Tryz.prog σ n_match_white [a0] H r H1∧K r H1 :=
 good_of_wp (CX σ [] known_nil) mixed 0 (fn:=Tryz.f202) (f:=n_match_white) (c:=match_white.code) (fnT_ok 202 _ (by kernel_rfl)).1 (by kernel_rfl) (fnT_ok 202 _ (by kernel_rfl)).2 (Eq.mpr (by kernel_rfl) h)
end Go.Proofs.YthdcghnjndhecaaGreat.Ev
namespace Go.Proofs.YthdcghnjndhecaaGreat.Ev
set_option linter.unusedVariables false
set_option linter.unusedSimpArgs false
variable {σ:Sig}
def lowb (c:UInt8):UInt8:=if 65≤c.toNat∧c.toNat≤90 then UInt8.ofNat (c.toNat+32) else c
def lowB (s:ByteArray):ByteArray:=⟨(s.data.toList.map lowb).toArray⟩
def enc8 (c:UInt8):AV:=.lit (.int .u8 c.toNat)
theorem wr8 {n:Int} (h0:0≤n) (h1:n≤255):wr .u8 n=n:=by
 unfold wr
 simp [IntKind.wrap,IntKind.signed,IntKind.bits]
 omega
theorem bytesA_map:∀ (l:List UInt8),bytesA (l.map enc8)=some l
 | []=>rfl
 | c::l=>by
  have ih:=bytesA_map l
  rw [List.map_cons]
  show (bytesA (l.map enc8)).map (UInt8.ofNat ((c.toNat:Int)).toNat::·)=_
  rw [ih]
  simp
theorem all_one8 (l:List UInt8):(l.map enc8).all AV.one=true:=by
 rw [List.all_map,List.all_eq_true]
 intro x _; rfl
theorem str_of8 {H:Hp} {id:Nat} {l:List UInt8} {n:Nat} {ex:Bool} (hg:H.get id=some (.cells (l.map enc8) ex)) (hn:n=l.length):cvToStr H (.sl id 0 1 n none)=some (Sx ⟨l.toArray⟩):=by
 subst hn
 simp only [cvToStr,srcA,hg]
 have e:List.take l.length (l.map enc8)=l.map enc8:=by
  have:=List.take_length (l:=l.map enc8)
  rwa [List.length_map] at this
 simp only [List.drop_zero,Nat.mul_one,beqN,e,List.length_map,decide_true,Bool.and_self,cond_true,all_one8,bytesA_map]
 rfl
theorem low_step {l:List UInt8} {k:Nat} {c:UInt8} (h:l[k]?=some c) (v:UInt8) (hv:v=lowb c):(l.set k v).take (k+1)++((l.set k v).drop (k+1)).map lowb=l.take k++(l.drop k).map lowb:=by
 subst hv
 obtain ⟨hlt,rfl⟩:=List.getElem?_eq_some_iff.1 h
 rw [List.drop_eq_getElem_cons hlt,List.take_succ_eq_append_getElem (by simpa using hlt),List.drop_set_of_lt (by omega),List.take_set_of_le (by omega)]
 simp
 rw [List.drop_eq_getElem_cons (i:=k) (l:=List.map lowb l) (by simpa using hlt)]
 simp
theorem low_same {l:List UInt8} {k:Nat} {c:UInt8} (h:l[k]?=some c) (hv:lowb c=c):l.take (k+1)++(l.drop (k+1)).map lowb=l.take k++(l.drop k).map lowb:=by
 have:=low_step h c hv.symm
 rwa [show l.set k c=l from by
  obtain ⟨hlt,rfl⟩:=List.getElem?_eq_some_iff.1 h
  simp] at this
theorem lower_L0 {K:AV→Hp→Prop} {n id:Nat} (hn:n<9000000000000000000):∀ (d k:Nat) (l:List UInt8) (H:Hp) (ex:Bool),H.get id=some (.cells (l.map enc8) ex)→l.length=n→n - k=d→k≤n→(∀ H,K (Sx ⟨(l.take k++(l.drop k).map lowb).toArray⟩) H) →
  text_Lower.L0 σ K (.sl id 0 1 n none) (.sl id 0 1 n none) (I n) (I k) H:=by
 intro d
 induction d with
 | zero =>
  intro k l H ex hg hl hd hk hK
  have e:k=n:=by omega
  subst e
  refine text_Lower.L0_step ?_
  simp [str_of8 hg hl.symm]
  simpa [← hl] using hK H
 | succ d ih =>
  intro k l H ex hg hl hd hk hK
  have hlt:k<n:=by omega
  have hlt':k<l.length:=by omega
  have hget:l[k]?=some l[k]:=List.getElem?_eq_getElem hlt'
  have hc:=(l[k]).toNat_lt
  refine text_Lower.L0_step ?_
  simp [hlt,ix_sl,hg,ldL_map hlt',enc8]
  have next:∀ (l':List UInt8) (H':Hp),H'.get id=some (.cells (l'.map enc8) ex)→l'.length=n→l'.take (k+1)++(l'.drop (k+1)).map lowb=l.take k++(l.drop k).map lowb→text_Lower.J1 σ K (.sl id 0 1 n none) (.sl id 0 1 n none) (I n) (I k) H':=by
   intro l' H' hg' hl' he
   refine text_Lower.J1_step ?_
   simp
   rw [wr_succ (Nat.lt_trans hlt hn)]
   exact ih (k+1) l' H' ex hg' hl' (by omega) (by omega) (by rw [he]; exact hK)
  split
  ·split
   ·rename_i h1 h2
    have e1:wr .u8 ((l[k].toNat:Int)+97)=(l[k].toNat:Int)+97:=wr8 (by omega) (by omega)
    have e2:wr .u8 ((l[k].toNat:Int)+97 - 65)=((lowb l[k]).toNat:Int):=by
     rw [wr8 (by omega) (by omega)]
     unfold lowb
     rw [if_pos ⟨by omega,by omega⟩]
     simp; omega
    rw [e1,e2]
    have e3:(k:Int).toNat=k:=by omega
    rw [if_pos (show k+1≤l.length from hlt'),bnd_some]
    have e4:AV.lit (.int .u8 (lowb l[k]).toNat)=enc8 (lowb l[k]):=rfl
    rw [e4,ov_map _ hlt']
    exact next (l.set k (lowb l[k])) _ (by simp) (by simpa using hl) (low_step hget _ rfl)
   ·rename_i h1 h2
    exact next l H hg hl (low_same hget (by unfold lowb; rw [if_neg (by omega)]))
  ·rename_i h1
   exact next l H hg hl (low_same hget (by unfold lowb; rw [if_neg (by omega)]))
theorem Lower_ok (s:ByteArray) (hs:s.data.size<9000000000000000000) (H:Hp):Good Tryz.prog σ n_text_Lower [Sx s] H (Sx (lowB s)) H:=by
 refine good_by (fun K hK=>text_Lower.run ?_) rfl rfl H
 simp only [cvToBytes,bnd_some,len_sl]
 refine lower_L0 hs _ 0 s.data.toList _ false (by simp [enc8]) (by simp) rfl (Nat.zero_le _) fun H=>?_
 simpa [lowB] using hK H
end Go.Proofs.YthdcghnjndhecaaGreat.Ev
namespace Go.Proofs.YthdcghnjndhecaaGreat.Ev
set_option linter.unusedVariables false
set_option linter.unusedSimpArgs false
variable {σ:Sig}
theorem Good.imm0 {P:Program} {f sz:Nat} {r:AV} {H H':Hp} (h:∀ (a:Option Addr) (c:Nat),Good P σ f [.lit (.slice a 0 c)] H r H'):Good P σ f [.imm sz []] H r H':=by
 refine ⟨(h none 0).1,fun B w0 E w vs hσ hst hxs=>?_⟩
 have hl:=hxs.len
 have hv:vs[0]?=some (vs[0]'(by simp at hl; omega)):=Array.getElem?_eq_getElem _
 have hr:=hxs.at_ 0 _ _ rfl hv
 have:∃ a c,vs[0]'(by simp at hl; omega)=.slice a 0 c:=by
  generalize vs[0]'(by simp at hl; omega)=v at hr
  cases hr with
  | immE=>exact ⟨_,_,rfl⟩
  | imm val hn=>subst hn; exact ⟨_,_,rfl⟩
 obtain ⟨a,c,e⟩:=this
 refine (h a c).2 B w0 E w vs hσ hst ⟨by simpa using hl,fun i x v hx hv'=>?_⟩
 match i with
 | 0 =>
  simp at hx; subst hx
  rw [hv] at hv'
  cases hv'
  rw [e]; exact .lit _
 | i+1=>simp at hx
theorem clone_str0 (H:Hp):Good Tryz.prog σ n_slices_Clone_string_string [strs []] H (strs []) H:=by
 refine Good.imm0 fun a c=>?_
 cases a with
 | none =>
  have run:∃ r H1,Good Tryz.prog σ n_slices_Clone_string_string [.lit (.slice none 0 c)] Hp.empty r H1∧r=.lit (.slice none 0 0):=slices_Clone_string_string.run (by simp)
  obtain ⟨r,H1,hg,rfl⟩:=run
  exact hg.frzR rfl .nil H
 | some a =>
  have run:∃ r H1,Good Tryz.prog σ n_slices_Clone_string_string [.lit (.slice (some a) 0 c)] Hp.empty r H1∧Fz H1 r (strs []):=by
   refine slices_Clone_string_string.run ?_
   simp [bldSlR,bldR,appR,srcA,beqN,notStr,zrow]
   exact .sl (cs:=[]) (ex:=true) (fun _ _=>.any) (by simp) rfl (by simp) (by simp) (by simp)
  obtain ⟨r,H1,hg,hf⟩:=run
  exact hg.frzR rfl hf H
theorem clone_pr0 (H:Hp):Good Tryz.prog σ n_slices_Clone_api_Pair_api_Pair [.imm 2 []] H (.imm 2 []) H:=by
 refine Good.imm0 fun a c=>?_
 cases a with
 | none =>
  have run:∃ r H1,Good Tryz.prog σ n_slices_Clone_api_Pair_api_Pair [.lit (.slice none 0 c)] Hp.empty r H1∧r=.lit (.slice none 0 0):=slices_Clone_api_Pair_api_Pair.run (by simp)
  obtain ⟨r,H1,hg,rfl⟩:=run
  exact hg.frzR rfl .nil H
 | some a =>
  have run:∃ r H1,Good Tryz.prog σ n_slices_Clone_api_Pair_api_Pair [.lit (.slice (some a) 0 c)] Hp.empty r H1∧Fz H1 r (.imm 2 []):=by
   refine slices_Clone_api_Pair_api_Pair.run ?_
   simp [bldSlR,bldR,appR,srcA,beqN,notStr,zrow]
   exact .sl (cs:=[]) (ex:=true) (fun _ _=>.any) (by simp) rfl (by simp) (by simp) (by simp)
  obtain ⟨r,H1,hg,hf⟩:=run
  exact hg.frzR rfl hf H
theorem app_new {sz bytes:Nat} {z:List Value} {H:Hp} {rows:List (List AV)} (hr:rows≠[]) (h2:∀ row ∈ rows,row.length=sz) (hone:rows.flatten.all AV.one=true) (hb:rows.length*bytes≤140737488355328) (hn:rows.length≤4611686018427387904)
  {K:AV × Hp→Prop} (h:K (.sl (H.n+1) 0 sz rows.length none,(H.new (.cells [] true)).new (.cells rows.flatten false))) :
  bnd (bldSlR z sz 0 H []) fun p=>bnd (appR false sz bytes p.2 p.1 (.imm sz rows)) K:=by
 have h0:rows.length≠0:=by cases rows<;>simp at hr ⊢
 have e:zrow z 0=[]:=by simp [zrow]
 simp only [bldSlR,bldR,Nat.zero_mul,e,List.length_nil,beqN,decide_true,cond_true,bnd_some]
 simp only [appR,notStr,cond_true,src_imm,hone,beqN,h0,decide_false,cond_false,bleN]
 simp [hb,hn,h0]
 exact h
theorem clone_str (l:List ByteArray) (hb:l.length*16≤140737488355328) (H:Hp):Good Tryz.prog σ n_slices_Clone_string_string [strs l] H (strs l) H:=by
 cases l with
 | nil=>exact clone_str0 H
 | cons s l =>
  have run:∃ r H1,Good Tryz.prog σ n_slices_Clone_string_string [strs (s::l)] Hp.empty r H1∧Fz H1 r (strs (s::l)):=by
   refine slices_Clone_string_string.run ?_
   simp only [strs,List.map_cons,e_sl3,bnd_some,ifB_lit,Bool.false_eq_true,if_false]
   refine app_new (rows:=[Sx s]::l.map fun s=>[Sx s]) (K:=fun q=>Fz q.2 q.1 (.imm 1 ([Sx s]::l.map fun s=>[Sx s]))) (by simp) (fun row hrow=>?_) ?_ (by simpa using hb) (by simp at hb ⊢; omega) ?_
   ·rw [← List.map_cons (f:=fun s=>[Sx s])] at hrow
    obtain ⟨x,_,rfl⟩:=List.mem_map.1 hrow; rfl
   ·rw [← List.map_cons (f:=fun s=>[Sx s]),List.all_eq_true]
    intro x hx
    obtain ⟨row,hrow,hx⟩:=List.mem_flatten.1 hx
    obtain ⟨x,_,rfl⟩:=List.mem_map.1 hrow
    simp at hx; subst hx; rfl
   ·refine Fz.rows (cs:=([Sx s]::l.map fun s=>[Sx s]).flatten) (ex:=false) (by simp) (fun row hrow=>?_) ?_ ?_
    ·rw [← List.map_cons (f:=fun s=>[Sx s])] at hrow
     obtain ⟨x,_,rfl⟩:=List.mem_map.1 hrow; rfl
    ·rw [List.drop_zero]
     refine List.take_of_length_le ?_
     rw [flatten_len (sz:=1)]
     ·simp
     ·intro row hrow
      rw [← List.map_cons (f:=fun s=>[Sx s])] at hrow
      obtain ⟨x,_,rfl⟩:=List.mem_map.1 hrow; rfl
    ·rw [← List.map_cons (f:=fun s=>[Sx s])]; exact noIds_map _ (fun _=>rfl) _
  obtain ⟨r,H1,hg,hf⟩:=run
  exact hg.frzR (by simp [noIds]) hf H
def lowPr (p:ByteArray × ByteArray):ByteArray × ByteArray:=(lowB p.1,p.2)
def lowN (n:Nd):Nd:={ n with tag:=lowB n.tag,attrs:=n.attrs.map lowPr }
structure NdWf (n:Nd):Prop where
 parent:i64 n.parent
 tag:n.tag.data.size≤reachBytes
 classes:n.classes.length*16≤reachBytes
 attrs:n.attrs.length*32≤reachBytes
 names:∀ p ∈ n.attrs,p.1.data.size≤reachBytes
theorem reach_eq:reachBytes=140737488351232:=rfl
@[simp] theorem st_strs (H:Hp) (id off:Nat) (l:List ByteArray):stA 1 H (.ptr id off) (strs l)=stO 1 off [strs l] H id (H.get id):=st_ptr 1 H id off _ rfl rfl
theorem attrs_len {rows:List (ByteArray × ByteArray)}:∀ row ∈ rows.map encPr,row.length=2:=by
 intro row hrow
 obtain ⟨x,_,rfl⟩:=List.mem_map.1 hrow; rfl
theorem attrs_one {rows:List (ByteArray × ByteArray)}:(rows.map encPr).flatten.all AV.one=true:=by
 rw [List.all_eq_true]
 intro x hx
 obtain ⟨row,hrow,hx⟩:=List.mem_flatten.1 hx
 obtain ⟨x,_,rfl⟩:=List.mem_map.1 hrow
 simp [encPr] at hx
 rcases hx with rfl | rfl<;>rfl
theorem copied_sp (n:Nd) (hn:NdWf n) {H:Hp} {K:AV→Hp→Prop}
  (h0:n.attrs=[]→∀ H',H'.n ≥ H.n→(∀ j,j<H.n→H'.get j=H.get j)→K (.agg (encNd n)) H')
  (h1:n.attrs≠[]→∀ H' id,H'.n ≥ H.n→(∀ j,j<H.n→H'.get j=H.get j)→H.n≤id→id<H'.n→H'.get id=some (.cells (n.attrs.map encPr).flatten false) →
   K (.agg [I n.parent,Sx n.tag,Sx n.id,strs n.classes,.sl id 0 2 n.attrs.length none]) H') :
  callK Tryz.prog σ n_dom_copied [.agg (encNd n)] H K:=by
 have hc:=hn.classes
 have ha:=hn.attrs
 rw [reach_eq] at hc ha
 have nlt:∀ {j:Nat},j<H.n→j≠H.n∧j≠H.n+1∧j≠H.n+2∧j≠H.n+3:=fun h=>by omega
 refine dom_copied.run ?_
 simp [encNd]
 refine callK_of (clone_str _ (by omega) _) ?_
 simp
 by_cases he:n.attrs=[]
 ·rw [he]
  refine callK_of (clone_pr0 _) ?_
  have e:encNd n=[I n.parent,Sx n.tag,Sx n.id,strs n.classes,.imm 2 []]:=by simp [encNd,he]
  rw [e] at h0
  simp [ldL_all]
  exact h0 he _ (by simp; omega) (fun j hj=>by have:=nlt hj; simp [this])
 ·obtain ⟨p,ps,hps⟩:=List.exists_cons_of_ne_nil he
  refine slices_Clone_api_Pair_api_Pair.run ?_
  rw [hps,List.map_cons]
  simp only [e_sl3,bnd_some,ifB_lit,Bool.false_eq_true,if_false]
  rw [← List.map_cons,← hps]
  refine app_new (rows:=n.attrs.map encPr) (by simpa using he) attrs_len attrs_one (by simpa using Nat.le_trans ha (by omega)) (by simp; omega) ?_
  have q1:¬ (H.n=H.n+1+1+1):=by omega
  have q2:¬ (H.n=H.n+1+1):=by omega
  have q3:¬ (H.n+1=H.n+1+1+1):=by omega
  simp [ldL_all,q1,q2,q3]
  refine h1 he _ _ ?_ (fun j hj=>?_) ?_ ?_ ?_
  ·simp; omega
  ·have:=nlt hj
   have q4:j≠H.n+1+1:=by omega
   have q5:j≠H.n+1+1+1:=by omega
   simp [this,q4,q5]
  ·omega
  ·simp
  ·have q6:¬ (H.n+1+1=H.n):=by omega
   have q7:¬ (H.n+1+1+1=H.n):=by omega
   have q8:¬ (H.n+1+1+1=H.n+1):=by omega
   have q9:¬ (H.n+1+1=H.n+1):=by omega
   simp [q6,q7,q8,q9]
theorem low_take {l l0:List (ByteArray × ByteArray)} {k:Nat} (hk:k<l0.length) (hl:l.length=l0.length) (h1:l.take k=(l0.take k).map lowPr) (h2:l.drop k=l0.drop k) :
  ∃ hk':k<l.length,l[k]=l0[k]∧(l.set k (lowPr l0[k])).take (k+1)=(l0.take (k+1)).map lowPr∧(l.set k (lowPr l0[k])).drop (k+1)=l0.drop (k+1):=by
 have hk':k<l.length:=by omega
 rw [List.drop_eq_getElem_cons hk',List.drop_eq_getElem_cons hk] at h2
 have h3:=List.cons.inj h2
 refine ⟨hk',h3.1,?_,?_⟩
 ·rw [List.take_succ_eq_append_getElem (by simpa using hk'),List.take_succ_eq_append_getElem hk,List.map_append,← h1,List.take_set_of_le (by omega)]
  simp
 ·rw [List.drop_set_of_lt (by omega)]; exact h3.2
theorem dlow_L0 (n:Nd) (hn:NdWf n) {K:AV→Hp→Prop} {id b1 b2:Nat} {par tg idd cl:AV} (h12:b1≠b2) (hi1:id≠b1) (hi2:id≠b2) (ho:[par,tg,idd,cl].all AV.one=true):∀ (d k:Nat) (l:List (ByteArray × ByteArray)) (H:Hp),H.get b1=some (.cells [par,tg,idd,cl,.sl id 0 2 n.attrs.length none] true)→(∃ cs,H.get b2=some (.cells cs true)∧cs.length=5) →
  H.get id=some (.cells (l.map encPr).flatten false)→l.length=n.attrs.length→n.attrs.length - k=d→k≤n.attrs.length→l.take k=(n.attrs.take k).map lowPr→l.drop k=n.attrs.drop k →
  (∀ H',H'.get id=some (.cells ((n.attrs.map lowPr).map encPr).flatten false)→K (.agg [par,tg,idd,cl,.sl id 0 2 n.attrs.length none]) H') →
  dom_lowered.L0 σ K (.ptr b1 0) (.ptr b2 0) (I n.attrs.length) (I k) H:=by
 have ha:=hn.attrs
 rw [reach_eq] at ha
 intro d
 induction d with
 | zero =>
  intro k l H g1 g2 gi hl hd hk h1 h2 hK
  obtain ⟨cs,g2,hcs⟩:=g2
  have e:k=n.attrs.length:=by omega
  subst e
  have el:l=n.attrs.map lowPr:=by
   rw [← hl,List.take_length,hl,List.take_length] at h1
   exact h1
  refine dom_lowered.L0_step ?_
  simp [g1,g2,ldL_all,hcs]
  simp at ho
  simp [ho,overlay_all,hcs,ldL_all]
  refine hK _ ?_
  simp [hi2,gi,el]
 | succ d ih =>
  intro k l H g1 g2 gi hl hd hk h1 h2 hK
  have hlt:k<n.attrs.length:=by omega
  obtain ⟨hlt',hlk,h3,h4⟩:=low_take hlt hl h1 h2
  have hsz:(n.attrs[k]).1.data.size<9000000000000000000:=by
   have:=hn.names _ (List.getElem_mem hlt)
   rw [reach_eq] at this
   omega
  have hdrop:((l.map encPr).flatten).drop (k*2)=encPr n.attrs[k]++((l.map encPr).drop (k+1)).flatten:=by
   rw [flat_drop attrs_len (by simpa using hlt'),List.getElem_map,hlk]
  refine dom_lowered.L0_step ?_
  simp [g1,hlt,ix_sl,gi,hdrop,encPr]
  refine callK_of (Lower_ok _ hsz _) ?_
  have hlen:k*2+1≤((l.map encPr).flatten).length:=by
   rw [flatten_len attrs_len,List.length_map]; omega
  simp [g1,gi]
  rw [if_pos (by simpa using hlen),bnd_some,wr_succ (by omega)]
  refine ih (k+1) (l.set k (lowPr n.attrs[k])) _ (by simp [Ne.symm hi1,g1]) ?_ ?_ (by simpa using hl) (by omega) (by omega) h3 h4 hK
  ·obtain ⟨cs,g2,hcs⟩:=g2
   exact ⟨cs,by simp [Ne.symm hi2,g2],hcs⟩
  ·simp
   have:=flat_overlay (sz:=2) (xs:=[Sx (lowB n.attrs[k].1)]) (k:=0) (by simp) (rows:=l.map encPr) (w:=k) attrs_len (by simpa using hlt')
   rw [Nat.add_zero] at this
   rw [this]
   congr 3
   simp [encPr,lowPr,hlk]
theorem dLow_ok (n:Nd) (hn:NdWf n) (H:Hp):Good Tryz.prog σ n_dom_lowered [.agg (encNd n)] H (.agg (encNd (lowN n))) H:=by
 have ht:n.tag.data.size<9000000000000000000:=by
  have:=hn.tag
  rw [reach_eq] at this; omega
 obtain ⟨Q,hQ⟩:∃ Q:AV→Hp→Prop,∀ r H1,Q r H1 ↔ Fz H1 r (.agg (encNd (lowN n))):=⟨_,fun _ _=>Iff.rfl⟩
 have run:∃ r H1,Good Tryz.prog σ n_dom_lowered [.agg (encNd n)] Hp.empty r H1∧Q r H1:=by
  refine dom_lowered.run ?_
  simp
  refine copied_sp n hn (fun he H' hn' hs=>?_) (fun he H' id hn' hs hid hid' hg=>?_)
  ·have e0:H'.get Hp.empty.n=some (.cells (encNd n) true):=by rw [hs _ (by simp; omega)]; simp
   have e1:H'.get (Hp.empty.n+1)=some (.cells [I 0,Sx ⟨#[]⟩,Sx ⟨#[]⟩,.lit (.slice none 0 0),.lit (.slice none 0 0)] true):=by rw [hs _ (by simp)]; simp
   generalize Hp.empty.n=z at e0 e1 ⊢
   simp [e0,e1,encNd,he,overlay_all]
   refine callK_of (Lower_ok _ ht _) ?_
   simp [e0,e1,overlay_all]
   refine dom_lowered.L0_step ?_
   simp [e0,e1,ldL_all,overlay_all]
   rw [hQ]
   have e2:encNd (lowN n)=[I n.parent,Sx (lowB n.tag),Sx n.id,strs n.classes,.imm 2 []]:=by simp [lowN,encNd,he]
   rw [e2]
   exact .refl (by simp [noIds,noId,noIdss])
  ·have e0:H'.get Hp.empty.n=some (.cells (encNd n) true):=by rw [hs _ (by simp; omega)]; simp
   have e1:H'.get (Hp.empty.n+1)=some (.cells [I 0,Sx ⟨#[]⟩,Sx ⟨#[]⟩,.lit (.slice none 0 0),.lit (.slice none 0 0)] true):=by rw [hs _ (by simp)]; simp
   have hid:Hp.empty.n+2≤id:=by simpa using hid
   generalize Hp.empty.n=z at e0 e1 hid ⊢
   have d1:id≠z:=by omega
   have d2:id≠z+1:=by omega
   simp [e0,e1,encNd,overlay_all]
   refine callK_of (Lower_ok _ ht _) ?_
   simp [e0,e1,overlay_all]
   refine dlow_L0 n hn (id:=id) (by omega) d1 d2 ?_ _ 0 n.attrs _ (by rw [hp_get_set,if_pos rfl]) ⟨_,by simp [e1]; rfl,rfl⟩ (by simp [d1,hg]) rfl rfl (Nat.zero_le _) (by simp) rfl fun H2 h2=>?_
   ·simp
   rw [hQ]
   refine .aggL (.cons (.refl rfl) (.cons (.refl rfl) (.cons (.refl rfl) (.cons (.refl (noId_strs _)) (.cons ?_ .nil)))))
   have:=Fz.rows (cap:=none) h2 (rows:=(n.attrs.map lowPr).map encPr) (off:=0) attrs_len (by rw [List.drop_zero]; exact List.take_of_length_le (by rw [flatten_len attrs_len]; exact Nat.le_refl _)) (noIds_map _ (fun _=>rfl) _)
   simpa [lowN] using this
 obtain ⟨r,H1,hg,hf⟩:=run
 rw [hQ] at hf
 exact hg.frzR (by simp [noIds,noId,noId_Nd]) hf H
end Go.Proofs.YthdcghnjndhecaaGreat.Ev
namespace Go.Proofs.YthdcghnjndhecaaGreat.Ev
set_option linter.unusedVariables false
set_option linter.unusedSimpArgs false
variable {σ:Sig}
end Go.Proofs.YthdcghnjndhecaaGreat.Ev
namespace Go.Proofs.YthdcghnjndhecaaGreat.Ev
set_option linter.unusedVariables false
set_option linter.unusedSimpArgs false
variable {σ:Sig}
theorem bnd_app1k {z:List Value} {sz bytes:Nat} {H:Hp} {x y:AV} {rows:List (List AV)} {C:AV × Hp→Prop} (hC:C (.sl H.n 0 sz 1 (some 1),H.new (.cells y.cells true))) (hx:Gs sz H x rows) (hl:y.cells.length=sz) (ha:y.isAny=false) (hone:y.cells.all AV.one=true)
  (hb:(rows.length+1)*bytes≤140737488355328) (hn:rows.length+1≤4611686018427387904) {K:AV × Hp→Prop} (h:∀ x' H',Gs sz H' x' (rows++[y.cells])→Fr H x H' x'→K (x',H')) :
  bnd (bldSlR z sz 1 H [(0,sz,y)]) fun p=>C p∧bnd (appR false sz bytes p.2 x p.1) K:=by
 have:=bnd_app1 (z:=z) hx hl ha hone hb hn h
 rw [bld_one hl ha,bnd_some] at this ⊢
 exact ⟨hC,this⟩
structure TreeH (L:List Nd) (d:List Nat) (H:Hp) (t m:Nat) (sl:AV) (ch:List AV):Prop where
 tlt:t<H.n
 tg:H.get t=some (.cells [sl] true)
 len:ch.length=m
 rows:Gs 9 H sl (rowsE L d ch lowN)
 kid:∀ (i:Nat) (c:AV),ch[i]?=some c→Gs 1 H c ((kids L m i).map fun j:Nat=>[I j])
 nt:¬ own sl t
 nk:∀ (i:Nat) (c:AV),ch[i]?=some c→¬ own c t
 ns:∀ (i:Nat) (c:AV),ch[i]?=some c→∀ j,own c j→¬ own sl j
 nd:∀ (i i':Nat) (c c':AV),i≠i'→ch[i]?=some c→ch[i']?=some c'→∀ j,own c j→¬ own c' j
theorem J1_sp {L:List Nd} {d:List Nat} {N:Nat} (hB:Built L N d) {m:Nat} (hm:m<N) (hN:N≤4096) {H:Hp} {t x7:Nat} {sl:AV} {ch:List AV} {y6 y7:AV}
  (tlt:t<H.n) (tg:H.get t=some (.cells [sl] true)) (len:ch.length=m) (rows:Gs 9 H sl (rowsE L d ch lowN)) (kid:∀ (i:Nat) (c:AV),ch[i]?=some c→Gs 1 H c ((kids L (m+1) i).map fun j:Nat=>[I j]))
  (nt:¬ own sl t) (nk:∀ (i:Nat) (c:AV),ch[i]?=some c→¬ own c t) (ns:∀ (i:Nat) (c:AV),ch[i]?=some c→∀ j,own c j→¬ own sl j)
  (nd:∀ (i i':Nat) (c c':AV),i≠i'→ch[i]?=some c→ch[i']?=some c'→∀ j,own c j→¬ own c' j)
  (hx7:H.get x7=some (.cells (rowE L d m (.lit (.slice none 0 0)) lowN) true)) {K:AV→Hp→Prop} (h:∀ H' sl' ch',TreeH L d H' t (m+1) sl' ch'→K (I 0) H'):dom_Tree_put.J1 σ K (.ptr t 0) (.ptr x7 0) y6 y7 H:=by
 refine dom_Tree_put.J1_step ?_
 simp [tg,hx7]
 simp only [ldL_all (len_rowE L d m (.lit (.slice none 0 0)) lowN),bnd_some]
 have ht':t≠H.n:=by omega
 refine bnd_app1k (y:=.agg (rowE L d m (.lit (.slice none 0 0)) lowN)) (bytes:=136) (by simp [ht',tg]) rows rfl rfl (by simp [rowE,encNd]) (by rw [rowsE_len]; omega) (by rw [rowsE_len]; omega) fun sl' H' g f=>?_
 have e1:H'.get t=some (.cells [sl] true):=by rw [f.same t tlt nt]; exact tg
 have sown:∀ j,own sl' j→own sl j∨(H.n≤j∧j<H'.n):=f.mine
 have nt':¬ own sl' t:=fun h=>by
  rcases sown t h with h | h
  ·exact nt h
  ·omega
 have kl:∀ (i:Nat) (c:AV),ch[i]?=some c→∀ j,own c j→j<H.n:=fun i c hc j hj=>(kid i c hc).lt hj
 simp [g.st (id:=t) (off:=0) e1 (by simp)]
 have cnew:∀ {i:Nat} {c:AV},(ch++[AV.lit (.slice none 0 0)])[i]?=some c→ch[i]?=some c∨(i=m∧c=.lit (.slice none 0 0)):=by
  intro i c hc
  by_cases hi:i<ch.length
  ·rw [List.getElem?_append_left hi] at hc; exact .inl hc
  ·rw [List.getElem?_append_right (by omega)] at hc
   have hl:=(List.getElem?_eq_some_iff.1 hc).1
   simp at hl
   have:i=m:=by omega
   subst this
   simp [len] at hc
   exact .inr ⟨rfl,hc.symm⟩
 refine h _ sl' (ch++[.lit (.slice none 0 0)]) ⟨?_,?_,?_,?_,?_,nt',?_,?_,?_⟩
 ·simp; have:=f.grow; omega
 ·simp
 ·simp [len]
 ·rw [rowsE_app,len]
  refine g.keep (fun j hj=>?_) (by simp)
  have:j≠t:=fun e=>nt' (e ▸ hj)
  simp [this]
 ·intro i c hc
  rcases cnew hc with hc | ⟨rfl,rfl⟩
  ·refine (kid i c hc).keep (fun j hj=>?_) (by simp; exact f.grow)
   have:j≠t:=fun e=>nk i c hc (e ▸ hj)
   simp [this]
   exact f.same j (kl i c hc j hj) (ns i c hc j hj)
  ·rw [kids_ge hB (by omega) (Nat.le_refl _)]
   exact .nil
 ·intro i c hc
  rcases cnew hc with hc | ⟨rfl,rfl⟩
  ·exact nk i c hc
  ·exact fun h=>h
 ·intro i c hc j hj h
  rcases cnew hc with hc | ⟨rfl,rfl⟩
  ·rcases sown j h with h | h
   ·exact ns i c hc j hj h
   ·have:=kl i c hc j hj; omega
  ·exact hj
 ·intro i i' c c' hne hc hc' j hj hj'
  rcases cnew hc with hc | ⟨rfl,rfl⟩
  ·rcases cnew hc' with hc' | ⟨rfl,rfl⟩
   ·exact nd i i' c c' hne hc hc' j hj hj'
   ·exact hj'
  ·exact hj
theorem J0_sp {L:List Nd} {d:List Nat} {N:Nat} (hB:Built L N d) {m p:Nat} (hm:m<N) (hN:N≤4096) (hm0:0<m) (hp:par L m=p) (hpm:p<m) {H:Hp} {t x7 id:Nat} {ch:List AV}
  (hT:TreeH L d H t m (.sl id 0 9 m none) ch) (hx7:H.get x7=some (.cells (rowE L d m (.lit (.slice none 0 0)) lowN) true)) (hn7:x7<H.n) (h7t:x7≠t) (h7s:x7≠id) (h7c:∀ (i:Nat) (c:AV),ch[i]?=some c→¬ own c x7)
  {K:AV→Hp→Prop} (h:∀ H' sl' ch',TreeH L d H' t (m+1) sl' ch'→K (I 0) H'):dom_Tree_put.J0 σ K (.ptr t 0) (.ptr x7 0) (I m) (.ptr id (p*9)) H:=by
 have hl:=hT.len
 obtain ⟨c,hc⟩:=get_lt (l:=ch) (k:=p) (by omega)
 have hg:∃ ex,H.get id=some (.cells (rowsE L d ch lowN).flatten ex)∧id<H.n:=by
  have:=hT.rows
  have hlen:=rowsE_len L d ch lowN
  generalize rowsE L d ch lowN=rr at this hlen
  cases this with
  | sl hlt hg hsz=>exact ⟨_,hg,hlt⟩
 obtain ⟨ex,hg,hidn⟩:=hg
 obtain ⟨r5,h5⟩:=rowsE_dropJ (L:=L) (d:=d) (low:=lowN) hc 5 (by omega)
 have hgc:=hT.kid p c hc
 have hlast:kids L (m+1) p=kids L m p++[m]:=by rw [kids_succ,if_pos ⟨hm0,hp⟩]
 have hkl:(kids L m p).length≤m:=by
  have:=List.length_filter_le (fun j:Nat=>decide (0<j)&&decide (par L j=(p:Int))) (List.range m)
  simp at this
  unfold kids
  omega
 refine dom_Tree_put.J0_step ?_
 simp [hg,h5,rowE,encNd]
 refine bnd_app1 hgc rfl rfl rfl (by simp; omega) (by simp; omega) fun c' H' g f=>?_
 have cid:¬ own c id:=fun h=>(hT.ns p c hc id h) rfl
 have e1:H'.get id=some (.cells (rowsE L d ch lowN).flatten ex):=by rw [f.same id hidn cid]; exact hg
 have hlen:p*9+5<(rowsE L d ch lowN).flatten.length:=by
  rw [flatten_len rowsE_sz,rowsE_len]; omega
 simp [g.st (id:=id) (off:=p*9+5) e1 hlen]
 have hput:=rowsE_put (L:=L) (d:=d) (low:=lowN) (c':=c') hc
 rw [ovl_set hlen] at hput
 rw [hput]
 have kl:∀ (i:Nat) (c:AV),ch[i]?=some c→∀ j,own c j→j<H.n:=fun i c hc j hj=>(hT.kid i c hc).lt hj
 have cown:∀ j,own c' j→own c j∨(H.n≤j∧j<H'.n):=f.mine
 have cset:∀ {i:Nat} {x:AV},(ch.set p c')[i]?=some x→(i≠p∧ch[i]?=some x)∨(i=p∧x=c'):=by
  intro i x hx
  rw [List.getElem?_set] at hx
  split at hx
  ·rename_i he
   split at hx
   ·cases hx; exact .inr ⟨he.symm,rfl⟩
   ·cases hx
  ·rename_i he; exact .inl ⟨fun e=>he e.symm,hx⟩
 have cid':¬ own c' id:=fun h=>by
  rcases cown id h with h | h
  ·exact cid h
  ·omega
 have ct':¬ own c' t:=fun h=>by
  rcases cown t h with h | h
  ·exact hT.nk p c hc h
  ·have:=hT.tlt; omega
 have idt:id≠t:=fun e=>hT.nt e
 refine J1_sp hB hm hN (sl:=.sl id 0 9 m none) (ch:=ch.set p c') ?_ ?_ (by simpa using hl) ?_ ?_ hT.nt ?_ ?_ ?_ ?_ h
 ·simp; have:=f.grow; have:=hT.tlt; omega
 ·simp [Ne.symm idt]
  rw [f.same t hT.tlt (hT.nk p c hc)]; exact hT.tg
 ·have:m=(rowsE L d (ch.set p c') lowN).length:=by rw [rowsE_len]; simpa using hl.symm
  conv=>arg 3; rw [this]
  exact .sl (ex:=ex) (by simp; have:=f.grow; omega) (by simp) rowsE_sz
 ·intro i x hx
  rcases cset hx with ⟨hne,hx⟩ | ⟨rfl,rfl⟩
  ·rw [kids_succ,if_neg (fun h=>hne (by have:=h.2; rw [hp] at this; omega)),List.append_nil]
   refine (hT.kid i x hx).keep (fun j hj=>?_) (by simp; exact f.grow)
   have:j≠id:=fun e=>hT.ns i x hx j hj e.symm
   simp [this]
   exact f.same j (kl i x hx j hj) (hT.nd i p x c hne hx hc j hj)
  ·rw [hlast,List.map_append]
   refine Gs.keep (H:=H') g (fun j hj=>?_) (by simp)
   have:j≠id:=fun e=>cid' (e ▸ hj)
   simp [this]
 ·intro i x hx
  rcases cset hx with ⟨hne,hx⟩ | ⟨rfl,rfl⟩
  ·exact hT.nk i x hx
  ·exact ct'
 ·intro i x hx j hj h
  rcases cset hx with ⟨hne,hx⟩ | ⟨rfl,rfl⟩
  ·exact hT.ns i x hx j hj h
  ·exact cid' (by have h:id=j:=h; rw [h]; exact hj)
 ·intro i i' x x' hne hx hx' j hj hj'
  rcases cset hx with ⟨h1,hx⟩ | ⟨rfl,rfl⟩
  ·rcases cset hx' with ⟨h2,hx'⟩ | ⟨rfl,rfl⟩
   ·exact hT.nd i i' x x' hne hx hx' j hj hj'
   ·rename_i h3
    rcases cown j hj' with h | h
    ·exact hT.nd i i' x c hne h3 hc j hj h
    ·have:=kl i x h3 j hj; omega
  ·rcases cset hx' with ⟨h2,hx'⟩ | ⟨h3,rfl⟩
   ·rcases cown j hj with h | h
    ·exact hT.nd i i' c x' hne hc hx' j h hj'
    ·have:=kl i' x' hx' j hj'; omega
   ·exact hne h3.symm
 ·simp [h7s]
  rw [f.same x7 hn7 (h7c p c hc)]; exact hx7
theorem TreeH.new {L:List Nd} {d:List Nat} {H:Hp} {t m:Nat} {sl:AV} {ch:List AV} (h:TreeH L d H t m sl ch) {H':Hp} (hs:∀ j,j<H.n→H'.get j=H.get j) (hn:H.n≤H'.n):TreeH L d H' t m sl ch :=
 ⟨Nat.lt_of_lt_of_le h.tlt hn,by rw [hs t h.tlt]; exact h.tg,h.len,h.rows.keep (fun j hj=>hs j (h.rows.lt hj)) hn,fun i c hc=>(h.kid i c hc).keep (fun j hj=>hs j ((h.kid i c hc).lt hj)) hn,h.nt,h.nk,h.ns,h.nd⟩
theorem sibs_last {L:List Nd} {m p:Nat} (hp:par L m=p) {j:Nat} {l:List Nat} (e:kids L m p=l++[j]):before L m=j∧place L m=(l.length:Int)+1+1:=by
 rw [kids_self hp] at e
 unfold before place lastI
 rw [e]
 simp
theorem put_sp {L : List Nd} {d : List Nat} {N : Nat} (hB : Built L N d) (hW : ∀ n ∈ L, NdWf n) {m : Nat} (hm : m < N) (hN : N ≤ 4096) {H : Hp} {t : Nat} {sl : AV} {ch : List AV} (hT : TreeH L d H t m sl ch)
    {K:AV→Hp→Prop} (h:∀ H' sl' ch',TreeH L d H' t (m+1) sl' ch'→K (I 0) H'):callK Tryz.prog σ n_dom_Tree_put [.ptr t 0,.agg (encNd (ndAt L m))] H K:=by
  have hmL:m<L.length:=Nat.lt_of_lt_of_le hm hB.le
  have hnd:ndAt L m ∈ L:=by
    unfold ndAt
    rw [List.getD_eq_getElem?_getD,List.getElem?_eq_getElem hmL]
    exact List.getElem_mem hmL
  have hlow:=dLow_ok (σ:=σ) _ (hW _ hnd)
  have htn:=hT.tlt
  have t1:t≠H.n:=by omega
  have t2:t≠H.n+1:=by omega
  have hlen:=hT.rows.len
  rw [rowsE_len,hT.len] at hlen
  refine dom_Tree_put.run ?_
  simp
  refine callK_of (hlow _) ?_
  have eb:∀ c:AV,bldR [I 0,Sx ⟨#[]⟩,Sx ⟨#[]⟩,.lit (.slice none 0 0),.lit (.slice none 0 0),.lit (.slice none 0 0),I 0,I 0,I 0] [(0,5,.agg (encNd (lowN (ndAt L m)))),(7,1,I 1),(8,1,I (-1))]=some (encNd (lowN (ndAt L m))++[.lit (.slice none 0 0),I 0,I 1,I (-1)]):=by
    intro c
    simp [bldR,beqN,bleN,encNd,overlay]
  rw [eb .any]
  have hnew:∀ (a b:Blk),TreeH L d ((H.new a).new b) t m sl ch:=fun a b=>hT.new (fun j hj=>by
    have:j≠H.n:=by omega
    have:j≠H.n+1:=by omega
    simp [*]) (by simp; omega)
  by_cases h0:m=0
  · subst h0
    have hr:=hB.root (by omega)
    have hpar:(ndAt L 0).parent=-1:=hr.1
    simp [t1,t2,hT.tg,hlen,encNd,hpar,overlay_all]
    have hT2 := hT.new (H' := ((H.new (.cells [I (-1), Sx (ndAt L 0).tag, Sx (ndAt L 0).id, strs (ndAt L 0).classes, .imm 2 (List.map encPr (ndAt L 0).attrs)] true)).new
          (.cells [I 0,Sx ⟨#[]⟩,Sx ⟨#[]⟩,.lit (.slice none 0 0),.lit (.slice none 0 0),.lit (.slice none 0 0),I 0,I 0,I 0] true)).set (H.n+1)
      (some (.cells (encNd (lowN (ndAt L 0))++[.lit (.slice none 0 0),I 0,I 1,I (-1)]) true))) (fun j hj=>by
        have a1:j≠H.n:=by omega
        have a2:j≠H.n+1:=by omega
        simp [a1,a2]) (by simp; omega)
    have hd0:d.getD 0 0=0:=by rw [List.getD_eq_getElem?_getD,hr.2]; rfl
    refine J1_sp hB hm hN hT2.tlt hT2.tg hT2.len hT2.rows (fun i c hc=>?_) hT2.nt hT2.nk hT2.ns hT2.nd ?_ h
    · rw [kids_succ,if_neg (by omega),List.append_nil]; exact hT2.kid i c hc
    · unfold rowE
      rw [hd0]
      simp [place,sibs,before,lastI]
  · obtain ⟨p,x,hp,hpm,hx,hdx,h256⟩:=hB.step m (by omega) hm
    have hpar:(ndAt L m).parent=p:=hp
    have hm0:¬ ((m:Int)=0):=by omega
    have hm1:(0:Int)<m:=by omega
    have hp1:¬ ((p:Int)<0):=by omega
    have hp2:¬ ((m:Int)≤p):=by omega
    have hmn:¬ (m=0):=h0
    have hmp:0<m:=by omega
    obtain ⟨id,ex,rfl,hg,hidn⟩:∃ id ex,sl=.sl id 0 9 m none∧H.get id=some (.cells (rowsE L d ch lowN).flatten ex)∧id<H.n:=by
      have:=hT.rows
      have hl:=rowsE_len L d ch lowN
      rw [hT.len] at hl
      generalize rowsE L d ch lowN=rr at this hl
      cases this with
      | nil=>simp at hl; omega
      | sl hlt hg hsz=>exact ⟨_,_,by rw [hl],hg,hlt⟩
    obtain ⟨c,hc⟩:=get_lt (l:=ch) (k:=p) (by rw [hT.len]; exact hpm)
    obtain ⟨r5,h5⟩:=rowsE_dropJ (L:=L) (d:=d) (low:=lowN) hc 5 (by omega)
    obtain ⟨r6,h6⟩:=rowsE_dropJ (L:=L) (d:=d) (low:=lowN) hc 6 (by omega)
    have hdp:d.getD p 0=x:=by rw [List.getD_eq_getElem?_getD,hx]; rfl
    have hdm:d.getD m 0=x+1:=by rw [List.getD_eq_getElem?_getD,hdx]; rfl
    simp only [rowE,hdp] at h5 h6
    have i1:id≠H.n:=by omega
    have i2:id≠H.n+1:=by omega
    have hpi:(p:Int)<m:=by omega
    have e256:¬ ((256:Int)<(x:Int)+1):=by omega
    simp [t1,t2,hT.tg,hlen,encNd,hpar,overlay_all,hm0,hm1,hp1,hp2,hmn,hmp,ix_sl,hpi,i1,i2,hg,h5,h6]
    have ew:wr .i64 ((x:Int)+1)=((x+1:Nat):Int):=by rw [wr64 (by omega) (by omega)]; rfl
    have e256':¬ ((256:Int)<((x+1:Nat):Int)):=by omega
    rw [ew,if_neg e256']
    have hG : ∃ G : Hp, G = ((((H.new (.cells [I p, Sx (ndAt L m).tag, Sx (ndAt L m).id, strs (ndAt L m).classes, .imm 2 (List.map encPr (ndAt L m).attrs)] true)).new
        (.cells [I 0,Sx ⟨#[]⟩,Sx ⟨#[]⟩,.lit (.slice none 0 0),.lit (.slice none 0 0),.lit (.slice none 0 0),I 0,I 0,I 0] true)).set (H.n+1)
        (some (.cells [I (lowN (ndAt L m)).parent,Sx (lowN (ndAt L m)).tag,Sx (lowN (ndAt L m)).id,strs (lowN (ndAt L m)).classes,.imm 2 (List.map encPr (lowN (ndAt L m)).attrs),.lit (.slice none 0 0),I 0,I 1,I (-1)] true))).set (H.n+1)
        (some (.cells [I (lowN (ndAt L m)).parent,Sx (lowN (ndAt L m)).tag,Sx (lowN (ndAt L m)).id,strs (lowN (ndAt L m)).classes,.imm 2 (List.map encPr (lowN (ndAt L m)).attrs),.lit (.slice none 0 0),I ((x+1:Nat):Int),I 1,I (-1)] true))):=⟨_,rfl⟩
    obtain ⟨G,eG⟩:=hG
    rw [← eG]
    have G1:∀ j,j<H.n→G.get j=H.get j:=fun j hj=>by
      have a1:j≠H.n:=by omega
      have a2:j≠H.n+1:=by omega
      rw [eG]; simp [a1,a2]
    have G2:G.get (H.n+1)=some (.cells [I (lowN (ndAt L m)).parent,Sx (lowN (ndAt L m)).tag,Sx (lowN (ndAt L m)).id,strs (lowN (ndAt L m)).classes,.imm 2 (List.map encPr (lowN (ndAt L m)).attrs),.lit (.slice none 0 0),I ((x+1:Nat):Int),I 1,I (-1)] true):=by rw [eG]; simp
    have G3:G.n=H.n+2:=by rw [eG]; rfl
    clear eG
    have hTG:=hT.new (H':=G) G1 (by omega)
    have hgG:G.get id=some (.cells (rowsE L d ch lowN).flatten ex):=by rw [G1 id hidn]; exact hg
    have hgc:=hTG.kid p c hc
    have hkl:=hgc.len
    rw [List.length_map] at hkl
    have own7:∀ (i:Nat) (c:AV),ch[i]?=some c→¬ own c (H.n+1):=fun i c hc hj=>by
      have:=(hT.kid i c hc).lt hj; omega
    have hpl:(kids L m p).length≤m:=by
      have:=List.length_filter_le (fun j:Nat=>decide (0<j)&&decide (par L j=(p:Int))) (List.range m)
      simp at this
      unfold kids
      omega
    rcases List.eq_nil_or_concat (kids L m p) with hk | ⟨l,j,hk⟩
    · rw [hk] at hkl
      simp [hkl]
      have hs:sibs L m=[]:=by rw [← kids_self hp]; exact hk
      refine J0_sp hB hm hN hmp hp hpm hTG ?_ (by omega) (by omega) (by omega) own7 h
      rw [G2]
      unfold rowE
      rw [hdm]
      simp [place,before,lastI,hs,encNd]
    · rw [List.concat_eq_append] at hk
      rw [hk,List.length_append,List.length_singleton] at hkl
      have hll:l.length+1≤m:=by rw [hk] at hpl; simpa using hpl
      obtain ⟨cid,cex,rfl,hcg⟩:∃ cid cex,c=.sl cid 0 1 (l.length+1) none∧G.get cid=some (.cells (((l++[j]).map fun j:Nat=>[I j]).flatten) cex):=by
        rw [hk] at hgc
        generalize hr:((l++[j]).map fun j:Nat=>[I (j:Int)])=rr at hgc
        have hrl:rr.length=l.length+1:=by rw [← hr]; simp
        cases hgc with
        | nil=>simp at hrl
        | sl hlt hg hsz=>exact ⟨_,_,by rw [hrl],hg⟩
      have hd:((l.map fun j:Nat=>[I (j:Int)]).flatten++[I (j:Int)]).drop l.length=[I (j:Int)]:=by
        have:(l.map fun j:Nat=>[I (j:Int)]).flatten.length=l.length:=by
          rw [flatten_len (sz:=1) (fun row hrow=>by obtain ⟨x,_,rfl⟩:=List.mem_map.1 hrow; rfl)]; simp
        rw [List.drop_append_of_le_length (by omega),List.drop_of_length_le (by omega)]
        rfl
      have e1:wr .i64 (((l.length+1:Nat):Int)+1)=(l.length:Int)+1+1:=by rw [wr64 (by omega) (by omega)]; omega
      have e2:wr .i64 (((l.length+1:Nat):Int) - 1)=(l.length:Int):=by rw [wr64 (by omega) (by omega)]; omega
      have e3:(0:Int)<((l.length+1:Nat):Int):=by omega
      have e4:(l.length:Int)<((l.length+1:Nat):Int):=by omega
      simp only [hkl,bnd_some,b_gtr,ifB_lit,e3,decide_true,if_true,b_add,b_sub,e1,e2]
      rw [ix_sl (by omega) e4]
      have cid7:cid≠H.n+1:=fun e=>own7 p _ hc e
      have id7:id≠H.n+1:=i2
      have hs:=sibs_last hp hk
      simp [hcg,hd,G2,cid7,hgG,h5,encNd,id7]
      refine J0_sp hB hm hN hmp hp hpm (hT.new (fun j hj=>?_) ?_) ?_ ?_ (by omega) (by omega) own7 h
      · have a2:j≠H.n+1:=by omega
        simp [a2,G1 j hj]
      · simp; omega
      · simp [rowE,encNd]
        rw [← List.getD_eq_getElem?_getD,hdm,hs.1,hs.2]
        simp
      · simp; omega
theorem domNew_L0 {L:List Nd} {d:List Nat} (hB:Built L L.length d) (hW:∀ n ∈ L,NdWf n) (hN:L.length≤4096) {t:Nat} {K:AV→Hp→Prop} (h:∀ H sl ch,TreeH L d H t L.length sl ch→K (.tup [.ptr t 0,I 0]) H) :
  ∀ (k m:Nat) (H:Hp) (sl:AV) (ch:List AV),L.length - m=k→m≤L.length→TreeH L d H t m sl ch→dom_New.L0 σ K (.ptr t 0) (nds L) (I L.length) (I m) H:=by
 intro k
 induction k with
 | zero =>
  intro m H sl ch hk hm hT
  have:m=L.length:=by omega
  subst this
  refine dom_New.L0_step ?_
  simp
  exact h H sl ch hT
 | succ k ih =>
  intro m H sl ch hk hm hT
  have hlt:m<L.length:=by omega
  have hget:L[m]?=some (ndAt L m):=by
   unfold ndAt
   rw [List.getD_eq_getElem?_getD,List.getElem?_eq_getElem hlt]; rfl
  refine dom_New.L0_step ?_
  simp [nds,hlt,ix_map hget,overlay_all]
  refine put_sp hB hW hlt hN (hT.new (fun j hj=>?_) ?_) fun H' sl' ch' hT'=>?_
  ·have a1:j≠H.n:=by omega
   simp [a1]
  ·simp
  ·simp
   rw [wr_succ (by omega)]
   exact ih (m+1) H' sl' ch' (by omega) (by omega) hT'
def elC (L:List Nd) (i:Nat):AV:=.imm 1 ((kids L L.length i).map fun j:Nat=>[I j])
def elE (L:List Nd) (d:List Nat) (i:Nat):List AV:=rowE L d i (elC L i) lowN
def domT (L:List Nd) (d:List Nat):AV:=.ip [.imm 9 ((List.range L.length).map (elE L d))]
theorem noId_elC (L:List Nd) (i:Nat):noId (elC L i)=true:=by unfold elC; simp only [noId]; exact noIds_map _ (fun _=>rfl) _
theorem noIds_app:∀ {a b:List AV},noIds a=true→noIds b=true→noIds (a++b)=true
 | [],b,_,h=>h
 | x::a,b,ha,hb=>by
  simp only [noIds,Bool.and_eq_true] at ha
  simp only [List.cons_append,noIds,ha.1,noIds_app ha.2 hb,Bool.and_self]
theorem noId_elE (L:List Nd) (d:List Nat) (i:Nat):noIds (elE L d i)=true:=by
 unfold elE rowE
 exact noIds_app (noId_Nd _) (by simp only [noIds,noId_elC,noId,Bool.and_self])
theorem noId_domT (L:List Nd) (d:List Nat):noId (domT L d)=true:=by
 unfold domT
 simp only [noId,noIds,noIds_map _ (noId_elE L d),Bool.and_self]
theorem rows_fz {L:List Nd} {d:List Nat} {H:Hp} {ch:List AV} (hl:ch.length=L.length) (hk:∀ (i:Nat) (c:AV),ch[i]?=some c→Gs 1 H c ((kids L L.length i).map fun j:Nat=>[I j])) {sl:AV} (hg:Gs 9 H sl (rowsE L d ch lowN)) :
  Fz H sl (.imm 9 ((List.range L.length).map (elE L d))):=by
 generalize hr:rowsE L d ch lowN=rr at hg
 have hrl:rr.length=L.length:=by rw [← hr,rowsE_len,hl]
 cases hg with
 | nil =>
  have:L.length=0:=by simpa using hrl.symm
  rw [this]; exact .nil
 | sl hlt hg hsz =>
  have rowAt:∀ (i:Nat) (row:List AV),((List.range L.length).map (elE L d))[i]?=some row→∃ c,ch[i]?=some c∧row=elE L d i:=by
   intro i row h
   rw [List.getElem?_map,Option.map_eq_some_iff] at h
   obtain ⟨x,hx,rfl⟩:=h
   have hi:=(List.getElem?_eq_some_iff.1 hx).1
   simp at hi
   rw [List.getElem?_range hi] at hx
   cases hx
   obtain ⟨c,hc⟩:=get_lt (l:=ch) (k:=i) (by omega)
   exact ⟨c,hc,rfl⟩
  refine .sl (fun i j=>(rowE L d i (ch.getD i .any) lowN).getD j .any) hg (by simp [hrl]) (fun i row h=>?_) (fun i row j y h hj=>?_) (fun i row j y h hj=>?_)
  ·obtain ⟨c,_,rfl⟩:=rowAt i row h; rfl
  ·obtain ⟨c,hc,rfl⟩:=rowAt i row h
   have hj9:j<9:=by have:=(List.getElem?_eq_some_iff.1 hj).1; simpa [elE] using this
   have e:=rowsE_get (L:=L) (d:=d) (low:=lowN) hc
   rw [hr] at e
   have hcd:ch.getD i .any=c:=by rw [List.getD_eq_getElem?_getD,hc]; rfl
   rw [Nat.zero_add]
   have hz:(rowE L d i c lowN)[j]?=some ((rowE L d i c lowN).getD j .any):=by
    rw [List.getD_eq_getElem?_getD,List.getElem?_eq_getElem (by simpa using hj9)]; rfl
   rw [hcd,rows_flat hsz i _ j _ e hz]
  ·obtain ⟨c,hc,rfl⟩:=rowAt i row h
   have hcd:ch.getD i .any=c:=by rw [List.getD_eq_getElem?_getD,hc]; rfl
   rw [hcd]
   have hcs:=hk i c hc
   have h5:=hcs.fz (noIds_map _ (fun _=>rfl) _)
   have hL:FzL H (rowE L d i c lowN) (elE L d i):=by
    unfold elE rowE encNd
    exact .cons (.refl rfl) (.cons (.refl rfl) (.cons (.refl rfl) (.cons (.refl (noId_strs _)) (.cons (.refl (by simp only [noId]; exact noIds_map _ (fun _=>rfl) _)) (.cons h5 (.cons (.refl rfl) (.cons (.refl rfl) (.cons (.refl rfl) .nil))))))))
   obtain ⟨x,hx,hf⟩:=hL.get.2 j y hj
   rw [List.getD_eq_getElem?_getD,hx]
   exact hf
theorem domNew_ok {L:List Nd} {d:List Nat} (hB:Built L L.length d) (hW:∀ n ∈ L,NdWf n) (hN:L.length≤4096) (H:Hp):Good Tryz.prog σ n_dom_New [nds L] H (.tup [domT L d,I 0]) H:=by
 obtain ⟨Q,hQ⟩:∃ Q:AV→Hp→Prop,∀ r H1,Q r H1 ↔ Fz H1 r (.tup [domT L d,I 0]):=⟨_,fun _ _=>Iff.rfl⟩
 have run:∃ r H1,Good Tryz.prog σ n_dom_New [nds L] Hp.empty r H1∧Q r H1:=by
  refine dom_New.run ?_
  have h1:¬ ((4096:Int)<(L.length:Int)):=by omega
  simp [h1,bldR]
  refine domNew_L0 hB hW hN (fun H sl ch hT=>?_) _ 0 _ (.lit (.slice none 0 0)) [] rfl (Nat.zero_le _) ⟨by simp,by simp,rfl,.nil,fun i c h=>by simp at h,fun h=>h,fun i c h=>by simp at h,fun i c h=>by simp at h,fun i i' c c' _ h=>by simp at h⟩
  rw [hQ]
  have hr:=rows_fz hT.len hT.kid hT.rows
  refine .tup rfl fun j x y hx hy=>?_
  match j with
  | 0 =>
   simp at hx hy
   subst hx; subst hy
   refine .ptr (fun _=>sl) hT.tg (fun j y hj=>?_) (fun j y hj=>?_)
   ·have:j=0:=by have:=(List.getElem?_eq_some_iff.1 hj).1; simp at this; omega
    subst this; simp
   ·have:j=0:=by have:=(List.getElem?_eq_some_iff.1 hj).1; simp at this; omega
    subst this
    simp at hj
    rw [← hj]; exact hr
  | 1=>simp at hx hy; subst hx; subst hy; exact .refl rfl
  | j+2=>simp at hx
 obtain ⟨r,H1,hg,hf⟩:=run
 rw [hQ] at hf
 exact hg.frzR (by simp [noIds]) hf H
end Go.Proofs.YthdcghnjndhecaaGreat.Ev
namespace Go.Proofs.YthdcghnjndhecaaGreat.Ev
set_option linter.unusedVariables false
set_option linter.unusedSimpArgs false
variable {σ:Sig}
end Go.Proofs.YthdcghnjndhecaaGreat.Ev
namespace Go.Proofs.YthdcghnjndhecaaGreat.Ev
set_option linter.unusedVariables false
set_option linter.unusedSimpArgs false
variable {σ:Sig}
theorem range_get {n k:Nat} (h:k<n):(List.range n)[k]?=some k:=by
 rw [List.getElem?_range h]
theorem at_ok (L:List Nd) (d:List Nat) (hN:L.length≤4096) {e:Nat} (he:e<L.length) (H:Hp):Good Tryz.prog σ n_dom_Tree_at [domT L d,I (e:Int)] H (.agg (elE L d e)) H:=by
 obtain ⟨Q,hQ⟩:∃ Q:AV→Hp→Prop,∀ r H1,Q r H1 ↔ r=.agg (elE L d e):=⟨_,fun _ _=>Iff.rfl⟩
 have run:∃ r H1,Good Tryz.prog σ n_dom_Tree_at [domT L d,I (e:Int)] Hp.empty r H1∧Q r H1:=by
  refine dom_Tree_at.run ?_
  have h1:¬ ((e:Int)<0):=by omega
  have h2:¬ ((L.length:Int)≤e):=by omega
  have h3:¬ (L.length≤e):=by omega
  have hl:(elE L d e).length=9:=rfl
  have ho:(elE L d e).all AV.one=true:=by simp [elE,rowE,encNd,elC]
  have ho':∀ x ∈ elE L d e,AV.one x=true:=List.all_eq_true.1 ho
  simp [domT,h1,h2,h3,ix_map (range_get he)]
  simp only [ldL_all hl,bnd_some]
  simp [hl,overlay_all]
  rw [if_pos ho',bnd_some]
  simp [ldL_all hl,hQ]
 obtain ⟨r,H1,hg,hr⟩:=run
 rw [hQ] at hr
 subst hr
 exact hg.frzR (by simp [noIds,noId_domT,noId]) (.refl (by simp only [noId]; exact noId_elE L d e)) H
theorem View_ok (L:List Nd) (d:List Nat) (hN:L.length≤4096) {e:Nat} (he:e<L.length) (H:Hp):Good Tryz.prog σ n_dom_Tree_View [domT L d,I (e:Int)] H (.agg (encNd (lowN (ndAt L e)))) H:=by
 obtain ⟨Q,hQ⟩:∃ Q:AV→Hp→Prop,∀ r H1,Q r H1 ↔ r=.agg (encNd (lowN (ndAt L e))):=⟨_,fun _ _=>Iff.rfl⟩
 have run:∃ r H1,Good Tryz.prog σ n_dom_Tree_View [domT L d,I (e:Int)] Hp.empty r H1∧Q r H1:=by
  refine dom_Tree_View.run ?_
  simp
  refine callK_of (at_ok L d hN he _) ?_
  have:(elE L d e).take 5=encNd (lowN (ndAt L e)):=rfl
  simp [this,overlay_all,hQ]
  rw [overlay_all (by simp),ldL_nd]
  rfl
 obtain ⟨r,H1,hg,hr⟩:=run
 rw [hQ] at hr
 subst hr
 exact hg.frzR (by simp [noIds,noId_domT,noId]) (.refl (by simp only [noId]; exact noId_Nd _)) H
theorem Parent_ok (L:List Nd) (d:List Nat) (hN:L.length≤4096) {e:Nat} (he:e<L.length) (H:Hp):Good Tryz.prog σ n_dom_Tree_Parent [domT L d,I (e:Int)] H (I (par L e)) H:=by
 refine good_by (fun K hK=>dom_Tree_Parent.run ?_) (by simp [noIds,noId_domT,noId]) rfl H
 have h1:¬ ((e:Int)<0):=by omega
 have h2:¬ ((L.length:Int)≤e):=by omega
 have h3:¬ (L.length≤e):=by omega
 simp [domT,h1,h2,h3,ix_map (range_get he),elE,rowE,encNd]
 exact hK _
theorem Place_ok (L:List Nd) (d:List Nat) (hN:L.length≤4096) {e:Nat} (he:e<L.length) (H:Hp):Good Tryz.prog σ n_dom_Tree_Place [domT L d,I (e:Int)] H (I (place L e)) H:=by
 refine good_by (fun K hK=>dom_Tree_Place.run ?_) (by simp [noIds,noId_domT,noId]) rfl H
 refine callK_of (at_ok L d hN he _) ?_
 simp [elE,rowE,encNd]
 exact hK _
theorem Before_ok (L:List Nd) (d:List Nat) (hN:L.length≤4096) {e:Nat} (he:e<L.length) (H:Hp):Good Tryz.prog σ n_dom_Tree_Before [domT L d,I (e:Int)] H (I (before L e)) H:=by
 refine good_by (fun K hK=>dom_Tree_Before.run ?_) (by simp [noIds,noId_domT,noId]) rfl H
 refine callK_of (at_ok L d hN he _) ?_
 simp [elE,rowE,encNd]
 exact hK _
def childI (L:List Nd) (e k:Nat):Int:=match (kids L L.length e)[k]? with | some j=>j | none=>-1
theorem Child_ok (L:List Nd) (d:List Nat) (hN:L.length≤4096) {e k:Nat} (he:e<L.length) (H:Hp):Good Tryz.prog σ n_dom_Tree_Child [domT L d,I (e:Int),I (k:Int)] H (I (childI L e k)) H:=by
 refine good_by (fun K hK=>dom_Tree_Child.run ?_) (by simp [noIds,noId_domT,noId]) rfl H
 refine callK_of (at_ok L d hN he _) ?_
 simp [elE,rowE,encNd,elC]
 split
 ·rename_i h
  have hget:(kids L L.length e)[k]?=some (kids L L.length e)[k]:=List.getElem?_eq_getElem h
  simp [ix_map hget]
  have:=hK Hp.empty
  simpa [childI,hget] using this
 ·rename_i h
  have hget:(kids L L.length e)[k]?=none:=List.getElem?_eq_none (by omega)
  have:=hK Hp.empty
  simpa [childI,hget] using this
theorem Len_ok (L:List Nd) (d:List Nat) (H:Hp):Good Tryz.prog σ n_dom_Tree_Len [domT L d] H (I (L.length:Int)) H:=by
 refine good_by (fun K hK=>dom_Tree_Len.run ?_) (by simp [noIds,noId_domT]) rfl H
 simp [domT]
 exact hK _
theorem is_ok (L:List Nd) (d:List Nat) (e:Int) (H:Hp):Good Tryz.prog σ n_match_is [domT L d,I e] H (Bo (decide (0≤e)&&decide (e<L.length))) H:=by
 refine good_by (fun K hK=>match_is.run ?_) (by simp [noIds,noId_domT,noId]) rfl H
 have e1:eqPtrR .neq (domT L d) (.lit (.pointer none))=some (Bo true):=rfl
 rw [e1]
 simp
 split
 ·rename_i h
  refine callK_of (Len_ok L d _) ?_
  simp
  simpa [h] using hK Hp.empty
 ·rename_i h
  simpa [h] using hK Hp.empty
def lastB (L:List Nd) (e:Nat):Bool:=decide (par L e<0)||decide (childI L (par L e).toNat (place L e).toNat<0)
theorem par_bd {L:List Nd} {N:Nat} {d:List Nat} (hB:Built L N d) {e:Nat} (he:e<N):par L e=-1∨∃ p:Nat,par L e=p∧p<e:=by
 by_cases h0:e=0
 ·subst h0; exact .inl (hB.root he).1
 ·obtain ⟨p,x,h1,h2,_⟩:=hB.step e (by omega) he
  exact .inr ⟨p,h1,h2⟩
end Go.Proofs.YthdcghnjndhecaaGreat.Ev
namespace Go.Proofs.YthdcghnjndhecaaGreat.Ev
set_option linter.unusedVariables false
set_option linter.unusedSimpArgs false
variable {σ:Sig}
def HasC (σ:Sig):Prop:=∀ (s t:ByteArray) (H:Hp),s.data.size<4294967281→Good Tryz.prog σ n_strings_Contains [Sx s,Sx t] H (Bo (decide (0≤Go.Lib.index (tl s) (tl t)))) H
theorem white_ok (c:UInt8) (H:Hp):Good Tryz.prog σ n_match_white [.lit (.int .u8 c.toNat)] H (Bo (wht c)) H:=by
  refine good_by (fun K hK=>match_white.run ?_) (by simp [noIds,noId]) rfl H
  have hK:=hK Hp.empty
  simp only [b_eql,bnd_some,ifB_lit,decide_eq_true_eq]
  split
  · rename_i h
    rwa [show wht c = true by have : c.toNat = 9 := by omega
                              simp [wht,this]] at hK
  rename_i h9
  split
  · rename_i h
    rwa [show wht c = true by have : c.toNat = 10 := by omega
                              simp [wht,this]] at hK
  rename_i h10
  split
  · rename_i h
    rwa [show wht c = true by have : c.toNat = 12 := by omega
                              simp [wht,this]] at hK
  rename_i h12
  split
  · rename_i h
    rwa [show wht c = true by have : c.toNat = 13 := by omega
                              simp [wht,this]] at hK
  rename_i h13
  have e:wht c=decide ((c.toNat:Int)=32):=by
    have a9:¬ c.toNat=9:=by omega
    have a10:¬ c.toNat=10:=by omega
    have a12:¬ c.toNat=12:=by omega
    have a13:¬ c.toNat=13:=by omega
    by_cases h:c.toNat=32
    · simp [wht,h]
    · have h':¬ ((c.toNat:Int)=32):=by omega
      simp [wht,a9,a10,a12,a13,h,h']
  rwa [e] at hK
theorem preL_ok (s p:ByteArray) (H:Hp):Good Tryz.prog σ n_internal_stringslite_HasPrefix [Sx s,Sx p] H (Bo (preB (tl s) (tl p))) H:=by
 refine good_by (fun K hK=>internal_stringslite_HasPrefix.run ?_) (by simp [noIds,noId]) rfl H
 simp only [len_str,bnd_some,b_geq,ifB_lit,decide_eq_true_eq]
 split
 ·rename_i h
  rw [sl_str0 (by omega),bnd_some]
  simp only [b_seql,bnd_some]
  have:=pre_take (tl s) (tl p) (by rw [tl_len,tl_len]; omega)
  rw [tl_len,mk_tl] at this
  rw [this]
  exact hK _
 ·rename_i h
  have:=pre_long (s:=tl s) (p:=tl p) (by rw [tl_len,tl_len]; omega)
  rw [this] at hK
  exact hK _
theorem pre_ok (s p:ByteArray) (H:Hp):Good Tryz.prog σ n_strings_HasPrefix [Sx s,Sx p] H (Bo (preB (tl s) (tl p))) H :=
 good_by (fun K hK=>strings_HasPrefix.run (callK_of (preL_ok s p _) (hK _))) (by simp [noIds,noId]) rfl H
theorem sufL_ok (s p:ByteArray) (hs:s.data.size<9000000000000000000) (H:Hp):Good Tryz.prog σ n_internal_stringslite_HasSuffix [Sx s,Sx p] H (Bo (sufB (tl s) (tl p))) H:=by
 refine good_by (fun K hK=>internal_stringslite_HasSuffix.run ?_) (by simp [noIds,noId]) rfl H
 simp only [len_str,bnd_some,b_geq,ifB_lit,decide_eq_true_eq]
 split
 ·rename_i h
  simp only [b_sub,bnd_some]
  have e:wr .i64 ((s.data.size:Int) - p.data.size)=((s.data.size - p.data.size:Nat):Int):=by rw [wr64 (by omega) (by omega)]; omega
  rw [e,sl_strE (by omega),bnd_some]
  simp only [b_seql,bnd_some]
  have:=suf_drop (tl s) (tl p) (by rw [tl_len,tl_len]; omega)
  rw [tl_len,tl_len,mk_tl] at this
  rw [this]
  exact hK _
 ·rename_i h
  have:=suf_long (s:=tl s) (p:=tl p) (by rw [tl_len,tl_len]; omega)
  rw [this] at hK
  exact hK _
theorem suf_ok (s p:ByteArray) (hs:s.data.size<9000000000000000000) (H:Hp):Good Tryz.prog σ n_strings_HasSuffix [Sx s,Sx p] H (Bo (sufB (tl s) (tl p))) H :=
 good_by (fun K hK=>strings_HasSuffix.run (callK_of (sufL_ok s p hs _) (hK _))) (by simp [noIds,noId]) rfl H
def hasB (l:List ByteArray) (s:ByteArray):Bool:=l.any fun x=>decide (x=s)
theorem has_L0 {l:List ByteArray} (hl:l.length≤reachBytes) {s:ByteArray} {K:AV→Hp→Prop}:∀ (m k:Nat) (H:Hp),l.length - m=k→m≤l.length→(∀ H,K (Bo (hasB (l.drop m) s)) H)→match_has.L0 σ K (Sx s) (strs l) (I l.length) (I m) H:=by
 intro m k
 revert m
 induction k with
 | zero =>
  intro m H hk hm hK
  have:m=l.length:=by omega
  subst this
  refine match_has.L0_step ?_
  simp
  simpa [hasB] using hK H
 | succ k ih =>
  intro m H hk hm hK
  have hlt:m<l.length:=by omega
  obtain ⟨x,hx⟩:=get_lt hlt
  rw [drop_get hx] at hK
  refine match_has.L0_step ?_
  simp [strs,hlt,ix_map hx]
  split
  ·rename_i h
   have:=hK H
   simpa [hasB,h] using this
  ·rename_i h
   rw [wr_succL hlt hl (by decide)]
   refine ih (m+1) H (by omega) (by omega) fun H'=>?_
   have:=hK H'
   simpa [hasB,h] using this
theorem has_ok (l:List ByteArray) (hl:l.length≤reachBytes) (s:ByteArray) (H:Hp):Good Tryz.prog σ n_match_has [strs l,Sx s] H (Bo (hasB l s)) H:=by
 refine good_by (fun K hK=>match_has.run ?_) (by simp [noIds,noId]) rfl H
 simp
 exact has_L0 hl 0 _ _ rfl (Nat.zero_le _) (by simpa using hK)
section
attribute [local irreducible] match_words_1.L0 match_words_1.L1
theorem word_round {js:Nat→AV} {K:AV→Hp→Prop} {H:Hp} {w t:ByteArray} {b:AV} (g0:H.get 0=some (.cells [Sx t] true)) (g1:H.get 1=some (.cells [b] true)) (g3:H.get 3=some (.loop (match_word.R0 js (.ptr 0 0) (.ptr 1 0)) .ready none))
  (hT:w=t→K (Bo false) (((H.set 3 (some (.loop (match_word.R0 js (.ptr 0 0) (.ptr 1 0)) .busy none))).set 1 (some (.cells [Bo true] true))).set 3 (some (.loop (match_word.R0 js (.ptr 0 0) (.ptr 1 0)) .done (some .ret)))))
  (hF:w≠t→K (Bo true) ((H.set 3 (some (.loop (match_word.R0 js (.ptr 0 0) (.ptr 1 0)) .busy none))).set 3 (some (.loop (match_word.R0 js (.ptr 0 0) (.ptr 1 0)) .ready none)))):callV Tryz.prog σ (.yl 3) [Sx w] H K:=by
 refine match_word.R0_round g3 ⟨g3,?_⟩
 simp only [bnd_some,ld_ptr,hp_get_set]
 simp only [show ¬ ((0:Nat)=3) by decide,if_false,g0,ldO_cells,List.drop_zero,ldL_one,bnd_some,b_seql,ifB_lit,decide_eq_true_eq]
 split
 ·rename_i h
  simp only [st_bool,hp_get_set,show ¬ ((1:Nat)=3) by decide,if_false,g1,stO_cells]
  rw [if_pos (by simp),bnd_some]
  refine ⟨by simp,?_⟩
  simpa using hT h
 ·rename_i h
  exact ⟨by simp,hF h⟩
theorem ld2 {H:Hp} {id:Nat} {x:AV} (g:H.get id=some (.cells [x] true)):ldA false 1 H (.ptr id 0)=some x:=by simp [g]
theorem words_L0 {js:Nat→AV} {K:AV→Hp→Prop} {t:ByteArray} {b:AV} {N:Nat} (hN:N<9000000000000000000):∀ (f:Nat) (l:List UInt8) (H:Hp) (y3:AV),l.length<f→l.length≤N→H.get 0=some (.cells [Sx t] true)→H.get 1=some (.cells [b] true)→H.get 2=some (.cells [Sx (mk l)] true)→H.get 3=some (.loop (match_word.R0 js (.ptr 0 0) (.ptr 1 0)) .ready none) →
  (tl t ∈ wordsB l→∀ H,H.get 1=some (.cells [Bo true] true)→H.get 3=some (.loop (match_word.R0 js (.ptr 0 0) (.ptr 1 0)) .done (some .ret))→K (.tup []) H) →
  (tl t ∉ wordsB l→∀ H,H.get 1=some (.cells [b] true)→H.get 3=some (.loop (match_word.R0 js (.ptr 0 0) (.ptr 1 0)) .ready none)→K (.tup []) H) →
  match_words_1.L0 σ K (.yl 3) (.ptr 2 0) y3 H:=by
 intro f
 induction f with
 | zero=>intro l H y3 h; omega
 | succ f ih =>
  intro l H y3 hf hlN g0 g1 g2 g3 hT hF
  refine match_words_1.L0_step ?_
  simp only [ld2 g2,bnd_some,b_sneq,ifB_lit]
  by_cases hl:l=[]
  ·subst hl
   simp only [show (mk []=(⟨#[]⟩:ByteArray)) from rfl,decide_true,Bool.not_true,Bool.false_eq_true,if_false]
   exact hF (by simp [wordsB_nil]) H g1 g3
  ·have hmk:¬ (mk l=⟨#[]⟩):=fun h=>hl (mk_inj (h.trans (show (⟨#[]⟩:ByteArray)=mk [] from rfl)))
   have hpos:0<l.length:=List.length_pos_iff.2 hl
   simp only [hmk,decide_false,Bool.not_false,if_true]
   have hwl:=wl_le l
   rw [wordsB_eq hl] at hT hF
   have hsz:(mk l).data.size=l.length:=mk_size l
   have rest:∀ (H:Hp),H.get 0=some (.cells [Sx t] true)→H.get 1=some (.cells [b] true)→H.get 2=some (.cells [Sx (mk l)] true)→H.get 3=some (.loop (match_word.R0 js (.ptr 0 0) (.ptr 1 0)) .ready none) →
     (wl l=0∨tl t≠l.take (wl l)) →
     bnd (ldA false 1 H (.ptr 2 0)) fun x23=>bnd (binR .add (I (wl l:Nat)) (I 1)) fun x24=>bnd (ldA false 1 H (.ptr 2 0)) fun x25=>bnd (lenStr x25) fun x26=>bnd (minA [x24,x26]) fun x27=>bnd (slStr x23 (some x27) none) fun x28=>bnd (stA 1 H (.ptr 2 0) x28) fun H29=>match_words_1.L0 σ K (.yl 3) (.ptr 2 0) (I (wl l:Nat)) H29:=by
    intro H g0 g1 g2 g3 hno
    simp only [ld2 g2,bnd_some,b_add,len_str,hsz]
    rw [wr_succ (by omega)]
    have hmin:minA [I ((wl l+1:Nat):Int),I (l.length:Int)]=some (I ((min (wl l+1) l.length:Nat):Int)):=by
     simp only [minA,toI,List.foldl,minStep]
     congr 2
     split
     ·congr 2; omega
     ·congr 2; omega
    rw [hmin,bnd_some,sl_strE (by rw [hsz]; omega),bnd_some]
    simp only [st_str,g2,stO_cells]
    rw [if_pos (by simp),bnd_some,tl_mk]
    have hdrop:l.drop (min (wl l+1) l.length)=l.drop (wl l+1):=by
     by_cases h:wl l+1≤l.length
     ·rw [Nat.min_eq_left h]
     ·rw [Nat.min_eq_right (by omega),List.drop_of_length_le (Nat.le_refl _),List.drop_of_length_le (by omega)]
    rw [hdrop]
    refine ih (l.drop (wl l+1)) _ _ (by simp; omega) (by simp; omega) (by simp [g0]) (by simp [g1]) (by simp) (by simp [g3]) (fun h=>hT ?_) (fun h=>hF ?_)
    ·split
     ·rename_i h0; rw [h0] at h; exact h
     ·exact List.mem_cons_of_mem _ h
    ·split
     ·rename_i h0; rw [h0] at h; exact h
     ·rename_i h0
      rcases hno with h1 | h1
      ·exact absurd h1 h0
      ·intro hm
       rcases List.mem_cons.1 hm with h2 | h2
       ·exact h1 h2
       ·exact h h2
   have stop:∀ (H:Hp),H.get 0=some (.cells [Sx t] true)→H.get 1=some (.cells [b] true)→H.get 2=some (.cells [Sx (mk l)] true)→H.get 3=some (.loop (match_word.R0 js (.ptr 0 0) (.ptr 1 0)) .ready none) →
     bnd (binR .gtr (I (wl l:Nat)) (I 0)) fun x10=>ifB x10 (bnd (ldA false 1 H (.ptr 2 0)) fun x11=>bnd (slStr x11 none (some (I (wl l:Nat)))) fun x12=>callV Tryz.prog σ (.yl 3) [x12] H fun x13 H14=>bnd (unR .not x13) fun x15=>ifB x15 (K (.tup []) H14) (bnd (ldA false 1 H14 (.ptr 2 0)) fun x16=>bnd (binR .add (I (wl l:Nat)) (I 1)) fun x17=>bnd (ldA false 1 H14 (.ptr 2 0)) fun x18=>bnd (lenStr x18) fun x19=>bnd (minA [x17,x19]) fun x20=>bnd (slStr x16 (some x20) none) fun x21=>bnd (stA 1 H14 (.ptr 2 0) x21) fun H22=>match_words_1.L0 σ K (.yl 3) (.ptr 2 0) (I (wl l:Nat)) H22))
      (bnd (ldA false 1 H (.ptr 2 0)) fun x23=>bnd (binR .add (I (wl l:Nat)) (I 1)) fun x24=>bnd (ldA false 1 H (.ptr 2 0)) fun x25=>bnd (lenStr x25) fun x26=>bnd (minA [x24,x26]) fun x27=>bnd (slStr x23 (some x27) none) fun x28=>bnd (stA 1 H (.ptr 2 0) x28) fun H29=>match_words_1.L0 σ K (.yl 3) (.ptr 2 0) (I (wl l:Nat)) H29):=by
    intro H g0 g1 g2 g3
    simp only [b_gtr,bnd_some,ifB_lit,decide_eq_true_eq]
    split
    ·rename_i h0
     have h0':wl l≠0:=by omega
     rw [if_neg h0'] at hT hF
     simp only [ld2 g2,bnd_some]
     rw [sl_str0 (by rw [hsz]; omega),bnd_some,tl_mk]
     refine word_round g0 g1 g3 (fun he=>?_) (fun he=>?_)
     ·simp only [u_not,bnd_some,ifB_lit,Bool.not_false,if_true]
      refine hT ?_ _ (by simp) (by simp)
      rw [← he,tl_mk]; simp
     ·simp only [u_not,bnd_some,ifB_lit,Bool.not_true,Bool.false_eq_true,if_false]
      refine rest _ ?_ ?_ ?_ ?_ (.inr fun h=>he ?_)
      ·simp [g0]
      ·simp [g1]
      ·simp [g2]
      ·simp
      ·rw [← h,mk_tl]
    ·rename_i h0
     exact rest H g0 g1 g2 g3 (.inl (by omega))
   have L1:∀ (m k:Nat) (H:Hp),wl l - k=m→k≤wl l→H.get 0=some (.cells [Sx t] true)→H.get 1=some (.cells [b] true)→H.get 2=some (.cells [Sx (mk l)] true)→H.get 3=some (.loop (match_word.R0 js (.ptr 0 0) (.ptr 1 0)) .ready none)→match_words_1.L1 σ K (.yl 3) (.ptr 2 0) (I (k:Int)) H:=by
    intro m
    induction m with
    | zero =>
     intro k H hm hk g0 g1 g2 g3
     have:k=wl l:=by omega
     subst this
     refine match_words_1.L1_step ?_
     simp only [ld2 g2,bnd_some,len_str,hsz,b_lss,ifB_lit,decide_eq_true_eq]
     split
     ·rename_i hlt
      obtain ⟨c,hc⟩:=get_lt (l:=l) (k:=wl l) (by omega)
      rw [ix_str (by rw [tl_mk]; exact hc),bnd_some]
      refine callK_of (white_ok c H) ?_
      rw [wl_at hc]
      simp only [u_not,bnd_some,ifB_lit,Bool.not_true,Bool.false_eq_true,if_false]
      exact stop H g0 g1 g2 g3
     ·have:=stop H g0 g1 g2 g3
      simp only [ld2 g2,bnd_some] at this
      exact this
    | succ m ihm =>
     intro k H hm hk g0 g1 g2 g3
     obtain ⟨c,hc,hw⟩:=wl_lt (l:=l) (k:=k) (by omega)
     have hkl:=(List.getElem?_eq_some_iff.1 hc).1
     refine match_words_1.L1_step ?_
     have h1:(k:Int)<l.length:=by omega
     simp only [ld2 g2,bnd_some,len_str,hsz,b_lss,ifB_lit,decide_eq_true_eq,h1,if_true]
     rw [ix_str (by rw [tl_mk]; exact hc),bnd_some]
     refine callK_of (white_ok c H) ?_
     rw [hw]
     simp only [u_not,bnd_some,ifB_lit,Bool.not_false,if_true,b_add]
     rw [wr_succ (by omega)]
     exact ihm (k+1) H (by omega) (by omega) g0 g1 g2 g3
   exact L1 _ 0 H rfl (Nat.zero_le _) g0 g1 g2 g3
end
def wordB (s t:ByteArray):Bool:=decide (tl t ∈ wordsB (tl s))
theorem word_ok (s t:ByteArray) (hs:s.data.size<9000000000000000000) (H:Hp):Good Tryz.prog σ n_match_word [Sx s,Sx t] H (Bo (wordB s t)) H:=by
 refine good_by (fun K hK=>match_word.run ?_) (by simp [noIds,noId]) rfl H
 have hbx:∀ (x:ByteArray) (H:Hp) (K:AV→Hp→Prop),boxK (Sx x) H K=K (.ptr H.n 0) (H.new (.cells [Sx x] true)):=fun x H K=>boxK_one rfl rfl H K
 rw [hbx]
 simp only [allocK_eq]
 refine match_words.run ?_
 rw [hbx]
 intro js
 simp only [rangeK_fn]
 refine match_words_1.run ?_
 refine words_L0 (js:=js) (t:=t) (b:=Bo false) (N:=(tl s).length) (by rw [tl_len]; exact hs) ((tl s).length+1) (tl s) _ _ (by omega) (Nat.le_refl _) (by simp [Hp.empty]) (by simp [Hp.empty]) (by simp [Hp.empty]) (by simp [Hp.empty]) (fun hm H g1 g3=>?_) (fun hm H g1 g3=>?_)
 ·have e3:H.get (((Hp.empty.new (Blk.cells [Sx t] true)).new (Blk.cells [AV.lit (Value.bool false)] true)).new (Blk.cells [Sx s] true)).n=some (.loop (match_word.R0 js (.ptr 0 0) (.ptr 1 0)) .done (some .ret)):=g3
  rw [e3,endK_ret]
  have g1':(H.set (((Hp.empty.new (Blk.cells [Sx t] true)).new (Blk.cells [AV.lit (Value.bool false)] true)).new (Blk.cells [Sx s] true)).n none).get (Hp.empty.new (Blk.cells [Sx t] true)).n=some (.cells [Bo true] true):=by
   rw [hp_get_set,if_neg (by simp [Hp.empty])]; exact g1
  rw [ld2 g1',bnd_some]
  have:=hK (H.set (((Hp.empty.new (Blk.cells [Sx t] true)).new (Blk.cells [AV.lit (Value.bool false)] true)).new (Blk.cells [Sx s] true)).n none)
  simpa [wordB,hm] using this
 ·have e3:H.get (((Hp.empty.new (Blk.cells [Sx t] true)).new (Blk.cells [AV.lit (Value.bool false)] true)).new (Blk.cells [Sx s] true)).n=some (.loop (match_word.R0 js (.ptr 0 0) (.ptr 1 0)) .ready none):=g3
  rw [e3,endK_ready]
  have g1':(H.set (((Hp.empty.new (Blk.cells [Sx t] true)).new (Blk.cells [AV.lit (Value.bool false)] true)).new (Blk.cells [Sx s] true)).n none).get (Hp.empty.new (Blk.cells [Sx t] true)).n=some (.cells [Bo false] true):=by
   rw [hp_get_set,if_neg (by simp [Hp.empty])]; exact g1
  rw [st_bool,g1',stO_cells,if_pos (by simp),bnd_some,ld2 (x:=Bo false) (by simp),bnd_some]
  have hw:wordB s t=false:=by simp [wordB,hm]
  rw [hw] at hK
  exact hK _
def emp:ByteArray:=⟨#[]⟩
def soB (s:ByteArray) (a:At):Bool :=
 if a.op=0 then true else if a.op=1 then decide (s=a.text) else if a.op=2 then !decide (a.text=emp)&&wordB s a.text
 else if a.op=3 then decide (s=a.text)||preB (tl s) (tl a.text++[45]) else if a.op=4 then !decide (a.text=emp)&&preB (tl s) (tl a.text)
 else if a.op=5 then !decide (a.text=emp)&&sufB (tl s) (tl a.text) else if a.op=6 then !decide (a.text=emp)&&decide (0≤Go.Lib.index (tl s) (tl a.text)) else false
structure AtWf (a:At):Prop where
 text:a.text.data.size≤reachBytes
theorem so_ok (hC:HasC σ) (s:ByteArray) (hs:s.data.size<4294967281) (a:At) (ha:AtWf a) (H:Hp):Good Tryz.prog σ n_match_so [Sx s,.agg (encAt a)] H (Bo (soB s a)) H:=by
 refine good_by (fun K hK=>match_so.run ?_) (by simp [noIds,noId,noId_At]) rfl H
 have ht:=ha.text
 rw [reach_eq] at ht
 have g:∀ {H:Hp} {j:Nat},True:=fun {_ _}=>trivial
 simp [encAt]
 unfold soB at hK
 split
 ·rename_i h; simp [h] at hK; exact hK _
 rename_i h0
 simp only [h0,if_false] at hK
 split
 ·rename_i h
  have:=hK (Hp.empty.new (.cells (encAt a) true))
  rw [if_pos h] at this
  simpa [encAt] using this
 rename_i h1
 simp only [h1,if_false] at hK
 split
 ·rename_i h
  simp only [h,if_true] at hK
  split
  ·rename_i he
   have he':a.text=emp:=he
   simp [he'] at hK
   exact hK _
  ·rename_i he
   have he':¬ (a.text=emp):=he
   simp [he'] at hK
   exact callK_of (word_ok s a.text (by omega) _) (hK _)
 rename_i h2
 simp only [h2,if_false] at hK
 split
 ·rename_i h
  simp only [h,if_true] at hK
  split
  ·rename_i he
   simp [he] at hK
   exact hK _
  ·rename_i he
   simp [he] at hK
   rw [b_sadd (by show a.text.data.size+1≤_; omega),bnd_some]
   have:=pre_ok (σ:=σ) s (mk (tl a.text++tl ⟨#[45]⟩))
   rw [tl_mk] at this
   exact callK_of (this _) (hK _)
 rename_i h3
 simp only [h3,if_false] at hK
 split
 ·rename_i h
  simp only [h,if_true] at hK
  split
  ·rename_i he
   have he':a.text=emp:=he
   simp [he'] at hK
   exact hK _
  ·rename_i he
   have he':¬ (a.text=emp):=he
   simp [he'] at hK
   exact callK_of (pre_ok s a.text _) (hK _)
 rename_i h4
 simp only [h4,if_false] at hK
 split
 ·rename_i h
  simp only [h,if_true] at hK
  split
  ·rename_i he
   have he':a.text=emp:=he
   simp [he'] at hK
   exact hK _
  ·rename_i he
   have he':¬ (a.text=emp):=he
   simp [he'] at hK
   exact callK_of (suf_ok s a.text (by omega) _) (hK _)
 rename_i h5
 simp only [h5,if_false] at hK
 split
 ·rename_i h
  simp only [h,if_true] at hK
  split
  ·rename_i he
   have he':a.text=emp:=he
   simp [he'] at hK
   exact hK _
  ·rename_i he
   have he':¬ (a.text=emp):=he
   simp [he'] at hK
   exact callK_of (hC s a.text _ hs) (hK _)
 ·rename_i h
  simp [h] at hK
  exact hK _
def attrB (l:List (ByteArray × ByteArray)) (a:At):Bool:=match l.find? fun p=>decide (p.1=a.name) with
 | some p=>soB p.2 a
 | none=>false
theorem attr_L0 (hC:HasC σ) {l:List (ByteArray × ByteArray)} (hl:l.length≤reachBytes) (ht:∀ p ∈ l,p.2.data.size<4294967281) {a:At} (ha:AtWf a) {K:AV→Hp→Prop} {y3:Nat}:∀ (m k:Nat) (H:Hp),l.length - m=k→m≤l.length→y3<H.n→H.get y3=some (.cells (encAt a) true)→(∀ H,K (Bo (attrB (l.drop m) a)) H)→match_attr.L0 σ K (.ptr y3 0) (.imm 2 (l.map encPr)) (I l.length) (I m) H:=by
 intro m k
 revert m
 induction k with
 | zero =>
  intro m H hk hm hn hg hK
  have:m=l.length:=by omega
  subst this
  refine match_attr.L0_step ?_
  simp
  simpa [attrB] using hK H
 | succ k ih =>
  intro m H hk hm hn hg hK
  have hlt:m<l.length:=by omega
  obtain ⟨x,hx⟩:=get_lt hlt
  have hxl:=ht x (List.mem_of_getElem? hx)
  rw [drop_get hx] at hK
  have hny:y3≠H.n:=by omega
  have h1:(m:Int)<l.length:=by omega
  refine match_attr.L0_step ?_
  have hlx:ldL true 2 (encPr x)=some (.agg (encPr x)):=rfl
  simp only [b_lss,h1,decide_true,bnd_some,ifB_lit,if_true,ix_map hx,ld_ip,hlx,allocK_eq]
  simp [encPr,hny,hg,overlay_all]
  simp only [encAt,ldL_one,bnd_some,b_seql,ifB_lit,decide_eq_true_eq]
  split
  ·rename_i h
   refine callK_of (so_ok hC x.2 hxl a ha _) ?_
   have:attrB (x::l.drop (m+1)) a=soB x.2 a:=by simp [attrB,h]
   rw [this] at hK
   exact hK _
  ·rename_i h
   rw [wr_succL hlt hl (by decide)]
   refine ih (m+1) _ (by omega) (by omega) (by simp; omega) (by simp [hny,hg,encAt]) fun H'=>?_
   have:attrB (x::l.drop (m+1)) a=attrB (l.drop (m+1)) a:=by simp [attrB,h]
   rw [this] at hK
   exact hK _
theorem attr_ok (hC:HasC σ) (n:Nd) (hl:n.attrs.length≤reachBytes) (ht:∀ p ∈ n.attrs,p.2.data.size<4294967281) (a:At) (ha:AtWf a) (H:Hp):Good Tryz.prog σ n_match_attr [.agg (encNd n),.agg (encAt a)] H (Bo (attrB n.attrs a)) H:=by
 refine good_by (fun K hK=>match_attr.run ?_) (by simp [noIds,noId,noId_At,noId_Nd]) rfl H
 simp [encNd]
 exact attr_L0 hC hl ht ha 0 _ _ rfl (Nat.zero_le _) (by simp) (by simp) (by simpa using hK)
end Go.Proofs.YthdcghnjndhecaaGreat.Ev
namespace Go.Proofs.YthdcghnjndhecaaGreat.Ev
set_option linter.unusedVariables false
set_option linter.unusedSimpArgs false
variable {σ:Sig}
structure SmN (n:Nd):Prop where
 classes:n.classes.length≤reachBytes
 attrs:n.attrs.length≤reachBytes
 texts:∀ p ∈ n.attrs,p.2.data.size<4294967281
structure CpOk (c:Cp):Prop where
 ids:c.ids.length≤reachBytes
 classes:c.classes.length≤reachBytes
 attrs:c.attrs.length≤reachBytes
 texts:∀ a ∈ c.attrs,AtWf a
 ps:c.pseudos.length≤reachBytes
def tagB (n:Nd) (c:Cp):Bool:=decide (c.tag=emp)||decide (c.tag=n.tag)
def idB (n:Nd) (x:ByteArray):Bool:=!decide (x=emp)&&decide (x=n.id)
def plainB (n:Nd) (c:Cp):Bool:=tagB n c&&(c.ids.all (idB n)&&(c.classes.all (hasB n.classes)&&c.attrs.all (attrB n.attrs)))
section
attribute [local irreducible] match_asked_plain.L0 match_asked_plain.L1 match_asked_plain.L2
theorem plain_L2 (hC:HasC σ) {n:Nd} (hn:SmN n) {c:Cp} (hc:CpOk c) {K:AV→Hp→Prop} {b7:Nat} {y5 y31 y32 y33 y47 y48 y49:AV}:∀ (m k:Nat) (H:Hp),c.attrs.length - m=k→m≤c.attrs.length→b7<H.n→H.get b7=some (.cells (encNd n) true)→(∀ H,K (Bo ((c.attrs.drop m).all (attrB n.attrs))) H) →
  match_asked_plain.L2 σ K y5 (.ptr b7 0) y31 y32 y33 y47 y48 y49 (.imm 3 (c.attrs.map encAt)) (I c.attrs.length) (I m) H:=by
 intro m k
 revert m
 induction k with
 | zero =>
  intro m H hk hm hb hg hK
  have:m=c.attrs.length:=by omega
  subst this
  refine match_asked_plain.L2_step ?_
  simp
  simpa using hK H
 | succ k ih =>
  intro m H hk hm hb hg hK
  have hlt:m<c.attrs.length:=by omega
  obtain ⟨x,hx⟩:=get_lt hlt
  rw [drop_get hx] at hK
  have h1:(m:Int)<c.attrs.length:=by omega
  have hny:b7≠H.n:=by omega
  refine match_asked_plain.L2_step ?_
  simp only [b_lss,h1,decide_true,bnd_some,ifB_lit,if_true,ix_map hx,ld_ip,ldL_at,allocK_eq]
  simp [encAt,hny,hg,overlay_all]
  have e1:ldL true 3 [Sx x.name,I x.op,Sx x.text]=some (.agg (encAt x)):=rfl
  rw [e1,bnd_some]
  refine callK_of (attr_ok hC n hn.attrs hn.texts x (hc.texts x (List.mem_of_getElem? hx)) _) ?_
  simp only [u_not,bnd_some,ifB_lit]
  cases hb2:attrB n.attrs x with
  | false =>
   simp
   simp [hb2] at hK
   exact hK _
  | true =>
   simp
   rw [wr_succL hlt hc.attrs (by decide)]
   refine ih (m+1) _ (by omega) (by omega) (by simp; omega) (by simp [hny,hg]) fun H'=>?_
   simp [hb2] at hK
   simpa using hK H'
theorem plain_L1 (hC:HasC σ) {n:Nd} (hn:SmN n) {c:Cp} (hc:CpOk c) {K:AV→Hp→Prop} {b5 b7:Nat} {y31 y32 y33 y60 y61 y62:AV}:∀ (m k:Nat) (H:Hp),c.classes.length - m=k→m≤c.classes.length→b7<H.n→H.get b7=some (.cells (encNd n) true)→H.get b5=some (.cells (encCp c) true)→(∀ H,K (Bo ((c.classes.drop m).all (hasB n.classes)&&c.attrs.all (attrB n.attrs))) H) →
  match_asked_plain.L1 σ K (.ptr b5 0) (.ptr b7 0) y31 y32 y33 (strs c.classes) (I c.classes.length) (I m) y60 y61 y62 H:=by
 intro m k
 revert m
 induction k with
 | zero =>
  intro m H hk hm hb hg hg5 hK
  have:m=c.classes.length:=by omega
  subst this
  refine match_asked_plain.L1_step ?_
  simp [hg5]
  exact plain_L2 hC hn hc 0 _ H rfl (Nat.zero_le _) hb hg (by simpa using hK)
 | succ k ih =>
  intro m H hk hm hb hg hg5 hK
  have hlt:m<c.classes.length:=by omega
  obtain ⟨x,hx⟩:=get_lt hlt
  rw [drop_get hx] at hK
  refine match_asked_plain.L1_step ?_
  have h1:(m:Int)<c.classes.length:=by omega
  simp [h1,strs,ix_map hx,hg]
  refine callK_of (has_ok n.classes hn.classes x _) ?_
  simp only [u_not,bnd_some,ifB_lit]
  cases hb2:hasB n.classes x with
  | false =>
   simp
   simp [hb2] at hK
   exact hK _
  | true =>
   simp
   rw [wr_succL hlt hc.classes (by decide)]
   refine ih (m+1) _ (by omega) (by omega) hb hg hg5 fun H'=>?_
   simp [hb2] at hK
   simpa using hK H'
theorem plain_L0 (hC:HasC σ) {n:Nd} (hn:SmN n) {c:Cp} (hc:CpOk c) {K:AV→Hp→Prop} {b5 b7:Nat} {y47 y48 y49 y60 y61 y62:AV}:∀ (m k:Nat) (H:Hp),c.ids.length - m=k→m≤c.ids.length→b7<H.n→H.get b7=some (.cells (encNd n) true)→H.get b5=some (.cells (encCp c) true)→(∀ H,K (Bo ((c.ids.drop m).all (idB n)&&(c.classes.all (hasB n.classes)&&c.attrs.all (attrB n.attrs)))) H) →
  match_asked_plain.L0 σ K (.ptr b5 0) (.ptr b7 0) (strs c.ids) (I c.ids.length) (I m) y47 y48 y49 y60 y61 y62 H:=by
 intro m k
 revert m
 induction k with
 | zero =>
  intro m H hk hm hb hg hg5 hK
  have:m=c.ids.length:=by omega
  subst this
  refine match_asked_plain.L0_step ?_
  simp [hg5]
  exact plain_L1 hC hn hc 0 _ H rfl (Nat.zero_le _) hb hg hg5 (by simpa using hK)
 | succ k ih =>
  intro m H hk hm hb hg hg5 hK
  have hlt:m<c.ids.length:=by omega
  obtain ⟨x,hx⟩:=get_lt hlt
  rw [drop_get hx] at hK
  refine match_asked_plain.L0_step ?_
  have h1:(m:Int)<c.ids.length:=by omega
  simp [h1,strs,ix_map hx,hg]
  split
  ·rename_i h
   have h':x=emp:=h
   simp [idB,h'] at hK
   exact hK _
  ·rename_i h
   have h':¬ (x=emp):=h
   split
   ·rename_i h2
    have h3:idB n x=true:=by simp [idB,h',← h2]
    simp [h3] at hK
    rw [wr_succL hlt hc.ids (by decide)]
    exact ih (m+1) _ (by omega) (by omega) hb hg hg5 fun H'=>by simpa using hK H'
   ·rename_i h2
    simp [idB,h',h2] at hK
    exact hK _
end
theorem plain_ok (hC:HasC σ) {L:List Nd} {d:List Nat} (hN:L.length≤4096) {e:Nat} (he:e<L.length) (hn:SmN (lowN (ndAt L e))) {c:Cp} (hc:CpOk c) (r:List AV) (hr:noIds r=true) (H:Hp) :
  Good Tryz.prog σ n_match_asked_plain [.ip (domT L d::r),I (e:Int),.agg (encCp c)] H (Bo (plainB (lowN (ndAt L e)) c)) H:=by
 refine good_by (fun K hK=>match_asked_plain.run ?_) (by simp [noIds,noId,noId_domT,noId_Cp,hr]) rfl H
 simp
 refine callK_of (View_ok L d hN he _) ?_
 have hgo:∀ H b5 b7,b7<H.n→H.get b7=some (.cells (encNd (lowN (ndAt L e))) true)→H.get b5=some (.cells (encCp c) true)→tagB (lowN (ndAt L e)) c=true→match_asked_plain.L0 σ K (.ptr b5 0) (.ptr b7 0) (strs c.ids) (I c.ids.length) (I 0) (.lit undef) (.lit undef) (.lit undef) (.lit undef) (.lit undef) (.lit undef) H:=by
  intro H b5 b7 hb hg hg5 ht
  unfold plainB at hK
  rw [ht,Bool.true_and] at hK
  exact plain_L0 hC hn hc 0 _ H rfl (Nat.zero_le _) hb hg hg5 (by simpa using hK)
 have hov:overlay [I 0,Sx ⟨#[]⟩,Sx ⟨#[]⟩,.lit (.slice none 0 0),.lit (.slice none 0 0)] 0 (encNd (lowN (ndAt L e)))=encNd (lowN (ndAt L e)):=overlay_all (by simp)
 simp [hov]
 split
 ·rename_i h
  exact hgo _ _ _ (by simp) (by simp) (by simp) (by simp [tagB,show c.tag=emp from h])
 ·rename_i h
  have h':¬ (c.tag=emp):=h
  split
  ·rename_i h2
   refine hgo _ _ _ (by simp) (by simp) (by simp) ?_
   simp [tagB,h2]
  ·rename_i h2
   have:tagB (lowN (ndAt L e)) c=false:=by simp [tagB,h',h2]
   unfold plainB at hK
   rw [this,Bool.false_and] at hK
   exact hK _
def nthB (p a b:Int):Bool:=if a=0 then decide (p=b) else if 0<a then decide (b≤p)&&decide ((p - b) % a=0) else decide (p≤b)&&decide ((b - p) % (-a)=0)
theorem wrU (n:Int):wr .u64 n=n % 18446744073709551616:=by
 unfold wr
 simp [IntKind.wrap,IntKind.signed,IntKind.bits]
theorem wrU_in {n:Int} (h0:0≤n) (h1:n<18446744073709551616):wr .u64 n=n:=by rw [wrU]; omega
theorem subU (a b:Int):wr .u64 (wr .u64 a - wr .u64 b)=(a - b) % 18446744073709551616:=by
 rw [wrU,wrU,wrU]
 omega
theorem nth_ok {p a b:Int} (hp:i64 p) (ha:i64 a) (hb:i64 b) (H:Hp):Good Tryz.prog σ n_match_nth [I p,I a,I b] H (Bo (nthB p a b)) H:=by
 refine good_by (fun K hK=>match_nth.run ?_) (by simp [noIds,noId]) rfl H
 unfold i64 at hp ha hb
 unfold nthB at hK
 simp
 split
 ·rename_i h
  rw [if_pos h] at hK
  exact hK _
 rename_i h0
 rw [if_neg h0] at hK
 split
 ·rename_i h1
  rw [if_pos h1] at hK
  split
  ·rename_i h2
   have e1:wr .u64 a=a:=wrU_in (by omega) (by omega)
   have e2:(p - b) % 18446744073709551616=p - b:=by omega
   rw [subU,e1,e2,b_rem _ _ _ h0,bnd_some,b_eql,bnd_some]
   have e3:(p - b).tmod a=(p - b) % a:=Int.tmod_eq_emod_of_nonneg (by omega)
   rw [e3]
   simpa [h2] using hK Hp.empty
  ·rename_i h2
   simpa [h2] using hK Hp.empty
 ·rename_i h1
  rw [if_neg h1] at hK
  split
  ·rename_i h2
   have e1:wr .u64 (-wr .u64 a)=-a:=by rw [wrU,wrU]; omega
   have e2:(b - p) % 18446744073709551616=b - p:=by omega
   have h3:(-a)≠0:=by omega
   rw [subU,e2]
   rw [e1,b_rem _ _ _ h3,bnd_some,b_eql,bnd_some]
   have e3:(b - p).tmod (-a)=(b - p) % (-a):=Int.tmod_eq_emod_of_nonneg (by omega)
   rw [e3]
   simpa [h2] using hK Hp.empty
  ·rename_i h2
   simpa [h2] using hK Hp.empty
theorem sibs_len (L:List Nd) (e:Nat):(sibs L e).length≤e:=by
 have:=List.length_filter_le (fun j:Nat=>decide (0<j)&&decide (par L j=par L e)) (List.range e)
 simp at this
 unfold sibs; omega
theorem place_bd (L:List Nd) (e:Nat):1≤place L e∧place L e≤(e:Int)+1:=by
 have:=sibs_len L e
 unfold place; omega
theorem lastM_ok {L:List Nd} {d:List Nat} (hB:Built L L.length d) (hN:L.length≤4096) {e:Nat} (he:e<L.length) (r:List AV) (hr:noIds r=true) (H:Hp):Good Tryz.prog σ n_match_asked_last [.ip (domT L d::r),I (e:Int)] H (Bo (lastB L e)) H:=by
 refine good_by (fun K hK=>match_asked_last.run ?_) (by simp [noIds,noId,noId_domT,hr]) rfl H
 simp
 refine callK_of (Parent_ok L d hN he _) ?_
 simp
 unfold lastB at hK
 split
 ·rename_i h
  simpa [h] using hK Hp.empty
 ·rename_i h
  refine callK_of (Place_ok L d hN he _) ?_
  rcases par_bd hB he with h1 | ⟨p,h1,h2⟩
  ·omega
  ·have hpl:=place_bd L e
   obtain ⟨k,hk⟩:∃ k:Nat,place L e=k:=⟨(place L e).toNat,by omega⟩
   rw [h1,hk] at hK ⊢
   refine callK_of (Child_ok L d hN (by omega) _) ?_
   have h3:¬ ((p:Int)<0):=by omega
   simp
   simpa [h3] using hK Hp.empty
def standI (L:List Nd) (e:Nat) (k:Int):Int:=if k=1∨k=2 then par L e else if k=3∨k=4 then before L e else -1
def farB (k:Int):Bool:=decide (k=1)||decide (k=4)
theorem stands_ok {L:List Nd} {d:List Nat} (hN:L.length≤4096) {e:Nat} (he:e<L.length) (k:Int) (r:List AV) (hr:noIds r=true) (H:Hp):Good Tryz.prog σ n_match_asked_stands [.ip (domT L d::r),I (e:Int),I k] H (.tup [I (standI L e k),Bo (farB k)]) H:=by
 refine good_by (fun K hK=>match_asked_stands.run ?_) (by simp [noIds,noId,noId_domT,hr]) (by simp [plainV,plainVs]) H
 have j0:∀ (b:Bool) (H:Hp),(b=true→k=1∨k=2)→(b=false→¬ (k=1∨k=2))→match_asked_stands.J0 σ K (.ip (domT L d::r)) (I (e:Int)) (I k) (I k) (Bo b) (.lit undef) H:=by
  intro b H h1 h2
  refine match_asked_stands.J0_step ?_
  cases b with
  | true =>
   have h:=h1 rfl
   simp
   refine callK_of (Parent_ok L d hN he _) ?_
   have h4:¬ (k=4):=by omega
   simpa [standI,farB,h,h4] using hK H
  | false =>
   have h:=h2 rfl
   have j1:∀ (c:Bool),(c=true→k=3∨k=4)→(c=false→¬ (k=3∨k=4))→match_asked_stands.J1 σ K (.ip (domT L d::r)) (I (e:Int)) (I k) (I k) (Bo false) (Bo c) H:=by
    intro c h3 h4
    refine match_asked_stands.J1_step ?_
    have h5:¬ (k=1):=by omega
    cases c with
    | true =>
     have h6:=h3 rfl
     simp
     refine callK_of (Before_ok L d hN he _) ?_
     have h7:standI L e k=before L e:=by unfold standI; rw [if_neg h,if_pos h6]
     have h8:farB k=decide (k=4):=by unfold farB; simp [h5]
     rw [h7,h8] at hK
     exact hK H
    | false =>
     have h6:=h4 rfl
     have h7:standI L e k=-1:=by unfold standI; rw [if_neg h,if_neg h6]
     have h8:farB k=false:=by unfold farB; simp; omega
     rw [h7,h8] at hK
     exact hK H
   simp
   split
   ·rename_i h3
    exact j1 (decide (k=3)) (fun _=>.inl h3) (fun h=>by simp [h3] at h)
   ·rename_i h3
    refine j1 _ (fun h=>.inr (by simpa using h)) (fun h=>?_)
    simp at h
    omega
 simp
 split
 ·rename_i h
  exact j0 (decide (k=1)) _ (fun _=>.inl h) (fun h'=>by simp [h] at h')
 ·rename_i h
  refine j0 _ _ (fun h=>.inr (by simpa using h)) (fun h'=>?_)
  simp at h'
  omega
end Go.Proofs.YthdcghnjndhecaaGreat.Ev
namespace Go.Proofs.YthdcghnjndhecaaGreat.Ev
set_option linter.unusedVariables false
set_option linter.unusedSimpArgs false
variable {σ:Sig}
structure Lk where
 part:Pt
 lists:List (List Nat)
def encN (n:Nat):List AV:=[I (n:Int)]
def ints (l:List Nat):AV:=.imm 1 (l.map encN)
def encLk (x:Lk):List AV:=encPt x.part++[.imm 1 (x.lists.map fun l=>[ints l])]
def chainV (c:List Lk):AV:=.imm 7 (c.map encLk)
theorem noId_ints (l:List Nat):noId (ints l)=true:=by unfold ints; simp only [noId]; exact noIds_map _ (fun _=>rfl) _
theorem noId_lk (x:Lk):noIds (encLk x)=true:=by
 unfold encLk
 exact noIds_app (noId_Pt _) (by simp only [noIds,noId,noIds_map _ (show ∀ l,noIds [ints l]=true from fun l=>by simp [noIds,noId_ints]),Bool.and_self])
@[simp] theorem len_lk (x:Lk):(encLk x).length=7:=by simp [encLk]
def encQ (n i e:Nat) (a:Bool):List AV:=[I (n:Int),I (i:Int),I (e:Int),Bo a]
abbrev qKK:List KK:=[.int .i64,.int .i64,.int .i64,.bool]
theorem encQ_inj {n i e n' i' e':Nat} {a a':Bool} (h:encQ n i e a=encQ n' i' e' a'):n=n'∧i=i'∧e=e'∧a=a':=by
 simp only [encQ,List.cons.injEq,AV.lit.injEq,Value.int.injEq,Value.bool.injEq,true_and,and_true] at h
 exact ⟨by omega,by omega,by omega,h.2.2.2⟩
def MemoOk (N:Nat) (T:Nat→Nat→Nat→Bool→Bool) (es:List (AV × AV)):Prop:=∀ p ∈ es,∃ n i e a,n<N∧p=(.agg (encQ n i e a),Bo (T n i e a))∧kOk true qKK p.1=true
theorem memo_find {N:Nat} {T:Nat→Nat→Nat→Bool→Bool}:∀ {es:List (AV × AV)},MemoOk N T es→∀ n i e a,mfind (.agg (encQ n i e a)) es=none∨mfind (.agg (encQ n i e a)) es=some (Bo (T n i e a))
 | [],_,n,i,e,a=>.inl rfl
 | (x,y)::r,h,n,i,e,a=>by
  obtain ⟨n',i',e',a',_,hp,_⟩:=h (x,y) (by simp)
  cases hp
  unfold mfind
  by_cases he:AV.agg (encQ n' i' e' a')=.agg (encQ n i e a)
  ·rw [if_pos he]
   obtain ⟨rfl,rfl,rfl,rfl⟩:=encQ_inj (AV.agg.inj he)
   exact .inr rfl
  ·rw [if_neg he]
   exact memo_find (fun p hp=>h p (by simp [hp])) n i e a
theorem memo_put {N:Nat} {T:Nat→Nat→Nat→Bool→Bool} {n i e:Nat} {a:Bool} (hnN:n<N) (hk:kOk true qKK (.agg (encQ n i e a))=true):∀ {es:List (AV × AV)},MemoOk N T es→MemoOk N T (mput (.agg (encQ n i e a)) (Bo (T n i e a)) es)
 | [],_=>fun p hp=>by
  simp [mput] at hp
  subst hp
  exact ⟨n,i,e,a,hnN,rfl,hk⟩
 | (x,y)::r,h=>by
  obtain ⟨n',i',e',a',hn',hp,hk'⟩:=h (x,y) (by simp)
  cases hp
  unfold mput
  by_cases he:AV.agg (encQ n' i' e' a')=.agg (encQ n i e a)
  ·rw [if_pos he]
   intro p hp
   rcases List.mem_cons.1 hp with rfl | hp
   ·exact ⟨n,i,e,a,hnN,by rw [he],by rw [he]; exact hk⟩
   ·exact h p (by simp [hp])
  ·rw [if_neg he]
   intro p hp
   rcases List.mem_cons.1 hp with rfl | hp
   ·exact ⟨n',i',e',a',hn',rfl,hk'⟩
   ·exact memo_put hnN hk (fun p hp=>h p (by simp [hp])) p hp
theorem memo_all {N:Nat} {T:Nat→Nat→Nat→Bool→Bool} {es:List (AV × AV)} (h:MemoOk N T es):es.all (fun p=>kOk true qKK p.1)=true:=by
 rw [List.all_eq_true]
 intro p hp
 obtain ⟨n,i,e,a,_,_,hk⟩:=h p hp
 exact hk
structure Asks (t:AV) (C:List (List Lk)) (T:Nat→Nat→Nat→Bool→Bool) (ab mb:Nat) (cs:AV) (H:Hp):Prop where
 gab:H.get ab=some (.cells [t,cs,.mp mb] true)
 nab:ab<H.n
 nmb:mb<H.n
 ne:ab≠mb
 gcs:Gs 1 H cs (C.map fun c=>[chainV c])
 csm:¬ own cs mb
 memo:∃ es,H.get mb=some (.map es)∧MemoOk C.length T es
structure Kp (mb:Nat) (H H':Hp):Prop where
 up:H.n≤H'.n
 get:∀ (j:Nat),j<H.n→j≠mb→H'.get j=H.get j
theorem Kp.refl (mb:Nat) (H:Hp):Kp mb H H:=⟨Nat.le_refl _,fun _ _ _=>rfl⟩
theorem Kp.trans {mb:Nat} {H H1 H2:Hp} (h:Kp mb H H1) (k:Kp mb H1 H2):Kp mb H H2:=⟨Nat.le_trans h.up k.up,fun j hj hne=>by rw [k.get j (Nat.lt_of_lt_of_le hj h.up) hne,h.get j hj hne]⟩
theorem Kp.new (mb:Nat) (H:Hp) (b:Blk):Kp mb H (H.new b):=by
 refine ⟨by simp,fun j hj _=>?_⟩
 have:j≠H.n:=by omega
 simp [this]
theorem Kp.setN {mb:Nat} {H H':Hp} (h:Kp mb H H') {j:Nat} (hj:H.n≤j) (b:Option Blk):Kp mb H (H'.set j b):=by
 refine ⟨by simpa using h.up,fun i hi hne=>?_⟩
 have:i≠j:=by omega
 simp [this]; exact h.get i hi hne
theorem Asks.keep {t:AV} {C:List (List Lk)} {T:Nat→Nat→Nat→Bool→Bool} {ab mb:Nat} {cs:AV} {H H':Hp} (h:Asks t C T ab mb cs H) (hn:H.n≤H'.n) (hg:∀ j,j<H.n→H'.get j=H.get j):Asks t C T ab mb cs H':=by
 obtain ⟨es,he,hm⟩:=h.memo
 exact ⟨by rw [hg _ h.nab]; exact h.gab,Nat.lt_of_lt_of_le h.nab hn,Nat.lt_of_lt_of_le h.nmb hn,h.ne,h.gcs.keep (fun j hj=>hg j (h.gcs.lt hj)) hn,h.csm,es,by rw [hg _ h.nmb]; exact he,hm⟩
theorem Asks.new {t:AV} {C:List (List Lk)} {T:Nat→Nat→Nat→Bool→Bool} {ab mb:Nat} {cs:AV} {H:Hp} (h:Asks t C T ab mb cs H) (b:Blk):Asks t C T ab mb cs (H.new b):=by
 refine h.keep (by simp) fun j hj=>?_
 have:j≠H.n:=by omega
 simp [this]
theorem Asks.setN {t:AV} {C:List (List Lk)} {T:Nat→Nat→Nat→Bool→Bool} {ab mb:Nat} {cs:AV} {H0 H:Hp} (h0:Asks t C T ab mb cs H0) (h:Asks t C T ab mb cs H) {j:Nat} (hj:H0.n≤j) (b:Option Blk):Asks t C T ab mb cs (H.set j b):=by
 obtain ⟨es,he,hm⟩:=h.memo
 have a1:=h0.nab
 have a2:=h0.nmb
 have e1:ab≠j:=by omega
 have e2:mb≠j:=by omega
 refine ⟨by simp [e1,h.gab],by simpa using h.nab,by simpa using h.nmb,h.ne,h.gcs.keep (fun i hi=>?_) (by simp),h.csm,es,by simp [e2,he],hm⟩
 have:=h0.gcs.lt hi
 have:i≠j:=by omega
 simp [this]
theorem Asks.pure {L:List Nd} {d:List Nat} {C:List (List Lk)} {T:Nat→Nat→Nat→Bool→Bool} {ab mb:Nat} {cs:AV} {H:Hp} (h:Asks (domT L d) C T ab mb cs H) {f:Nat} {xs:List AV} {r:AV}
  (hg:Good Tryz.prog σ f (.ip (domT L d::[])::xs) Hp.empty r Hp.empty) (hx:noIds xs=true) (hr:plainV r=true):Good Tryz.prog σ f (.ptr ab 0::xs) H r H:=by
 refine hg.frzA (.cons (.ptr (fun _=>domT L d) h.gab (fun j y hj=>?_) (fun j y hj=>?_)) (FzL.refl hx)) hr
 ·have:j=0:=by have:=(List.getElem?_eq_some_iff.1 hj).1; simp at this; omega
  subst this; simp
 ·have:j=0:=by have:=(List.getElem?_eq_some_iff.1 hj).1; simp at this; omega
  subst this
  simp at hj; subst hj
  exact .refl (noId_domT L d)
theorem once_sp {t:AV} {C:List (List Lk)} {T:Nat→Nat→Nat→Bool→Bool} {ab mb:Nat} {cs:AV} {H:Hp} (h:Asks t C T ab mb cs H) {n i e:Nat} {a:Bool} (hnN:n<C.length) (hk:kOk true qKK (.agg (encQ n i e a))=true) {fv:AV} {K:AV→Hp→Prop}
  (how:∀ H1 (K1:AV→Hp→Prop),Asks t C T ab mb cs H1→Kp mb H H1→(∀ H2,Asks t C T ab mb cs H2→Kp mb H1 H2→K1 (Bo (T n i e a)) H2)→callV Tryz.prog σ fv [] H1 K1)
  (hK:∀ H',Asks t C T ab mb cs H'→Kp mb H H'→K (Bo (T n i e a)) H'):callK Tryz.prog σ n_match_asked_once [.ptr ab 0,.agg (encQ n i e a),fv] H K:=by
 obtain ⟨es,hes,hm⟩:=h.memo
 have e1:ab≠H.n:=by have:=h.nab; omega
 have e2:mb≠H.n:=by have:=h.nmb; omega
 refine match_asked_once.run ?_
 have hl:ldL true 4 (encQ n i e a)=some (.agg (encQ n i e a)):=rfl
 simp only [boxK_agg,n_ptr,bnd_some,sh_ptr,Nat.zero_add,ld_ptr,hp_get_new,e1,if_false,if_true,h.gab,ldO_cells,List.drop_zero,hl]
 simp only [List.drop,ldL_one,bnd_some,lookR,hp_get_new,e2,if_false,hes,hk,memo_all hm,Bool.and_self,cond_true]
 rcases memo_find hm n i e a with hf | hf
 ·rw [hf]
  simp [mres]
  refine how _ _ (h.new _) (Kp.new _ _ _) fun H2 h2 k2=>?_
  obtain ⟨es2,hes2,hm2⟩:=h2.memo
  have hbox:H2.get H.n=some (.cells (encQ n i e a) true):=by rw [k2.get H.n (by simp) (Ne.symm e2)]; simp
  simp only [h2.gab,ldO_cells,List.drop_succ_cons,List.drop_zero,ldL_one,bnd_some,hbox,hl,putR,hes2,hk,memo_all hm2,isAny_lit,Bool.not_false,Bool.and_self,cond_true]
  refine hK _ ?_ ?_
  ·refine ⟨by simp [h2.ne,h2.gab],by simpa using h2.nab,by simpa using h2.nmb,h2.ne,h2.gcs.keep (fun j hj=>?_) (by simp),h2.csm,_,by simp,memo_put hnN hk hm2⟩
   have:j≠mb:=fun e=>h2.csm (e ▸ hj)
   simp [this]
  ·have:=(Kp.new mb H (.cells (encQ n i e a) true)).trans k2
   exact ⟨by simpa using this.up,fun j hj hne=>by simp [hne]; exact this.get j hj hne⟩
 ·rw [hf]
  simp [mres]
  exact hK _ (h.new _) (Kp.new _ _ _)
end Go.Proofs.YthdcghnjndhecaaGreat.Ev
namespace Go.Proofs.YthdcghnjndhecaaGreat.Ev
set_option linter.unusedVariables false
set_option linter.unusedSimpArgs false
variable {σ:Sig}
def FitC (c:Cp):Prop:=c.ids.length≤5∧c.classes.length≤5∧c.attrs.length≤5∧c.pseudos.length≤5
def FitL:Nat→List Sl→Prop
 | 0,_=>False
 | f+1,l=>∀ s ∈ l,s.length≤60∧∀ p ∈ s,FitC p.c∧∀ q ∈ p.c.pseudos,FitL f q.list
def FitS (f:Nat) (s:Sl):Prop:=s.length≤60∧∀ p ∈ s,FitC p.c∧∀ q ∈ p.c.pseudos,FitL f q.list
def FitP (f:Nat) (p:Pt):Prop:=FitC p.c∧∀ q ∈ p.c.pseudos,FitL f q.list
end Go.Proofs.YthdcghnjndhecaaGreat.Ev
namespace Go.Proofs.YthdcghnjndhecaaGreat.Ev
set_option linter.unusedVariables false
set_option linter.unusedSimpArgs false
variable {σ:Sig}
def aheadF (g:Nat→Bool) (L:List Nd) (k:Int):Nat→Nat→Bool
 | 0,_=>false
 | f+1,e=>decide (0≤standI L e k)&&(g (standI L e k).toNat||(farB k&&aheadF g L k f (standI L e k).toNat))
def pseudoB (any:List Sl→Nat→Bool) (L:List Nd) (e:Nat) (q:Ps):Bool :=
 if q.kind=1 then decide (par L e<0) else if q.kind=2 then decide (place L e=1) else if q.kind=3 then lastB L e else if q.kind=4 then decide (place L e=1)&&lastB L e
 else if q.kind=5 then decide (childI L e 0<0) else if q.kind=6 then nthB (place L e) q.a q.b else if q.kind=7 then !any q.list e else if q.kind=8 then any q.list e else false
def compB (any:List Sl→Nat→Bool) (L:List Nd) (e:Nat) (c:Cp):Bool:=plainB (lowN (ndAt L e)) c&&c.pseudos.all (pseudoB any L e)
def frontB (any:List Sl→Nat→Bool) (L:List Nd) (s:Sl):Nat→Nat→Bool
 | 0,e=>match s[0]? with
  | some p=>compB any L e p.c
  | none=>false
 | i+1,e=>match s[i+1]? with
  | some p=>compB any L e p.c&&aheadF (frontB any L s i) L p.comb (e+1) e
  | none=>false
def anyS (any:List Sl→Nat→Bool) (L:List Nd) (l:List Sl) (e:Nat):Bool:=l.any fun s=>!decide (s.length=0)&&frontB any L s (s.length - 1) e
def anyB (L:List Nd):Nat→List Sl→Nat→Bool
 | 0,_,_=>false
 | f+1,l,e=>anyS (anyB L f) L l e
def Nest:Nat→List Sl→Prop
 | 0,_=>False
 | f+1,l=>∀ s ∈ l,∀ p ∈ s,∀ q ∈ p.c.pseudos,Nest f q.list
theorem FitL.nest:∀ {f:Nat} {l:List Sl},FitL f l→Nest f l
 | 0,l,h=>h
 | f+1,l,h=>fun s hs p hp q hq=>(((h s hs).2 p hp).2 q hq).nest
theorem compB_congr {any any':List Sl→Nat→Bool} {L:List Nd} {c:Cp} (h:∀ q ∈ c.pseudos,∀ e,any q.list e=any' q.list e) (e:Nat):compB any L e c=compB any' L e c:=by
 unfold compB
 congr 1
 rw [Bool.eq_iff_iff,List.all_eq_true,List.all_eq_true]
 have:∀ q ∈ c.pseudos,pseudoB any L e q=pseudoB any' L e q:=fun q hq=>by unfold pseudoB; rw [h q hq]
 exact ⟨fun h q hq=>by rw [← this q hq]; exact h q hq,fun h q hq=>by rw [this q hq]; exact h q hq⟩
theorem aheadF_congr {g g':Nat→Bool} {L:List Nd} {k:Int} (h:∀ e,g e=g' e):∀ (f e:Nat),aheadF g L k f e=aheadF g' L k f e
 | 0,e=>rfl
 | f+1,e=>by unfold aheadF; rw [h,aheadF_congr h f]
theorem frontB_congr {any any':List Sl→Nat→Bool} {L:List Nd} {s:Sl} (h:∀ p ∈ s,∀ q ∈ p.c.pseudos,∀ e,any q.list e=any' q.list e):∀ (i e:Nat),frontB any L s i e=frontB any' L s i e
 | 0,e=>by
  unfold frontB
  cases hs:s[0]? with
  | none=>rfl
  | some p=>exact compB_congr (h p (List.mem_of_getElem? hs)) e
 | i+1,e=>by
  unfold frontB
  cases hs:s[i+1]? with
  | none=>rfl
  | some p =>
   simp only
   rw [compB_congr (h p (List.mem_of_getElem? hs)) e,aheadF_congr (frontB_congr h i)]
theorem anyS_congr {any any':List Sl→Nat→Bool} {L:List Nd} {l:List Sl} (h:∀ s ∈ l,∀ p ∈ s,∀ q ∈ p.c.pseudos,∀ e,any q.list e=any' q.list e) (e:Nat):anyS any L l e=anyS any' L l e:=by
 unfold anyS
 rw [Bool.eq_iff_iff,List.any_eq_true,List.any_eq_true]
 have:∀ s ∈ l,(!decide (s.length=0)&&frontB any L s (s.length - 1) e)=(!decide (s.length=0)&&frontB any' L s (s.length - 1) e):=fun s hs=>by rw [frontB_congr (h s hs)]
 exact ⟨fun ⟨s,hs,h⟩=>⟨s,hs,by rw [← this s hs]; exact h⟩,fun ⟨s,hs,h⟩=>⟨s,hs,by rw [this s hs]; exact h⟩⟩
theorem anyB_nest {L:List Nd}:∀ (f g:Nat) (l:List Sl) (e:Nat),Nest f l→f≤g→anyB L g l e=anyB L f l e
 | 0,g,l,e,h,_=>h.elim
 | f+1,0,l,e,h,hfg=>by omega
 | f+1,g+1,l,e,h,hfg=>by
  unfold anyB
  exact anyS_congr (fun s hs p hp q hq e=>anyB_nest f g q.list e (h s hs p hp q hq) (by omega)) e
def AA (L:List Nd):List Sl→Nat→Bool:=anyB L 12
theorem AA_eq {L:List Nd} {f:Nat} {l:List Sl} (h:Nest f l) (hf:f≤12) (e:Nat):anyS (AA L) L l e=AA L l e:=by
 show anyB L 13 l e=anyB L 12 l e
 rw [anyB_nest f 13 l e h (by omega),anyB_nest f 12 l e h hf]
def selC (C:List (List Lk)) (n:Nat):Sl:=(C.getD n []).map (·.part)
def Tru (L:List Nd) (C:List (List Lk)) (n i e:Nat):Bool→Bool
 | false=>frontB (AA L) L (selC C n) i e
 | true=>match (selC C n)[i]? with
  | some p=>aheadF (frontB (AA L) L (selC C n) (i - 1)) L p.comb (e+1) e
  | none=>false
def RepC (R:List Sl→List Nat→Prop) (C:List (List Lk)) (s:Sl) (n:Nat):Prop :=
 ∃ c,C[n]?=some c∧c.map (·.part)=s∧∀ (k:Nat) (x:Lk),c[k]?=some x→x.lists.length=x.part.c.pseudos.length∧∀ (j:Nat) (q:Ps) (ns:List Nat),x.part.c.pseudos[j]?=some q→x.lists[j]?=some ns→R q.list ns
def Rep (C:List (List Lk)):Nat→List Sl→List Nat→Prop
 | 0,_,_=>False
 | f+1,l,ns=>ns.length=l.length∧∀ (i:Nat) (s:Sl) (n:Nat),l[i]?=some s→ns[i]?=some n→RepC (Rep C f) C s n
theorem RepC.sel {R:List Sl→List Nat→Prop} {C:List (List Lk)} {s:Sl} {n:Nat} (h:RepC R C s n):selC C n=s:=by
 obtain ⟨c,hc,hs,_⟩:=h
 unfold selC
 rw [List.getD_eq_getElem?_getD,hc]
 exact hs
structure LkOk (x:Lk):Prop where
 c:CpOk x.part.c
 ps:∀ q ∈ x.part.c.pseudos,i64 q.a∧i64 q.b
 ls:∀ l ∈ x.lists,l.length≤reachBytes
structure Mc (σ:Sig) (L:List Nd) (d:List Nat) (C:List (List Lk)):Prop where
 hC:HasC σ
 hB:Built L L.length d
 hN:L.length≤4096
 sm:∀ e,e<L.length→SmN (lowN (ndAt L e))
 cl:C.length≤reachBytes
 ll:∀ c ∈ C,c.length≤reachBytes
 lk:∀ c ∈ C,∀ x ∈ c,LkOk x
theorem Gs.ld1 {H:Hp} {x v:AV} {rows:List (List AV)} {n:Nat} (h:Gs 1 H x rows) (hn:rows[n]?=some [v]):∃ p,ixaSl 1 x (I (n:Int))=some p∧ldA false 1 H p=some v:=by
 have hlt:=(List.getElem?_eq_some_iff.1 hn).1
 cases h with
 | nil=>simp at hlt
 | sl hl hg hsz =>
  rename_i id ex
  refine ⟨.ptr id (0+(n:Int).toNat*1),ix_sl (by omega) (by omega),?_⟩
  have:=flat_drop hsz hlt
  rw [List.getElem?_eq_getElem hlt] at hn
  rw [Option.some.inj hn] at this
  simp [hg]
  rw [Nat.mul_one] at this
  rw [this]
  simp
section
variable {L:List Nd} {d:List Nat} {C:List (List Lk)}
def AskK (σ:Sig) (L:List Nd) (d:List Nat) (C:List (List Lk)) (f:Nat) (xs:List AV) (b:Bool):Prop :=
 ∀ (ab mb:Nat) (cs:AV) (H:Hp) (K:AV→Hp→Prop),Asks (domT L d) C (Tru L C) ab mb cs H→(∀ H',Asks (domT L d) C (Tru L C) ab mb cs H'→Kp mb H H'→K (Bo b) H')→callK Tryz.prog σ f (.ptr ab 0::xs) H K
theorem AskK.pure {f:Nat} {xs:List AV} {b:Bool} (h:∀ H,Good Tryz.prog σ f (.ip (domT L d::[])::xs) H (Bo b) H) (hx:noIds xs=true):AskK σ L d C f xs b :=
 fun ab mb cs H K hA hK=>callK_of (hA.pure (h Hp.empty) hx rfl) (hK H hA (.refl _ _))
def AnyOk (σ:Sig) (L:List Nd) (d:List Nat) (C:List (List Lk)) (f:Nat):Prop:=∀ (l:List Sl) (ns:List Nat),Rep C f l ns→Nest f l→f≤12→ns.length≤reachBytes→∀ e,e<L.length→AskK σ L d C n_match_asked_any [I (e:Int),ints ns] (AA L l e)
theorem pseudo_sp (M:Mc σ L d C) {f:Nat} (hA:AnyOk σ L d C f) (hf:f≤12) {q:Ps} (hq:i64 q.a∧i64 q.b) {ns:List Nat} (hr:(q.kind=7∨q.kind=8)→Rep C f q.list ns) (hnest:(q.kind=7∨q.kind=8)→Nest f q.list) (hns:ns.length≤reachBytes) {e:Nat} (he:e<L.length) :
  AskK σ L d C n_match_asked_pseudo [I (e:Int),.agg (encPs q),ints ns] (pseudoB (AA L) L e q):=by
 intro ab mb cs H K hA0 hK
 have hpar:=par_bd M.hB he
 have hpl:=place_bd L e
 have e1:ab≠H.n:=by have:=hA0.nab; omega
 have a1:=hA0.new (.cells (encPs q) true)
 have k1:=Kp.new mb H (.cells (encPs q) true)
 refine match_asked_pseudo.run ?_
 simp [encPs_eq,e1,hA0.gab]
 have e2:∀ Ks:AV→Hp→Prop,Ks=Ks:=fun _=>rfl
 unfold pseudoB at hK
 have hH:Hp.new H (.cells [I q.kind,I q.a,I q.b,.imm 1 (q.list.map encSl)] true)=Hp.new H (.cells (encPs q) true):=by rw [encPs_eq]
 rw [hH]
 obtain ⟨H1,hH1⟩:∃ H1,H1=H.new (.cells (encPs q) true):=⟨_,rfl⟩
 have gq:H1.get H.n=some (.cells [I q.kind,I q.a,I q.b,.imm 1 (q.list.map encSl)] true):=by rw [hH1,← encPs_eq]; simp
 rw [← hH1] at a1 k1 ⊢
 have pur:∀ {g:Nat} {xs:List AV} {b:Bool},(∀ H,Good Tryz.prog σ g (.ip (domT L d::[])::xs) H (Bo b) H)→noIds xs=true→Good Tryz.prog σ g (.ptr ab 0::xs) H1 (Bo b) H1:=fun h hx=>a1.pure (h Hp.empty) hx rfl
 split
 ·rename_i h
  rw [if_pos h] at hK
  refine callK_of (Parent_ok L d M.hN he _) ?_
  simpa using hK H1 a1 k1
 rename_i h1
 rw [if_neg h1] at hK
 split
 ·rename_i h
  rw [if_pos h] at hK
  refine callK_of (Place_ok L d M.hN he _) ?_
  simpa using hK H1 a1 k1
 rename_i h2
 rw [if_neg h2] at hK
 split
 ·rename_i h
  rw [if_pos h] at hK
  exact callK_of (pur (fun H=>lastM_ok M.hB M.hN he [] rfl H) rfl) (hK H1 a1 k1)
 rename_i h3
 rw [if_neg h3] at hK
 split
 ·rename_i h
  rw [if_pos h] at hK
  refine callK_of (Place_ok L d M.hN he _) ?_
  simp
  split
  ·rename_i hp
   simp [hp] at hK
   exact callK_of (pur (fun H=>lastM_ok M.hB M.hN he [] rfl H) rfl) (hK H1 a1 k1)
  ·rename_i hp
   simp [hp] at hK
   exact hK H1 a1 k1
 rename_i h4
 rw [if_neg h4] at hK
 split
 ·rename_i h
  rw [if_pos h] at hK
  have:=Child_ok (σ:=σ) L d M.hN (k:=0) he
  refine callK_of (this _) ?_
  simpa using hK H1 a1 k1
 rename_i h5
 rw [if_neg h5] at hK
 split
 ·rename_i h
  rw [if_pos h] at hK
  refine callK_of (Place_ok L d M.hN he _) ?_
  simp [gq]
  refine callK_of (nth_ok ?_ hq.1 hq.2 _) (hK H1 a1 k1)
  have:=M.hN
  unfold i64
  omega
 rename_i h6
 rw [if_neg h6] at hK
 split
 ·rename_i h
  rw [if_pos h] at hK
  refine hA q.list ns (hr (.inl h)) (hnest (.inl h)) hf hns e he ab mb cs H1 _ a1 fun H2 a2 k2=>?_
  simp
  exact hK H2 a2 (k1.trans k2)
 rename_i h7
 rw [if_neg h7] at hK
 split
 ·rename_i h
  rw [if_pos h] at hK
  exact hA q.list ns (hr (.inr h)) (hnest (.inr h)) hf hns e he ab mb cs H1 _ a1 fun H2 a2 k2=>hK H2 a2 (k1.trans k2)
 ·rename_i h
  rw [if_neg h] at hK
  exact hK H1 a1 k1
theorem lk_c (x:Lk):ldL true 5 ((encLk x).drop 1)=some (.agg (encCp x.part.c)):=by
 have e:(encLk x).drop 1=encCp x.part.c++[.imm 1 (x.lists.map fun l=>[ints l])]:=by
  unfold encLk; rw [encPt_eq]; rfl
 rw [e,ldL_agg (by simp)]
 rw [List.take_append_of_le_length (by simp),List.take_of_length_le (by simp)]
theorem lk_ps (x:Lk):ldL false 1 ((encLk x).drop 5)=some (.imm 4 (x.part.c.pseudos.map encPs)):=by
 unfold encLk; rw [encPt_eq,encCp_eq]; rfl
theorem lk_ls (x:Lk):ldL false 1 ((encLk x).drop 6)=some (.imm 1 (x.lists.map fun l=>[ints l])):=by
 unfold encLk; rw [encPt_eq,encCp_eq]; rfl
theorem lk_comb (x:Lk):ldL false 1 (encLk x)=some (I x.part.comb):=by
 unfold encLk; rw [encPt_eq]; rfl
section
attribute [local irreducible] match_asked_compound.L0
theorem compound_sp (M:Mc σ L d C) {f:Nat} (hA:AnyOk σ L d C f) (hf:f≤12) {x:Lk} (hx:LkOk x) (hl:x.lists.length=x.part.c.pseudos.length) (hr:∀ (j:Nat) (q:Ps) (ns:List Nat),x.part.c.pseudos[j]?=some q→x.lists[j]?=some ns→Rep C f q.list ns) (hn:∀ q ∈ x.part.c.pseudos,Nest f q.list) {e:Nat} (he:e<L.length) :
  AskK σ L d C n_match_asked_compound [I (e:Int),.agg (encLk x)] (compB (AA L) L e x.part.c):=by
 intro ab mb cs H K hA0 hK
 have a1:=hA0.new (.cells (encLk x) true)
 have k1:=Kp.new mb H (.cells (encLk x) true)
 have hml:mb≠H.n:=by have:=hA0.nmb; omega
 have hm1:mb<H.n:=hA0.nmb
 have hps:=hx.c.ps
 have L0:∀ (m k:Nat) (H1:Hp),x.part.c.pseudos.length - m=k→m≤x.part.c.pseudos.length→Asks (domT L d) C (Tru L C) ab mb cs H1→Kp mb (H.new (.cells (encLk x) true)) H1 →
   (∀ H',Asks (domT L d) C (Tru L C) ab mb cs H'→Kp mb H H'→K (Bo ((x.part.c.pseudos.drop m).all (pseudoB (AA L) L e))) H')→match_asked_compound.L0 σ K (.ptr ab 0) (I (e:Int)) (.ptr H.n 0) (.imm 4 (x.part.c.pseudos.map encPs)) (I x.part.c.pseudos.length) (I m) H1:=by
  intro m k
  revert m
  induction k with
  | zero =>
   intro m H1 hk hm h1 kp hK
   have:m=x.part.c.pseudos.length:=by omega
   subst this
   refine match_asked_compound.L0_step ?_
   simp
   simpa using hK H1 h1 (k1.trans kp)
  | succ k ih =>
   intro m H1 hk hm h1 kp hK
   have hlt:m<x.part.c.pseudos.length:=by omega
   obtain ⟨q,hq⟩:=get_lt hlt
   obtain ⟨ns,hns⟩:=get_lt (l:=x.lists) (k:=m) (by omega)
   have hqm:=List.mem_of_getElem? hq
   rw [drop_get hq] at hK
   have hlt':(m:Int)<x.part.c.pseudos.length:=by omega
   have gx:H1.get H.n=some (.cells (encLk x) true):=by rw [kp.get H.n (by simp) (Ne.symm hml)]; simp
   have hup:=kp.up
   simp at hup
   have n1:H.n≠H1.n:=by omega
   refine match_asked_compound.L0_step ?_
   have hls:ixaSl 1 (.imm 1 (x.lists.map fun l=>[ints l])) (I (m:Int))=some (.ip [ints ns]):=by
    have:=ix_map (f:=fun l:List Nat=>[ints l]) (sz:=1) hns
    exact this
   simp only [b_lss,hlt',decide_true,bnd_some,ifB_lit,if_true,ix_map hq,ld_ip,ldL_ps,allocK_eq]
   have hst:stA 4 (H1.new (.cells [I 0,I 0,I 0,.lit (.slice none 0 0)] true)) (.ptr H1.n 0) (.agg (encPs q))=some ((H1.new (.cells [I 0,I 0,I 0,.lit (.slice none 0 0)] true)).set H1.n (some (.cells (encPs q) true))):=by
    simp
    rw [ov_Ps q (by simp)]
   rw [hst,bnd_some]
   simp only [ld_ptr,hp_get_set,if_true,ldO_cells,List.drop_zero,ldL_ps,bnd_some,sh_ptr,Nat.zero_add,n1,if_false,hp_get_new,gx,lk_ls]
   rw [hls,bnd_some]
   simp only [ld_ip,ldL_one,bnd_some]
   have a2:=h1.setN (h1.new (.cells [I 0,I 0,I 0,.lit (.slice none 0 0)] true)) (Nat.le_refl H1.n) (some (.cells (encPs q) true))
   have k2:=(Kp.new mb H1 (.cells [I 0,I 0,I 0,.lit (.slice none 0 0)] true)).setN (Nat.le_refl H1.n) (some (.cells (encPs q) true))
   refine pseudo_sp M hA hf (hx.ps q hqm) (fun _=>hr m q ns hq hns) (fun _=>hn q hqm) (hx.ls ns (List.mem_of_getElem? hns)) he ab mb cs _ _ a2 fun H2 a3 k3=>?_
   simp only [u_not,bnd_some,ifB_lit]
   cases hb:pseudoB (AA L) L e q with
   | false =>
    simp [hb] at hK
    simp
    exact hK H2 a3 (k1.trans (kp.trans (k2.trans k3)))
   | true =>
    simp [hb] at hK
    simp
    rw [wr_succL hlt hps (by decide)]
    exact ih (m+1) H2 (by omega) (by omega) a3 (kp.trans (k2.trans k3)) (by simpa using hK)
 refine match_asked_compound.run ?_
 simp only [boxK_agg,sh_ptr,Nat.zero_add,ld_ptr,hp_get_new,if_true,ldO_cells,lk_c,bnd_some]
 refine callK_of (a1.pure (plain_ok M.hC M.hN he (M.sm e he) hx.c [] rfl Hp.empty) (by simp [noIds,noId,noId_Cp]) rfl) ?_
 simp only [u_not,bnd_some,ifB_lit]
 unfold compB at hK
 cases hb:plainB (lowN (ndAt L e)) x.part.c with
 | false =>
  simp [hb] at hK
  simp
  exact hK _ a1 k1
 | true =>
  simp [hb] at hK
  simp [lk_ps]
  exact L0 0 _ _ rfl (Nat.zero_le _) a1 (.refl _ _) (by simpa using hK)
end
theorem standI_lt (M:Mc σ L d C) {e:Nat} (he:e<L.length) (k:Int):standI L e k<e:=by
 unfold standI
 split
 ·rcases par_bd M.hB he with h | ⟨p,h,hp⟩
  ·omega
  ·omega
 ·split
  ·unfold before lastI
   cases h:(sibs L e).getLast? with
   | none=>simp<;>omega
   | some j =>
    have:=List.mem_of_getLast? h
    unfold sibs at this
    simp only [List.mem_filter,List.mem_range] at this
    simp; omega
  ·omega
theorem standI_ge (M:Mc σ L d C) {e:Nat} (he:e<L.length) (k:Int):-1≤standI L e k:=by
 unfold standI
 split
 ·rcases par_bd M.hB he with h | ⟨p,h,hp⟩
  ·omega
  ·omega
 ·split
  ·unfold before lastI
   cases h:(sibs L e).getLast? with
   | none=>simp
   | some j=>simp<;>omega
  ·omega
theorem aheadF_fuel (M:Mc σ L d C) (g:Nat→Bool) (k:Int):∀ (f f' e:Nat),e<L.length→e<f→e<f'→aheadF g L k f e=aheadF g L k f' e
 | 0,f',e,_,h,_=>by omega
 | f+1,0,e,_,_,h=>by omega
 | f+1,f'+1,e,he,h1,h2=>by
  unfold aheadF
  have:=standI_lt M he k
  by_cases h:0≤standI L e k
  ·rw [aheadF_fuel M g k f f' _ (by omega) (by omega) (by omega)]
  ·simp [h]
theorem chain_at (M:Mc σ L d C) {ab mb:Nat} {cs:AV} {H:Hp} (hA:Asks (domT L d) C (Tru L C) ab mb cs H) {n i:Nat} {c:List Lk} {x:Lk} (hc:C[n]?=some c) (hx:c[i]?=some x) :
  ∃ p,ixaSl 1 cs (I (n:Int))=some p∧ldA false 1 H p=some (chainV c)∧ixaSl 7 (chainV c) (I (i:Int))=some (.ip (encLk x)):=by
 obtain ⟨p,h1,h2⟩:=hA.gcs.ld1 (n:=n) (v:=chainV c) (by rw [List.getElem?_map,hc]; rfl)
 exact ⟨p,h1,h2,ix_map hx⟩
theorem is_step (M:Mc σ L d C) {f:Nat} (hA:AnyOk σ L d C f) (hf:f≤12) {n:Nat} {s:Sl} (hr:RepC (Rep C f) C s n) (hn:∀ p ∈ s,∀ q ∈ p.c.pseudos,Nest f q.list) (hn9:n<9000000000000000000) (i:Nat) (hi:i<s.length) (hi9:i<9000000000000000000)
  (hah:i≠0→∀ e,e<L.length→AskK σ L d C n_match_asked_ahead [I (n:Int),I (i:Int),I (e:Int)] (Tru L C n i e true)) (e:Nat) (he:e<L.length) :
  AskK σ L d C n_match_asked_is [I (n:Int),I (i:Int),I (e:Int)] (Tru L C n i e false):=by
 intro ab mb cs H K hA0 hK
 obtain ⟨c,hc,hcs,hcl⟩:=hr
 have hsel:selC C n=s:=RepC.sel ⟨c,hc,hcs,hcl⟩
 obtain ⟨x,hx⟩:=get_lt (l:=c) (k:=i) (by rw [← List.length_map (f:=(·.part)),hcs]; exact hi)
 have hcm:=List.mem_of_getElem? hc
 have hxm:=List.mem_of_getElem? hx
 have hlk:=M.lk c hcm x hxm
 obtain ⟨hl1,hl2⟩:=hcl i x hx
 have hsx:s[i]?=some x.part:=by rw [← hcs,List.getElem?_map,hx]; rfl
 have hbx:∀ (v:AV) (H:Hp) (K:AV→Hp→Prop),v.isAny=false→v.cells=[v]→boxK v H K=K (.ptr H.n 0) (H.new (.cells [v] true)):=fun v H K h1 h2=>boxK_one h1 h2 H K
 have tr:Tru L C n i e false=(compB (AA L) L e x.part.c&&(decide (i=0)||Tru L C n i e true)):=by
  unfold Tru
  simp only [hsel]
  cases i with
  | zero=>unfold frontB; simp [hsx]
  | succ i=>rw [frontB]; simp [hsx]
 refine match_asked_is.run ?_
 rw [hbx _ _ _ rfl rfl,hbx _ _ _ rfl rfl,hbx _ _ _ rfl rfl,hbx _ _ _ rfl rfl]
 obtain ⟨H4,hH4⟩:∃ H4,H4=(((H.new (.cells [.ptr ab 0] true)).new (.cells [I (n:Int)] true)).new (.cells [I (i:Int)] true)).new (.cells [I (e:Int)] true):=⟨_,rfl⟩
 have a4:Asks (domT L d) C (Tru L C) ab mb cs H4:=by rw [hH4]; exact (((hA0.new _).new _).new _).new _
 have k4:Kp mb H H4:=by rw [hH4]; exact (((Kp.new mb H _).trans (Kp.new mb _ _)).trans (Kp.new mb _ _)).trans (Kp.new mb _ _)
 have q1:¬ (H.n=H.n+1+1+1):=by omega
 have q2:¬ (H.n=H.n+1+1):=by omega
 have q3:¬ (H.n+1=H.n+1+1+1):=by omega
 have g0:H4.get H.n=some (.cells [.ptr ab 0] true):=by rw [hH4]; simp [q1,q2]
 have g1:H4.get (H.n+1)=some (.cells [I (n:Int)] true):=by rw [hH4]; simp [q3]
 have g2:H4.get (H.n+1+1)=some (.cells [I (i:Int)] true):=by rw [hH4]; simp
 have g3:H4.get (H.n+1+1+1)=some (.cells [I (e:Int)] true):=by rw [hH4]; simp
 have n4:H4.n=H.n+4:=by rw [hH4]; rfl
 rw [← hH4]
 simp only [Hp.n_new]
 rw [ld2 g0,bnd_some,ld2 g1,bnd_some,ld2 g2,bnd_some,ld2 g3,bnd_some]
 have hb:bldR [I 0,I 0,I 0,.lit (.bool false)] [(0,1,I (n:Int)),(1,1,I (i:Int)),(2,1,I (e:Int)),(3,1,Bo false)]=some (encQ n i e false):=rfl
 rw [hb,bnd_some]
 have mbl:=hA0.nmb
 refine once_sp (n:=n) (i:=i) (e:=e) (a:=false) a4 (List.getElem?_eq_some_iff.1 hc).1 rfl (fun H1 K1 h1 kp1 hK1=>?_) (fun H' h' kp'=>hK H' h' (k4.trans kp'))
 have keep:∀ {H2:Hp},Kp mb H4 H2→∀ {j:Nat} {v:AV},H.n≤j→j<H.n+4→H4.get j=some (.cells [v] true)→H2.get j=some (.cells [v] true):=fun kp j v h1 h2 hg=>by rw [kp.get j (by omega) (by omega)]; exact hg
 rw [callV_fn',List.nil_append]
 refine match_asked_is_1.run ?_
 obtain ⟨p,c1,c2,c3⟩:=chain_at M h1 hc hx
 have hlx:ldL true 7 (encLk x)=some (.agg (encLk x)):=ldL_all (len_lk x)
 have hcab:ldA false 1 H1 (.ptr ab 1)=some cs:=by simp [h1.gab]
 rw [ld2 (keep kp1 (by omega) (by omega) g0),bnd_some,ld2 (keep kp1 (by omega) (by omega) g3),bnd_some,bnd_some,n_ptr,bnd_some,sh_ptr,bnd_some,hcab,bnd_some,ld2 (keep kp1 (by omega) (by omega) g1),bnd_some,c1,bnd_some,c2,bnd_some,ld2 (keep kp1 (by omega) (by omega) g2),bnd_some,c3,bnd_some,ld_ip,hlx,bnd_some]
 refine compound_sp M hA hf hlk hl1 hl2 (hn x.part (List.mem_of_getElem? hsx)) he ab mb cs H1 _ h1 fun H2 h2 kp2=>?_
 simp only [ifB_lit]
 rw [tr] at hK1
 cases hcb:compB (AA L) L e x.part.c with
 | false =>
  simp [hcb] at hK1
  simp
  exact hK1 H2 h2 kp2
 | true =>
  simp [hcb] at hK1
  simp only [if_true]
  have kp12:=kp1.trans kp2
  rw [ld2 (keep kp12 (by omega) (by omega) g2),bnd_some,b_eql,bnd_some]
  simp only [ifB_lit,decide_eq_true_eq]
  split
  ·rename_i h0
   have h0':i=0:=by omega
   simp [h0'] at hK1
   exact hK1 H2 h2 kp2
  ·rename_i h0
   have h0':i≠0:=by omega
   simp [h0'] at hK1
   rw [ld2 (keep kp12 (by omega) (by omega) g0),bnd_some,ld2 (keep kp12 (by omega) (by omega) g1),bnd_some,bnd_some,ld2 (keep kp12 (by omega) (by omega) g3),bnd_some]
   exact hah h0' e he ab mb cs H2 _ h2 fun H3 h3 kp3=>hK1 H3 h3 (kp2.trans kp3)
theorem ahead_step (M:Mc σ L d C) {n:Nat} {c:List Lk} (hc:C[n]?=some c) (hn9:n<9000000000000000000) {i:Nat} {x:Lk} (hx:c[i+1]?=some x) (hi9:i+1<9000000000000000000)
  (hsx:(selC C n)[i+1]?=some x.part) (his:∀ e,e<L.length→AskK σ L d C n_match_asked_is [I (n:Int),I (i:Int),I (e:Int)] (Tru L C n i e false)) :
  ∀ (m e:Nat),e<m→e<L.length→AskK σ L d C n_match_asked_ahead [I (n:Int),I ((i+1:Nat):Int),I (e:Int)] (Tru L C n (i+1) e true):=by
 intro m
 induction m with
 | zero=>intro e h; omega
 | succ m ih =>
  intro e hem he ab mb cs H K hA0 hK
  have hlt:=standI_lt M he x.part.comb
  have hge:=standI_ge M he x.part.comb
  have trE:∀ e,e<L.length→Tru L C n (i+1) e true=aheadF (frontB (AA L) L (selC C n) i) L x.part.comb (e+1) e:=fun e he=>by
   unfold Tru
   simp only [hsx,Nat.add_sub_cancel]
  have tr:Tru L C n (i+1) e true=(decide (0≤standI L e x.part.comb)&&(Tru L C n i (standI L e x.part.comb).toNat false||(farB x.part.comb&&Tru L C n (i+1) (standI L e x.part.comb).toNat true))):=by
   rw [trE e he]
   by_cases h:0≤standI L e x.part.comb
   ·rw [trE _ (by omega),aheadF]
    rw [aheadF_fuel M (frontB (AA L) L (selC C n) i) x.part.comb e ((standI L e x.part.comb).toNat+1) (standI L e x.part.comb).toNat (by omega) (by omega) (by omega)]
    rfl
   ·rw [aheadF]; simp [h]
  have hbx:∀ (v:AV) (H:Hp) (K:AV→Hp→Prop),v.isAny=false→v.cells=[v]→boxK v H K=K (.ptr H.n 0) (H.new (.cells [v] true)):=fun v H K h1 h2=>boxK_one h1 h2 H K
  refine match_asked_ahead.run ?_
  rw [hbx _ _ _ rfl rfl,hbx _ _ _ rfl rfl,hbx _ _ _ rfl rfl]
  obtain ⟨H3,hH3⟩:∃ H3,H3=((H.new (.cells [.ptr ab 0] true)).new (.cells [I (n:Int)] true)).new (.cells [I ((i+1:Nat):Int)] true):=⟨_,rfl⟩
  have a3:Asks (domT L d) C (Tru L C) ab mb cs H3:=by rw [hH3]; exact ((hA0.new _).new _).new _
  have k3:Kp mb H H3:=by rw [hH3]; exact ((Kp.new mb H _).trans (Kp.new mb _ _)).trans (Kp.new mb _ _)
  have q2:¬ (H.n=H.n+1+1):=by omega
  have g0:H3.get H.n=some (.cells [.ptr ab 0] true):=by rw [hH3]; simp [q2]
  have g1:H3.get (H.n+1)=some (.cells [I (n:Int)] true):=by rw [hH3]; simp
  have g2:H3.get (H.n+1+1)=some (.cells [I ((i+1:Nat):Int)] true):=by rw [hH3]; simp
  have n3:H3.n=H.n+1+1+1:=by rw [hH3]; rfl
  rw [← hH3]
  simp only [Hp.n_new]
  obtain ⟨p,c1,c2,c3⟩:=chain_at M a3 hc hx
  have hcab:ldA false 1 H3 (.ptr ab 1)=some cs:=by simp [a3.gab]
  rw [ld2 g0,bnd_some,bnd_some,n_ptr,bnd_some,sh_ptr,bnd_some,hcab,bnd_some,ld2 g1,bnd_some,c1,bnd_some,c2,bnd_some,ld2 g2,bnd_some,c3,bnd_some,sh_ip,bnd_some,List.drop_zero,sh_ip,bnd_some,List.drop_zero,ld_ip,lk_comb,bnd_some]
  refine callK_of (a3.pure (stands_ok M.hN he x.part.comb [] rfl Hp.empty) rfl (by simp [plainV,plainVs])) ?_
  simp only [x_tup,List.getElem?_cons_zero,List.getElem?_cons_succ,bnd_some,allocK_eq,Hp.n_new]
  obtain ⟨H5,hH5⟩:∃ H5,H5=(((H3.new (.cells [I 0] true)).new (.cells [Bo false] true)).set H3.n (some (.cells [I (standI L e x.part.comb)] true))).set (H3.n+1) (some (.cells [Bo (farB x.part.comb)] true)):=⟨_,rfl⟩
  have s1:stA 1 ((H3.new (.cells [I 0] true)).new (.cells [Bo false] true)) (.ptr H3.n 0) (I (standI L e x.part.comb))=some (((H3.new (.cells [I 0] true)).new (.cells [Bo false] true)).set H3.n (some (.cells [I (standI L e x.part.comb)] true))):=by simp
  have s2:stA 1 (((H3.new (.cells [I 0] true)).new (.cells [Bo false] true)).set H3.n (some (.cells [I (standI L e x.part.comb)] true))) (.ptr (H3.n+1) 0) (Bo (farB x.part.comb))=some H5:=by rw [hH5]; simp
  rw [s1,bnd_some,s2,bnd_some]
  have a5:Asks (domT L d) C (Tru L C) ab mb cs H5:=by
   rw [hH5]
   exact a3.setN (a3.setN ((a3.new _).new _) (Nat.le_refl _) _) (by omega) _
  have k5:Kp mb H3 H5:=by
   rw [hH5]
   exact ((((Kp.new mb H3 _).trans (Kp.new mb _ _))).setN (Nat.le_refl _) _).setN (by omega) _
  have mbl:=hA0.nmb
  have n5:H5.n=H.n+1+1+1+1+1:=by rw [hH5]; simp [n3]
  have r0:H5.get H.n=some (.cells [.ptr ab 0] true):=by rw [k5.get _ (by omega) (by omega)]; exact g0
  have r1:H5.get (H.n+1)=some (.cells [I (n:Int)] true):=by rw [k5.get _ (by omega) (by omega)]; exact g1
  have r2:H5.get (H.n+1+1)=some (.cells [I ((i+1:Nat):Int)] true):=by rw [k5.get _ (by omega) (by omega)]; exact g2
  have r3:H5.get H3.n=some (.cells [I (standI L e x.part.comb)] true):=by rw [hH5]; simp
  have r4:H5.get (H3.n+1)=some (.cells [Bo (farB x.part.comb)] true):=by rw [hH5]; simp
  clear hH5 s1 s2
  rw [ld2 r3,bnd_some,b_geq,bnd_some]
  simp only [ifB_lit,decide_eq_true_eq]
  rw [tr] at hK
  split
  ·rename_i h0
   rw [ld2 r0,bnd_some,ld2 r1,bnd_some,ld2 r2,bnd_some]
   have hb:bldR [I 0,I 0,I 0,.lit (.bool false)] [(0,1,I (n:Int)),(1,1,I ((i+1:Nat):Int)),(2,1,I (e:Int)),(3,1,Bo true)]=some (encQ n (i+1) e true):=rfl
   rw [hb,bnd_some]
   refine once_sp (n:=n) (i:=i+1) (e:=e) (a:=true) a5 (List.getElem?_eq_some_iff.1 hc).1 rfl (fun H1 K1 h1 kp1 hK1=>?_) (fun H' h' kp'=>?_)
   ·have keep:∀ {H2:Hp},Kp mb H5 H2→∀ {j:Nat} {v:AV},H.n≤j→j<H.n+5→H5.get j=some (.cells [v] true)→H2.get j=some (.cells [v] true):=fun kp j v h1 h2 hg=>by rw [kp.get j (by omega) (by omega)]; exact hg
    obtain ⟨x',hx'⟩:∃ k:Nat,standI L e x.part.comb=k:=⟨(standI L e x.part.comb).toNat,by omega⟩
    rw [tr,hx'] at hK1
    rw [hx'] at r3 hlt
    simp only [Int.toNat_natCast] at hK1
    rw [callV_fn',List.nil_append]
    refine match_asked_ahead_1.run ?_
    have e1:wr .i64 (((i+1:Nat):Int) - 1)=(i:Int):=by rw [wr64 (by omega) (by omega)]; omega
    rw [ld2 (keep kp1 (by omega) (by omega) r0),bnd_some,ld2 (keep kp1 (by omega) (by omega) r1),bnd_some,ld2 (keep kp1 (by omega) (by omega) r2),bnd_some,b_sub,bnd_some,e1,ld2 (keep kp1 (by omega) (by omega) r3),bnd_some]
    refine his x' (by omega) ab mb cs H1 _ h1 fun H2 h2 kp2=>?_
    simp only [ifB_lit]
    have kp12:=kp1.trans kp2
    have h0':(0:Int)≤(x':Int):=by omega
    cases hf:Tru L C n i x' false with
    | true =>
     simp [hf,h0'] at hK1
     simp
     exact hK1 H2 h2 kp2
    | false =>
     simp [hf,h0'] at hK1
     simp only [Bool.false_eq_true,if_false]
     rw [ld2 (keep kp12 (by omega) (by omega) r4),bnd_some]
     simp only [ifB_lit]
     cases hfar:farB x.part.comb with
     | false =>
      simp [hfar] at hK1
      simp
      exact hK1 H2 h2 kp2
     | true =>
      simp [hfar] at hK1
      simp only [if_true]
      rw [ld2 (keep kp12 (by omega) (by omega) r0),bnd_some,ld2 (keep kp12 (by omega) (by omega) r1),bnd_some,ld2 (keep kp12 (by omega) (by omega) r2),bnd_some,ld2 (keep kp12 (by omega) (by omega) r3),bnd_some]
      exact ih x' (by omega) (by omega) ab mb cs H2 _ h2 fun H3' h3 kp3=>hK1 H3' h3 (kp2.trans kp3)
   ·rw [← tr] at hK
    exact hK H' h' (k3.trans (k5.trans kp'))
  ·rename_i h0
   have:decide (0≤standI L e x.part.comb)=false:=by simpa using h0
   rw [this,Bool.false_and] at hK
   exact hK H5 a5 (k3.trans k5)
theorem is_sp (M:Mc σ L d C) {f:Nat} (hA:AnyOk σ L d C f) (hf:f≤12) {n:Nat} {s:Sl} (hr:RepC (Rep C f) C s n) (hn:∀ p ∈ s,∀ q ∈ p.c.pseudos,Nest f q.list) (hn9:n<9000000000000000000):∀ (i:Nat),i<s.length→i<9000000000000000000→∀ e,e<L.length →
  AskK σ L d C n_match_asked_is [I (n:Int),I (i:Int),I (e:Int)] (Tru L C n i e false)
 | 0,hi,hi9,e,he=>is_step M hA hf hr hn hn9 0 hi hi9 (fun h=>absurd rfl h) e he
 | i+1,hi,hi9,e,he=>by
  refine is_step M hA hf hr hn hn9 (i+1) hi hi9 (fun _ e he=>?_) e he
  obtain ⟨c,hc,hcs,hcl⟩:=hr
  obtain ⟨x,hx⟩:=get_lt (l:=c) (k:=i+1) (by rw [← List.length_map (f:=(·.part)),hcs]; exact hi)
  have hsel:selC C n=s:=RepC.sel ⟨c,hc,hcs,hcl⟩
  have hsx:(selC C n)[i+1]?=some x.part:=by rw [hsel,← hcs,List.getElem?_map,hx]; rfl
  exact ahead_step M hc hn9 hx hi9 hsx (fun e he=>is_sp M hA hf ⟨c,hc,hcs,hcl⟩ hn hn9 i (by omega) (by omega) e he) (e+1) e (by omega) he
section
attribute [local irreducible] match_asked_any.L0
theorem any_step (M:Mc σ L d C) {f:Nat} (hA:AnyOk σ L d C f) (hf:f+1≤12):AnyOk σ L d C (f+1):=by
 intro l ns hr hn _ hns e he ab mb cs H K hA0 hK
 rw [← AA_eq hn hf] at hK
 obtain ⟨hlen,hrep⟩:=hr
 have L0:∀ (m k:Nat) (H1:Hp),ns.length - m=k→m≤ns.length→Asks (domT L d) C (Tru L C) ab mb cs H1→Kp mb H H1→(∀ H',Asks (domT L d) C (Tru L C) ab mb cs H'→Kp mb H H'→K (Bo (anyS (AA L) L (l.drop m) e)) H') →
   match_asked_any.L0 σ K (.ptr ab 0) (I (e:Int)) (ints ns) (I ns.length) (I m) H1:=by
  intro m k
  revert m
  induction k with
  | zero =>
   intro m H1 hk hm h1 kp hK
   have:m=ns.length:=by omega
   subst this
   refine match_asked_any.L0_step ?_
   simp
   have:=hK H1 h1 kp
   rw [hlen,List.drop_length] at this
   exact this
  | succ k ih =>
   intro m H1 hk hm h1 kp hK
   have hlt:m<ns.length:=by omega
   obtain ⟨n,hnn⟩:=get_lt hlt
   obtain ⟨s,hs⟩:=get_lt (l:=l) (k:=m) (by omega)
   have hrc:=hrep m s n hs hnn
   rw [drop_get hs] at hK
   have hlt':(m:Int)<ns.length:=by omega
   obtain ⟨c,hc,hcs,hcl⟩:=hrc
   have hcm:=List.mem_of_getElem? hc
   have hcl2:c.length=s.length:=by rw [← hcs,List.length_map]
   obtain ⟨p,c1,c2⟩:=h1.gcs.ld1 (n:=n) (v:=chainV c) (by rw [List.getElem?_map,hc]; rfl)
   have hcab:ldA false 1 H1 (.ptr ab 1)=some cs:=by simp [h1.gab]
   have hix:ixaSl 1 (ints ns) (I (m:Int))=some (.ip (encN n)):=ix_map hnn
   have hllen:lenSl (chainV c)=some (I (s.length:Int)):=by unfold chainV; simp [hcl2]
   have hl9:=M.ll c hcm
   rw [reach_eq] at hl9 hns
   have hn9:n<9000000000000000000:=by
    have:=(List.getElem?_eq_some_iff.1 hc).1
    have:=M.cl
    rw [reach_eq] at this
    omega
   have hsel:selC C n=s:=RepC.sel ⟨c,hc,hcs,hcl⟩
   refine match_asked_any.L0_step ?_
   have hle:ldL false 1 (encN n)=some (I (n:Int)):=rfl
   simp only [b_lss,hlt',decide_true,bnd_some,ifB_lit,if_true,hix,ld_ip,hle,n_ptr,sh_ptr,hcab,c1,c2,hllen,b_gtr,decide_eq_true_eq]
   have hcons:anyS (AA L) L (s::l.drop (m+1)) e=((!decide (s.length=0)&&frontB (AA L) L s (s.length - 1) e)||anyS (AA L) L (l.drop (m+1)) e):=by simp [anyS]
   rw [hcons] at hK
   split
   ·rename_i h0
    have e1:wr .i64 ((s.length:Int) - 1)=((s.length - 1:Nat):Int):=by rw [wr64 (by omega) (by omega)]; omega
    simp only [b_sub,bnd_some,e1]
    refine is_sp M hA (by omega) ⟨c,hc,hcs,hcl⟩ (fun p hp q hq=>hn s (List.mem_of_getElem? hs) p hp q hq) hn9 (s.length - 1) (by omega) (by omega) e he ab mb cs H1 _ h1 fun H2 h2 kp2=>?_
    have htr:Tru L C n (s.length - 1) e false=frontB (AA L) L s (s.length - 1) e:=by unfold Tru; simp only [hsel]
    rw [htr]
    have h0':¬ (s.length=0):=by omega
    simp only [ifB_lit]
    cases hfr:frontB (AA L) L s (s.length - 1) e with
    | true =>
     rw [hfr] at hK
     simp [h0'] at hK
     simp
     exact hK H2 h2 (kp.trans kp2)
    | false =>
     rw [hfr] at hK
     simp at hK
     simp
     rw [wr_succ (by omega)]
     exact ih (m+1) H2 (by omega) (by omega) h2 (kp.trans kp2) hK
   ·rename_i h0
    have h0':s.length=0:=by omega
    simp [h0'] at hK
    simp only [b_add,bnd_some]
    rw [wr_succ (by omega)]
    exact ih (m+1) H1 (by omega) (by omega) h1 kp hK
 refine match_asked_any.run ?_
 have:lenSl (ints ns)=some (I (ns.length:Int)):=by unfold ints; simp
 rw [this,bnd_some]
 exact L0 0 _ H rfl (Nat.zero_le _) hA0 (.refl _ _) (by simpa using hK)
theorem any_ok (M:Mc σ L d C):∀ (f:Nat),f≤12→AnyOk σ L d C f
 | 0,_=>fun l ns hr=>hr.elim
 | f+1,hf=>any_step M (any_ok M f (by omega)) hf
end
end
end Go.Proofs.YthdcghnjndhecaaGreat.Ev
namespace Go.Proofs.YthdcghnjndhecaaGreat.Ev
set_option linter.unusedVariables false
set_option linter.unusedSimpArgs false
variable {σ:Sig}
def mayQ (g:List Sl→Nat→Bool) (dp:Nat) (q:Ps):Bool:=if q.kind=7∨q.kind=8 then !decide (dp=0)&&g q.list (dp - 1) else true
def mayC (g:List Sl→Nat→Bool) (dp:Nat) (c:Cp):Bool:=c.pseudos.all (mayQ g dp)
def mayS (g:List Sl→Nat→Bool) (dp:Nat) (s:Sl):Bool:=decide (s.length≤50)&&s.all fun p=>mayC g dp p.c
def mayF:Nat→List Sl→Nat→Bool
 | 0,_,_=>false
 | f+1,l,dp=>l.all (mayS (mayF f) dp)
section
attribute [local irreducible] match_may.L0 match_may.L1 match_mayCompound.L0 match_mayCompound.J1
def MayOk (σ:Sig) (f:Nat):Prop:=∀ (l:List Sl) (dp:Nat) (H:Hp),slsWf Lmax l→Nest f l→dp≤8→Good Tryz.prog σ n_match_may [sls l,I (dp:Int)] H (Bo (mayF f l dp)) H
theorem mayC_ok {f:Nat} (ih:MayOk σ f) (c:Cp) (hc:CpWf Lmax c) (hn:∀ q ∈ c.pseudos,Nest f q.list) (dp:Nat) (hd:dp≤8) (H:Hp):Good Tryz.prog σ n_match_mayCompound [.agg (encCp c),I (dp:Int)] H (Bo (mayC (mayF f) dp c)) H:=by
 refine good_by (fun K hK=>match_mayCompound.run ?_) (by simp [noIds,noId,noId_Cp]) rfl H
 have L0:∀ (m k:Nat) (H:Hp),c.pseudos.length - m=k→m≤c.pseudos.length→(∀ H,K (Bo ((c.pseudos.drop m).all (mayQ (mayF f) dp))) H)→match_mayCompound.L0 σ K (I (dp:Int)) (.imm 4 (c.pseudos.map encPs)) (I c.pseudos.length) (I m) H:=by
  intro m k
  revert m
  induction k with
  | zero =>
   intro m H hk hm hK
   have:m=c.pseudos.length:=by omega
   subst this
   refine match_mayCompound.L0_step ?_
   simp
   simpa using hK H
  | succ k ihk =>
   intro m H hk hm hK
   have hlt:m<c.pseudos.length:=by omega
   obtain ⟨q,hq⟩:=get_lt hlt
   have hqm:=List.mem_of_getElem? hq
   have hqw:=(Ps.wf_iff.1 (hc.ps q hqm)).2.2.2
   rw [drop_get hq,List.all_cons] at hK
   have hlt':(m:Int)<c.pseudos.length:=by omega
   have next:∀ H,mayQ (mayF f) dp q=true→match_mayCompound.J1 σ K (I (dp:Int)) (.imm 4 (c.pseudos.map encPs)) (I c.pseudos.length) (I m) H:=by
    intro H ht
    refine match_mayCompound.J1_step ?_
    simp
    rw [wr_succL hlt hc.psL]
    refine ihk (m+1) H (by omega) (by omega) fun H'=>?_
    have:=hK H'
    rwa [ht,Bool.true_and] at this
   have ask:∀ (H:Hp),(q.kind=7∨q.kind=8)→H.get (H.n - 1)=some (.cells (encPs q) true)→ifB (Bo (decide ((dp:Int)=0))) (K (Bo false) H) (bnd (ldA false 1 H (.ptr (H.n - 1) 3)) fun x22=>bnd (binR .sub (I (dp:Int)) (I 1)) fun x23=>callK Tryz.prog σ n_match_may [x22,x23] H fun x24 H25=>bnd (unR .not x24) fun x26=>ifB x26 (K (Bo false) H25) (match_mayCompound.J1 σ K (I (dp:Int)) (.imm 4 (c.pseudos.map encPs)) (I c.pseudos.length) (I m) H25)):=by
    intro H hkq hg
    simp only [ifB_lit,decide_eq_true_eq]
    have hQ:mayQ (mayF f) dp q=(!decide (dp=0)&&mayF f q.list (dp - 1)):=by unfold mayQ; rw [if_pos hkq]
    split
    ·rename_i h0
     have h0':dp=0:=by omega
     have:=hK H
     rw [hQ] at this
     simpa [h0'] using this
    ·rename_i h0
     have h0':¬ (dp=0):=by omega
     have e1:wr .i64 ((dp:Int) - 1)=((dp - 1:Nat):Int):=by rw [wr64 (by omega) (by omega)]; omega
     simp only [ld_ptr,hg,ldO_cells,f_encPs3,bnd_some,b_sub,e1]
     refine callK_of (ih q.list (dp - 1) H hqw (hn q hqm) (by omega)) ?_
     simp only [u_not,bnd_some,ifB_lit]
     cases hb:mayF f q.list (dp - 1) with
     | false =>
      have:=hK H
      rw [hQ] at this
      simpa [h0',hb] using this
     | true =>
      simp
      exact next H (by rw [hQ]; simp [h0',hb])
   refine match_mayCompound.L0_step ?_
   have hst:stA 4 (H.new (.cells [I 0,I 0,I 0,.lit (.slice none 0 0)] true)) (.ptr H.n 0) (.agg (encPs q))=some ((H.new (.cells [I 0,I 0,I 0,.lit (.slice none 0 0)] true)).set H.n (some (.cells (encPs q) true))):=by
    simp
    rw [ov_Ps q (by simp)]
   simp only [b_lss,hlt',decide_true,bnd_some,ifB_lit,if_true,ix_map hq,ld_ip,ldL_ps,allocK_eq,hst,sh_ptr,Nat.zero_add,ld_ptr,hp_get_set,ldO_cells,List.drop_zero,f_encPs0,b_neq]
   have hask:=ask ((H.new (.cells [I 0,I 0,I 0,.lit (.slice none 0 0)] true)).set H.n (some (.cells (encPs q) true)))
   simp only [Hp.n_set,Hp.n_new,Nat.add_sub_cancel,ld_ptr,hp_get_set,if_true,ldO_cells] at hask
   by_cases h7:q.kind=7
   ·simp only [h7,decide_true,Bool.not_true,Bool.false_eq_true,if_false,b_eql,bnd_some]
    exact hask (.inl h7) trivial
   ·simp only [h7,decide_false,Bool.not_false,if_true]
    by_cases h8:q.kind=8
    ·simp only [h8,decide_true,Bool.not_true,Bool.false_eq_true,if_false,b_eql,bnd_some]
     exact hask (.inr h8) trivial
    ·simp only [h8,decide_false,Bool.not_false,if_true]
     exact next _ (by unfold mayQ; rw [if_neg (by omega)])
 simp only [boxK_agg,sh_ptr,bnd_some,Nat.zero_add,ld_ptr,hp_get_new,if_true,ldO_cells,f_encCp4,len_imm,List.length_map]
 exact L0 0 _ _ rfl (Nat.zero_le _) (by simpa [mayC] using hK)
theorem may_step {f:Nat} (ih:MayOk σ f):MayOk σ (f+1):=by
 intro l dp H hl hn hd
 refine good_by (fun K hK=>match_may.run ?_) (by simp [noIds,noId]) rfl H
 have L0:∀ (m k:Nat) (H:Hp) (y20 y21 y22:AV),l.length - m=k→m≤l.length→(∀ H,K (Bo ((l.drop m).all (mayS (mayF f) dp))) H)→match_may.L0 σ K (I (dp:Int)) (sls l) (I l.length) (I m) y20 y21 y22 H:=by
  intro m k
  revert m
  induction k with
  | zero =>
   intro m H y20 y21 y22 hk hm hK
   have:m=l.length:=by omega
   subst this
   refine match_may.L0_step ?_
   simp
   simpa using hK H
  | succ k ihk =>
   intro m H y20 y21 y22 hk hm hK
   have hlt:m<l.length:=by omega
   obtain ⟨s,hs⟩:=get_lt hlt
   have hsm:=List.mem_of_getElem? hs
   have hsw:=hl.2 s hsm
   rw [drop_get hs,List.all_cons] at hK
   have hlt':(m:Int)<l.length:=by omega
   have L1:∀ (j k2:Nat) (H:Hp),s.length - j=k2→j≤s.length→(∀ H,K (Bo ((s.drop j).all (fun p=>mayC (mayF f) dp p.c)&&(l.drop (m+1)).all (mayS (mayF f) dp))) H) →
     match_may.L1 σ K (I (dp:Int)) (sls l) (I l.length) (I m) (.imm 6 (s.map encPt)) (I s.length) (I j) H:=by
    intro j k2
    revert j
    induction k2 with
    | zero =>
     intro j H hk2 hj hK
     have:j=s.length:=by omega
     subst this
     refine match_may.L1_step ?_
     simp
     rw [wr_succL hlt hl.1]
     exact ihk (m+1) H _ _ _ (by omega) (by omega) (by simpa using hK)
    | succ k2 ih2 =>
     intro j H hk2 hj hK
     have hjlt:j<s.length:=by omega
     obtain ⟨p,hp⟩:=get_lt hjlt
     have hpm:=List.mem_of_getElem? hp
     have hpw:=(Pt.wf_iff.1 (hsw.2 p hpm)).2
     rw [drop_get hp,List.all_cons] at hK
     have hjlt':(j:Int)<s.length:=by omega
     have hst:stA 6 (H.new (.cells [I 0,Sx ⟨#[]⟩,.lit (.slice none 0 0),.lit (.slice none 0 0),.lit (.slice none 0 0),.lit (.slice none 0 0)] true)) (.ptr H.n 0) (.agg (encPt p))=some ((H.new (.cells [I 0,Sx ⟨#[]⟩,.lit (.slice none 0 0),.lit (.slice none 0 0),.lit (.slice none 0 0),.lit (.slice none 0 0)] true)).set H.n (some (.cells (encPt p) true))):=by
      simp
      rw [ov_Pt p (by simp)]
     refine match_may.L1_step ?_
     have hd1:(encPt p).drop 1=encCp p.c:=by rw [encPt_eq]; rfl
     simp only [b_lss,hjlt',decide_true,bnd_some,ifB_lit,if_true,ix_map hp,ld_ip,ldL_pt,allocK_eq,hst,sh_ptr,Nat.zero_add,ld_ptr,hp_get_set,ldO_cells,hd1,ldL_cp]
     refine callK_of (mayC_ok ih p.c hpw (fun q hq=>hn s hsm p hpm q hq) dp hd _) ?_
     simp only [u_not,bnd_some,ifB_lit]
     cases hb:mayC (mayF f) dp p.c with
     | false =>
      rw [hb] at hK
      simpa using hK _
     | true =>
      rw [hb] at hK
      simp
      rw [wr_succL hjlt hsw.1]
      exact ih2 (j+1) _ (by omega) (by omega) (by simpa using hK)
   refine match_may.L0_step ?_
   have hst:stA 1 (H.new (.cells [.lit (.slice none 0 0)] true)) (.ptr H.n 0) (.agg (encSl s))=some ((H.new (.cells [.lit (.slice none 0 0)] true)).set H.n (some (.cells (encSl s) true))):=by
    simp [encSl]
   have hix:ixaSl 1 (sls l) (I (m:Int))=some (.ip (encSl s)):=ix_map hs
   simp only [b_lss,hlt',decide_true,bnd_some,ifB_lit,if_true,hix,ld_ip,ldL_sl,allocK_eq,hst,sh_ptr,Nat.zero_add,ld_ptr,hp_get_set,ldO_cells,List.drop_zero,f_encSl0,len_imm,List.length_map,b_gtr,decide_eq_true_eq]
   have hS:mayS (mayF f) dp s=(decide (s.length≤50)&&s.all fun p=>mayC (mayF f) dp p.c):=rfl
   rw [hS] at hK
   split
   ·rename_i h50
    have:¬ (s.length≤50):=by omega
    simpa [this] using hK _
   ·rename_i h50
    have:s.length≤50:=by omega
    refine L1 0 _ _ rfl (Nat.zero_le _) ?_
    simpa [this] using hK
 simp
 exact L0 0 _ _ _ _ _ rfl (Nat.zero_le _) (by simpa [mayF] using hK)
theorem may_ok:∀ (f:Nat),MayOk σ f
 | 0=>fun l dp H hl hn=>hn.elim
 | f+1=>may_step (may_ok f)
end
end Go.Proofs.YthdcghnjndhecaaGreat.Ev

/- The walks, part 4: the evaluator, the functions, the laws. Conditions: none. -/
import Derived.Test.YthdcghnjndhecaaGreatZ3
namespace Go.Proofs.YthdcghnjndhecaaGreat.Ev
set_option maxRecDepth 100000
set_option maxHeartbeats 4000000
set_option linter.unusedVariables false
variable {σ:Sig} {K:AV→Hp→Prop} {H:Hp}
noncomputable def law15_CascadeLast.code:Code:=bodyOf Tryz.f6
noncomputable def law15_CascadeLast.Q0 (σ:Sig) (K:AV→Hp→Prop):Exit→List AV→Hp→Prop:=(nx (fQ Tryz.f6 σ K) fun T G=>wp (CZ σ) 111139 (sR (sR (sR (sR (sR (sR law15_CascadeLast.code)))))) T G (fQ Tryz.f6 σ K))
noncomputable def law15_CascadeLast.L0 (σ:Sig) (K:AV→Hp→Prop) (y0 y1 y5 y9 y12 y13 y15 y16:AV) (H:Hp):Prop:=∀ j:Nat→AV,LoopP (CZ σ) (lB (bB (sR (sL (sR (sR (sR (sR (sR law15_CascadeLast.code))))))))) ([y0,y1,j 2,j 3,j 4,y5,j 6,j 7,j 8,y9,j 10,j 11,y12,y13,j 14,y15,y16]++jr j 17 89) H (fun e T G=>(law15_CascadeLast.Q0 σ K) (unblock 0 e) T G)
noncomputable def law15_CascadeLast.L1 (σ:Sig) (K:AV→Hp→Prop) (y0 y1 y5 y9 y12 y13 y15 y16:AV) (H:Hp):Prop:=∀ j:Nat→AV,LoopP (CZ σ) (lB (bB (sR (bB (sL (sR (lB (bB (sR (sL (sR (sR (sR (sR (sR law15_CascadeLast.code))))))))))))))) ([y0,y1,j 2,j 3,j 4,y5,j 6,j 7,j 8,y9,j 10,j 11,y12,y13,j 14,y15,y16]++jr j 17 89) H (fun e T G=>(fun e T G=>(nx (nx (fun e T G=>(law15_CascadeLast.Q0 σ K) (unblock 0 e) T G) fun T G=>∀ j,LoopP (CZ σ) (lB (bB (sR (sL (sR (sR (sR (sR (sR law15_CascadeLast.code))))))))) (maskA 111139 j 0 T) G (fun e T G=>(law15_CascadeLast.Q0 σ K) (unblock 0 e) T G)) fun T G=>wp (CZ σ) 111139 (sR (sR (lB (bB (sR (sL (sR (sR (sR (sR (sR law15_CascadeLast.code))))))))))) T G (nx (fun e T G=>(law15_CascadeLast.Q0 σ K) (unblock 0 e) T G) fun T G=>∀ j,LoopP (CZ σ) (lB (bB (sR (sL (sR (sR (sR (sR (sR law15_CascadeLast.code))))))))) (maskA 111139 j 0 T) G (fun e T G=>(law15_CascadeLast.Q0 σ K) (unblock 0 e) T G))) (unblock 1 e) T G) (unblock 2 e) T G)
noncomputable def law15_CascadeLast.L2 (σ:Sig) (K:AV→Hp→Prop) (y0 y1 y5 y9 y12 y13 y15 y16:AV) (H:Hp):Prop:=∀ j:Nat→AV,LoopP (CZ σ) (lB (bB (sR (sL (sR (sR (sR (sR (sR (sR (sR (sR (sR law15_CascadeLast.code))))))))))))) ([y0,y1,j 2,j 3,j 4,y5,j 6,j 7,j 8,y9,j 10,j 11,y12,y13,j 14,y15,y16]++jr j 17 89) H (fun e T G=>(nx (fQ Tryz.f6 σ K) fun T G=>wp (CZ σ) 111139 (sR (sR (sR (sR (sR (sR (sR (sR (sR (sR law15_CascadeLast.code)))))))))) T G (fQ Tryz.f6 σ K)) (unblock 4 e) T G)
theorem law15_CascadeLast.L0_step {y0 y1 y5 y9 y12 y13 y15 y16:AV} (h:bnd (lenSl y1) fun x1=>bnd (binR .lss y12 x1) fun x2=>ifB x2 (law15_CascadeLast.L1 σ K y0 y1 y5 y9 y12 (I 0) y15 y16 H) (bnd (shiftA y5 3) fun x3=>bnd (stA 1 H x3 (Bo true)) fun H4=>bnd (bldR [I 0,.lit (.string ⟨#[]⟩),.lit (.slice none 0 0),.lit (.slice none 0 0),.lit (.slice none 0 0),.lit (.slice none 0 0)] []) fun l5=>bnd (bldSlR [.int .i64 0,.string ⟨#[]⟩,.slice none 0 0,.slice none 0 0,.slice none 0 0,.slice none 0 0] 6 1 H4 [(0,6,(.agg l5))]) fun p6=>bnd (bldR [.lit (.slice none 0 0)] [(0,1,p6.1)]) fun l7=>bnd (bldSlR [.slice none 0 0] 1 1 p6.2 [(0,1,(.agg l7))]) fun p8=>bnd (ldA true 4 p8.2 y5) fun x9=>bnd (bldSlR [.int .i64 0,.int .i64 0,.int .i64 0,.bool false] 4 1 p8.2 [(0,4,x9)]) fun p10=>bnd (bldR [.lit (.slice none 0 0),.lit (.slice none 0 0)] [(0,1,p8.1),(1,1,p10.1)]) fun l11=>allocK [.lit (.slice none 0 0),.lit (.slice none 0 0)] p10.2 fun x12 H13=>bnd (stA 2 H13 x12 (.agg l11)) fun H14=>bnd (ldA true 2 H14 x12) fun x15=>bnd (bldSlR [.slice none 0 0,.slice none 0 0] 2 1 H14 [(0,2,x15)]) fun p16=>bnd (appR false 2 48 p16.2 p16.1 y1) fun p17=>law15_CascadeLast.L2 σ K y0 y1 y5 y9 y12 y13 p17.1 (I 0) p17.2)):law15_CascadeLast.L0 σ K y0 y1 y5 y9 y12 y13 y15 y16 H :=
 fun j=>lrd (g:=111139) (Eq.mpr (by kernel_rfl) h)
theorem law15_CascadeLast.L1_step {y0 y1 y5 y9 y12 y13 y15 y16:AV} (h:bnd (ixaSl 2 y1 y12) fun x1=>bnd (shiftA x1 1) fun x2=>bnd (ldA false 1 H x2) fun x3=>bnd (lenSl x3) fun x4=>bnd (binR .lss y13 x4) fun x5=>ifB x5 (bnd (ixaSl 2 y1 y12) fun x6=>bnd (shiftA x6 1) fun x7=>bnd (ldA false 1 H x7) fun x8=>bnd (ixaSl 4 x8 y13) fun x9=>bnd (shiftA x9 3) fun x10=>bnd (ldA false 1 H x10) fun x11=>ifB x11 (K (Bo true) H) (bnd (binR .add y13 (I 1)) fun x12=>law15_CascadeLast.L1 σ K y0 y1 y5 y9 y12 x12 y15 y16 H)) (bnd (binR .add y12 (I 1)) fun x13=>law15_CascadeLast.L0 σ K y0 y1 y5 y9 x13 y13 y15 y16 H)):law15_CascadeLast.L1 σ K y0 y1 y5 y9 y12 y13 y15 y16 H :=
 fun j=>lrd (g:=111139) (Eq.mpr (by kernel_rfl) h)
theorem law15_CascadeLast.L2_step {y0 y1 y5 y9 y12 y13 y15 y16:AV} (h:bnd (lenSl y0) fun x1=>bnd (binR .lss y16 x1) fun x2=>ifB x2 (callK Tryz.prog σ n_cascade_Winners [y9,y16,y15] H fun x3 H4=>allocK (List.replicate 16 (I 0)) H4 fun x5 H6=>bnd (stA 16 H6 x5 x3) fun H7=>bnd (shiftA y5 0) fun x8=>bnd (ldA false 1 H7 x8) fun x9=>bnd (ixaArr 8 2 x5 x9) fun x10=>bnd (ldA true 2 H7 x10) fun x11=>bnd (shiftA y5 1) fun x12=>bnd (ldA true 2 H7 x12) fun x13=>bnd (eqAggR [.int .i64,.int .i64] .neq x11 x13) fun x14=>ifB x14 (K (Bo false) H7) (bnd (binR .add y16 (I 1)) fun x15=>law15_CascadeLast.L2 σ K y0 y1 y5 y9 y12 y13 y15 x15 H7)) (K (Bo true) H)):law15_CascadeLast.L2 σ K y0 y1 y5 y9 y12 y13 y15 y16 H :=
 fun j=>lrd (g:=111139) (Eq.mpr (by kernel_rfl) h)
theorem law15_CascadeLast.run {a0 a1 a2:AV} (h:boxK a2 H fun x1 H2=>callK Tryz.prog σ n_law15_alive [] H2 fun x3 H4=>callK Tryz.prog σ n_law12_Dear [a1] H4 fun x5 H6=>callK Tryz.prog σ n_law15_both [a0] H6 fun x7 H8=>bnd (exR x7 0) fun x9=>bnd (exR x7 1) fun x10=>bnd (exR x7 2) fun x11=>bnd (unR .not x3) fun x12=>ifB x12 (K x3 H8) (ifB x5 (K x3 H8) (bnd (unR .not x11) fun x13=>ifB x13 (K x3 H8) (bnd (lenSl a1) fun x14=>bnd (binR .gtr x14 (I 29)) fun x15=>ifB x15 (K x3 H8) (bnd (shiftA x1 0) fun x16=>bnd (ldA false 1 H8 x16) fun x17=>bnd (binR .lss x17 (I 0)) fun x18=>ifB x18 (K x3 H8) (bnd (shiftA x1 0) fun x19=>bnd (ldA false 1 H8 x19) fun x20=>bnd (binR .gtr x20 (I 7)) fun x21=>ifB x21 (K x3 H8) (law15_CascadeLast.L0 σ K a0 a1 x1 x9 (I 0) (.lit undef) (.lit undef) (.lit undef) H8))))))):∃ r H1,Good Tryz.prog σ n_law15_CascadeLast [a0,a1,a2] H r H1∧K r H1 :=
 gwp 111139 (fn:=Tryz.f6) (f:=n_law15_CascadeLast) (c:=law15_CascadeLast.code) (by kernel_rfl) (by kernel_rfl) (Eq.mpr (by kernel_rfl) h)
noncomputable def law15_alive.code:Code:=bodyOf Tryz.f9
theorem law15_alive.run (h:bnd (bldSlR [.int .u8 0] 1 24 H [(0,1,(.lit (.int .u8 97))),(1,1,(.lit (.int .u8 123))),(2,1,(.lit (.int .u8 119))),(3,1,(.lit (.int .u8 105))),(4,1,(.lit (.int .u8 100))),(5,1,(.lit (.int .u8 116))),(6,1,(.lit (.int .u8 104))),(7,1,(.lit (.int .u8 58))),(8,1,(.lit (.int .u8 49))),(9,1,(.lit (.int .u8 112))),(10,1,(.lit (.int .u8 120))),(11,1,(.lit (.int .u8 125))),(12,1,(.lit (.int .u8 97))),(13,1,(.lit (.int .u8 123))),(14,1,(.lit (.int .u8 119))),(15,1,(.lit (.int .u8 105))),(16,1,(.lit (.int .u8 100))),(17,1,(.lit (.int .u8 116))),(18,1,(.lit (.int .u8 104))),(19,1,(.lit (.int .u8 58))),(20,1,(.lit (.int .u8 50))),(21,1,(.lit (.int .u8 112))),(22,1,(.lit (.int .u8 120))),(23,1,(.lit (.int .u8 125)))]) fun p1=>bnd (cvSame p1.2 p1.1) fun p2=>callK Tryz.prog σ n_ref1_Sheet [p2.1] p2.2 fun x3 H4=>bnd (bldR [I 0,.lit (.string ⟨#[]⟩),.lit (.string ⟨#[]⟩),.lit (.slice none 0 0),.lit (.slice none 0 0)] [(0,1,(I (-1))),(1,1,(.lit (.string ⟨#[97]⟩)))]) fun l5=>bnd (bldSlR [.int .i64 0,.string ⟨#[]⟩,.string ⟨#[]⟩,.slice none 0 0,.slice none 0 0] 5 1 H4 [(0,5,(.agg l5))]) fun p6=>callK Tryz.prog σ n_dom_New [p6.1] p6.2 fun x7 H8=>bnd (exR x7 0) fun x9=>bnd (exR x7 1) fun x10=>callK Tryz.prog σ n_cascade_Winners [x9,(I 0),x3] H8 fun x11 H12=>allocK (List.replicate 16 (I 0)) H12 fun x13 H14=>bnd (stA 16 H14 x13 x11) fun H15=>bnd (ixaArr 8 2 x13 (I 4)) fun x16=>bnd (ldA true 2 H15 x16) fun x17=>bnd (bldR [I 0,I 0] [(0,1,(I 2)),(1,1,(I 2000))]) fun l18=>bnd (eqAggR [.int .i64,.int .i64] .eql x17 (.agg l18)) fun x19=>K x19 H15):∃ r H1,Good Tryz.prog σ n_law15_alive [] H r H1∧K r H1 :=
 gwp 0 (fn:=Tryz.f9) (f:=n_law15_alive) (c:=law15_alive.code) (by kernel_rfl) (by kernel_rfl) (Eq.mpr (by kernel_rfl) h)
noncomputable def law12_Dear.code:Code:=bodyOf Tryz.f10
noncomputable def law12_Dear.L0 (σ:Sig) (K:AV→Hp→Prop) (y0 y3 y4 y5 y6:AV) (H:Hp):Prop:=∀ j:Nat→AV,LoopP (CZ σ) (lB (bB (sR (sL (sR (sR (sR law12_Dear.code))))))) ([y0,j 1,j 2,y3,y4,y5,y6]++jr j 7 56) H (fun e T G=>(nx (fQ Tryz.f10 σ K) fun T G=>wp (CZ σ) 121 (sR (sR (sR (sR law12_Dear.code)))) T G (fQ Tryz.f10 σ K)) (unblock 0 e) T G)
noncomputable def law12_Dear.L1 (σ:Sig) (K:AV→Hp→Prop) (y0 y3 y4 y5 y6:AV) (H:Hp):Prop:=∀ j:Nat→AV,LoopP (CZ σ) (lB (bB (sR (sL (sR (sR (sR (sR (sR law12_Dear.code))))))))) ([y0,j 1,j 2,y3,y4,y5,y6]++jr j 7 56) H (fun e T G=>(nx (fQ Tryz.f10 σ K) fun T G=>wp (CZ σ) 121 (sR (sR (sR (sR (sR (sR law12_Dear.code)))))) T G (fQ Tryz.f10 σ K)) (unblock 2 e) T G)
theorem law12_Dear.L0_step {y0 y3 y4 y5 y6:AV} (h:bnd (lenSl y0) fun x1=>bnd (binR .lss y4 x1) fun x2=>ifB x2 (bnd (ixaSl 2 y0 y4) fun x3=>bnd (shiftA x3 0) fun x4=>bnd (ldA false 1 H x4) fun x5=>bnd (lenSl x5) fun x6=>bnd (binR .gtr x6 (I 8)) fun x7=>ifB x7 (K (Bo true) H) (bnd (ixaSl 2 y0 y4) fun x8=>bnd (shiftA x8 1) fun x9=>bnd (ldA false 1 H x9) fun x10=>bnd (lenSl x10) fun x11=>bnd (binR .gtr x11 (I 30)) fun x12=>ifB x12 (K (Bo true) H) (bnd (ixaSl 2 y0 y4) fun x13=>bnd (shiftA x13 0) fun x14=>bnd (ldA false 1 H x14) fun x15=>bnd (appR false 1 24 H y3 x15) fun p16=>bnd (binR .add y4 (I 1)) fun x17=>law12_Dear.L0 σ K y0 p16.1 x17 y5 y6 p16.2))) (law12_Dear.L1 σ K y0 y3 y4 (I 0) (I 0) H)):law12_Dear.L0 σ K y0 y3 y4 y5 y6 H :=
 fun j=>lrd (g:=121) (Eq.mpr (by kernel_rfl) h)
theorem law12_Dear.L1_step {y0 y3 y4 y5 y6:AV} (h:bnd (lenSl y3) fun x1=>bnd (binR .lss y6 x1) fun x2=>ifB x2 (bnd (binR .add y6 (I 1)) fun x3=>bnd (slSl 1 y3 (some y6) (some x3) none) fun x4=>callK Tryz.prog σ n_law10_Dear [x4] H fun x5 H6=>ifB x5 (K (Bo true) H6) (bnd (ixaSl 1 y3 y6) fun x7=>bnd (shiftA x7 0) fun x8=>bnd (ldA false 1 H6 x8) fun x9=>bnd (lenSl x9) fun x10=>bnd (binR .add y5 x10) fun x11=>bnd (binR .add y6 (I 1)) fun x12=>law12_Dear.L1 σ K y0 y3 y4 x11 x12 H6)) (bnd (binR .gtr y5 (I 120)) fun x13=>K x13 H)):law12_Dear.L1 σ K y0 y3 y4 y5 y6 H :=
 fun j=>lrd (g:=121) (Eq.mpr (by kernel_rfl) h)
theorem law12_Dear.run {a0:AV} (h:bnd (lenSl a0) fun x1=>bnd (binR .gtr x1 (I 30)) fun x2=>ifB x2 (K (Bo true) H) (law12_Dear.L0 σ K a0 (.lit (.slice none 0 0)) (I 0) (.lit undef) (.lit undef) H)):∃ r H1,Good Tryz.prog σ n_law12_Dear [a0] H r H1∧K r H1 :=
 gwp 121 (fn:=Tryz.f10) (f:=n_law12_Dear) (c:=law12_Dear.code) (by kernel_rfl) (by kernel_rfl) (Eq.mpr (by kernel_rfl) h)
noncomputable def law15_both.code:Code:=bodyOf Tryz.f11
theorem law15_both.run {a0:AV} (h:callK Tryz.prog σ n_law9_Big [a0] H fun x1 H2=>callK Tryz.prog σ n_ref9_New [a0] H2 fun x3 H4=>bnd (exR x3 0) fun x5=>bnd (exR x3 1) fun x6=>ifB x1 (K (.tup [(.lit (.pointer none)),(.lit (.pointer none)),(Bo false)]) H4) (bnd (binR .neq x6 (I 0)) fun x7=>ifB x7 (K (.tup [(.lit (.pointer none)),(.lit (.pointer none)),(Bo false)]) H4) (callK Tryz.prog σ n_dom_New [a0] H4 fun x8 H9=>bnd (exR x8 0) fun x10=>bnd (exR x8 1) fun x11=>K (.tup [x10,x5,(Bo true)]) H9))):∃ r H1,Good Tryz.prog σ n_law15_both [a0] H r H1∧K r H1 :=
 gwp 0 (fn:=Tryz.f11) (f:=n_law15_both) (c:=law15_both.code) (by kernel_rfl) (by kernel_rfl) (Eq.mpr (by kernel_rfl) h)
noncomputable def cascade_Winners.code:Code:=bodyOf Tryz.f12
noncomputable def cascade_Winners.L0 (σ:Sig) (K:AV→Hp→Prop) (y0 y1 y2 y6 y7 y10 y11:AV) (H:Hp):Prop:=∀ j:Nat→AV,LoopP (CZ σ) (lB (bB (sR (sL (sR (sR cascade_Winners.code)))))) ([y0,y1,y2,j 3,j 4,j 5,y6,y7,j 8,j 9,y10,y11]++jr j 12 13) H (fun e T G=>(nx (fQ Tryz.f12 σ K) fun T G=>wp (CZ σ) 3271 (sR (sR (sR cascade_Winners.code))) T G (fQ Tryz.f12 σ K)) (unblock 0 e) T G)
theorem cascade_Winners.L0_step {y0 y1 y2 y6 y7 y10 y11:AV} (h:bnd (binR .lss y11 y10) fun x1=>ifB x1 (bnd (bldSlR [.int .i64 0] 1 1 H [(0,1,y11)]) fun p2=>bnd (appR false 1 8 p2.2 y7 p2.1) fun p3=>bnd (binR .add y11 (I 1)) fun x4=>cascade_Winners.L0 σ K y0 y1 y2 y6 p3.1 y10 x4 p3.2) (callK Tryz.prog σ n_cascade_candidates [y0,y1,y2,y7,(.fn n_cascade_Winners_1 [])] H fun x5 H6=>callK Tryz.prog σ n_cascade_winners [x5] H6 fun x7 H8=>bnd (stA 16 H8 y6 x7) fun H9=>bnd (ldA true 16 H9 y6) fun r10=>K r10 H9)):cascade_Winners.L0 σ K y0 y1 y2 y6 y7 y10 y11 H :=
 fun j=>lrd (g:=3271) (Eq.mpr (by kernel_rfl) h)
theorem cascade_Winners.run {a0 a1 a2:AV} (h:allocK (List.replicate 16 (I 0)) H fun x1 H2=>bnd (lenSl a2) fun x3=>cascade_Winners.L0 σ K a0 a1 a2 x1 (.lit (.slice none 0 0)) x3 (I 0) H2):∃ r H1,Good Tryz.prog σ n_cascade_Winners [a0,a1,a2] H r H1∧K r H1 :=
 gwp 3271 (fn:=Tryz.f12) (f:=n_cascade_Winners) (c:=cascade_Winners.code) (by kernel_rfl) (by kernel_rfl) (Eq.mpr (by kernel_rfl) h)
noncomputable def dom_New.code:Code:=bodyOf Tryz.f14
noncomputable def dom_New.L0 (σ:Sig) (K:AV→Hp→Prop) (y4 y13 y14 y15:AV) (H:Hp):Prop:=∀ j:Nat→AV,LoopP (CZ σ) (lB (bB (sR (sL (sR (sR (sR dom_New.code))))))) ([j 0,j 1,j 2,j 3,y4,j 5,j 6,j 7,j 8,j 9,j 10,j 11,j 12,y13,y14,y15]++jr j 16 11) H (fun e T G=>(nx (fQ Tryz.f14 σ K) fun T G=>wp (CZ σ) 57360 (sR (sR (sR (sR dom_New.code)))) T G (fQ Tryz.f14 σ K)) (unblock 0 e) T G)
theorem dom_New.L0_step {y4 y13 y14 y15:AV} (h:bnd (binR .lss y15 y14) fun x1=>ifB x1 (bnd (ixaSl 5 y13 y15) fun x2=>bnd (ldA true 5 H x2) fun x3=>allocK [I 0,.lit (.string ⟨#[]⟩),.lit (.string ⟨#[]⟩),.lit (.slice none 0 0),.lit (.slice none 0 0)] H fun x4 H5=>bnd (stA 5 H5 x4 x3) fun H6=>bnd (ldA true 5 H6 x4) fun x7=>callK Tryz.prog σ n_dom_Tree_put [y4,x7] H6 fun x8 H9=>bnd (binR .neq x8 (I 0)) fun x10=>ifB x10 (K (.tup [(.lit (.pointer none)),x8]) H9) (bnd (binR .add y15 (I 1)) fun x11=>dom_New.L0 σ K y4 y13 y14 x11 H9)) (K (.tup [y4,(I 0)]) H)):dom_New.L0 σ K y4 y13 y14 y15 H :=
 fun j=>lrd (g:=57360) (Eq.mpr (by kernel_rfl) h)
theorem dom_New.run {a0:AV} (h:bnd (lenSl a0) fun x1=>bnd (binR .gtr x1 (I 4096)) fun x2=>ifB x2 (K (.tup [(.lit (.pointer none)),(I 3)]) H) (bnd (bldR [.lit (.slice none 0 0)] []) fun l3=>boxK (.agg l3) H fun x4 H5=>bnd (lenSl a0) fun x6=>dom_New.L0 σ K x4 a0 x6 (I 0) H5)):∃ r H1,Good Tryz.prog σ n_dom_New [a0] H r H1∧K r H1 :=
 gwp 57360 (fn:=Tryz.f14) (f:=n_dom_New) (c:=dom_New.code) (by kernel_rfl) (by kernel_rfl) (Eq.mpr (by kernel_rfl) h)
noncomputable def ref1_Sheet.code:Code:=bodyOf Tryz.f23
noncomputable def ref1_Sheet.Q0 (σ:Sig) (K:AV→Hp→Prop):Exit→List AV→Hp→Prop:=(nx (fQ Tryz.f23 σ K) fun T G=>wp (CZ σ) 56 (sR (sR (sR (sR (sR ref1_Sheet.code))))) T G (fQ Tryz.f23 σ K))
noncomputable def ref1_Sheet.L0 (σ:Sig) (K:AV→Hp→Prop) (y3 y4 y5:AV) (H:Hp):Prop:=∀ j:Nat→AV,LoopP (CZ σ) (lB (bB (sR (sL (sR (sR (sR (sR ref1_Sheet.code)))))))) ([j 0,j 1,j 2,y3,y4,y5]++jr j 6 38) H (fun e T G=>(ref1_Sheet.Q0 σ K) (unblock 0 e) T G)
noncomputable def ref1_Sheet.J1 (σ:Sig) (K:AV→Hp→Prop) (y3 y4 y5:AV) (H:Hp):Prop:=∀ j:Nat→AV,wp (CZ σ) 56 (sR (sR (lB (bB (sR (sL (sR (sR (sR (sR ref1_Sheet.code)))))))))) ([j 0,j 1,j 2,y3,y4,y5]++jr j 6 38) H (nx (fun e T G=>(ref1_Sheet.Q0 σ K) (unblock 0 e) T G) fun T G=>∀ j,LoopP (CZ σ) (lB (bB (sR (sL (sR (sR (sR (sR ref1_Sheet.code)))))))) (maskA 56 j 0 T) G (fun e T G=>(ref1_Sheet.Q0 σ K) (unblock 0 e) T G))
theorem ref1_Sheet.L0_step {y3 y4 y5:AV} (h:bnd (lenSl y3) fun x1=>bnd (binR .lss y5 x1) fun x2=>ifB x2 (bnd (ixaSl 2 y3 y5) fun x3=>bnd (shiftA x3 0) fun x4=>bnd (ldA false 1 H x4) fun x5=>callK Tryz.prog σ n_ref1_Selectors [x5] H fun x6 H7=>bnd (exR x6 0) fun x8=>bnd (exR x6 1) fun x9=>ifB x9 (bnd (ixaSl 2 y3 y5) fun x10=>bnd (shiftA x10 1) fun x11=>bnd (ldA false 1 H7 x11) fun x12=>callK Tryz.prog σ n_ref1_Decls [x12] H7 fun x13 H14=>callK Tryz.prog σ n_ref1_Sets [x13] H14 fun x15 H16=>bnd (bldR [.lit (.slice none 0 0),.lit (.slice none 0 0)] [(0,1,x8),(1,1,x15)]) fun l17=>bnd (bldSlR [.slice none 0 0,.slice none 0 0] 2 1 H16 [(0,2,(.agg l17))]) fun p18=>bnd (appR false 2 48 p18.2 y4 p18.1) fun p19=>ref1_Sheet.J1 σ K y3 p19.1 y5 p19.2) (ref1_Sheet.J1 σ K y3 y4 y5 H7)) (K y4 H)):ref1_Sheet.L0 σ K y3 y4 y5 H :=
 fun j=>lrd (g:=56) (Eq.mpr (by kernel_rfl) h)
theorem ref1_Sheet.J1_step {y3 y4 y5:AV} (h:bnd (binR .add y5 (I 1)) fun x1=>ref1_Sheet.L0 σ K y3 y4 x1 H):ref1_Sheet.J1 σ K y3 y4 y5 H :=
 fun j=>Eq.mpr (by kernel_rfl) h
theorem ref1_Sheet.run {a0:AV} (h:bnd (lenSl a0) fun x1=>bnd (binR .gtr x1 (I 65536)) fun x2=>ifB x2 (K (.lit (.slice none 0 0)) H) (callK Tryz.prog σ n_ref1_Prepare [a0] H fun x3 H4=>callK Tryz.prog σ n_ref1_Tokens [x3] H4 fun x5 H6=>callK Tryz.prog σ n_ref1_Rules [x5] H6 fun x7 H8=>ref1_Sheet.L0 σ K x7 (.lit (.slice none 0 0)) (I 0) H8)):∃ r H1,Good Tryz.prog σ n_ref1_Sheet [a0] H r H1∧K r H1 :=
 gwp 56 (fn:=Tryz.f23) (f:=n_ref1_Sheet) (c:=ref1_Sheet.code) (by kernel_rfl) (by kernel_rfl) (Eq.mpr (by kernel_rfl) h)
noncomputable def law10_Dear.code:Code:=bodyOf Tryz.f24
theorem law10_Dear.run {a0:AV} (h:callK Tryz.prog σ n_law10_dear [a0,(I 0)] H fun x1 H2=>bnd (binR .gtr x1 (I 40)) fun x3=>K x3 H2):∃ r H1,Good Tryz.prog σ n_law10_Dear [a0] H r H1∧K r H1 :=
 gwp 0 (fn:=Tryz.f24) (f:=n_law10_Dear) (c:=law10_Dear.code) (by kernel_rfl) (by kernel_rfl) (Eq.mpr (by kernel_rfl) h)
noncomputable def law9_Big.code:Code:=bodyOf Tryz.f25
noncomputable def law9_Big.Q0 (σ:Sig) (K:AV→Hp→Prop):Exit→List AV→Hp→Prop:=(nx (fQ Tryz.f25 σ K) fun T G=>wp (CZ σ) 57 (sR (sR law9_Big.code)) T G (fQ Tryz.f25 σ K))
noncomputable def law9_Big.Q1 (σ:Sig) (K:AV→Hp→Prop):Exit→List AV→Hp→Prop:=(nx (fun e T G=>(law9_Big.Q0 σ K) (unblock 0 e) T G) fun T G=>∀ j,LoopP (CZ σ) (lB (bB (sR (sL (sR law9_Big.code))))) (maskA 57 j 0 T) G (fun e T G=>(law9_Big.Q0 σ K) (unblock 0 e) T G))
noncomputable def law9_Big.Q2 (σ:Sig) (K:AV→Hp→Prop):Exit→List AV→Hp→Prop:=(fun e T G=>(nx (law9_Big.Q1 σ K) fun T G=>wp (CZ σ) 57 (sR (sR (lB (bB (sR (sL (sR law9_Big.code))))))) T G (law9_Big.Q1 σ K)) (unblock 1 e) T G)
noncomputable def law9_Big.L0 (σ:Sig) (K:AV→Hp→Prop) (y0 y3 y4 y5:AV) (H:Hp):Prop:=∀ j:Nat→AV,LoopP (CZ σ) (lB (bB (sR (sL (sR law9_Big.code))))) ([y0,j 1,j 2,y3,y4,y5]++jr j 6 111) H (fun e T G=>(law9_Big.Q0 σ K) (unblock 0 e) T G)
noncomputable def law9_Big.L1 (σ:Sig) (K:AV→Hp→Prop) (y0 y3 y4 y5:AV) (H:Hp):Prop:=∀ j:Nat→AV,LoopP (CZ σ) (lB (bB (sR (sL (sR (bB (sL (sR (lB (bB (sR (sL (sR law9_Big.code))))))))))))) ([y0,j 1,j 2,y3,y4,y5]++jr j 6 111) H (fun e T G=>(nx (law9_Big.Q2 σ K) fun T G=>wp (CZ σ) 57 (sR (sR (bB (sL (sR (lB (bB (sR (sL (sR law9_Big.code)))))))))) T G (law9_Big.Q2 σ K)) (unblock 2 e) T G)
noncomputable def law9_Big.L2 (σ:Sig) (K:AV→Hp→Prop) (y0 y3 y4 y5:AV) (H:Hp):Prop:=∀ j:Nat→AV,LoopP (CZ σ) (lB (bB (sR (sR (sR (bB (sL (sR (lB (bB (sR (sL (sR law9_Big.code))))))))))))) ([y0,j 1,j 2,y3,y4,y5]++jr j 6 111) H (fun e T G=>(law9_Big.Q2 σ K) (unblock 4 e) T G)
theorem law9_Big.L0_step {y0 y3 y4 y5:AV} (h:bnd (lenSl y0) fun x1=>bnd (binR .lss y3 x1) fun x2=>ifB x2 (bnd (binR .lss y3 (I 100)) fun x3=>ifB x3 (bnd (ixaSl 5 y0 y3) fun x4=>bnd (shiftA x4 3) fun x5=>bnd (ldA false 1 H x5) fun x6=>bnd (lenSl x6) fun x7=>bnd (binR .gtr x7 (I 8)) fun x8=>ifB x8 (K (Bo true) H) (bnd (ixaSl 5 y0 y3) fun x9=>bnd (shiftA x9 4) fun x10=>bnd (ldA false 1 H x10) fun x11=>bnd (lenSl x11) fun x12=>bnd (binR .gtr x12 (I 8)) fun x13=>ifB x13 (K (Bo true) H) (bnd (ixaSl 5 y0 y3) fun x14=>bnd (shiftA x14 1) fun x15=>bnd (ldA false 1 H x15) fun x16=>bnd (lenStr x16) fun x17=>bnd (binR .gtr x17 (I 60)) fun x18=>ifB x18 (K (Bo true) H) (bnd (ixaSl 5 y0 y3) fun x19=>bnd (shiftA x19 2) fun x20=>bnd (ldA false 1 H x20) fun x21=>bnd (lenStr x21) fun x22=>bnd (binR .gtr x22 (I 60)) fun x23=>ifB x23 (K (Bo true) H) (law9_Big.L1 σ K y0 y3 (I 0) y5 H))))) (bnd (lenSl y0) fun x24=>bnd (binR .gtr x24 (I 40)) fun x25=>ifB x25 (bnd (lenSl y0) fun x26=>bnd (binR .leq x26 (I 4096)) fun x27=>ifB x27 (K (Bo true) H) (bnd (lenSl y0) fun x28=>bnd (binR .gtr x28 (I 4100)) fun x29=>K x29 H)) (bnd (lenSl y0) fun x30=>bnd (binR .gtr x30 (I 4100)) fun x31=>K x31 H))) (bnd (lenSl y0) fun x32=>bnd (binR .gtr x32 (I 40)) fun x33=>ifB x33 (bnd (lenSl y0) fun x34=>bnd (binR .leq x34 (I 4096)) fun x35=>ifB x35 (K (Bo true) H) (bnd (lenSl y0) fun x36=>bnd (binR .gtr x36 (I 4100)) fun x37=>K x37 H)) (bnd (lenSl y0) fun x38=>bnd (binR .gtr x38 (I 4100)) fun x39=>K x39 H))):law9_Big.L0 σ K y0 y3 y4 y5 H :=
 fun j=>lrd (g:=57) (Eq.mpr (by kernel_rfl) h)
theorem law9_Big.L1_step {y0 y3 y4 y5:AV} (h:bnd (ixaSl 5 y0 y3) fun x1=>bnd (shiftA x1 3) fun x2=>bnd (ldA false 1 H x2) fun x3=>bnd (lenSl x3) fun x4=>bnd (binR .lss y4 x4) fun x5=>ifB x5 (bnd (ixaSl 5 y0 y3) fun x6=>bnd (shiftA x6 3) fun x7=>bnd (ldA false 1 H x7) fun x8=>bnd (ixaSl 1 x8 y4) fun x9=>bnd (ldA false 1 H x9) fun x10=>bnd (lenStr x10) fun x11=>bnd (binR .gtr x11 (I 60)) fun x12=>ifB x12 (K (Bo true) H) (bnd (binR .add y4 (I 1)) fun x13=>law9_Big.L1 σ K y0 y3 x13 y5 H)) (law9_Big.L2 σ K y0 y3 y4 (I 0) H)):law9_Big.L1 σ K y0 y3 y4 y5 H :=
 fun j=>lrd (g:=57) (Eq.mpr (by kernel_rfl) h)
theorem law9_Big.L2_step {y0 y3 y4 y5:AV} (h:bnd (ixaSl 5 y0 y3) fun x1=>bnd (shiftA x1 4) fun x2=>bnd (ldA false 1 H x2) fun x3=>bnd (lenSl x3) fun x4=>bnd (binR .lss y5 x4) fun x5=>ifB x5 (bnd (ixaSl 5 y0 y3) fun x6=>bnd (shiftA x6 4) fun x7=>bnd (ldA false 1 H x7) fun x8=>bnd (ixaSl 2 x8 y5) fun x9=>bnd (shiftA x9 0) fun x10=>bnd (ldA false 1 H x10) fun x11=>bnd (lenStr x11) fun x12=>bnd (binR .gtr x12 (I 60)) fun x13=>ifB x13 (K (Bo true) H) (bnd (ixaSl 5 y0 y3) fun x14=>bnd (shiftA x14 4) fun x15=>bnd (ldA false 1 H x15) fun x16=>bnd (ixaSl 2 x16 y5) fun x17=>bnd (shiftA x17 1) fun x18=>bnd (ldA false 1 H x18) fun x19=>bnd (lenStr x19) fun x20=>bnd (binR .gtr x20 (I 100)) fun x21=>ifB x21 (K (Bo true) H) (bnd (binR .add y5 (I 1)) fun x22=>law9_Big.L2 σ K y0 y3 y4 x22 H))) (bnd (binR .add y3 (I 1)) fun x23=>law9_Big.L0 σ K y0 x23 y4 y5 H)):law9_Big.L2 σ K y0 y3 y4 y5 H :=
 fun j=>lrd (g:=57) (Eq.mpr (by kernel_rfl) h)
theorem law9_Big.run {a0:AV} (h:law9_Big.L0 σ K a0 (I 0) (.lit undef) (.lit undef) H):∃ r H1,Good Tryz.prog σ n_law9_Big [a0] H r H1∧K r H1 :=
 gwp 57 (fn:=Tryz.f25) (f:=n_law9_Big) (c:=law9_Big.code) (by kernel_rfl) (by kernel_rfl) (Eq.mpr (by kernel_rfl) h)
noncomputable def ref9_New.code:Code:=bodyOf Tryz.f26
noncomputable def ref9_New.Q0 (σ:Sig) (K:AV→Hp→Prop):Exit→List AV→Hp→Prop:=(nx (fQ Tryz.f26 σ K) fun T G=>wp (CZ σ) 177 (sR (sR (sR (sR ref9_New.code)))) T G (fQ Tryz.f26 σ K))
noncomputable def ref9_New.L0 (σ:Sig) (K:AV→Hp→Prop) (y0 y4 y5 y7:AV) (H:Hp):Prop:=∀ j:Nat→AV,LoopP (CZ σ) (lB (bB (sR (sL (sR (sR (sR ref9_New.code))))))) ([y0,j 1,j 2,j 3,y4,y5,j 6,y7]++jr j 8 72) H (fun e T G=>(ref9_New.Q0 σ K) (unblock 0 e) T G)
noncomputable def ref9_New.J1 (σ:Sig) (K:AV→Hp→Prop) (y0 y4 y5 y7:AV) (H:Hp):Prop:=∀ j:Nat→AV,wp (CZ σ) 177 (sR (sR (sR (sR (bB (sL (sR (lB (bB (sR (sL (sR (sR (sR ref9_New.code)))))))))))))) ([y0,j 1,j 2,j 3,y4,y5,j 6,y7]++jr j 8 72) H (fun e T G=>(nx (nx (fun e T G=>(ref9_New.Q0 σ K) (unblock 0 e) T G) fun T G=>∀ j,LoopP (CZ σ) (lB (bB (sR (sL (sR (sR (sR ref9_New.code))))))) (maskA 177 j 0 T) G (fun e T G=>(ref9_New.Q0 σ K) (unblock 0 e) T G)) fun T G=>wp (CZ σ) 177 (sR (sR (lB (bB (sR (sL (sR (sR (sR ref9_New.code))))))))) T G (nx (fun e T G=>(ref9_New.Q0 σ K) (unblock 0 e) T G) fun T G=>∀ j,LoopP (CZ σ) (lB (bB (sR (sL (sR (sR (sR ref9_New.code))))))) (maskA 177 j 0 T) G (fun e T G=>(ref9_New.Q0 σ K) (unblock 0 e) T G))) (unblock 1 e) T G)
theorem ref9_New.L0_step {y0 y4 y5 y7:AV} (h:bnd (lenSl y0) fun x1=>bnd (binR .lss y5 x1) fun x2=>ifB x2 (bnd (ixaSl 5 y0 y5) fun x3=>bnd (shiftA x3 0) fun x4=>bnd (ldA false 1 H x4) fun x5=>bnd (binR .eql y5 (I 0)) fun x6=>ifB x6 (bnd (binR .neq x5 (I (-1))) fun x7=>ifB x7 (K (.tup [(.lit (.pointer none)),(I 10)]) H) (bnd (binR .gtr y5 (I 0)) fun x8=>ifB x8 (bnd (binR .lss x5 (I 0)) fun x9=>ifB x9 (K (.tup [(.lit (.pointer none)),(I 10)]) H) (bnd (binR .geq x5 y5) fun x10=>ifB x10 (K (.tup [(.lit (.pointer none)),(I 10)]) H) (bnd (binR .gtr y5 (I 0)) fun x11=>ifB x11 (bnd (nilR y4) fun x12=>bnd (shiftA x12 1) fun x13=>bnd (ldA false 1 H x13) fun x14=>bnd (ixaSl 1 x14 x5) fun x15=>bnd (ldA false 1 H x15) fun x16=>bnd (binR .add x16 (I 1)) fun x17=>ref9_New.J1 σ K y0 y4 y5 x17 H) (ref9_New.J1 σ K y0 y4 y5 (I 0) H)))) (bnd (binR .gtr y5 (I 0)) fun x18=>ifB x18 (bnd (nilR y4) fun x19=>bnd (shiftA x19 1) fun x20=>bnd (ldA false 1 H x20) fun x21=>bnd (ixaSl 1 x21 x5) fun x22=>bnd (ldA false 1 H x22) fun x23=>bnd (binR .add x23 (I 1)) fun x24=>ref9_New.J1 σ K y0 y4 y5 x24 H) (ref9_New.J1 σ K y0 y4 y5 (I 0) H)))) (bnd (binR .gtr y5 (I 0)) fun x25=>ifB x25 (bnd (binR .lss x5 (I 0)) fun x26=>ifB x26 (K (.tup [(.lit (.pointer none)),(I 10)]) H) (bnd (binR .geq x5 y5) fun x27=>ifB x27 (K (.tup [(.lit (.pointer none)),(I 10)]) H) (bnd (binR .gtr y5 (I 0)) fun x28=>ifB x28 (bnd (nilR y4) fun x29=>bnd (shiftA x29 1) fun x30=>bnd (ldA false 1 H x30) fun x31=>bnd (ixaSl 1 x31 x5) fun x32=>bnd (ldA false 1 H x32) fun x33=>bnd (binR .add x33 (I 1)) fun x34=>ref9_New.J1 σ K y0 y4 y5 x34 H) (ref9_New.J1 σ K y0 y4 y5 (I 0) H)))) (bnd (binR .gtr y5 (I 0)) fun x35=>ifB x35 (bnd (nilR y4) fun x36=>bnd (shiftA x36 1) fun x37=>bnd (ldA false 1 H x37) fun x38=>bnd (ixaSl 1 x38 x5) fun x39=>bnd (ldA false 1 H x39) fun x40=>bnd (binR .add x40 (I 1)) fun x41=>ref9_New.J1 σ K y0 y4 y5 x41 H) (ref9_New.J1 σ K y0 y4 y5 (I 0) H)))) (K (.tup [y4,(I 0)]) H)):ref9_New.L0 σ K y0 y4 y5 y7 H :=
 fun j=>lrd (g:=177) (Eq.mpr (by kernel_rfl) h)
theorem ref9_New.J1_step {y0 y4 y5 y7:AV} (h:bnd (binR .gtr y7 (I 256)) fun x1=>ifB x1 (K (.tup [(.lit (.pointer none)),(I 11)]) H) (bnd (nilR y4) fun x2=>bnd (shiftA x2 0) fun x3=>bnd (ldA false 1 H x3) fun x4=>bnd (ixaSl 5 y0 y5) fun x5=>bnd (ldA true 5 H x5) fun x6=>callK Tryz.prog σ n_ref9_lowered [x6] H fun x7 H8=>kpK (x3,some 1) H H8 (bnd (bldSlR [.int .i64 0,.string ⟨#[]⟩,.string ⟨#[]⟩,.slice none 0 0,.slice none 0 0] 5 1 H8 [(0,5,x7)]) fun p9=>kpK (x3,some 1) H8 p9.2 (bnd (appR false 5 88 p9.2 x4 p9.1) fun p10=>bnd (nilR y4) fun x11=>bnd (shiftA x11 0) fun x12=>bnd (stA 1 p10.2 x12 p10.1) fun H13=>bnd (nilR y4) fun x14=>bnd (shiftA x14 1) fun x15=>bnd (ldA false 1 H13 x15) fun x16=>bnd (bldSlR [.int .i64 0] 1 1 H13 [(0,1,y7)]) fun p17=>bnd (appR false 1 8 p17.2 x16 p17.1) fun p18=>bnd (nilR y4) fun x19=>bnd (shiftA x19 1) fun x20=>bnd (stA 1 p18.2 x20 p18.1) fun H21=>bnd (binR .add y5 (I 1)) fun x22=>ref9_New.L0 σ K y0 y4 x22 y7 H21)))):ref9_New.J1 σ K y0 y4 y5 y7 H :=
 fun j=>Eq.mpr (by kernel_rfl) h
theorem ref9_New.run {a0:AV} (h:bnd (lenSl a0) fun x1=>bnd (binR .gtr x1 (I 4096)) fun x2=>ifB x2 (K (.tup [(.lit (.pointer none)),(I 3)]) H) (bnd (bldR [.lit (.slice none 0 0),.lit (.slice none 0 0)] []) fun l3=>boxK (.agg l3) H fun x4 H5=>ref9_New.L0 σ K a0 x4 (I 0) (.lit undef) H5)):∃ r H1,Good Tryz.prog σ n_ref9_New [a0] H r H1∧K r H1 :=
 gwp 177 (fn:=Tryz.f26) (f:=n_ref9_New) (c:=ref9_New.code) (by kernel_rfl) (by kernel_rfl) (Eq.mpr (by kernel_rfl) h)
noncomputable def cascade_winners.code:Code:=bodyOf Tryz.f27
noncomputable def cascade_winners.R0 (j:Nat→AV) (y3 y4 y5:AV):LRec:=⟨([j 0,j 1,j 2,y3,y4,y5]++jr j 6 35),rP (bB (sR (sL (sR (sR (sR (sR cascade_winners.code))))))),rA (bB (sR (sL (sR (sR (sR (sR cascade_winners.code))))))),rB (bB (sR (sL (sR (sR (sR (sR cascade_winners.code)))))))⟩
theorem cascade_winners.R0_round {j:Nat→AV} {y3 y4 y5 p0:AV} {id:Nat} (hl:H.get id=some (.loop (cascade_winners.R0 j y3 y4 y5) .ready none)) (h:allocK [I 0,I 0,I 0,Bo false,I 0] H fun x1 H2=>bnd (stA 5 H2 x1 p0) fun H3=>H3.get id=some (.loop (cascade_winners.R0 j y3 y4 y5) .ready none)∧(bnd (some (H3.set id (some (.loop (cascade_winners.R0 j y3 y4 y5) .busy none)))) fun H4=>bnd (shiftA x1 0) fun x5=>bnd (shiftA x5 0) fun x6=>bnd (ldA false 1 H4 x6) fun x7=>bnd (binR .lss x7 (I 0)) fun x8=>ifB x8 (roundE id (cascade_winners.R0 j y3 y4 y5) K .normal H4) (bnd (binR .geq x7 (I 8)) fun x9=>ifB x9 (roundE id (cascade_winners.R0 j y3 y4 y5) K .normal H4) (bnd (ixaArr 8 1 y5 x7) fun x10=>bnd (ldA false 1 H4 x10) fun x11=>bnd (unR .not x11) fun x12=>ifB x12 (bnd (ldA true 5 H4 x1) fun x13=>bnd (ixaArr 8 5 y4 x7) fun x14=>bnd (stA 5 H4 x14 x13) fun H15=>bnd (ixaArr 8 1 y5 x7) fun x16=>bnd (stA 1 H15 x16 (Bo true)) fun H17=>bnd (shiftA x1 0) fun x18=>bnd (shiftA x18 1) fun x19=>bnd (ldA true 2 H17 x19) fun x20=>bnd (ixaArr 8 2 y3 x7) fun x21=>bnd (stA 2 H17 x21 x20) fun H22=>roundE id (cascade_winners.R0 j y3 y4 y5) K .normal H22) (bnd (ldA true 5 H4 x1) fun x23=>bnd (ixaArr 8 5 y4 x7) fun x24=>bnd (ldA true 5 H4 x24) fun x25=>callK Tryz.prog σ n_cascade_candidate_beats [x23,x25] H4 fun x26 H27=>ifB x26 (bnd (ldA true 5 H27 x1) fun x28=>bnd (ixaArr 8 5 y4 x7) fun x29=>bnd (stA 5 H27 x29 x28) fun H30=>bnd (ixaArr 8 1 y5 x7) fun x31=>bnd (stA 1 H30 x31 (Bo true)) fun H32=>bnd (shiftA x1 0) fun x33=>bnd (shiftA x33 1) fun x34=>bnd (ldA true 2 H32 x34) fun x35=>bnd (ixaArr 8 2 y3 x7) fun x36=>bnd (stA 2 H32 x36 x35) fun H37=>roundE id (cascade_winners.R0 j y3 y4 y5) K .normal H37) (roundE id (cascade_winners.R0 j y3 y4 y5) K .normal H27)))))):callV Tryz.prog σ (.yl id) [p0] H K :=
 yield_of_wp (CZ σ) mixed 56 hl (by kernel_rfl) (by kernel_rfl) (by kernel_rfl) (Eq.mpr (by kernel_rfl) h)
theorem cascade_winners.run {a0:AV} (h:allocK (List.replicate 16 (I 0)) H fun x1 H2=>allocK (List.replicate 16 (I 0)) H2 fun x3 H4=>allocK [I 0,I 0,I 0,Bo false,I 0,I 0,I 0,I 0,Bo false,I 0,I 0,I 0,I 0,Bo false,I 0,I 0,I 0,I 0,Bo false,I 0,I 0,I 0,I 0,Bo false,I 0,I 0,I 0,I 0,Bo false,I 0,I 0,I 0,I 0,Bo false,I 0,I 0,I 0,I 0,Bo false,I 0] H4 fun x5 H6=>allocK [Bo false,Bo false,Bo false,Bo false,Bo false,Bo false,Bo false,Bo false] H6 fun x7 H8=>∀ j:Nat→AV,rangeK Tryz.prog σ a0 (cascade_winners.R0 j x3 x5 x7) H8 (fun H9=>bnd (ldA true 16 H9 x3) fun x11=>bnd (stA 16 H9 x1 x11) fun H12=>bnd (ldA true 16 H12 x1) fun r13=>K r13 H12) (fun H9=>bnd (ldA true 16 H9 x1) fun r14=>K r14 H9) (fun i10 H9=>exB (Nat.beq i10 1) (False) (False))):∃ r H1,Good Tryz.prog σ n_cascade_winners [a0] H r H1∧K r H1 :=
 gwp 56 (fn:=Tryz.f27) (f:=n_cascade_winners) (c:=cascade_winners.code) (by kernel_rfl) (by kernel_rfl) (Eq.mpr (by kernel_rfl) h)
noncomputable def cascade_candidates.code:Code:=bodyOf Tryz.f28
theorem cascade_candidates.run {a0 a1 a2 a3 a4:AV} (h:boxK a0 H fun x1 H2=>boxK a1 H2 fun x3 H4=>boxK a2 H4 fun x5 H6=>boxK a3 H6 fun x7 H8=>boxK a4 H8 fun x9 H10=>K (.fn n_cascade_candidates_1 [x7,x5,x9,x1,x3]) H10):∃ r H1,Good Tryz.prog σ n_cascade_candidates [a0,a1,a2,a3,a4] H r H1∧K r H1 :=
 gwp 0 (fn:=Tryz.f28) (f:=n_cascade_candidates) (c:=cascade_candidates.code) (by kernel_rfl) (by kernel_rfl) (Eq.mpr (by kernel_rfl) h)
noncomputable def cascade_Winners_1.code:Code:=bodyOf Tryz.f29
theorem cascade_Winners_1.run {a0:AV} (h:boxK a0 H fun x1 H2=>K (Bo true) H2):∃ r H1,Good Tryz.prog σ n_cascade_Winners_1 [a0] H r H1∧K r H1 :=
 gwp 0 (fn:=Tryz.f29) (f:=n_cascade_Winners_1) (c:=cascade_Winners_1.code) (by kernel_rfl) (by kernel_rfl) (Eq.mpr (by kernel_rfl) h)
noncomputable def dom_Tree_put.code:Code:=bodyOf Tryz.f31
noncomputable def dom_Tree_put.J0 (σ:Sig) (K:AV→Hp→Prop) (y0 y5 y6 y7:AV) (H:Hp):Prop:=∀ j:Nat→AV,wp (CZ σ) 225 (sR (sR (sR (cT (sR (cE (sR (bB (sL (sR (sR (sR dom_Tree_put.code)))))))))))) ([y0,j 1,j 2,j 3,j 4,y5,y6,y7]++jr j 8 90) H (fun e T G=>(nx (fQ Tryz.f31 σ K) fun T G=>∀ j,wp (CZ σ) 225 (sR (sR (sR (sR dom_Tree_put.code)))) (maskA 225 j 0 T) G (fQ Tryz.f31 σ K)) (unblock 0 e) T G)
noncomputable def dom_Tree_put.J1 (σ:Sig) (K:AV→Hp→Prop) (y0 y5 y6 y7:AV) (H:Hp):Prop:=∀ j:Nat→AV,wp (CZ σ) 225 (sR (sR (sR (sR dom_Tree_put.code)))) ([y0,j 1,j 2,j 3,j 4,y5,y6,y7]++jr j 8 90) H (fQ Tryz.f31 σ K)
theorem dom_Tree_put.J0_step {y0 y5 y6 y7:AV} (h:bnd (nilR y7) fun x1=>bnd (shiftA x1 5) fun x2=>bnd (ldA false 1 H x2) fun x3=>bnd (bldSlR [.int .i64 0] 1 1 H [(0,1,y6)]) fun p4=>bnd (appR false 1 8 p4.2 x3 p4.1) fun p5=>bnd (nilR y7) fun x6=>bnd (shiftA x6 5) fun x7=>bnd (stA 1 p5.2 x7 p5.1) fun H8=>dom_Tree_put.J1 σ K y0 y5 y6 y7 H8):dom_Tree_put.J0 σ K y0 y5 y6 y7 H :=
 fun j=>Eq.mpr (by kernel_rfl) h
theorem dom_Tree_put.J1_step {y0 y5 y6 y7:AV} (h:bnd (nilR y0) fun x1=>bnd (shiftA x1 0) fun x2=>bnd (ldA false 1 H x2) fun x3=>bnd (ldA true 9 H y5) fun x4=>bnd (bldSlR [.int .i64 0,.string ⟨#[]⟩,.string ⟨#[]⟩,.slice none 0 0,.slice none 0 0,.slice none 0 0,.int .i64 0,.int .i64 0,.int .i64 0] 9 1 H [(0,9,x4)]) fun p5=>kpK (x2,some 1) H p5.2 (bnd (appR false 9 136 p5.2 x3 p5.1) fun p6=>bnd (nilR y0) fun x7=>bnd (shiftA x7 0) fun x8=>bnd (stA 1 p6.2 x8 p6.1) fun H9=>K (I 0) H9)):dom_Tree_put.J1 σ K y0 y5 y6 y7 H :=
 fun j=>Eq.mpr (by kernel_rfl) h
theorem dom_Tree_put.run {a0 a1:AV} (h:boxK a1 H fun x1 H2=>bnd (ldA true 5 H2 x1) fun x3=>callK Tryz.prog σ n_dom_lowered [x3] H2 fun x4 H5=>bnd (bldR [I 0,.lit (.string ⟨#[]⟩),.lit (.string ⟨#[]⟩),.lit (.slice none 0 0),.lit (.slice none 0 0),.lit (.slice none 0 0),I 0,I 0,I 0] [(0,5,x4),(7,1,(I 1)),(8,1,(I (-1)))]) fun l6=>allocK [I 0,.lit (.string ⟨#[]⟩),.lit (.string ⟨#[]⟩),.lit (.slice none 0 0),.lit (.slice none 0 0),.lit (.slice none 0 0),I 0,I 0,I 0] H5 fun x7 H8=>bnd (stA 9 H8 x7 (.agg l6)) fun H9=>bnd (nilR a0) fun x10=>bnd (shiftA x10 0) fun x11=>bnd (ldA false 1 H9 x11) fun x12=>bnd (lenSl x12) fun x13=>bnd (binR .eql x13 (I 0)) fun x14=>ifB x14 (bnd (shiftA x1 0) fun x15=>bnd (ldA false 1 H9 x15) fun x16=>bnd (binR .neq x16 (I (-1))) fun x17=>ifB x17 (K (I 10) H9) (bnd (binR .gtr x13 (I 0)) fun x18=>ifB x18 (bnd (shiftA x1 0) fun x19=>bnd (ldA false 1 H9 x19) fun x20=>bnd (binR .lss x20 (I 0)) fun x21=>ifB x21 (K (I 10) H9) (bnd (shiftA x1 0) fun x22=>bnd (ldA false 1 H9 x22) fun x23=>bnd (binR .geq x23 x13) fun x24=>ifB x24 (K (I 10) H9) (bnd (binR .gtr x13 (I 0)) fun x25=>ifB x25 (bnd (nilR a0) fun x26=>bnd (shiftA x26 0) fun x27=>bnd (ldA false 1 H9 x27) fun x28=>bnd (shiftA x1 0) fun x29=>bnd (ldA false 1 H9 x29) fun x30=>bnd (ixaSl 9 x28 x30) fun x31=>bnd (nilR x31) fun x32=>bnd (shiftA x32 6) fun x33=>bnd (ldA false 1 H9 x33) fun x34=>bnd (binR .add x34 (I 1)) fun x35=>bnd (shiftA x7 6) fun x36=>bnd (stA 1 H9 x36 x35) fun H37=>bnd (shiftA x7 6) fun x38=>bnd (ldA false 1 H37 x38) fun x39=>bnd (binR .gtr x39 (I 256)) fun x40=>ifB x40 (K (I 11) H37) (bnd (nilR x31) fun x41=>bnd (shiftA x41 5) fun x42=>bnd (ldA false 1 H37 x42) fun x43=>bnd (lenSl x43) fun x44=>bnd (binR .gtr x44 (I 0)) fun x45=>ifB x45 (bnd (binR .add x44 (I 1)) fun x46=>bnd (nilR x31) fun x47=>bnd (shiftA x47 5) fun x48=>bnd (ldA false 1 H37 x48) fun x49=>bnd (binR .sub x44 (I 1)) fun x50=>bnd (ixaSl 1 x49 x50) fun x51=>bnd (ldA false 1 H37 x51) fun x52=>bnd (shiftA x7 7) fun x53=>bnd (stA 1 H37 x53 x46) fun H54=>kpK (x51,some 1) H37 H54 (kpK (x48,some 1) H37 H54 (bnd (shiftA x7 8) fun x55=>bnd (stA 1 H54 x55 x52) fun H56=>dom_Tree_put.J0 σ K a0 x7 x13 x31 H56))) (dom_Tree_put.J0 σ K a0 x7 x13 x31 H37))) (dom_Tree_put.J1 σ K a0 x7 x13 (.lit undef) H9)))) (bnd (binR .gtr x13 (I 0)) fun x57=>ifB x57 (bnd (nilR a0) fun x58=>bnd (shiftA x58 0) fun x59=>bnd (ldA false 1 H9 x59) fun x60=>bnd (shiftA x1 0) fun x61=>bnd (ldA false 1 H9 x61) fun x62=>bnd (ixaSl 9 x60 x62) fun x63=>bnd (nilR x63) fun x64=>bnd (shiftA x64 6) fun x65=>bnd (ldA false 1 H9 x65) fun x66=>bnd (binR .add x66 (I 1)) fun x67=>bnd (shiftA x7 6) fun x68=>bnd (stA 1 H9 x68 x67) fun H69=>bnd (shiftA x7 6) fun x70=>bnd (ldA false 1 H69 x70) fun x71=>bnd (binR .gtr x71 (I 256)) fun x72=>ifB x72 (K (I 11) H69) (bnd (nilR x63) fun x73=>bnd (shiftA x73 5) fun x74=>bnd (ldA false 1 H69 x74) fun x75=>bnd (lenSl x75) fun x76=>bnd (binR .gtr x76 (I 0)) fun x77=>ifB x77 (bnd (binR .add x76 (I 1)) fun x78=>bnd (nilR x63) fun x79=>bnd (shiftA x79 5) fun x80=>bnd (ldA false 1 H69 x80) fun x81=>bnd (binR .sub x76 (I 1)) fun x82=>bnd (ixaSl 1 x81 x82) fun x83=>bnd (ldA false 1 H69 x83) fun x84=>bnd (shiftA x7 7) fun x85=>bnd (stA 1 H69 x85 x78) fun H86=>kpK (x83,some 1) H69 H86 (kpK (x80,some 1) H69 H86 (bnd (shiftA x7 8) fun x87=>bnd (stA 1 H86 x87 x84) fun H88=>dom_Tree_put.J0 σ K a0 x7 x13 x63 H88))) (dom_Tree_put.J0 σ K a0 x7 x13 x63 H69))) (dom_Tree_put.J1 σ K a0 x7 x13 (.lit undef) H9)))) (bnd (binR .gtr x13 (I 0)) fun x89=>ifB x89 (bnd (shiftA x1 0) fun x90=>bnd (ldA false 1 H9 x90) fun x91=>bnd (binR .lss x91 (I 0)) fun x92=>ifB x92 (K (I 10) H9) (bnd (shiftA x1 0) fun x93=>bnd (ldA false 1 H9 x93) fun x94=>bnd (binR .geq x94 x13) fun x95=>ifB x95 (K (I 10) H9) (bnd (binR .gtr x13 (I 0)) fun x96=>ifB x96 (bnd (nilR a0) fun x97=>bnd (shiftA x97 0) fun x98=>bnd (ldA false 1 H9 x98) fun x99=>bnd (shiftA x1 0) fun x100=>bnd (ldA false 1 H9 x100) fun x101=>bnd (ixaSl 9 x99 x101) fun x102=>bnd (nilR x102) fun x103=>bnd (shiftA x103 6) fun x104=>bnd (ldA false 1 H9 x104) fun x105=>bnd (binR .add x105 (I 1)) fun x106=>bnd (shiftA x7 6) fun x107=>bnd (stA 1 H9 x107 x106) fun H108=>bnd (shiftA x7 6) fun x109=>bnd (ldA false 1 H108 x109) fun x110=>bnd (binR .gtr x110 (I 256)) fun x111=>ifB x111 (K (I 11) H108) (bnd (nilR x102) fun x112=>bnd (shiftA x112 5) fun x113=>bnd (ldA false 1 H108 x113) fun x114=>bnd (lenSl x114) fun x115=>bnd (binR .gtr x115 (I 0)) fun x116=>ifB x116 (bnd (binR .add x115 (I 1)) fun x117=>bnd (nilR x102) fun x118=>bnd (shiftA x118 5) fun x119=>bnd (ldA false 1 H108 x119) fun x120=>bnd (binR .sub x115 (I 1)) fun x121=>bnd (ixaSl 1 x120 x121) fun x122=>bnd (ldA false 1 H108 x122) fun x123=>bnd (shiftA x7 7) fun x124=>bnd (stA 1 H108 x124 x117) fun H125=>kpK (x122,some 1) H108 H125 (kpK (x119,some 1) H108 H125 (bnd (shiftA x7 8) fun x126=>bnd (stA 1 H125 x126 x123) fun H127=>dom_Tree_put.J0 σ K a0 x7 x13 x102 H127))) (dom_Tree_put.J0 σ K a0 x7 x13 x102 H108))) (dom_Tree_put.J1 σ K a0 x7 x13 (.lit undef) H9)))) (bnd (binR .gtr x13 (I 0)) fun x128=>ifB x128 (bnd (nilR a0) fun x129=>bnd (shiftA x129 0) fun x130=>bnd (ldA false 1 H9 x130) fun x131=>bnd (shiftA x1 0) fun x132=>bnd (ldA false 1 H9 x132) fun x133=>bnd (ixaSl 9 x131 x133) fun x134=>bnd (nilR x134) fun x135=>bnd (shiftA x135 6) fun x136=>bnd (ldA false 1 H9 x136) fun x137=>bnd (binR .add x137 (I 1)) fun x138=>bnd (shiftA x7 6) fun x139=>bnd (stA 1 H9 x139 x138) fun H140=>bnd (shiftA x7 6) fun x141=>bnd (ldA false 1 H140 x141) fun x142=>bnd (binR .gtr x142 (I 256)) fun x143=>ifB x143 (K (I 11) H140) (bnd (nilR x134) fun x144=>bnd (shiftA x144 5) fun x145=>bnd (ldA false 1 H140 x145) fun x146=>bnd (lenSl x146) fun x147=>bnd (binR .gtr x147 (I 0)) fun x148=>ifB x148 (bnd (binR .add x147 (I 1)) fun x149=>bnd (nilR x134) fun x150=>bnd (shiftA x150 5) fun x151=>bnd (ldA false 1 H140 x151) fun x152=>bnd (binR .sub x147 (I 1)) fun x153=>bnd (ixaSl 1 x152 x153) fun x154=>bnd (ldA false 1 H140 x154) fun x155=>bnd (shiftA x7 7) fun x156=>bnd (stA 1 H140 x156 x149) fun H157=>kpK (x154,some 1) H140 H157 (kpK (x151,some 1) H140 H157 (bnd (shiftA x7 8) fun x158=>bnd (stA 1 H157 x158 x155) fun H159=>dom_Tree_put.J0 σ K a0 x7 x13 x134 H159))) (dom_Tree_put.J0 σ K a0 x7 x13 x134 H140))) (dom_Tree_put.J1 σ K a0 x7 x13 (.lit undef) H9)))):∃ r H1,Good Tryz.prog σ n_dom_Tree_put [a0,a1] H r H1∧K r H1 :=
 gwp 225 (fn:=Tryz.f31) (f:=n_dom_Tree_put) (c:=dom_Tree_put.code) (by kernel_rfl) (by kernel_rfl) (Eq.mpr (by kernel_rfl) h)
noncomputable def law10_dear.code:Code:=bodyOf Tryz.f50
noncomputable def law10_dear.Q0 (σ:Sig) (K:AV→Hp→Prop):Exit→List AV→Hp→Prop:=(nx (fQ Tryz.f50 σ K) fun T G=>wp (CZ σ) 2019 (sR (sR (sR (sR law10_dear.code)))) T G (fQ Tryz.f50 σ K))
noncomputable def law10_dear.Q1 (σ:Sig) (K:AV→Hp→Prop):Exit→List AV→Hp→Prop:=(nx (fun e T G=>(law10_dear.Q0 σ K) (unblock 0 e) T G) fun T G=>∀ j,LoopP (CZ σ) (lB (bB (sR (sL (sR (sR (sR law10_dear.code))))))) (maskA 2019 j 0 T) G (fun e T G=>(law10_dear.Q0 σ K) (unblock 0 e) T G))
noncomputable def law10_dear.Q2 (σ:Sig) (K:AV→Hp→Prop):Exit→List AV→Hp→Prop:=(nx (law10_dear.Q1 σ K) fun T G=>wp (CZ σ) 2019 (sR (sR (lB (bB (sR (sL (sR (sR (sR law10_dear.code))))))))) T G (law10_dear.Q1 σ K))
noncomputable def law10_dear.Q3 (σ:Sig) (K:AV→Hp→Prop):Exit→List AV→Hp→Prop:=(nx (fun e T G=>(fun e T G=>(law10_dear.Q2 σ K) (unblock 1 e) T G) (unblock 2 e) T G) fun T G=>∀ j,LoopP (CZ σ) (lB (bB (sR (sR (sR (bB (sL (sR (lB (bB (sR (sL (sR (sR (sR law10_dear.code))))))))))))))) (maskA 2019 j 0 T) G (fun e T G=>(fun e T G=>(law10_dear.Q2 σ K) (unblock 1 e) T G) (unblock 2 e) T G))
noncomputable def law10_dear.L0 (σ:Sig) (K:AV→Hp→Prop) (y0 y1 y5 y6 y7 y8 y9 y10:AV) (H:Hp):Prop:=∀ j:Nat→AV,LoopP (CZ σ) (lB (bB (sR (sL (sR (sR (sR law10_dear.code))))))) ([y0,y1,j 2,j 3,j 4,y5,y6,y7,y8,y9,y10]++jr j 11 95) H (fun e T G=>(law10_dear.Q0 σ K) (unblock 0 e) T G)
noncomputable def law10_dear.L1 (σ:Sig) (K:AV→Hp→Prop) (y0 y1 y5 y6 y7 y8 y9 y10:AV) (H:Hp):Prop:=∀ j:Nat→AV,LoopP (CZ σ) (lB (bB (sR (sR (sR (bB (sL (sR (lB (bB (sR (sL (sR (sR (sR law10_dear.code))))))))))))))) ([y0,y1,j 2,j 3,j 4,y5,y6,y7,y8,y9,y10]++jr j 11 95) H (fun e T G=>(fun e T G=>(law10_dear.Q2 σ K) (unblock 1 e) T G) (unblock 2 e) T G)
noncomputable def law10_dear.L2 (σ:Sig) (K:AV→Hp→Prop) (y0 y1 y5 y6 y7 y8 y9 y10:AV) (H:Hp):Prop:=∀ j:Nat→AV,LoopP (CZ σ) (lB (bB (sR (sR (sR (sR (bB (sL (sR (lB (bB (sR (sR (sR (bB (sL (sR (lB (bB (sR (sL (sR (sR (sR law10_dear.code)))))))))))))))))))))))) ([y0,y1,j 2,j 3,j 4,y5,y6,y7,y8,y9,y10]++jr j 11 95) H (fun e T G=>(fun e T G=>(nx (law10_dear.Q3 σ K) fun T G=>wp (CZ σ) 2019 (sR (sR (lB (bB (sR (sR (sR (bB (sL (sR (lB (bB (sR (sL (sR (sR (sR law10_dear.code))))))))))))))))) T G (law10_dear.Q3 σ K)) (unblock 3 e) T G) (unblock 4 e) T G)
theorem law10_dear.L0_step {y0 y1 y5 y6 y7 y8 y9 y10:AV} (h:bnd (lenSl y0) fun x1=>bnd (binR .lss y6 x1) fun x2=>ifB x2 (bnd (binR .lss y5 (I 100)) fun x3=>ifB x3 (bnd (ixaSl 1 y0 y6) fun x4=>bnd (shiftA x4 0) fun x5=>bnd (ldA false 1 H x5) fun x6=>bnd (lenSl x6) fun x7=>bnd (binR .gtr x7 (I 12)) fun x8=>ifB x8 (bnd (lenSl x6) fun x9=>bnd (binR .lss x9 (I 50)) fun x10=>ifB x10 (K (I 100) H) (bnd (lenSl x6) fun x11=>bnd (binR .gtr x11 (I 60)) fun x12=>ifB x12 (K (I 100) H) (law10_dear.L1 σ K y0 y1 y5 y6 x6 (I 0) y9 y10 H))) (bnd (lenSl x6) fun x13=>bnd (binR .gtr x13 (I 60)) fun x14=>ifB x14 (K (I 100) H) (law10_dear.L1 σ K y0 y1 y5 y6 x6 (I 0) y9 y10 H))) (K y5 H)) (K y5 H)):law10_dear.L0 σ K y0 y1 y5 y6 y7 y8 y9 y10 H :=
 fun j=>lrd (g:=2019) (Eq.mpr (by kernel_rfl) h)
theorem law10_dear.L1_step {y0 y1 y5 y6 y7 y8 y9 y10:AV} (h:bnd (lenSl y7) fun x1=>bnd (binR .lss y8 x1) fun x2=>ifB x2 (bnd (binR .lss y5 (I 100)) fun x3=>ifB x3 (bnd (ixaSl 6 y7 y8) fun x4=>bnd (shiftA x4 1) fun x5=>bnd (ldA true 5 H x5) fun x6=>allocK [.lit (.string ⟨#[]⟩),.lit (.slice none 0 0),.lit (.slice none 0 0),.lit (.slice none 0 0),.lit (.slice none 0 0)] H fun x7 H8=>bnd (stA 5 H8 x7 x6) fun H9=>bnd (binR .add y5 (I 1)) fun x10=>bnd (binR .add x10 y1) fun x11=>bnd (shiftA x7 1) fun x12=>bnd (ldA false 1 H9 x12) fun x13=>bnd (lenSl x13) fun x14=>bnd (binR .gtr x14 (I 5)) fun x15=>ifB x15 (K (I 100) H9) (bnd (shiftA x7 2) fun x16=>bnd (ldA false 1 H9 x16) fun x17=>bnd (lenSl x17) fun x18=>bnd (binR .gtr x18 (I 5)) fun x19=>ifB x19 (K (I 100) H9) (bnd (shiftA x7 3) fun x20=>bnd (ldA false 1 H9 x20) fun x21=>bnd (lenSl x21) fun x22=>bnd (binR .gtr x22 (I 5)) fun x23=>ifB x23 (K (I 100) H9) (bnd (shiftA x7 4) fun x24=>bnd (ldA false 1 H9 x24) fun x25=>bnd (lenSl x25) fun x26=>bnd (binR .gtr x26 (I 5)) fun x27=>ifB x27 (K (I 100) H9) (law10_dear.L2 σ K y0 y1 x11 y6 y7 y8 x7 (I 0) H9))))) (bnd (binR .add y6 (I 1)) fun x28=>law10_dear.L0 σ K y0 y1 y5 x28 y7 y8 y9 y10 H)) (bnd (binR .add y6 (I 1)) fun x29=>law10_dear.L0 σ K y0 y1 y5 x29 y7 y8 y9 y10 H)):law10_dear.L1 σ K y0 y1 y5 y6 y7 y8 y9 y10 H :=
 fun j=>lrd (g:=2019) (Eq.mpr (by kernel_rfl) h)
theorem law10_dear.L2_step {y0 y1 y5 y6 y7 y8 y9 y10:AV} (h:bnd (shiftA y9 4) fun x1=>bnd (ldA false 1 H x1) fun x2=>bnd (lenSl x2) fun x3=>bnd (binR .lss y10 x3) fun x4=>ifB x4 (bnd (binR .lss y5 (I 100)) fun x5=>ifB x5 (bnd (shiftA y9 4) fun x6=>bnd (ldA false 1 H x6) fun x7=>bnd (ixaSl 4 x7 y10) fun x8=>bnd (shiftA x8 3) fun x9=>bnd (ldA false 1 H x9) fun x10=>bnd (binR .add y1 (I 1)) fun x11=>callK Tryz.prog σ n_law10_dear [x10,x11] H fun x12 H13=>bnd (binR .mul (I 3) x12) fun x14=>bnd (binR .add y5 x14) fun x15=>bnd (binR .add y10 (I 1)) fun x16=>law10_dear.L2 σ K y0 y1 x15 y6 y7 y8 y9 x16 H13) (bnd (binR .add y8 (I 1)) fun x17=>law10_dear.L1 σ K y0 y1 y5 y6 y7 x17 y9 y10 H)) (bnd (binR .add y8 (I 1)) fun x18=>law10_dear.L1 σ K y0 y1 y5 y6 y7 x18 y9 y10 H)):law10_dear.L2 σ K y0 y1 y5 y6 y7 y8 y9 y10 H :=
 fun j=>lrd (g:=2019) (Eq.mpr (by kernel_rfl) h)
theorem law10_dear.run {a0 a1:AV} (h:bnd (binR .gtr a1 (I 10)) fun x1=>ifB x1 (K (I 100) H) (law10_dear.L0 σ K a0 a1 (I 0) (I 0) (.lit undef) (.lit undef) (.lit undef) (.lit undef) H)):∃ r H1,Good Tryz.prog σ n_law10_dear [a0,a1] H r H1∧K r H1 :=
 gwp 2019 (fn:=Tryz.f50) (f:=n_law10_dear) (c:=law10_dear.code) (by kernel_rfl) (by kernel_rfl) (Eq.mpr (by kernel_rfl) h)
noncomputable def ref9_lowered.code:Code:=bodyOf Tryz.f51
noncomputable def ref9_lowered.L0 (σ:Sig) (K:AV→Hp→Prop) (y1 y2 y3 y4:AV) (H:Hp):Prop:=∀ j:Nat→AV,LoopP (CZ σ) (lB (bB (sR (sL (sR (sR (sR (sR ref9_lowered.code)))))))) ([j 0,y1,y2,y3,y4]++jr j 5 35) H (fun e T G=>(nx (fQ Tryz.f51 σ K) fun T G=>wp (CZ σ) 30 (sR (sR (sR (sR (sR ref9_lowered.code))))) T G (fQ Tryz.f51 σ K)) (unblock 0 e) T G)
theorem ref9_lowered.L0_step {y1 y2 y3 y4:AV} (h:bnd (shiftA y1 4) fun x1=>bnd (ldA false 1 H x1) fun x2=>bnd (lenSl x2) fun x3=>bnd (binR .lss y4 x3) fun x4=>ifB x4 (bnd (shiftA y1 4) fun x5=>bnd (ldA false 1 H x5) fun x6=>bnd (ixaSl 2 x6 y4) fun x7=>bnd (shiftA x7 0) fun x8=>bnd (ldA false 1 H x8) fun x9=>callK Tryz.prog σ n_ref1_Lower [x9] H fun x10 H11=>bnd (shiftA y1 4) fun x12=>kpK (x12,some 1) H H11 (bnd (ldA false 1 H11 x12) fun x13=>bnd (ixaSl 2 x13 y4) fun x14=>bnd (shiftA x14 1) fun x15=>kpK (x15,some 1) H H11 (bnd (ldA false 1 H11 x15) fun x16=>bnd (bldR [.lit (.string ⟨#[]⟩),.lit (.string ⟨#[]⟩)] [(0,1,x10),(1,1,x16)]) fun l17=>bnd (bldSlR [.string ⟨#[]⟩,.string ⟨#[]⟩] 2 1 H11 [(0,2,(.agg l17))]) fun p18=>bnd (appR false 2 32 p18.2 y3 p18.1) fun p19=>bnd (binR .add y4 (I 1)) fun x20=>ref9_lowered.L0 σ K y1 y2 p19.1 x20 p19.2))) (bnd (shiftA y1 4) fun x21=>bnd (stA 1 H x21 y3) fun H22=>bnd (ldA true 5 H22 y1) fun x23=>bnd (stA 5 H22 y2 x23) fun H24=>bnd (ldA true 5 H24 y2) fun r25=>K r25 H24)):ref9_lowered.L0 σ K y1 y2 y3 y4 H :=
 fun j=>lrd (g:=30) (Eq.mpr (by kernel_rfl) h)
theorem ref9_lowered.run {a0:AV} (h:boxK a0 H fun x1 H2=>allocK [I 0,.lit (.string ⟨#[]⟩),.lit (.string ⟨#[]⟩),.lit (.slice none 0 0),.lit (.slice none 0 0)] H2 fun x3 H4=>bnd (shiftA x1 1) fun x5=>bnd (ldA false 1 H4 x5) fun x6=>callK Tryz.prog σ n_ref1_Lower [x6] H4 fun x7 H8=>bnd (shiftA x1 1) fun x9=>bnd (stA 1 H8 x9 x7) fun H10=>bnd (shiftA x1 3) fun x11=>bnd (ldA false 1 H10 x11) fun x12=>bnd (appR false 1 16 H10 (.lit (.slice none 0 0)) x12) fun p13=>bnd (shiftA x1 3) fun x14=>bnd (stA 1 p13.2 x14 p13.1) fun H15=>ref9_lowered.L0 σ K x1 x3 (.lit (.slice none 0 0)) (I 0) H15):∃ r H1,Good Tryz.prog σ n_ref9_lowered [a0] H r H1∧K r H1 :=
 gwp 30 (fn:=Tryz.f51) (f:=n_ref9_lowered) (c:=ref9_lowered.code) (by kernel_rfl) (by kernel_rfl) (Eq.mpr (by kernel_rfl) h)
noncomputable def cascade_candidate_beats.code:Code:=bodyOf Tryz.f52
theorem cascade_candidate_beats.run {a0 a1:AV} (h:boxK a0 H fun x1 H2=>boxK a1 H2 fun x3 H4=>bnd (shiftA x1 0) fun x5=>bnd (shiftA x5 3) fun x6=>bnd (ldA false 1 H4 x6) fun x7=>bnd (shiftA x3 0) fun x8=>bnd (shiftA x8 3) fun x9=>bnd (ldA false 1 H4 x9) fun x10=>bnd (eqBoolR .neq x7 x10) fun x11=>ifB x11 (bnd (shiftA x1 0) fun x12=>bnd (shiftA x12 3) fun x13=>bnd (ldA false 1 H4 x13) fun x14=>K x14 H4) (bnd (shiftA x1 4) fun x15=>bnd (ldA false 1 H4 x15) fun x16=>bnd (shiftA x3 4) fun x17=>bnd (ldA false 1 H4 x17) fun x18=>bnd (binR .geq x16 x18) fun x19=>K x19 H4)):∃ r H1,Good Tryz.prog σ n_cascade_candidate_beats [a0,a1] H r H1∧K r H1 :=
 gwp 0 (fn:=Tryz.f52) (f:=n_cascade_candidate_beats) (c:=cascade_candidate_beats.code) (by kernel_rfl) (by kernel_rfl) (Eq.mpr (by kernel_rfl) h)
noncomputable def cascade_candidates_1.code:Code:=bodyOf Tryz.f53
noncomputable def cascade_candidates_1.Q0 (σ:Sig) (K:AV→Hp→Prop):Exit→List AV→Hp→Prop:=(nx (fun e T G=>(fQ Tryz.f53 σ K) (unblock 0 e) T G) fun T G=>∀ j,LoopP (CZ σ) (lB (bB (sR cascade_candidates_1.code))) (maskA 4035225386383520573 j 0 T) G (fun e T G=>(fQ Tryz.f53 σ K) (unblock 0 e) T G))
noncomputable def cascade_candidates_1.Q1 (σ:Sig) (K:AV→Hp→Prop):Exit→List AV→Hp→Prop:=(nx (cascade_candidates_1.Q0 σ K) fun T G=>∀ j,wp (CZ σ) 4035225386383520573 (sR (sR (sR (lB (bB (sR cascade_candidates_1.code)))))) (maskA 4035225386383520573 j 0 T) G (cascade_candidates_1.Q0 σ K))
noncomputable def cascade_candidates_1.Q2 (σ:Sig) (K:AV→Hp→Prop):Exit→List AV→Hp→Prop:=(nx (fun e T G=>(cascade_candidates_1.Q1 σ K) (unblock 1 e) T G) fun T G=>wp (CZ σ) 4035225386383520573 (sR (sR (sR (sR (bB (sL (sR (sR (lB (bB (sR cascade_candidates_1.code))))))))))) T G (fun e T G=>(cascade_candidates_1.Q1 σ K) (unblock 1 e) T G))
noncomputable def cascade_candidates_1.L0 (σ:Sig) (K:AV→Hp→Prop) (y0 y2 y3 y4 y5 y8 y9 y12 y13 y16 y17 y18 y34 y35 y36 y59 y60 y61:AV) (H:Hp):Prop:=∀ j:Nat→AV,LoopP (CZ σ) (lB (bB (sR cascade_candidates_1.code))) ([y0,j 1,y2,y3,y4,y5,j 6,j 7,y8,y9,j 10,j 11,y12,y13,j 14,j 15,y16,y17,y18,j 19,j 20,j 21,j 22,j 23,j 24,j 25,j 26,j 27,j 28,j 29,j 30,j 31,j 32,j 33,y34,y35,y36,j 37,j 38,j 39,j 40,j 41,j 42,j 43,j 44,j 45,j 46,j 47,j 48,j 49,j 50,j 51,j 52,j 53,j 54,j 55,j 56,j 57,j 58,y59,y60,y61]++jr j 62 14) H (fun e T G=>(fQ Tryz.f53 σ K) (unblock 0 e) T G)
noncomputable def cascade_candidates_1.J1 (σ:Sig) (K:AV→Hp→Prop) (y0 y2 y3 y4 y5 y8 y9 y12 y13 y16 y17 y18 y34 y35 y36 y59 y60 y61:AV) (H:Hp):Prop:=∀ j:Nat→AV,wp (CZ σ) 4035225386383520573 (sR (sR (sR (lB (bB (sR cascade_candidates_1.code)))))) ([y0,j 1,y2,y3,y4,y5,j 6,j 7,y8,y9,j 10,j 11,y12,y13,j 14,j 15,y16,y17,y18,j 19,j 20,j 21,j 22,j 23,j 24,j 25,j 26,j 27,j 28,j 29,j 30,j 31,j 32,j 33,y34,y35,y36,j 37,j 38,j 39,j 40,j 41,j 42,j 43,j 44,j 45,j 46,j 47,j 48,j 49,j 50,j 51,j 52,j 53,j 54,j 55,j 56,j 57,j 58,y59,y60,y61]++jr j 62 14) H (cascade_candidates_1.Q0 σ K)
noncomputable def cascade_candidates_1.L2 (σ:Sig) (K:AV→Hp→Prop) (y0 y2 y3 y4 y5 y8 y9 y12 y13 y16 y17 y18 y34 y35 y36 y59 y60 y61:AV) (H:Hp):Prop:=∀ j:Nat→AV,LoopP (CZ σ) (lB (bB (sR (sL (sR (sR (sR (bB (sL (sR (sR (lB (bB (sR cascade_candidates_1.code)))))))))))))) ([y0,j 1,y2,y3,y4,y5,j 6,j 7,y8,y9,j 10,j 11,y12,y13,j 14,j 15,y16,y17,y18,j 19,j 20,j 21,j 22,j 23,j 24,j 25,j 26,j 27,j 28,j 29,j 30,j 31,j 32,j 33,y34,y35,y36,j 37,j 38,j 39,j 40,j 41,j 42,j 43,j 44,j 45,j 46,j 47,j 48,j 49,j 50,j 51,j 52,j 53,j 54,j 55,j 56,j 57,j 58,y59,y60,y61]++jr j 62 14) H (fun e T G=>(cascade_candidates_1.Q2 σ K) (unblock 2 e) T G)
noncomputable def cascade_candidates_1.J3 (σ:Sig) (K:AV→Hp→Prop) (y0 y2 y3 y4 y5 y8 y9 y12 y13 y16 y17 y18 y34 y35 y36 y59 y60 y61:AV) (H:Hp):Prop:=∀ j:Nat→AV,wp (CZ σ) 4035225386383520573 (sR (sR (sR (lB (bB (sR (sL (sR (sR (sR (bB (sL (sR (sR (lB (bB (sR cascade_candidates_1.code))))))))))))))))) ([y0,j 1,y2,y3,y4,y5,j 6,j 7,y8,y9,j 10,j 11,y12,y13,j 14,j 15,y16,y17,y18,j 19,j 20,j 21,j 22,j 23,j 24,j 25,j 26,j 27,j 28,j 29,j 30,j 31,j 32,j 33,y34,y35,y36,j 37,j 38,j 39,j 40,j 41,j 42,j 43,j 44,j 45,j 46,j 47,j 48,j 49,j 50,j 51,j 52,j 53,j 54,j 55,j 56,j 57,j 58,y59,y60,y61]++jr j 62 14) H (nx (fun e T G=>(cascade_candidates_1.Q2 σ K) (unblock 2 e) T G) fun T G=>∀ j,LoopP (CZ σ) (lB (bB (sR (sL (sR (sR (sR (bB (sL (sR (sR (lB (bB (sR cascade_candidates_1.code)))))))))))))) (maskA 4035225386383520573 j 0 T) G (fun e T G=>(cascade_candidates_1.Q2 σ K) (unblock 2 e) T G))
noncomputable def cascade_candidates_1.L4 (σ:Sig) (K:AV→Hp→Prop) (y0 y2 y3 y4 y5 y8 y9 y12 y13 y16 y17 y18 y34 y35 y36 y59 y60 y61:AV) (H:Hp):Prop:=∀ j:Nat→AV,LoopP (CZ σ) (lB (bB (sR (sR (sR (sR (sR (sR (bB (sL (sR (sR (lB (bB (sR cascade_candidates_1.code))))))))))))))) ([y0,j 1,y2,y3,y4,y5,j 6,j 7,y8,y9,j 10,j 11,y12,y13,j 14,j 15,y16,y17,y18,j 19,j 20,j 21,j 22,j 23,j 24,j 25,j 26,j 27,j 28,j 29,j 30,j 31,j 32,j 33,y34,y35,y36,j 37,j 38,j 39,j 40,j 41,j 42,j 43,j 44,j 45,j 46,j 47,j 48,j 49,j 50,j 51,j 52,j 53,j 54,j 55,j 56,j 57,j 58,y59,y60,y61]++jr j 62 14) H (fun e T G=>(fun e T G=>(cascade_candidates_1.Q1 σ K) (unblock 1 e) T G) (unblock 4 e) T G)
theorem cascade_candidates_1.L0_step {y0 y2 y3 y4 y5 y8 y9 y12 y13 y16 y17 y18 y34 y35 y36 y59 y60 y61:AV} (h:bnd (binR .lss y18 y17) fun x1=>ifB x1 (bnd (ixaSl 1 y16 y18) fun x2=>bnd (ldA false 1 H x2) fun x3=>bnd (binR .lss x3 (I 0)) fun x4=>ifB x4 (cascade_candidates_1.J1 σ K y0 y2 y3 y4 y5 x3 y9 y12 y13 y16 y17 y18 y34 y35 y36 y59 y60 y61 H) (bnd (ldA false 1 H y2) fun x5=>bnd (lenSl x5) fun x6=>bnd (binR .geq x3 x6) fun x7=>ifB x7 (cascade_candidates_1.J1 σ K y0 y2 y3 y4 y5 x3 y9 y12 y13 y16 y17 y18 y34 y35 y36 y59 y60 y61 H) (bnd (ldA false 1 H y2) fun x8=>bnd (ixaSl 2 x8 x3) fun x9=>bnd (shiftA x9 0) fun x10=>bnd (ldA false 1 H x10) fun x11=>bnd (lenSl x11) fun x12=>cascade_candidates_1.L2 σ K y0 y2 y3 y4 y5 x3 (.lit (.slice none 0 0)) y12 y13 y16 y17 y18 x11 x12 (I 0) y59 y60 y61 H))) (K (.tup []) H)):cascade_candidates_1.L0 σ K y0 y2 y3 y4 y5 y8 y9 y12 y13 y16 y17 y18 y34 y35 y36 y59 y60 y61 H :=
 fun j=>lrd (g:=4035225386383520573) (Eq.mpr (by kernel_rfl) h)
theorem cascade_candidates_1.J1_step {y0 y2 y3 y4 y5 y8 y9 y12 y13 y16 y17 y18 y34 y35 y36 y59 y60 y61:AV} (h:bnd (binR .add y18 (I 1)) fun x1=>cascade_candidates_1.L0 σ K y0 y2 y3 y4 y5 y8 y9 y12 y13 y16 y17 x1 y34 y35 y36 y59 y60 y61 H):cascade_candidates_1.J1 σ K y0 y2 y3 y4 y5 y8 y9 y12 y13 y16 y17 y18 y34 y35 y36 y59 y60 y61 H :=
 fun j=>Eq.mpr (by kernel_rfl) h
theorem cascade_candidates_1.L2_step {y0 y2 y3 y4 y5 y8 y9 y12 y13 y16 y17 y18 y34 y35 y36 y59 y60 y61:AV} (h:bnd (binR .lss y36 y35) fun x1=>ifB x1 (bnd (ixaSl 1 y34 y36) fun x2=>bnd (ldA true 1 H x2) fun x3=>allocK [.lit (.slice none 0 0)] H fun x4 H5=>bnd (stA 1 H5 x4 x3) fun H6=>bnd (ldA false 1 H6 y3) fun x7=>bnd (ldA true 1 H6 x4) fun x8=>callV Tryz.prog σ x7 [x8] H6 fun x9 H10=>ifB x9 (bnd (ldA true 1 H10 x4) fun x11=>bnd (bldSlR [.slice none 0 0] 1 1 H10 [(0,1,x11)]) fun p12=>bnd (appR false 1 24 p12.2 y9 p12.1) fun p13=>cascade_candidates_1.J3 σ K y0 y2 y3 y4 y5 y8 p13.1 y12 y13 y16 y17 y18 y34 y35 y36 y59 y60 y61 p13.2) (cascade_candidates_1.J3 σ K y0 y2 y3 y4 y5 y8 y9 y12 y13 y16 y17 y18 y34 y35 y36 y59 y60 y61 H10)) (bnd (ldA false 1 H y4) fun x14=>bnd (ldA false 1 H y5) fun x15=>callK Tryz.prog σ n_weigh_Best [x14,x15,y9] H fun x16 H17=>bnd (exR x16 0) fun x18=>bnd (exR x16 1) fun x19=>bnd (ldA false 1 H17 y2) fun x20=>bnd (ixaSl 2 x20 y8) fun x21=>bnd (shiftA x21 1) fun x22=>bnd (ldA false 1 H17 x22) fun x23=>bnd (lenSl x23) fun x24=>cascade_candidates_1.L4 σ K y0 y2 y3 y4 y5 y8 y9 x18 x19 y16 y17 y18 y34 y35 y36 x23 x24 (I 0) H17)):cascade_candidates_1.L2 σ K y0 y2 y3 y4 y5 y8 y9 y12 y13 y16 y17 y18 y34 y35 y36 y59 y60 y61 H :=
 fun j=>lrd (g:=4035225386383520573) (Eq.mpr (by kernel_rfl) h)
theorem cascade_candidates_1.J3_step {y0 y2 y3 y4 y5 y8 y9 y12 y13 y16 y17 y18 y34 y35 y36 y59 y60 y61:AV} (h:bnd (binR .add y36 (I 1)) fun x1=>cascade_candidates_1.L2 σ K y0 y2 y3 y4 y5 y8 y9 y12 y13 y16 y17 y18 y34 y35 x1 y59 y60 y61 H):cascade_candidates_1.J3 σ K y0 y2 y3 y4 y5 y8 y9 y12 y13 y16 y17 y18 y34 y35 y36 y59 y60 y61 H :=
 fun j=>Eq.mpr (by kernel_rfl) h
theorem cascade_candidates_1.L4_step {y0 y2 y3 y4 y5 y8 y9 y12 y13 y16 y17 y18 y34 y35 y36 y59 y60 y61:AV} (h:bnd (binR .lss y61 y60) fun x1=>ifB x1 (bnd (ixaSl 4 y59 y61) fun x2=>bnd (ldA true 4 H x2) fun x3=>allocK [I 0,I 0,I 0,Bo false] H fun x4 H5=>bnd (stA 4 H5 x4 x3) fun H6=>ifB y13 (bnd (ldA true 4 H6 x4) fun x7=>bnd (bldR [I 0,I 0,I 0,Bo false,I 0] [(0,4,x7),(4,1,y12)]) fun l8=>callV Tryz.prog σ y0 [(.agg l8)] H6 fun x9 H10=>bnd (unR .not x9) fun x11=>ifB x11 (K (.tup []) H10) (bnd (binR .add y61 (I 1)) fun x12=>cascade_candidates_1.L4 σ K y0 y2 y3 y4 y5 y8 y9 y12 y13 y16 y17 y18 y34 y35 y36 y59 y60 x12 H10)) (bnd (binR .add y61 (I 1)) fun x13=>cascade_candidates_1.L4 σ K y0 y2 y3 y4 y5 y8 y9 y12 y13 y16 y17 y18 y34 y35 y36 y59 y60 x13 H6)) (cascade_candidates_1.J1 σ K y0 y2 y3 y4 y5 y8 y9 y12 y13 y16 y17 y18 y34 y35 y36 y59 y60 y61 H)):cascade_candidates_1.L4 σ K y0 y2 y3 y4 y5 y8 y9 y12 y13 y16 y17 y18 y34 y35 y36 y59 y60 y61 H :=
 fun j=>lrd (g:=4035225386383520573) (Eq.mpr (by kernel_rfl) h)
theorem cascade_candidates_1.run {a0 a1 a2 a3 a4 a5:AV} (h:bnd (ldA false 1 H a1) fun x1=>bnd (lenSl x1) fun x2=>cascade_candidates_1.L0 σ K a0 a2 a3 a4 a5 (.lit undef) (.lit undef) (.lit undef) (.lit undef) x1 x2 (I 0) (.lit undef) (.lit undef) (.lit undef) (.lit undef) (.lit undef) (.lit undef) H):∃ r H1,Good Tryz.prog σ n_cascade_candidates_1 [a0,a1,a2,a3,a4,a5] H r H1∧K r H1 :=
 gwp 4035225386383520573 (fn:=Tryz.f53) (f:=n_cascade_candidates_1) (c:=cascade_candidates_1.code) (by kernel_rfl) (by kernel_rfl) (Eq.mpr (by kernel_rfl) h)
noncomputable def weigh_Best.code:Code:=bodyOf Tryz.f54
noncomputable def weigh_Best.Q0 (σ:Sig) (K:AV→Hp→Prop):Exit→List AV→Hp→Prop:=(nx (fQ Tryz.f54 σ K) fun T G=>wp (CZ σ) 29443 (sR (sR (sR weigh_Best.code))) T G (fQ Tryz.f54 σ K))
noncomputable def weigh_Best.L0 (σ:Sig) (K:AV→Hp→Prop) (y0 y1 y8 y9 y12 y13 y14:AV) (H:Hp):Prop:=∀ j:Nat→AV,LoopP (CZ σ) (lB (bB (sR (sL (sR (sR weigh_Best.code)))))) ([y0,y1,j 2,j 3,j 4,j 5,j 6,j 7,y8,y9,j 10,j 11,y12,y13,y14]++jr j 15 14) H (fun e T G=>(weigh_Best.Q0 σ K) (unblock 0 e) T G)
noncomputable def weigh_Best.J1 (σ:Sig) (K:AV→Hp→Prop) (y0 y1 y8 y9 y12 y13 y14:AV) (H:Hp):Prop:=∀ j:Nat→AV,wp (CZ σ) 29443 (sR (sR (sR (lB (bB (sR (sL (sR (sR weigh_Best.code))))))))) ([y0,y1,j 2,j 3,j 4,j 5,j 6,j 7,y8,y9,j 10,j 11,y12,y13,y14]++jr j 15 14) H (nx (fun e T G=>(weigh_Best.Q0 σ K) (unblock 0 e) T G) fun T G=>∀ j,LoopP (CZ σ) (lB (bB (sR (sL (sR (sR weigh_Best.code)))))) (maskA 29443 j 0 T) G (fun e T G=>(weigh_Best.Q0 σ K) (unblock 0 e) T G))
theorem weigh_Best.L0_step {y0 y1 y8 y9 y12 y13 y14:AV} (h:bnd (binR .lss y14 y13) fun x1=>ifB x1 (bnd (ixaSl 1 y12 y14) fun x2=>bnd (ldA true 1 H x2) fun x3=>allocK [.lit (.slice none 0 0)] H fun x4 H5=>bnd (stA 1 H5 x4 x3) fun H6=>bnd (ldA true 1 H6 x4) fun x7=>callK Tryz.prog σ n_match_Selector [y0,y1,x7] H6 fun x8 H9=>ifB x8 (bnd (ldA true 1 H9 x4) fun x10=>callK Tryz.prog σ n_weigh_Of [x10] H9 fun x11 H12=>bnd (maxA [y8,x11]) fun x13=>weigh_Best.J1 σ K y0 y1 x13 (Bo true) y12 y13 y14 H12) (weigh_Best.J1 σ K y0 y1 y8 y9 y12 y13 y14 H9)) (K (.tup [y8,y9]) H)):weigh_Best.L0 σ K y0 y1 y8 y9 y12 y13 y14 H :=
 fun j=>lrd (g:=29443) (Eq.mpr (by kernel_rfl) h)
theorem weigh_Best.J1_step {y0 y1 y8 y9 y12 y13 y14:AV} (h:bnd (binR .add y14 (I 1)) fun x1=>weigh_Best.L0 σ K y0 y1 y8 y9 y12 y13 x1 H):weigh_Best.J1 σ K y0 y1 y8 y9 y12 y13 y14 H :=
 fun j=>Eq.mpr (by kernel_rfl) h
theorem weigh_Best.run {a0 a1 a2:AV} (h:bnd (lenSl a2) fun x1=>weigh_Best.L0 σ K a0 a1 (I 0) (Bo false) a2 x1 (I 0) H):∃ r H1,Good Tryz.prog σ n_weigh_Best [a0,a1,a2] H r H1∧K r H1 :=
 gwp 29443 (fn:=Tryz.f54) (f:=n_weigh_Best) (c:=weigh_Best.code) (by kernel_rfl) (by kernel_rfl) (Eq.mpr (by kernel_rfl) h)
noncomputable def dom_lowered.code:Code:=bodyOf Tryz.f56
noncomputable def dom_lowered.L0 (σ:Sig) (K:AV→Hp→Prop) (y1 y2 y12 y13:AV) (H:Hp):Prop:=∀ j:Nat→AV,LoopP (CZ σ) (lB (bB (sR (sL (sR (sR (sR dom_lowered.code))))))) ([j 0,y1,y2,j 3,j 4,j 5,j 6,j 7,j 8,j 9,j 10,j 11,y12,y13]++jr j 14 16) H (fun e T G=>(nx (fQ Tryz.f56 σ K) fun T G=>wp (CZ σ) 12294 (sR (sR (sR (sR dom_lowered.code)))) T G (fQ Tryz.f56 σ K)) (unblock 0 e) T G)
theorem dom_lowered.L0_step {y1 y2 y12 y13:AV} (h:bnd (binR .lss y13 y12) fun x1=>ifB x1 (bnd (shiftA y1 4) fun x2=>bnd (ldA false 1 H x2) fun x3=>bnd (shiftA y1 4) fun x4=>bnd (ldA false 1 H x4) fun x5=>bnd (ixaSl 2 x5 y13) fun x6=>bnd (shiftA x6 0) fun x7=>bnd (ldA false 1 H x7) fun x8=>callK Tryz.prog σ n_text_Lower [x8] H fun x9 H10=>kpK (x2,some 1) H H10 (bnd (ixaSl 2 x3 y13) fun x11=>bnd (shiftA x11 0) fun x12=>bnd (stA 1 H10 x12 x9) fun H13=>bnd (binR .add y13 (I 1)) fun x14=>dom_lowered.L0 σ K y1 y2 y12 x14 H13)) (bnd (ldA true 5 H y1) fun x15=>bnd (stA 5 H y2 x15) fun H16=>bnd (ldA true 5 H16 y2) fun r17=>K r17 H16)):dom_lowered.L0 σ K y1 y2 y12 y13 H :=
 fun j=>lrd (g:=12294) (Eq.mpr (by kernel_rfl) h)
theorem dom_lowered.run {a0:AV} (h:boxK a0 H fun x1 H2=>allocK [I 0,.lit (.string ⟨#[]⟩),.lit (.string ⟨#[]⟩),.lit (.slice none 0 0),.lit (.slice none 0 0)] H2 fun x3 H4=>bnd (ldA true 5 H4 x1) fun x5=>callK Tryz.prog σ n_dom_copied [x5] H4 fun x6 H7=>bnd (stA 5 H7 x1 x6) fun H8=>bnd (shiftA x1 1) fun x9=>bnd (ldA false 1 H8 x9) fun x10=>callK Tryz.prog σ n_text_Lower [x10] H8 fun x11 H12=>bnd (shiftA x1 1) fun x13=>bnd (stA 1 H12 x13 x11) fun H14=>bnd (shiftA x1 4) fun x15=>bnd (ldA false 1 H14 x15) fun x16=>bnd (lenSl x16) fun x17=>dom_lowered.L0 σ K x1 x3 x17 (I 0) H14):∃ r H1,Good Tryz.prog σ n_dom_lowered [a0] H r H1∧K r H1 :=
 gwp 12294 (fn:=Tryz.f56) (f:=n_dom_lowered) (c:=dom_lowered.code) (by kernel_rfl) (by kernel_rfl) (Eq.mpr (by kernel_rfl) h)
noncomputable def dom_copied.code:Code:=bodyOf Tryz.f77
theorem dom_copied.run {a0:AV} (h:boxK a0 H fun x1 H2=>allocK [I 0,.lit (.string ⟨#[]⟩),.lit (.string ⟨#[]⟩),.lit (.slice none 0 0),.lit (.slice none 0 0)] H2 fun x3 H4=>bnd (shiftA x1 3) fun x5=>bnd (ldA false 1 H4 x5) fun x6=>callK Tryz.prog σ n_slices_Clone_string_string [x6] H4 fun x7 H8=>bnd (shiftA x1 4) fun x9=>kpK (x9,some 1) H4 H8 (bnd (ldA false 1 H8 x9) fun x10=>callK Tryz.prog σ n_slices_Clone_api_Pair_api_Pair [x10] H8 fun x11 H12=>bnd (shiftA x1 3) fun x13=>bnd (stA 1 H12 x13 x7) fun H14=>bnd (shiftA x1 4) fun x15=>bnd (stA 1 H14 x15 x11) fun H16=>bnd (ldA true 5 H16 x1) fun x17=>bnd (stA 5 H16 x3 x17) fun H18=>bnd (ldA true 5 H18 x3) fun r19=>K r19 H18)):∃ r H1,Good Tryz.prog σ n_dom_copied [a0] H r H1∧K r H1 :=
 gwp 0 (fn:=Tryz.f77) (f:=n_dom_copied) (c:=dom_copied.code) (by kernel_rfl) (by kernel_rfl) (Eq.mpr (by kernel_rfl) h)
noncomputable def dom_Tree_at.code:Code:=bodyOf Tryz.f78
theorem dom_Tree_at.run {a0 a1:AV} (h:allocK [I 0,.lit (.string ⟨#[]⟩),.lit (.string ⟨#[]⟩),.lit (.slice none 0 0),.lit (.slice none 0 0),.lit (.slice none 0 0),I 0,I 0,I 0] H fun x1 H2=>bnd (binR .lss a1 (I 0)) fun x3=>ifB x3 (bnd (bldR [I 0,.lit (.string ⟨#[]⟩),.lit (.string ⟨#[]⟩),.lit (.slice none 0 0),.lit (.slice none 0 0)] []) fun l4=>bnd (bldR [I 0,.lit (.string ⟨#[]⟩),.lit (.string ⟨#[]⟩),.lit (.slice none 0 0),.lit (.slice none 0 0),.lit (.slice none 0 0),I 0,I 0,I 0] [(0,5,(.agg l4)),(8,1,(I (-1)))]) fun l5=>bnd (stA 9 H2 x1 (.agg l5)) fun H6=>bnd (ldA true 9 H6 x1) fun r7=>K r7 H6) (bnd (nilR a0) fun x8=>bnd (shiftA x8 0) fun x9=>bnd (ldA false 1 H2 x9) fun x10=>bnd (lenSl x10) fun x11=>bnd (binR .geq a1 x11) fun x12=>ifB x12 (bnd (bldR [I 0,.lit (.string ⟨#[]⟩),.lit (.string ⟨#[]⟩),.lit (.slice none 0 0),.lit (.slice none 0 0)] []) fun l13=>bnd (bldR [I 0,.lit (.string ⟨#[]⟩),.lit (.string ⟨#[]⟩),.lit (.slice none 0 0),.lit (.slice none 0 0),.lit (.slice none 0 0),I 0,I 0,I 0] [(0,5,(.agg l13)),(8,1,(I (-1)))]) fun l14=>bnd (stA 9 H2 x1 (.agg l14)) fun H15=>bnd (ldA true 9 H15 x1) fun r16=>K r16 H15) (bnd (nilR a0) fun x17=>bnd (shiftA x17 0) fun x18=>bnd (ldA false 1 H2 x18) fun x19=>bnd (ixaSl 9 x19 a1) fun x20=>bnd (ldA true 9 H2 x20) fun x21=>bnd (stA 9 H2 x1 x21) fun H22=>bnd (ldA true 9 H22 x1) fun r23=>K r23 H22))):∃ r H1,Good Tryz.prog σ n_dom_Tree_at [a0,a1] H r H1∧K r H1 :=
 gwp 0 (fn:=Tryz.f78) (f:=n_dom_Tree_at) (c:=dom_Tree_at.code) (by kernel_rfl) (by kernel_rfl) (Eq.mpr (by kernel_rfl) h)
noncomputable def ref1_Lower.code:Code:=bodyOf Tryz.f85
noncomputable def ref1_Lower.Q0 (σ:Sig) (K:AV→Hp→Prop):Exit→List AV→Hp→Prop:=(nx (fQ Tryz.f85 σ K) fun T G=>wp (CZ σ) 24 (sR (sR (sR ref1_Lower.code))) T G (fQ Tryz.f85 σ K))
noncomputable def ref1_Lower.L0 (σ:Sig) (K:AV→Hp→Prop) (y3 y4:AV) (H:Hp):Prop:=∀ j:Nat→AV,LoopP (CZ σ) (lB (bB (sR (sL (sR (sR ref1_Lower.code)))))) ([j 0,j 1,j 2,y3,y4]++jr j 5 30) H (fun e T G=>(ref1_Lower.Q0 σ K) (unblock 0 e) T G)
noncomputable def ref1_Lower.J1 (σ:Sig) (K:AV→Hp→Prop) (y3 y4:AV) (H:Hp):Prop:=∀ j:Nat→AV,wp (CZ σ) 24 (sR (sR (lB (bB (sR (sL (sR (sR ref1_Lower.code)))))))) ([j 0,j 1,j 2,y3,y4]++jr j 5 30) H (nx (fun e T G=>(ref1_Lower.Q0 σ K) (unblock 0 e) T G) fun T G=>∀ j,LoopP (CZ σ) (lB (bB (sR (sL (sR (sR ref1_Lower.code)))))) (maskA 24 j 0 T) G (fun e T G=>(ref1_Lower.Q0 σ K) (unblock 0 e) T G))
theorem ref1_Lower.L0_step {y3 y4:AV} (h:bnd (lenSl y3) fun x1=>bnd (binR .lss y4 x1) fun x2=>ifB x2 (bnd (ixaSl 1 y3 y4) fun x3=>bnd (ldA false 1 H x3) fun x4=>bnd (binR .geq x4 (.lit (.int .u8 65))) fun x5=>ifB x5 (bnd (ixaSl 1 y3 y4) fun x6=>bnd (ldA false 1 H x6) fun x7=>bnd (binR .leq x7 (.lit (.int .u8 90))) fun x8=>ifB x8 (bnd (ixaSl 1 y3 y4) fun x9=>bnd (ldA false 1 H x9) fun x10=>bnd (binR .add x10 (.lit (.int .u8 32))) fun x11=>bnd (ixaSl 1 y3 y4) fun x12=>bnd (stA 1 H x12 x11) fun H13=>ref1_Lower.J1 σ K y3 y4 H13) (ref1_Lower.J1 σ K y3 y4 H)) (ref1_Lower.J1 σ K y3 y4 H)) (bnd (cvToStr H y3) fun x14=>K x14 H)):ref1_Lower.L0 σ K y3 y4 H :=
 fun j=>lrd (g:=24) (Eq.mpr (by kernel_rfl) h)
theorem ref1_Lower.J1_step {y3 y4:AV} (h:bnd (binR .add y4 (I 1)) fun x1=>ref1_Lower.L0 σ K y3 x1 H):ref1_Lower.J1 σ K y3 y4 H :=
 fun j=>Eq.mpr (by kernel_rfl) h
theorem ref1_Lower.run {a0:AV} (h:bnd (cvToBytes H a0) fun p1=>ref1_Lower.L0 σ K p1.1 (I 0) p1.2):∃ r H1,Good Tryz.prog σ n_ref1_Lower [a0] H r H1∧K r H1 :=
 gwp 24 (fn:=Tryz.f85) (f:=n_ref1_Lower) (c:=ref1_Lower.code) (by kernel_rfl) (by kernel_rfl) (Eq.mpr (by kernel_rfl) h)
noncomputable def match_Selector.code:Code:=bodyOf Tryz.f86
theorem match_Selector.run {a0 a1 a2:AV} (h:boxK a2 H fun x1 H2=>bnd (ldA true 1 H2 x1) fun x3=>bnd (bldSlR [.slice none 0 0] 1 1 H2 [(0,1,x3)]) fun p4=>callK Tryz.prog σ n_match_Any [a0,a1,p4.1] p4.2 fun x5 H6=>K x5 H6):∃ r H1,Good Tryz.prog σ n_match_Selector [a0,a1,a2] H r H1∧K r H1 :=
 gwp 0 (fn:=Tryz.f86) (f:=n_match_Selector) (c:=match_Selector.code) (by kernel_rfl) (by kernel_rfl) (Eq.mpr (by kernel_rfl) h)
noncomputable def weigh_Of.code:Code:=bodyOf Tryz.f87
theorem weigh_Of.run {a0:AV} (h:boxK a0 H fun x1 H2=>bnd (ldA true 1 H2 x1) fun x3=>callK Tryz.prog σ n_weigh_of [x3,(I 8)] H2 fun x4 H5=>K x4 H5):∃ r H1,Good Tryz.prog σ n_weigh_Of [a0] H r H1∧K r H1 :=
 gwp 0 (fn:=Tryz.f87) (f:=n_weigh_Of) (c:=weigh_Of.code) (by kernel_rfl) (by kernel_rfl) (Eq.mpr (by kernel_rfl) h)
noncomputable def text_Lower.code:Code:=bodyOf Tryz.f89
noncomputable def text_Lower.Q0 (σ:Sig) (K:AV→Hp→Prop):Exit→List AV→Hp→Prop:=(nx (fQ Tryz.f89 σ K) fun T G=>wp (CZ σ) 1800 (sR (sR (sR text_Lower.code))) T G (fQ Tryz.f89 σ K))
noncomputable def text_Lower.L0 (σ:Sig) (K:AV→Hp→Prop) (y3 y8 y9 y10:AV) (H:Hp):Prop:=∀ j:Nat→AV,LoopP (CZ σ) (lB (bB (sR (sL (sR (sR text_Lower.code)))))) ([j 0,j 1,j 2,y3,j 4,j 5,j 6,j 7,y8,y9,y10]++jr j 11 19) H (fun e T G=>(text_Lower.Q0 σ K) (unblock 0 e) T G)
noncomputable def text_Lower.J1 (σ:Sig) (K:AV→Hp→Prop) (y3 y8 y9 y10:AV) (H:Hp):Prop:=∀ j:Nat→AV,wp (CZ σ) 1800 (sR (sR (sR (lB (bB (sR (sL (sR (sR text_Lower.code))))))))) ([j 0,j 1,j 2,y3,j 4,j 5,j 6,j 7,y8,y9,y10]++jr j 11 19) H (nx (fun e T G=>(text_Lower.Q0 σ K) (unblock 0 e) T G) fun T G=>∀ j,LoopP (CZ σ) (lB (bB (sR (sL (sR (sR text_Lower.code)))))) (maskA 1800 j 0 T) G (fun e T G=>(text_Lower.Q0 σ K) (unblock 0 e) T G))
theorem text_Lower.L0_step {y3 y8 y9 y10:AV} (h:bnd (binR .lss y10 y9) fun x1=>ifB x1 (bnd (ixaSl 1 y8 y10) fun x2=>bnd (ldA false 1 H x2) fun x3=>bnd (binR .geq x3 (.lit (.int .u8 65))) fun x4=>ifB x4 (bnd (binR .leq x3 (.lit (.int .u8 90))) fun x5=>ifB x5 (bnd (binR .add x3 (.lit (.int .u8 97))) fun x6=>bnd (binR .sub x6 (.lit (.int .u8 65))) fun x7=>bnd (ixaSl 1 y3 y10) fun x8=>bnd (stA 1 H x8 x7) fun H9=>text_Lower.J1 σ K y3 y8 y9 y10 H9) (text_Lower.J1 σ K y3 y8 y9 y10 H)) (text_Lower.J1 σ K y3 y8 y9 y10 H)) (bnd (cvToStr H y3) fun x10=>K x10 H)):text_Lower.L0 σ K y3 y8 y9 y10 H :=
 fun j=>lrd (g:=1800) (Eq.mpr (by kernel_rfl) h)
theorem text_Lower.J1_step {y3 y8 y9 y10:AV} (h:bnd (binR .add y10 (I 1)) fun x1=>text_Lower.L0 σ K y3 y8 y9 x1 H):text_Lower.J1 σ K y3 y8 y9 y10 H :=
 fun j=>Eq.mpr (by kernel_rfl) h
theorem text_Lower.run {a0:AV} (h:bnd (cvToBytes H a0) fun p1=>bnd (lenSl p1.1) fun x2=>text_Lower.L0 σ K p1.1 p1.1 x2 (I 0) p1.2):∃ r H1,Good Tryz.prog σ n_text_Lower [a0] H r H1∧K r H1 :=
 gwp 1800 (fn:=Tryz.f89) (f:=n_text_Lower) (c:=text_Lower.code) (by kernel_rfl) (by kernel_rfl) (Eq.mpr (by kernel_rfl) h)
noncomputable def slices_Clone_string_string.code:Code:=bodyOf Tryz.f106
theorem slices_Clone_string_string.run {a0:AV} (h:bnd (eqSlR .eql a0 (.lit (.slice none 0 0))) fun x1=>ifB x1 (K (.lit (.slice none 0 0)) H) (bnd (bldSlR [.string ⟨#[]⟩] 1 0 H []) fun p2=>bnd (appR false 1 16 p2.2 p2.1 a0) fun p3=>K p3.1 p3.2)):∃ r H1,Good Tryz.prog σ n_slices_Clone_string_string [a0] H r H1∧K r H1 :=
 gwp 0 (fn:=Tryz.f106) (f:=n_slices_Clone_string_string) (c:=slices_Clone_string_string.code) (by kernel_rfl) (by kernel_rfl) (Eq.mpr (by kernel_rfl) h)
noncomputable def slices_Clone_api_Pair_api_Pair.code:Code:=bodyOf Tryz.f107
theorem slices_Clone_api_Pair_api_Pair.run {a0:AV} (h:bnd (eqSlR .eql a0 (.lit (.slice none 0 0))) fun x1=>ifB x1 (K (.lit (.slice none 0 0)) H) (bnd (bldSlR [.string ⟨#[]⟩,.string ⟨#[]⟩] 2 0 H []) fun p2=>bnd (appR false 2 32 p2.2 p2.1 a0) fun p3=>K p3.1 p3.2)):∃ r H1,Good Tryz.prog σ n_slices_Clone_api_Pair_api_Pair [a0] H r H1∧K r H1 :=
 gwp 0 (fn:=Tryz.f107) (f:=n_slices_Clone_api_Pair_api_Pair) (c:=slices_Clone_api_Pair_api_Pair.code) (by kernel_rfl) (by kernel_rfl) (Eq.mpr (by kernel_rfl) h)
noncomputable def match_Any.code:Code:=bodyOf Tryz.f115
noncomputable def match_Any.L0 (σ:Sig) (K:AV→Hp→Prop) (y1 y2 y7 y17 y18:AV) (H:Hp):Prop:=∀ j:Nat→AV,LoopP (CZ σ) (lB (bB (sR (sL (sR (sR (sR match_Any.code))))))) ([j 0,y1,y2,j 3,j 4,j 5,j 6,y7,j 8,j 9,j 10,j 11,j 12,j 13,j 14,j 15,j 16,y17,y18]++jr j 19 18) H (fun e T G=>(nx (fQ Tryz.f115 σ K) fun T G=>wp (CZ σ) 393350 (sR (sR (sR (sR match_Any.code)))) T G (fQ Tryz.f115 σ K)) (unblock 0 e) T G)
theorem match_Any.L0_step {y1 y2 y7 y17 y18:AV} (h:bnd (binR .lss y18 y17) fun x1=>ifB x1 (bnd (binR .add y18 (I 1)) fun x2=>bnd (slSl 1 y2 (some y18) (some x2) none) fun x3=>callK Tryz.prog σ n_match_may [x3,(I 8)] H fun x4 H5=>ifB x4 (callK Tryz.prog σ n_match_asked_add [y7,x3] H5 fun x6 H7=>callK Tryz.prog σ n_match_asked_any [y7,y1,x6] H7 fun x8 H9=>ifB x8 (K (Bo true) H9) (bnd (binR .add y18 (I 1)) fun x10=>match_Any.L0 σ K y1 y2 y7 y17 x10 H9)) (bnd (binR .add y18 (I 1)) fun x11=>match_Any.L0 σ K y1 y2 y7 y17 x11 H5)) (K (Bo false) H)):match_Any.L0 σ K y1 y2 y7 y17 y18 H :=
 fun j=>lrd (g:=393350) (Eq.mpr (by kernel_rfl) h)
theorem match_Any.run {a0 a1 a2:AV} (h:callK Tryz.prog σ n_match_is [a0,a1] H fun x1 H2=>bnd (unR .not x1) fun x3=>ifB x3 (K (Bo false) H2) (callK Tryz.prog σ n_match_begin [a0] H2 fun x4 H5=>bnd (lenSl a2) fun x6=>match_Any.L0 σ K a1 a2 x4 x6 (I 0) H5)):∃ r H1,Good Tryz.prog σ n_match_Any [a0,a1,a2] H r H1∧K r H1 :=
 gwp 393350 (fn:=Tryz.f115) (f:=n_match_Any) (c:=match_Any.code) (by kernel_rfl) (by kernel_rfl) (Eq.mpr (by kernel_rfl) h)
noncomputable def weigh_of.code:Code:=bodyOf Tryz.f116
noncomputable def weigh_of.L0 (σ:Sig) (K:AV→Hp→Prop) (y1 y5 y9 y10 y11:AV) (H:Hp):Prop:=∀ j:Nat→AV,LoopP (CZ σ) (lB (bB (sR (sL (sR (sR weigh_of.code)))))) ([j 0,y1,j 2,j 3,j 4,y5,j 6,j 7,j 8,y9,y10,y11]++jr j 12 10) H (fun e T G=>(nx (fQ Tryz.f116 σ K) fun T G=>wp (CZ σ) 3618 (sR (sR (sR weigh_of.code))) T G (fQ Tryz.f116 σ K)) (unblock 0 e) T G)
theorem weigh_of.L0_step {y1 y5 y9 y10 y11:AV} (h:bnd (binR .lss y11 y10) fun x1=>ifB x1 (bnd (ixaSl 6 y9 y11) fun x2=>bnd (ldA true 6 H x2) fun x3=>allocK [I 0,.lit (.string ⟨#[]⟩),.lit (.slice none 0 0),.lit (.slice none 0 0),.lit (.slice none 0 0),.lit (.slice none 0 0)] H fun x4 H5=>bnd (stA 6 H5 x4 x3) fun H6=>bnd (shiftA x4 1) fun x7=>bnd (ldA true 5 H6 x7) fun x8=>callK Tryz.prog σ n_weigh_sums_compound [y5,x8,y1] H6 fun x9 H10=>bnd (binR .add y11 (I 1)) fun x11=>weigh_of.L0 σ K y1 y5 y9 y10 x11 H10) (bnd (ldA true 3 H y5) fun x12=>callK Tryz.prog σ n_weigh_sums_weight [x12] H fun x13 H14=>K x13 H14)):weigh_of.L0 σ K y1 y5 y9 y10 y11 H :=
 fun j=>lrd (g:=3618) (Eq.mpr (by kernel_rfl) h)
theorem weigh_of.run {a0 a1:AV} (h:boxK a0 H fun x1 H2=>allocK [I 0,I 0,I 0] H2 fun x3 H4=>bnd (shiftA x1 0) fun x5=>bnd (ldA false 1 H4 x5) fun x6=>bnd (lenSl x6) fun x7=>weigh_of.L0 σ K a1 x3 x6 x7 (I 0) H4):∃ r H1,Good Tryz.prog σ n_weigh_of [a0,a1] H r H1∧K r H1 :=
 gwp 3618 (fn:=Tryz.f116) (f:=n_weigh_of) (c:=weigh_of.code) (by kernel_rfl) (by kernel_rfl) (Eq.mpr (by kernel_rfl) h)
end Go.Proofs.YthdcghnjndhecaaGreat.Ev
namespace Go.Proofs.YthdcghnjndhecaaGreat.Ev
set_option maxRecDepth 100000
set_option maxHeartbeats 4000000
set_option linter.unusedVariables false
variable {σ:Sig} {K:AV→Hp→Prop} {H:Hp}
noncomputable def match_is.code:Code:=bodyOf Tryz.f136
theorem match_is.run {a0 a1:AV} (h:bnd (eqPtrR .neq a0 (.lit (.pointer none))) fun x1=>ifB x1 (bnd (binR .geq a1 (I 0)) fun x2=>ifB x2 (callK Tryz.prog σ n_dom_Tree_Len [a0] H fun x3 H4=>bnd (binR .lss a1 x3) fun x5=>K x5 H4) (K (Bo false) H)) (K (Bo false) H)):∃ r H1,Good Tryz.prog σ n_match_is [a0,a1] H r H1∧K r H1 :=
 gwp 0 (fn:=Tryz.f136) (f:=n_match_is) (c:=match_is.code) (by kernel_rfl) (by kernel_rfl) (Eq.mpr (by kernel_rfl) h)
noncomputable def match_begin.code:Code:=bodyOf Tryz.f137
theorem match_begin.run {a0:AV} (h:bnd (bldR [.lit (.pointer none),.lit (.slice none 0 0),.lit (.map none)] [(0,1,a0),(2,1,(.mp H.n))]) fun l1=>boxK (.agg l1) (H.new (.map [])) fun x2 H3=>K x2 H3):∃ r H1,Good Tryz.prog σ n_match_begin [a0] H r H1∧K r H1 :=
 gwp 0 (fn:=Tryz.f137) (f:=n_match_begin) (c:=match_begin.code) (by kernel_rfl) (by kernel_rfl) (Eq.mpr (by kernel_rfl) h)
noncomputable def match_may.code:Code:=bodyOf Tryz.f138
noncomputable def match_may.Q0 (σ:Sig) (K:AV→Hp→Prop):Exit→List AV→Hp→Prop:=(nx (fQ Tryz.f138 σ K) fun T G=>wp (CZ σ) 7343618 (sR (sR match_may.code)) T G (fQ Tryz.f138 σ K))
noncomputable def match_may.L0 (σ:Sig) (K:AV→Hp→Prop) (y1 y9 y10 y11 y20 y21 y22:AV) (H:Hp):Prop:=∀ j:Nat→AV,LoopP (CZ σ) (lB (bB (sR (sL (sR match_may.code))))) ([j 0,y1,j 2,j 3,j 4,j 5,j 6,j 7,j 8,y9,y10,y11,j 12,j 13,j 14,j 15,j 16,j 17,j 18,j 19,y20,y21,y22]++jr j 23 10) H (fun e T G=>(match_may.Q0 σ K) (unblock 0 e) T G)
noncomputable def match_may.L1 (σ:Sig) (K:AV→Hp→Prop) (y1 y9 y10 y11 y20 y21 y22:AV) (H:Hp):Prop:=∀ j:Nat→AV,LoopP (CZ σ) (lB (bB (sR (sR (sR (bB (sL (sR (sR (lB (bB (sR (sL (sR match_may.code)))))))))))))) ([j 0,y1,j 2,j 3,j 4,j 5,j 6,j 7,j 8,y9,y10,y11,j 12,j 13,j 14,j 15,j 16,j 17,j 18,j 19,y20,y21,y22]++jr j 23 10) H (fun e T G=>(fun e T G=>(nx (nx (fun e T G=>(match_may.Q0 σ K) (unblock 0 e) T G) fun T G=>∀ j,LoopP (CZ σ) (lB (bB (sR (sL (sR match_may.code))))) (maskA 7343618 j 0 T) G (fun e T G=>(match_may.Q0 σ K) (unblock 0 e) T G)) fun T G=>wp (CZ σ) 7343618 (sR (sR (sR (lB (bB (sR (sL (sR match_may.code)))))))) T G (nx (fun e T G=>(match_may.Q0 σ K) (unblock 0 e) T G) fun T G=>∀ j,LoopP (CZ σ) (lB (bB (sR (sL (sR match_may.code))))) (maskA 7343618 j 0 T) G (fun e T G=>(match_may.Q0 σ K) (unblock 0 e) T G))) (unblock 1 e) T G) (unblock 2 e) T G)
theorem match_may.L0_step {y1 y9 y10 y11 y20 y21 y22:AV} (h:bnd (binR .lss y11 y10) fun x1=>ifB x1 (bnd (ixaSl 1 y9 y11) fun x2=>bnd (ldA true 1 H x2) fun x3=>allocK [.lit (.slice none 0 0)] H fun x4 H5=>bnd (stA 1 H5 x4 x3) fun H6=>bnd (shiftA x4 0) fun x7=>bnd (ldA false 1 H6 x7) fun x8=>bnd (lenSl x8) fun x9=>bnd (binR .gtr x9 (I 50)) fun x10=>ifB x10 (K (Bo false) H6) (bnd (shiftA x4 0) fun x11=>bnd (ldA false 1 H6 x11) fun x12=>bnd (lenSl x12) fun x13=>match_may.L1 σ K y1 y9 y10 y11 x12 x13 (I 0) H6)) (K (Bo true) H)):match_may.L0 σ K y1 y9 y10 y11 y20 y21 y22 H :=
 fun j=>lrd (g:=7343618) (Eq.mpr (by kernel_rfl) h)
theorem match_may.L1_step {y1 y9 y10 y11 y20 y21 y22:AV} (h:bnd (binR .lss y22 y21) fun x1=>ifB x1 (bnd (ixaSl 6 y20 y22) fun x2=>bnd (ldA true 6 H x2) fun x3=>allocK [I 0,.lit (.string ⟨#[]⟩),.lit (.slice none 0 0),.lit (.slice none 0 0),.lit (.slice none 0 0),.lit (.slice none 0 0)] H fun x4 H5=>bnd (stA 6 H5 x4 x3) fun H6=>bnd (shiftA x4 1) fun x7=>bnd (ldA true 5 H6 x7) fun x8=>callK Tryz.prog σ n_match_mayCompound [x8,y1] H6 fun x9 H10=>bnd (unR .not x9) fun x11=>ifB x11 (K (Bo false) H10) (bnd (binR .add y22 (I 1)) fun x12=>match_may.L1 σ K y1 y9 y10 y11 y20 y21 x12 H10)) (bnd (binR .add y11 (I 1)) fun x13=>match_may.L0 σ K y1 y9 y10 x13 y20 y21 y22 H)):match_may.L1 σ K y1 y9 y10 y11 y20 y21 y22 H :=
 fun j=>lrd (g:=7343618) (Eq.mpr (by kernel_rfl) h)
theorem match_may.run {a0 a1:AV} (h:bnd (lenSl a0) fun x1=>match_may.L0 σ K a1 a0 x1 (I 0) (.lit undef) (.lit undef) (.lit undef) H):∃ r H1,Good Tryz.prog σ n_match_may [a0,a1] H r H1∧K r H1 :=
 gwp 7343618 (fn:=Tryz.f138) (f:=n_match_may) (c:=match_may.code) (by kernel_rfl) (by kernel_rfl) (Eq.mpr (by kernel_rfl) h)
noncomputable def match_asked_any.code:Code:=bodyOf Tryz.f139
noncomputable def match_asked_any.L0 (σ:Sig) (K:AV→Hp→Prop) (y0 y1 y10 y11 y12:AV) (H:Hp):Prop:=∀ j:Nat→AV,LoopP (CZ σ) (lB (bB (sR (sL (sR match_asked_any.code))))) ([y0,y1,j 2,j 3,j 4,j 5,j 6,j 7,j 8,j 9,y10,y11,y12]++jr j 13 22) H (fun e T G=>(nx (fQ Tryz.f139 σ K) fun T G=>wp (CZ σ) 7171 (sR (sR match_asked_any.code)) T G (fQ Tryz.f139 σ K)) (unblock 0 e) T G)
theorem match_asked_any.L0_step {y0 y1 y10 y11 y12:AV} (h:bnd (binR .lss y12 y11) fun x1=>ifB x1 (bnd (ixaSl 1 y10 y12) fun x2=>bnd (ldA false 1 H x2) fun x3=>bnd (nilR y0) fun x4=>bnd (shiftA x4 1) fun x5=>bnd (ldA false 1 H x5) fun x6=>bnd (ixaSl 1 x6 x3) fun x7=>bnd (ldA false 1 H x7) fun x8=>bnd (lenSl x8) fun x9=>bnd (binR .gtr x9 (I 0)) fun x10=>ifB x10 (bnd (binR .sub x9 (I 1)) fun x11=>callK Tryz.prog σ n_match_asked_is [y0,x3,x11,y1] H fun x12 H13=>ifB x12 (K (Bo true) H13) (bnd (binR .add y12 (I 1)) fun x14=>match_asked_any.L0 σ K y0 y1 y10 y11 x14 H13)) (bnd (binR .add y12 (I 1)) fun x15=>match_asked_any.L0 σ K y0 y1 y10 y11 x15 H)) (K (Bo false) H)):match_asked_any.L0 σ K y0 y1 y10 y11 y12 H :=
 fun j=>lrd (g:=7171) (Eq.mpr (by kernel_rfl) h)
theorem match_asked_any.run {a0 a1 a2:AV} (h:bnd (lenSl a2) fun x1=>match_asked_any.L0 σ K a0 a1 a2 x1 (I 0) H):∃ r H1,Good Tryz.prog σ n_match_asked_any [a0,a1,a2] H r H1∧K r H1 :=
 gwp 7171 (fn:=Tryz.f139) (f:=n_match_asked_any) (c:=match_asked_any.code) (by kernel_rfl) (by kernel_rfl) (Eq.mpr (by kernel_rfl) h)
noncomputable def match_asked_add.code:Code:=bodyOf Tryz.f140
noncomputable def match_asked_add.Q0 (σ:Sig) (K:AV→Hp→Prop):Exit→List AV→Hp→Prop:=(nx (fQ Tryz.f140 σ K) fun T G=>wp (CZ σ) 15047182625 (sR (sR (sR match_asked_add.code))) T G (fQ Tryz.f140 σ K))
noncomputable def match_asked_add.Q1 (σ:Sig) (K:AV→Hp→Prop):Exit→List AV→Hp→Prop:=(nx (fun e T G=>(match_asked_add.Q0 σ K) (unblock 0 e) T G) fun T G=>∀ j,LoopP (CZ σ) (lB (bB (sR (sL (sR (sR match_asked_add.code)))))) (maskA 15047182625 j 0 T) G (fun e T G=>(match_asked_add.Q0 σ K) (unblock 0 e) T G))
noncomputable def match_asked_add.Q2 (σ:Sig) (K:AV→Hp→Prop):Exit→List AV→Hp→Prop:=(nx (match_asked_add.Q1 σ K) fun T G=>wp (CZ σ) 15047182625 (sR (sR (sR (lB (bB (sR (sL (sR (sR match_asked_add.code))))))))) T G (match_asked_add.Q1 σ K))
noncomputable def match_asked_add.Q3 (σ:Sig) (K:AV→Hp→Prop):Exit→List AV→Hp→Prop:=(nx (fun e T G=>(match_asked_add.Q2 σ K) (unblock 1 e) T G) fun T G=>wp (CZ σ) 15047182625 (sR (sR (sR (bB (sL (sR (sR (lB (bB (sR (sL (sR (sR match_asked_add.code))))))))))))) T G (fun e T G=>(match_asked_add.Q2 σ K) (unblock 1 e) T G))
noncomputable def match_asked_add.Q4 (σ:Sig) (K:AV→Hp→Prop):Exit→List AV→Hp→Prop:=(nx (fun e T G=>(match_asked_add.Q3 σ K) (unblock 2 e) T G) fun T G=>∀ j,LoopP (CZ σ) (lB (bB (sR (sL (sR (sR (bB (sL (sR (sR (lB (bB (sR (sL (sR (sR match_asked_add.code)))))))))))))))) (maskA 15047182625 j 0 T) G (fun e T G=>(match_asked_add.Q3 σ K) (unblock 2 e) T G))
noncomputable def match_asked_add.L0 (σ:Sig) (K:AV→Hp→Prop) (y0 y5 y8 y11 y14 y15 y16 y21 y22 y23 y31 y32 y33:AV) (H:Hp):Prop:=∀ j:Nat→AV,LoopP (CZ σ) (lB (bB (sR (sL (sR (sR match_asked_add.code)))))) ([y0,j 1,j 2,j 3,j 4,y5,j 6,j 7,y8,j 9,j 10,y11,j 12,j 13,y14,y15,y16,j 17,j 18,j 19,j 20,y21,y22,y23,j 24,j 25,j 26,j 27,j 28,j 29,j 30,y31,y32,y33]++jr j 34 38) H (fun e T G=>(match_asked_add.Q0 σ K) (unblock 0 e) T G)
noncomputable def match_asked_add.L1 (σ:Sig) (K:AV→Hp→Prop) (y0 y5 y8 y11 y14 y15 y16 y21 y22 y23 y31 y32 y33:AV) (H:Hp):Prop:=∀ j:Nat→AV,LoopP (CZ σ) (lB (bB (sR (sL (sR (sR (bB (sL (sR (sR (lB (bB (sR (sL (sR (sR match_asked_add.code)))))))))))))))) ([y0,j 1,j 2,j 3,j 4,y5,j 6,j 7,y8,j 9,j 10,y11,j 12,j 13,y14,y15,y16,j 17,j 18,j 19,j 20,y21,y22,y23,j 24,j 25,j 26,j 27,j 28,j 29,j 30,y31,y32,y33]++jr j 34 38) H (fun e T G=>(match_asked_add.Q3 σ K) (unblock 2 e) T G)
noncomputable def match_asked_add.L2 (σ:Sig) (K:AV→Hp→Prop) (y0 y5 y8 y11 y14 y15 y16 y21 y22 y23 y31 y32 y33:AV) (H:Hp):Prop:=∀ j:Nat→AV,LoopP (CZ σ) (lB (bB (sR (sL (sR (sR (bB (sL (sR (sR (lB (bB (sR (sL (sR (sR (bB (sL (sR (sR (lB (bB (sR (sL (sR (sR match_asked_add.code)))))))))))))))))))))))))) ([y0,j 1,j 2,j 3,j 4,y5,j 6,j 7,y8,j 9,j 10,y11,j 12,j 13,y14,y15,y16,j 17,j 18,j 19,j 20,y21,y22,y23,j 24,j 25,j 26,j 27,j 28,j 29,j 30,y31,y32,y33]++jr j 34 38) H (fun e T G=>(nx (fun e T G=>(nx (match_asked_add.Q4 σ K) fun T G=>wp (CZ σ) 15047182625 (sR (sR (sR (lB (bB (sR (sL (sR (sR (bB (sL (sR (sR (lB (bB (sR (sL (sR (sR match_asked_add.code))))))))))))))))))) T G (match_asked_add.Q4 σ K)) (unblock 3 e) T G) fun T G=>wp (CZ σ) 15047182625 (sR (sR (sR (bB (sL (sR (sR (lB (bB (sR (sL (sR (sR (bB (sL (sR (sR (lB (bB (sR (sL (sR (sR match_asked_add.code))))))))))))))))))))))) T G (fun e T G=>(nx (match_asked_add.Q4 σ K) fun T G=>wp (CZ σ) 15047182625 (sR (sR (sR (lB (bB (sR (sL (sR (sR (bB (sL (sR (sR (lB (bB (sR (sL (sR (sR match_asked_add.code))))))))))))))))))) T G (match_asked_add.Q4 σ K)) (unblock 3 e) T G)) (unblock 4 e) T G)
theorem match_asked_add.L0_step {y0 y5 y8 y11 y14 y15 y16 y21 y22 y23 y31 y32 y33:AV} (h:bnd (binR .lss y16 y15) fun x1=>ifB x1 (bnd (ixaSl 1 y14 y16) fun x2=>bnd (ldA true 1 H x2) fun x3=>allocK [.lit (.slice none 0 0)] H fun x4 H5=>bnd (stA 1 H5 x4 x3) fun H6=>bnd (shiftA x4 0) fun x7=>bnd (ldA false 1 H6 x7) fun x8=>bnd (lenSl x8) fun x9=>match_asked_add.L1 σ K y0 y5 (.lit (.slice none 0 0)) y11 y14 y15 y16 x8 x9 (I 0) y31 y32 y33 H6) (K y5 H)):match_asked_add.L0 σ K y0 y5 y8 y11 y14 y15 y16 y21 y22 y23 y31 y32 y33 H :=
 fun j=>lrd (g:=15047182625) (Eq.mpr (by kernel_rfl) h)
theorem match_asked_add.L1_step {y0 y5 y8 y11 y14 y15 y16 y21 y22 y23 y31 y32 y33:AV} (h:bnd (binR .lss y23 y22) fun x1=>ifB x1 (bnd (ixaSl 6 y21 y23) fun x2=>bnd (ldA true 6 H x2) fun x3=>allocK [I 0,.lit (.string ⟨#[]⟩),.lit (.slice none 0 0),.lit (.slice none 0 0),.lit (.slice none 0 0),.lit (.slice none 0 0)] H fun x4 H5=>bnd (stA 6 H5 x4 x3) fun H6=>bnd (ldA true 6 H6 x4) fun x7=>bnd (bldR [I 0,.lit (.string ⟨#[]⟩),.lit (.slice none 0 0),.lit (.slice none 0 0),.lit (.slice none 0 0),.lit (.slice none 0 0),.lit (.slice none 0 0)] [(0,6,x7)]) fun l8=>allocK [I 0,.lit (.string ⟨#[]⟩),.lit (.slice none 0 0),.lit (.slice none 0 0),.lit (.slice none 0 0),.lit (.slice none 0 0),.lit (.slice none 0 0)] H6 fun x9 H10=>bnd (stA 7 H10 x9 (.agg l8)) fun H11=>bnd (shiftA x4 1) fun x12=>bnd (shiftA x12 4) fun x13=>bnd (ldA false 1 H11 x13) fun x14=>bnd (lenSl x14) fun x15=>match_asked_add.L2 σ K y0 y5 y8 x9 y14 y15 y16 y21 y22 y23 x14 x15 (I 0) H11) (bnd (nilR y0) fun x16=>bnd (shiftA x16 1) fun x17=>bnd (ldA false 1 H x17) fun x18=>bnd (lenSl x18) fun x19=>bnd (bldSlR [.int .i64 0] 1 1 H [(0,1,x19)]) fun p20=>bnd (appR false 1 8 p20.2 y5 p20.1) fun p21=>bnd (nilR y0) fun x22=>bnd (shiftA x22 1) fun x23=>bnd (ldA false 1 p21.2 x23) fun x24=>bnd (bldSlR [.slice none 0 0] 1 1 p21.2 [(0,1,y8)]) fun p25=>bnd (appR false 1 24 p25.2 x24 p25.1) fun p26=>bnd (nilR y0) fun x27=>bnd (shiftA x27 1) fun x28=>bnd (stA 1 p26.2 x28 p26.1) fun H29=>bnd (binR .add y16 (I 1)) fun x30=>match_asked_add.L0 σ K y0 p21.1 y8 y11 y14 y15 x30 y21 y22 y23 y31 y32 y33 H29)):match_asked_add.L1 σ K y0 y5 y8 y11 y14 y15 y16 y21 y22 y23 y31 y32 y33 H :=
 fun j=>lrd (g:=15047182625) (Eq.mpr (by kernel_rfl) h)
theorem match_asked_add.L2_step {y0 y5 y8 y11 y14 y15 y16 y21 y22 y23 y31 y32 y33:AV} (h:bnd (binR .lss y33 y32) fun x1=>ifB x1 (bnd (ixaSl 4 y31 y33) fun x2=>bnd (ldA true 4 H x2) fun x3=>allocK [I 0,I 0,I 0,.lit (.slice none 0 0)] H fun x4 H5=>bnd (stA 4 H5 x4 x3) fun H6=>bnd (shiftA y11 6) fun x7=>bnd (ldA false 1 H6 x7) fun x8=>bnd (shiftA x4 3) fun x9=>bnd (ldA false 1 H6 x9) fun x10=>callK Tryz.prog σ n_match_asked_add [y0,x10] H6 fun x11 H12=>kpK (x7,some 1) H6 H12 (bnd (bldSlR [.slice none 0 0] 1 1 H12 [(0,1,x11)]) fun p13=>kpK (x7,some 1) H12 p13.2 (bnd (appR false 1 24 p13.2 x8 p13.1) fun p14=>bnd (shiftA y11 6) fun x15=>bnd (stA 1 p14.2 x15 p14.1) fun H16=>bnd (binR .add y33 (I 1)) fun x17=>match_asked_add.L2 σ K y0 y5 y8 y11 y14 y15 y16 y21 y22 y23 y31 y32 x17 H16))) (bnd (ldA true 7 H y11) fun x18=>bnd (bldSlR [.int .i64 0,.string ⟨#[]⟩,.slice none 0 0,.slice none 0 0,.slice none 0 0,.slice none 0 0,.slice none 0 0] 7 1 H [(0,7,x18)]) fun p19=>bnd (appR false 7 144 p19.2 y8 p19.1) fun p20=>bnd (binR .add y23 (I 1)) fun x21=>match_asked_add.L1 σ K y0 y5 p20.1 y11 y14 y15 y16 y21 y22 x21 y31 y32 y33 p20.2)):match_asked_add.L2 σ K y0 y5 y8 y11 y14 y15 y16 y21 y22 y23 y31 y32 y33 H :=
 fun j=>lrd (g:=15047182625) (Eq.mpr (by kernel_rfl) h)
theorem match_asked_add.run {a0 a1:AV} (h:bnd (lenSl a1) fun x1=>match_asked_add.L0 σ K a0 (.lit (.slice none 0 0)) (.lit undef) (.lit undef) a1 x1 (I 0) (.lit undef) (.lit undef) (.lit undef) (.lit undef) (.lit undef) (.lit undef) H):∃ r H1,Good Tryz.prog σ n_match_asked_add [a0,a1] H r H1∧K r H1 :=
 gwp 15047182625 (fn:=Tryz.f140) (f:=n_match_asked_add) (c:=match_asked_add.code) (by kernel_rfl) (by kernel_rfl) (Eq.mpr (by kernel_rfl) h)
noncomputable def weigh_sums_compound.code:Code:=bodyOf Tryz.f141
noncomputable def weigh_sums_compound.Q0 (σ:Sig) (K:AV→Hp→Prop):Exit→List AV→Hp→Prop:=(nx (fun e T G=>(fQ Tryz.f141 σ K) (unblock 0 e) T G) fun T G=>∀ j,LoopP (CZ σ) (lB (bB (sR (sR (sR (sR (sR weigh_sums_compound.code))))))) (maskA 8264141837603088367893 j 0 T) G (fun e T G=>(fQ Tryz.f141 σ K) (unblock 0 e) T G))
noncomputable def weigh_sums_compound.Q1 (σ:Sig) (K:AV→Hp→Prop):Exit→List AV→Hp→Prop:=(fun e T G=>(nx (weigh_sums_compound.Q0 σ K) fun T G=>∀ j,wp (CZ σ) 8264141837603088367893 (sR (sR (sR (lB (bB (sR (sR (sR (sR (sR weigh_sums_compound.code)))))))))) (maskA 8264141837603088367893 j 0 T) G (weigh_sums_compound.Q0 σ K)) (unblock 1 e) T G)
noncomputable def weigh_sums_compound.J0 (σ:Sig) (K:AV→Hp→Prop) (y0 y2 y4 y8 y46 y47 y48 y70 y71 y72:AV) (H:Hp):Prop:=∀ j:Nat→AV,wp (CZ σ) 8264141837603088367893 (sR (sR (sR (sR weigh_sums_compound.code)))) ([y0,j 1,y2,j 3,y4,j 5,j 6,j 7,y8,j 9,j 10,j 11,j 12,j 13,j 14,j 15,j 16,j 17,j 18,j 19,j 20,j 21,j 22,j 23,j 24,j 25,j 26,j 27,j 28,j 29,j 30,j 31,j 32,j 33,j 34,j 35,j 36,j 37,j 38,j 39,j 40,j 41,j 42,j 43,j 44,j 45,y46,y47,y48,j 49,j 50,j 51,j 52,j 53,j 54,j 55,j 56,j 57,j 58,j 59,j 60,j 61,j 62,j 63,j 64,j 65,j 66,j 67,j 68,j 69,y70,y71,y72]++jr j 73 14) H (fQ Tryz.f141 σ K)
noncomputable def weigh_sums_compound.L1 (σ:Sig) (K:AV→Hp→Prop) (y0 y2 y4 y8 y46 y47 y48 y70 y71 y72:AV) (H:Hp):Prop:=∀ j:Nat→AV,LoopP (CZ σ) (lB (bB (sR (sR (sR (sR (sR weigh_sums_compound.code))))))) ([y0,j 1,y2,j 3,y4,j 5,j 6,j 7,y8,j 9,j 10,j 11,j 12,j 13,j 14,j 15,j 16,j 17,j 18,j 19,j 20,j 21,j 22,j 23,j 24,j 25,j 26,j 27,j 28,j 29,j 30,j 31,j 32,j 33,j 34,j 35,j 36,j 37,j 38,j 39,j 40,j 41,j 42,j 43,j 44,j 45,y46,y47,y48,j 49,j 50,j 51,j 52,j 53,j 54,j 55,j 56,j 57,j 58,j 59,j 60,j 61,j 62,j 63,j 64,j 65,j 66,j 67,j 68,j 69,y70,y71,y72]++jr j 73 14) H (fun e T G=>(fQ Tryz.f141 σ K) (unblock 0 e) T G)
noncomputable def weigh_sums_compound.J2 (σ:Sig) (K:AV→Hp→Prop) (y0 y2 y4 y8 y46 y47 y48 y70 y71 y72:AV) (H:Hp):Prop:=∀ j:Nat→AV,wp (CZ σ) 8264141837603088367893 (sR (sR (sR (lB (bB (sR (sR (sR (sR (sR weigh_sums_compound.code)))))))))) ([y0,j 1,y2,j 3,y4,j 5,j 6,j 7,y8,j 9,j 10,j 11,j 12,j 13,j 14,j 15,j 16,j 17,j 18,j 19,j 20,j 21,j 22,j 23,j 24,j 25,j 26,j 27,j 28,j 29,j 30,j 31,j 32,j 33,j 34,j 35,j 36,j 37,j 38,j 39,j 40,j 41,j 42,j 43,j 44,j 45,y46,y47,y48,j 49,j 50,j 51,j 52,j 53,j 54,j 55,j 56,j 57,j 58,j 59,j 60,j 61,j 62,j 63,j 64,j 65,j 66,j 67,j 68,j 69,y70,y71,y72]++jr j 73 14) H (weigh_sums_compound.Q0 σ K)
noncomputable def weigh_sums_compound.L3 (σ:Sig) (K:AV→Hp→Prop) (y0 y2 y4 y8 y46 y47 y48 y70 y71 y72:AV) (H:Hp):Prop:=∀ j:Nat→AV,LoopP (CZ σ) (lB (bB (sR (sL (sR (sR (sR (sR (bB (sL (sR (sR (lB (bB (sR (sR (sR (sR (sR weigh_sums_compound.code))))))))))))))))))) ([y0,j 1,y2,j 3,y4,j 5,j 6,j 7,y8,j 9,j 10,j 11,j 12,j 13,j 14,j 15,j 16,j 17,j 18,j 19,j 20,j 21,j 22,j 23,j 24,j 25,j 26,j 27,j 28,j 29,j 30,j 31,j 32,j 33,j 34,j 35,j 36,j 37,j 38,j 39,j 40,j 41,j 42,j 43,j 44,j 45,y46,y47,y48,j 49,j 50,j 51,j 52,j 53,j 54,j 55,j 56,j 57,j 58,j 59,j 60,j 61,j 62,j 63,j 64,j 65,j 66,j 67,j 68,j 69,y70,y71,y72]++jr j 73 14) H (fun e T G=>(nx (weigh_sums_compound.Q1 σ K) fun T G=>wp (CZ σ) 8264141837603088367893 (sR (sR (sR (sR (sR (bB (sL (sR (sR (lB (bB (sR (sR (sR (sR (sR weigh_sums_compound.code)))))))))))))))) T G (weigh_sums_compound.Q1 σ K)) (unblock 2 e) T G)
theorem weigh_sums_compound.J0_step {y0 y2 y4 y8 y46 y47 y48 y70 y71 y72:AV} (h:bnd (shiftA y4 4) fun x1=>bnd (ldA false 1 H x1) fun x2=>bnd (lenSl x2) fun x3=>weigh_sums_compound.L1 σ K y0 y2 y4 y8 x2 x3 (I 0) y70 y71 y72 H):weigh_sums_compound.J0 σ K y0 y2 y4 y8 y46 y47 y48 y70 y71 y72 H :=
 fun j=>Eq.mpr (by kernel_rfl) h
theorem weigh_sums_compound.L1_step {y0 y2 y4 y8 y46 y47 y48 y70 y71 y72:AV} (h:bnd (binR .lss y48 y47) fun x1=>ifB x1 (bnd (ixaSl 4 y46 y48) fun x2=>bnd (ldA true 4 H x2) fun x3=>allocK [I 0,I 0,I 0,.lit (.slice none 0 0)] H fun x4 H5=>bnd (stA 4 H5 x4 x3) fun H6=>bnd (shiftA x4 0) fun x7=>bnd (ldA false 1 H6 x7) fun x8=>bnd (binR .neq x8 (I 7)) fun x9=>ifB x9 (bnd (shiftA x4 0) fun x10=>bnd (ldA false 1 H6 x10) fun x11=>bnd (binR .neq x11 (I 8)) fun x12=>ifB x12 (bnd (nilR y0) fun x13=>bnd (ixaArr 3 1 x13 (I 1)) fun x14=>bnd (ldA false 1 H6 x14) fun x15=>bnd (binR .add x15 (I 1)) fun x16=>bnd (nilR y0) fun x17=>bnd (ixaArr 3 1 x17 (I 1)) fun x18=>bnd (stA 1 H6 x18 x16) fun H19=>weigh_sums_compound.J2 σ K y0 y2 y4 y8 y46 y47 y48 y70 y71 y72 H19) (bnd (binR .eql y2 (I 0)) fun x20=>ifB x20 (weigh_sums_compound.J2 σ K y0 y2 y4 y8 y46 y47 y48 y70 y71 y72 H6) (bnd (shiftA x4 3) fun x21=>bnd (ldA false 1 H6 x21) fun x22=>bnd (lenSl x22) fun x23=>weigh_sums_compound.L3 σ K y0 y2 y4 (I 0) y46 y47 y48 x22 x23 (I 0) H6))) (bnd (binR .eql y2 (I 0)) fun x24=>ifB x24 (weigh_sums_compound.J2 σ K y0 y2 y4 y8 y46 y47 y48 y70 y71 y72 H6) (bnd (shiftA x4 3) fun x25=>bnd (ldA false 1 H6 x25) fun x26=>bnd (lenSl x26) fun x27=>weigh_sums_compound.L3 σ K y0 y2 y4 (I 0) y46 y47 y48 x26 x27 (I 0) H6))) (K (.tup []) H)):weigh_sums_compound.L1 σ K y0 y2 y4 y8 y46 y47 y48 y70 y71 y72 H :=
 fun j=>lrd (g:=8264141837603088367893) (Eq.mpr (by kernel_rfl) h)
theorem weigh_sums_compound.J2_step {y0 y2 y4 y8 y46 y47 y48 y70 y71 y72:AV} (h:bnd (binR .add y48 (I 1)) fun x1=>weigh_sums_compound.L1 σ K y0 y2 y4 y8 y46 y47 x1 y70 y71 y72 H):weigh_sums_compound.J2 σ K y0 y2 y4 y8 y46 y47 y48 y70 y71 y72 H :=
 fun j=>Eq.mpr (by kernel_rfl) h
theorem weigh_sums_compound.L3_step {y0 y2 y4 y8 y46 y47 y48 y70 y71 y72:AV} (h:bnd (binR .lss y72 y71) fun x1=>ifB x1 (bnd (ixaSl 1 y70 y72) fun x2=>bnd (ldA true 1 H x2) fun x3=>allocK [.lit (.slice none 0 0)] H fun x4 H5=>bnd (stA 1 H5 x4 x3) fun H6=>bnd (ldA true 1 H6 x4) fun x7=>bnd (binR .sub y2 (I 1)) fun x8=>callK Tryz.prog σ n_weigh_of [x7,x8] H6 fun x9 H10=>bnd (maxA [y8,x9]) fun x11=>bnd (binR .add y72 (I 1)) fun x12=>weigh_sums_compound.L3 σ K y0 y2 y4 x11 y46 y47 y48 y70 y71 x12 H10) (callK Tryz.prog σ n_weigh_sums_add [y0,y8] H fun x13 H14=>weigh_sums_compound.J2 σ K y0 y2 y4 y8 y46 y47 y48 y70 y71 y72 H14)):weigh_sums_compound.L3 σ K y0 y2 y4 y8 y46 y47 y48 y70 y71 y72 H :=
 fun j=>lrd (g:=8264141837603088367893) (Eq.mpr (by kernel_rfl) h)
theorem weigh_sums_compound.run {a0 a1 a2:AV} (h:boxK a1 H fun x1 H2=>bnd (nilR a0) fun x3=>bnd (ixaArr 3 1 x3 (I 0)) fun x4=>bnd (ldA false 1 H2 x4) fun x5=>bnd (shiftA x1 1) fun x6=>bnd (ldA false 1 H2 x6) fun x7=>bnd (lenSl x7) fun x8=>bnd (binR .add x5 x8) fun x9=>bnd (nilR a0) fun x10=>bnd (ixaArr 3 1 x10 (I 0)) fun x11=>bnd (stA 1 H2 x11 x9) fun H12=>bnd (nilR a0) fun x13=>bnd (ixaArr 3 1 x13 (I 1)) fun x14=>bnd (ldA false 1 H12 x14) fun x15=>bnd (shiftA x1 2) fun x16=>bnd (ldA false 1 H12 x16) fun x17=>bnd (lenSl x17) fun x18=>bnd (shiftA x1 3) fun x19=>bnd (ldA false 1 H12 x19) fun x20=>bnd (lenSl x20) fun x21=>bnd (binR .add x18 x21) fun x22=>bnd (binR .add x15 x22) fun x23=>bnd (nilR a0) fun x24=>bnd (ixaArr 3 1 x24 (I 1)) fun x25=>bnd (stA 1 H12 x25 x23) fun H26=>bnd (shiftA x1 0) fun x27=>bnd (ldA false 1 H26 x27) fun x28=>bnd (binR .neq x28 (.lit (.string ⟨#[]⟩))) fun x29=>ifB x29 (bnd (nilR a0) fun x30=>bnd (ixaArr 3 1 x30 (I 2)) fun x31=>bnd (ldA false 1 H26 x31) fun x32=>bnd (binR .add x32 (I 1)) fun x33=>bnd (nilR a0) fun x34=>bnd (ixaArr 3 1 x34 (I 2)) fun x35=>bnd (stA 1 H26 x35 x33) fun H36=>weigh_sums_compound.J0 σ K a0 a2 x1 (.lit undef) (.lit undef) (.lit undef) (.lit undef) (.lit undef) (.lit undef) (.lit undef) H36) (weigh_sums_compound.J0 σ K a0 a2 x1 (.lit undef) (.lit undef) (.lit undef) (.lit undef) (.lit undef) (.lit undef) (.lit undef) H26)):∃ r H1,Good Tryz.prog σ n_weigh_sums_compound [a0,a1,a2] H r H1∧K r H1 :=
 gwp 8264141837603088367893 (fn:=Tryz.f141) (f:=n_weigh_sums_compound) (c:=weigh_sums_compound.code) (by kernel_rfl) (by kernel_rfl) (Eq.mpr (by kernel_rfl) h)
noncomputable def weigh_sums_weight.code:Code:=bodyOf Tryz.f142
noncomputable def weigh_sums_weight.L0 (σ:Sig) (K:AV→Hp→Prop) (y3 y6 y7:AV) (H:Hp):Prop:=∀ j:Nat→AV,LoopP (CZ σ) (lB (bB (sR (sL (sR (sR weigh_sums_weight.code)))))) ([j 0,j 1,j 2,y3,j 4,j 5,y6,y7]++jr j 8 9) H (fun e T G=>(nx (fQ Tryz.f142 σ K) fun T G=>wp (CZ σ) 200 (sR (sR (sR weigh_sums_weight.code))) T G (fQ Tryz.f142 σ K)) (unblock 0 e) T G)
theorem weigh_sums_weight.L0_step {y3 y6 y7:AV} (h:bnd (binR .lss y7 (I 3)) fun x1=>ifB x1 (bnd (ixArr false 3 1 y6 y7) fun x2=>bnd (binR .mul y3 (I 256)) fun x3=>callK Tryz.prog σ n_weigh_capped_int [x2,(I 255)] H fun x4 H5=>bnd (binR .add x3 x4) fun x6=>bnd (binR .add y7 (I 1)) fun x7=>weigh_sums_weight.L0 σ K x6 y6 x7 H5) (K y3 H)):weigh_sums_weight.L0 σ K y3 y6 y7 H :=
 fun j=>lrd (g:=200) (Eq.mpr (by kernel_rfl) h)
theorem weigh_sums_weight.run {a0:AV} (h:boxK a0 H fun x1 H2=>bnd (ldA true 3 H2 x1) fun x3=>weigh_sums_weight.L0 σ K (I 0) x3 (I 0) H2):∃ r H1,Good Tryz.prog σ n_weigh_sums_weight [a0] H r H1∧K r H1 :=
 gwp 200 (fn:=Tryz.f142) (f:=n_weigh_sums_weight) (c:=weigh_sums_weight.code) (by kernel_rfl) (by kernel_rfl) (Eq.mpr (by kernel_rfl) h)
noncomputable def dom_Tree_Len.code:Code:=bodyOf Tryz.f156
theorem dom_Tree_Len.run {a0:AV} (h:bnd (nilR a0) fun x1=>bnd (shiftA x1 0) fun x2=>bnd (ldA false 1 H x2) fun x3=>bnd (lenSl x3) fun x4=>K x4 H):∃ r H1,Good Tryz.prog σ n_dom_Tree_Len [a0] H r H1∧K r H1 :=
 gwp 0 (fn:=Tryz.f156) (f:=n_dom_Tree_Len) (c:=dom_Tree_Len.code) (by kernel_rfl) (by kernel_rfl) (Eq.mpr (by kernel_rfl) h)
noncomputable def match_mayCompound.code:Code:=bodyOf Tryz.f157
noncomputable def match_mayCompound.Q0 (σ:Sig) (K:AV→Hp→Prop):Exit→List AV→Hp→Prop:=(nx (fQ Tryz.f157 σ K) fun T G=>wp (CZ σ) 1794 (sR (sR match_mayCompound.code)) T G (fQ Tryz.f157 σ K))
noncomputable def match_mayCompound.L0 (σ:Sig) (K:AV→Hp→Prop) (y1 y8 y9 y10:AV) (H:Hp):Prop:=∀ j:Nat→AV,LoopP (CZ σ) (lB (bB (sR (sL (sR match_mayCompound.code))))) ([j 0,y1,j 2,j 3,j 4,j 5,j 6,j 7,y8,y9,y10]++jr j 11 22) H (fun e T G=>(match_mayCompound.Q0 σ K) (unblock 0 e) T G)
noncomputable def match_mayCompound.J1 (σ:Sig) (K:AV→Hp→Prop) (y1 y8 y9 y10:AV) (H:Hp):Prop:=∀ j:Nat→AV,wp (CZ σ) 1794 (sR (sR (sR (lB (bB (sR (sL (sR match_mayCompound.code)))))))) ([j 0,y1,j 2,j 3,j 4,j 5,j 6,j 7,y8,y9,y10]++jr j 11 22) H (nx (fun e T G=>(match_mayCompound.Q0 σ K) (unblock 0 e) T G) fun T G=>∀ j,LoopP (CZ σ) (lB (bB (sR (sL (sR match_mayCompound.code))))) (maskA 1794 j 0 T) G (fun e T G=>(match_mayCompound.Q0 σ K) (unblock 0 e) T G))
theorem match_mayCompound.L0_step {y1 y8 y9 y10:AV} (h:bnd (binR .lss y10 y9) fun x1=>ifB x1 (bnd (ixaSl 4 y8 y10) fun x2=>bnd (ldA true 4 H x2) fun x3=>allocK [I 0,I 0,I 0,.lit (.slice none 0 0)] H fun x4 H5=>bnd (stA 4 H5 x4 x3) fun H6=>bnd (shiftA x4 0) fun x7=>bnd (ldA false 1 H6 x7) fun x8=>bnd (binR .neq x8 (I 7)) fun x9=>ifB x9 (bnd (shiftA x4 0) fun x10=>bnd (ldA false 1 H6 x10) fun x11=>bnd (binR .neq x11 (I 8)) fun x12=>ifB x12 (match_mayCompound.J1 σ K y1 y8 y9 y10 H6) (bnd (binR .eql y1 (I 0)) fun x13=>ifB x13 (K (Bo false) H6) (bnd (shiftA x4 3) fun x14=>bnd (ldA false 1 H6 x14) fun x15=>bnd (binR .sub y1 (I 1)) fun x16=>callK Tryz.prog σ n_match_may [x15,x16] H6 fun x17 H18=>bnd (unR .not x17) fun x19=>ifB x19 (K (Bo false) H18) (match_mayCompound.J1 σ K y1 y8 y9 y10 H18)))) (bnd (binR .eql y1 (I 0)) fun x20=>ifB x20 (K (Bo false) H6) (bnd (shiftA x4 3) fun x21=>bnd (ldA false 1 H6 x21) fun x22=>bnd (binR .sub y1 (I 1)) fun x23=>callK Tryz.prog σ n_match_may [x22,x23] H6 fun x24 H25=>bnd (unR .not x24) fun x26=>ifB x26 (K (Bo false) H25) (match_mayCompound.J1 σ K y1 y8 y9 y10 H25)))) (K (Bo true) H)):match_mayCompound.L0 σ K y1 y8 y9 y10 H :=
 fun j=>lrd (g:=1794) (Eq.mpr (by kernel_rfl) h)
theorem match_mayCompound.J1_step {y1 y8 y9 y10:AV} (h:bnd (binR .add y10 (I 1)) fun x1=>match_mayCompound.L0 σ K y1 y8 y9 x1 H):match_mayCompound.J1 σ K y1 y8 y9 y10 H :=
 fun j=>Eq.mpr (by kernel_rfl) h
theorem match_mayCompound.run {a0 a1:AV} (h:boxK a0 H fun x1 H2=>bnd (shiftA x1 4) fun x3=>bnd (ldA false 1 H2 x3) fun x4=>bnd (lenSl x4) fun x5=>match_mayCompound.L0 σ K a1 x4 x5 (I 0) H2):∃ r H1,Good Tryz.prog σ n_match_mayCompound [a0,a1] H r H1∧K r H1 :=
 gwp 1794 (fn:=Tryz.f157) (f:=n_match_mayCompound) (c:=match_mayCompound.code) (by kernel_rfl) (by kernel_rfl) (Eq.mpr (by kernel_rfl) h)
noncomputable def match_asked_is.code:Code:=bodyOf Tryz.f158
theorem match_asked_is.run {a0 a1 a2 a3:AV} (h:boxK a0 H fun x1 H2=>boxK a1 H2 fun x3 H4=>boxK a2 H4 fun x5 H6=>boxK a3 H6 fun x7 H8=>bnd (ldA false 1 H8 x1) fun x9=>bnd (ldA false 1 H8 x3) fun x10=>bnd (ldA false 1 H8 x5) fun x11=>bnd (ldA false 1 H8 x7) fun x12=>bnd (bldR [I 0,I 0,I 0,Bo false] [(0,1,x10),(1,1,x11),(2,1,x12),(3,1,(Bo false))]) fun l13=>callK Tryz.prog σ n_match_asked_once [x9,(.agg l13),(.fn n_match_asked_is_1 [x1,x7,x3,x5])] H8 fun x14 H15=>K x14 H15):∃ r H1,Good Tryz.prog σ n_match_asked_is [a0,a1,a2,a3] H r H1∧K r H1 :=
 gwp 0 (fn:=Tryz.f158) (f:=n_match_asked_is) (c:=match_asked_is.code) (by kernel_rfl) (by kernel_rfl) (Eq.mpr (by kernel_rfl) h)
noncomputable def weigh_sums_add.code:Code:=bodyOf Tryz.f159
noncomputable def weigh_sums_add.L0 (σ:Sig) (K:AV→Hp→Prop) (y0 y1 y4:AV) (H:Hp):Prop:=∀ j:Nat→AV,LoopP (CZ σ) (lB (bB (sR weigh_sums_add.code))) ([y0,y1,j 2,j 3,y4]++jr j 5 16) H (fun e T G=>(fQ Tryz.f159 σ K) (unblock 0 e) T G)
theorem weigh_sums_add.L0_step {y0 y1 y4:AV} (h:bnd (binR .geq y4 (I 0)) fun x1=>ifB x1 (bnd (nilR y0) fun x2=>bnd (ixaArr 3 1 x2 y4) fun x3=>bnd (ldA false 1 H x3) fun x4=>bnd (binR .rem y1 (I 256)) fun x5=>bnd (binR .add x4 x5) fun x6=>bnd (nilR y0) fun x7=>bnd (ixaArr 3 1 x7 y4) fun x8=>bnd (stA 1 H x8 x6) fun H9=>bnd (binR .quo y1 (I 256)) fun x10=>bnd (binR .sub y4 (I 1)) fun x11=>weigh_sums_add.L0 σ K y0 x10 x11 H9) (K (.tup []) H)):weigh_sums_add.L0 σ K y0 y1 y4 H :=
 fun j=>lrd (g:=19) (Eq.mpr (by kernel_rfl) h)
theorem weigh_sums_add.run {a0 a1:AV} (h:weigh_sums_add.L0 σ K a0 a1 (I 2) H):∃ r H1,Good Tryz.prog σ n_weigh_sums_add [a0,a1] H r H1∧K r H1 :=
 gwp 19 (fn:=Tryz.f159) (f:=n_weigh_sums_add) (c:=weigh_sums_add.code) (by kernel_rfl) (by kernel_rfl) (Eq.mpr (by kernel_rfl) h)
noncomputable def weigh_capped_int.code:Code:=bodyOf Tryz.f160
theorem weigh_capped_int.run {a0 a1:AV} (h:bnd (minA [a0,a1]) fun x1=>K x1 H):∃ r H1,Good Tryz.prog σ n_weigh_capped_int [a0,a1] H r H1∧K r H1 :=
 gwp 0 (fn:=Tryz.f160) (f:=n_weigh_capped_int) (c:=weigh_capped_int.code) (by kernel_rfl) (by kernel_rfl) (Eq.mpr (by kernel_rfl) h)
noncomputable def match_asked_once.code:Code:=bodyOf Tryz.f173
theorem match_asked_once.run {a0 a1 a2:AV} (h:boxK a1 H fun x1 H2=>bnd (nilR a0) fun x3=>bnd (shiftA x3 2) fun x4=>bnd (ldA false 1 H2 x4) fun x5=>bnd (ldA true 4 H2 x1) fun x6=>bnd (lookR (Bo false) true [.int .i64,.int .i64,.int .i64,.bool] true H2 x5 x6) fun x7=>bnd (exR x7 0) fun x8=>bnd (exR x7 1) fun x9=>ifB x9 (K x8 H2) (callV Tryz.prog σ a2 [] H2 fun x10 H11=>bnd (nilR a0) fun x12=>bnd (shiftA x12 2) fun x13=>bnd (ldA false 1 H11 x13) fun x14=>bnd (ldA true 4 H11 x1) fun x15=>bnd (putR true [.int .i64,.int .i64,.int .i64,.bool] H11 x14 x15 x10) fun H16=>K x10 H16)):∃ r H1,Good Tryz.prog σ n_match_asked_once [a0,a1,a2] H r H1∧K r H1 :=
 gwp 0 (fn:=Tryz.f173) (f:=n_match_asked_once) (c:=match_asked_once.code) (by kernel_rfl) (by kernel_rfl) (Eq.mpr (by kernel_rfl) h)
noncomputable def match_asked_is_1.code:Code:=bodyOf Tryz.f174
theorem match_asked_is_1.run {a0 a1 a2 a3:AV} (h:bnd (ldA false 1 H a0) fun x1=>bnd (ldA false 1 H a1) fun x2=>bnd (ldA false 1 H a0) fun x3=>bnd (nilR x3) fun x4=>bnd (shiftA x4 1) fun x5=>bnd (ldA false 1 H x5) fun x6=>bnd (ldA false 1 H a2) fun x7=>bnd (ixaSl 1 x6 x7) fun x8=>bnd (ldA false 1 H x8) fun x9=>bnd (ldA false 1 H a3) fun x10=>bnd (ixaSl 7 x9 x10) fun x11=>bnd (ldA true 7 H x11) fun x12=>callK Tryz.prog σ n_match_asked_compound [x1,x2,x12] H fun x13 H14=>ifB x13 (bnd (ldA false 1 H14 a3) fun x15=>bnd (binR .eql x15 (I 0)) fun x16=>ifB x16 (K (Bo true) H14) (bnd (ldA false 1 H14 a0) fun x17=>bnd (ldA false 1 H14 a2) fun x18=>bnd (ldA false 1 H14 a3) fun x19=>bnd (ldA false 1 H14 a1) fun x20=>callK Tryz.prog σ n_match_asked_ahead [x17,x18,x19,x20] H14 fun x21 H22=>K x21 H22)) (K (Bo false) H14)):∃ r H1,Good Tryz.prog σ n_match_asked_is_1 [a0,a1,a2,a3] H r H1∧K r H1 :=
 gwp 0 (fn:=Tryz.f174) (f:=n_match_asked_is_1) (c:=match_asked_is_1.code) (by kernel_rfl) (by kernel_rfl) (Eq.mpr (by kernel_rfl) h)
noncomputable def match_asked_compound.code:Code:=bodyOf Tryz.f175
noncomputable def match_asked_compound.L0 (σ:Sig) (K:AV→Hp→Prop) (y0 y1 y5 y19 y20 y21:AV) (H:Hp):Prop:=∀ j:Nat→AV,LoopP (CZ σ) (lB (bB (sR (sL (sR (sR match_asked_compound.code)))))) ([y0,y1,j 2,j 3,j 4,y5,j 6,j 7,j 8,j 9,j 10,j 11,j 12,j 13,j 14,j 15,j 16,j 17,j 18,y19,y20,y21]++jr j 22 15) H (fun e T G=>(nx (fQ Tryz.f175 σ K) fun T G=>wp (CZ σ) 3670051 (sR (sR (sR match_asked_compound.code))) T G (fQ Tryz.f175 σ K)) (unblock 0 e) T G)
theorem match_asked_compound.L0_step {y0 y1 y5 y19 y20 y21:AV} (h:bnd (binR .lss y21 y20) fun x1=>ifB x1 (bnd (ixaSl 4 y19 y21) fun x2=>bnd (ldA true 4 H x2) fun x3=>allocK [I 0,I 0,I 0,.lit (.slice none 0 0)] H fun x4 H5=>bnd (stA 4 H5 x4 x3) fun H6=>bnd (ldA true 4 H6 x4) fun x7=>bnd (shiftA y5 6) fun x8=>bnd (ldA false 1 H6 x8) fun x9=>bnd (ixaSl 1 x9 y21) fun x10=>bnd (ldA false 1 H6 x10) fun x11=>callK Tryz.prog σ n_match_asked_pseudo [y0,y1,x7,x11] H6 fun x12 H13=>bnd (unR .not x12) fun x14=>ifB x14 (K (Bo false) H13) (bnd (binR .add y21 (I 1)) fun x15=>match_asked_compound.L0 σ K y0 y1 y5 y19 y20 x15 H13)) (K (Bo true) H)):match_asked_compound.L0 σ K y0 y1 y5 y19 y20 y21 H :=
 fun j=>lrd (g:=3670051) (Eq.mpr (by kernel_rfl) h)
theorem match_asked_compound.run {a0 a1 a2:AV} (h:boxK a2 H fun x1 H2=>bnd (shiftA x1 0) fun x3=>bnd (shiftA x3 1) fun x4=>bnd (ldA true 5 H2 x4) fun x5=>callK Tryz.prog σ n_match_asked_plain [a0,a1,x5] H2 fun x6 H7=>bnd (unR .not x6) fun x8=>ifB x8 (K (Bo false) H7) (bnd (shiftA x1 0) fun x9=>bnd (shiftA x9 1) fun x10=>bnd (shiftA x10 4) fun x11=>bnd (ldA false 1 H7 x11) fun x12=>bnd (lenSl x12) fun x13=>match_asked_compound.L0 σ K a0 a1 x1 x12 x13 (I 0) H7)):∃ r H1,Good Tryz.prog σ n_match_asked_compound [a0,a1,a2] H r H1∧K r H1 :=
 gwp 3670051 (fn:=Tryz.f175) (f:=n_match_asked_compound) (c:=match_asked_compound.code) (by kernel_rfl) (by kernel_rfl) (Eq.mpr (by kernel_rfl) h)
noncomputable def match_asked_ahead.code:Code:=bodyOf Tryz.f176
theorem match_asked_ahead.run {a0 a1 a2 a3:AV} (h:boxK a0 H fun x1 H2=>boxK a1 H2 fun x3 H4=>boxK a2 H4 fun x5 H6=>bnd (ldA false 1 H6 x1) fun x7=>bnd (ldA false 1 H6 x1) fun x8=>bnd (nilR x8) fun x9=>bnd (shiftA x9 1) fun x10=>bnd (ldA false 1 H6 x10) fun x11=>bnd (ldA false 1 H6 x3) fun x12=>bnd (ixaSl 1 x11 x12) fun x13=>bnd (ldA false 1 H6 x13) fun x14=>bnd (ldA false 1 H6 x5) fun x15=>bnd (ixaSl 7 x14 x15) fun x16=>bnd (shiftA x16 0) fun x17=>bnd (shiftA x17 0) fun x18=>bnd (ldA false 1 H6 x18) fun x19=>callK Tryz.prog σ n_match_asked_stands [x7,a3,x19] H6 fun x20 H21=>bnd (exR x20 0) fun x22=>bnd (exR x20 1) fun x23=>allocK [I 0] H21 fun x24 H25=>allocK [Bo false] H25 fun x26 H27=>bnd (stA 1 H27 x24 x22) fun H28=>bnd (stA 1 H28 x26 x23) fun H29=>bnd (ldA false 1 H29 x24) fun x30=>bnd (binR .geq x30 (I 0)) fun x31=>ifB x31 (bnd (ldA false 1 H29 x1) fun x32=>bnd (ldA false 1 H29 x3) fun x33=>bnd (ldA false 1 H29 x5) fun x34=>bnd (bldR [I 0,I 0,I 0,Bo false] [(0,1,x33),(1,1,x34),(2,1,a3),(3,1,(Bo true))]) fun l35=>callK Tryz.prog σ n_match_asked_once [x32,(.agg l35),(.fn n_match_asked_ahead_1 [x1,x3,x5,x24,x26])] H29 fun x36 H37=>K x36 H37) (K (Bo false) H29)):∃ r H1,Good Tryz.prog σ n_match_asked_ahead [a0,a1,a2,a3] H r H1∧K r H1 :=
 gwp 0 (fn:=Tryz.f176) (f:=n_match_asked_ahead) (c:=match_asked_ahead.code) (by kernel_rfl) (by kernel_rfl) (Eq.mpr (by kernel_rfl) h)
noncomputable def match_asked_plain.code:Code:=bodyOf Tryz.f179
noncomputable def match_asked_plain.L0 (σ:Sig) (K:AV→Hp→Prop) (y5 y7 y31 y32 y33 y47 y48 y49 y60 y61 y62:AV) (H:Hp):Prop:=∀ j:Nat→AV,LoopP (CZ σ) (lB (bB (sR (sL (sR (sR (sR match_asked_plain.code))))))) ([j 0,j 1,j 2,j 3,j 4,y5,j 6,y7,j 8,j 9,j 10,j 11,j 12,j 13,j 14,j 15,j 16,j 17,j 18,j 19,j 20,j 21,j 22,j 23,j 24,j 25,j 26,j 27,j 28,j 29,j 30,y31,y32,y33,j 34,j 35,j 36,j 37,j 38,j 39,j 40,j 41,j 42,j 43,j 44,j 45,j 46,y47,y48,y49,j 50,j 51,j 52,j 53,j 54,j 55,j 56,j 57,j 58,j 59,y60,y61,y62]++jr j 63 8) H (fun e T G=>(nx (fQ Tryz.f179 σ K) fun T G=>wp (CZ σ) 8071435709698801824 (sR (sR (sR (sR match_asked_plain.code)))) T G (fQ Tryz.f179 σ K)) (unblock 0 e) T G)
noncomputable def match_asked_plain.L1 (σ:Sig) (K:AV→Hp→Prop) (y5 y7 y31 y32 y33 y47 y48 y49 y60 y61 y62:AV) (H:Hp):Prop:=∀ j:Nat→AV,LoopP (CZ σ) (lB (bB (sR (sL (sR (sR (sR (sR match_asked_plain.code)))))))) ([j 0,j 1,j 2,j 3,j 4,y5,j 6,y7,j 8,j 9,j 10,j 11,j 12,j 13,j 14,j 15,j 16,j 17,j 18,j 19,j 20,j 21,j 22,j 23,j 24,j 25,j 26,j 27,j 28,j 29,j 30,y31,y32,y33,j 34,j 35,j 36,j 37,j 38,j 39,j 40,j 41,j 42,j 43,j 44,j 45,j 46,y47,y48,y49,j 50,j 51,j 52,j 53,j 54,j 55,j 56,j 57,j 58,j 59,y60,y61,y62]++jr j 63 8) H (fun e T G=>(nx (fQ Tryz.f179 σ K) fun T G=>wp (CZ σ) 8071435709698801824 (sR (sR (sR (sR (sR match_asked_plain.code))))) T G (fQ Tryz.f179 σ K)) (unblock 2 e) T G)
noncomputable def match_asked_plain.L2 (σ:Sig) (K:AV→Hp→Prop) (y5 y7 y31 y32 y33 y47 y48 y49 y60 y61 y62:AV) (H:Hp):Prop:=∀ j:Nat→AV,LoopP (CZ σ) (lB (bB (sR (sL (sR (sR (sR (sR (sR match_asked_plain.code))))))))) ([j 0,j 1,j 2,j 3,j 4,y5,j 6,y7,j 8,j 9,j 10,j 11,j 12,j 13,j 14,j 15,j 16,j 17,j 18,j 19,j 20,j 21,j 22,j 23,j 24,j 25,j 26,j 27,j 28,j 29,j 30,y31,y32,y33,j 34,j 35,j 36,j 37,j 38,j 39,j 40,j 41,j 42,j 43,j 44,j 45,j 46,y47,y48,y49,j 50,j 51,j 52,j 53,j 54,j 55,j 56,j 57,j 58,j 59,y60,y61,y62]++jr j 63 8) H (fun e T G=>(nx (fQ Tryz.f179 σ K) fun T G=>wp (CZ σ) 8071435709698801824 (sR (sR (sR (sR (sR (sR match_asked_plain.code)))))) T G (fQ Tryz.f179 σ K)) (unblock 4 e) T G)
theorem match_asked_plain.L0_step {y5 y7 y31 y32 y33 y47 y48 y49 y60 y61 y62:AV} (h:bnd (binR .lss y33 y32) fun x1=>ifB x1 (bnd (ixaSl 1 y31 y33) fun x2=>bnd (ldA false 1 H x2) fun x3=>bnd (binR .eql x3 (.lit (.string ⟨#[]⟩))) fun x4=>ifB x4 (K (Bo false) H) (bnd (shiftA y7 2) fun x5=>bnd (ldA false 1 H x5) fun x6=>bnd (binR .neq x3 x6) fun x7=>ifB x7 (K (Bo false) H) (bnd (binR .add y33 (I 1)) fun x8=>match_asked_plain.L0 σ K y5 y7 y31 y32 x8 y47 y48 y49 y60 y61 y62 H))) (bnd (shiftA y5 2) fun x9=>bnd (ldA false 1 H x9) fun x10=>bnd (lenSl x10) fun x11=>match_asked_plain.L1 σ K y5 y7 y31 y32 y33 x10 x11 (I 0) y60 y61 y62 H)):match_asked_plain.L0 σ K y5 y7 y31 y32 y33 y47 y48 y49 y60 y61 y62 H :=
 fun j=>lrd (g:=8071435709698801824) (Eq.mpr (by kernel_rfl) h)
theorem match_asked_plain.L1_step {y5 y7 y31 y32 y33 y47 y48 y49 y60 y61 y62:AV} (h:bnd (binR .lss y49 y48) fun x1=>ifB x1 (bnd (ixaSl 1 y47 y49) fun x2=>bnd (ldA false 1 H x2) fun x3=>bnd (shiftA y7 3) fun x4=>bnd (ldA false 1 H x4) fun x5=>callK Tryz.prog σ n_match_has [x5,x3] H fun x6 H7=>bnd (unR .not x6) fun x8=>ifB x8 (K (Bo false) H7) (bnd (binR .add y49 (I 1)) fun x9=>match_asked_plain.L1 σ K y5 y7 y31 y32 y33 y47 y48 x9 y60 y61 y62 H7)) (bnd (shiftA y5 3) fun x10=>bnd (ldA false 1 H x10) fun x11=>bnd (lenSl x11) fun x12=>match_asked_plain.L2 σ K y5 y7 y31 y32 y33 y47 y48 y49 x11 x12 (I 0) H)):match_asked_plain.L1 σ K y5 y7 y31 y32 y33 y47 y48 y49 y60 y61 y62 H :=
 fun j=>lrd (g:=8071435709698801824) (Eq.mpr (by kernel_rfl) h)
theorem match_asked_plain.L2_step {y5 y7 y31 y32 y33 y47 y48 y49 y60 y61 y62:AV} (h:bnd (binR .lss y62 y61) fun x1=>ifB x1 (bnd (ixaSl 3 y60 y62) fun x2=>bnd (ldA true 3 H x2) fun x3=>allocK [.lit (.string ⟨#[]⟩),I 0,.lit (.string ⟨#[]⟩)] H fun x4 H5=>bnd (stA 3 H5 x4 x3) fun H6=>bnd (ldA true 5 H6 y7) fun x7=>bnd (ldA true 3 H6 x4) fun x8=>callK Tryz.prog σ n_match_attr [x7,x8] H6 fun x9 H10=>bnd (unR .not x9) fun x11=>ifB x11 (K (Bo false) H10) (bnd (binR .add y62 (I 1)) fun x12=>match_asked_plain.L2 σ K y5 y7 y31 y32 y33 y47 y48 y49 y60 y61 x12 H10)) (K (Bo true) H)):match_asked_plain.L2 σ K y5 y7 y31 y32 y33 y47 y48 y49 y60 y61 y62 H :=
 fun j=>lrd (g:=8071435709698801824) (Eq.mpr (by kernel_rfl) h)
theorem match_asked_plain.run {a0 a1 a2:AV} (h:boxK a2 H fun x1 H2=>bnd (nilR a0) fun x3=>bnd (shiftA x3 0) fun x4=>bnd (ldA false 1 H2 x4) fun x5=>callK Tryz.prog σ n_dom_Tree_View [x5,a1] H2 fun x6 H7=>allocK [I 0,.lit (.string ⟨#[]⟩),.lit (.string ⟨#[]⟩),.lit (.slice none 0 0),.lit (.slice none 0 0)] H7 fun x8 H9=>bnd (stA 5 H9 x8 x6) fun H10=>bnd (shiftA x1 0) fun x11=>bnd (ldA false 1 H10 x11) fun x12=>bnd (binR .neq x12 (.lit (.string ⟨#[]⟩))) fun x13=>ifB x13 (bnd (shiftA x1 0) fun x14=>bnd (ldA false 1 H10 x14) fun x15=>bnd (shiftA x8 1) fun x16=>bnd (ldA false 1 H10 x16) fun x17=>bnd (binR .neq x15 x17) fun x18=>ifB x18 (K (Bo false) H10) (bnd (shiftA x1 1) fun x19=>bnd (ldA false 1 H10 x19) fun x20=>bnd (lenSl x20) fun x21=>match_asked_plain.L0 σ K x1 x8 x20 x21 (I 0) (.lit undef) (.lit undef) (.lit undef) (.lit undef) (.lit undef) (.lit undef) H10)) (bnd (shiftA x1 1) fun x22=>bnd (ldA false 1 H10 x22) fun x23=>bnd (lenSl x23) fun x24=>match_asked_plain.L0 σ K x1 x8 x23 x24 (I 0) (.lit undef) (.lit undef) (.lit undef) (.lit undef) (.lit undef) (.lit undef) H10)):∃ r H1,Good Tryz.prog σ n_match_asked_plain [a0,a1,a2] H r H1∧K r H1 :=
 gwp 8071435709698801824 (fn:=Tryz.f179) (f:=n_match_asked_plain) (c:=match_asked_plain.code) (by kernel_rfl) (by kernel_rfl) (Eq.mpr (by kernel_rfl) h)
noncomputable def match_asked_pseudo.code:Code:=bodyOf Tryz.f180
theorem match_asked_pseudo.run {a0 a1 a2 a3:AV} (h:boxK a2 H fun x1 H2=>bnd (shiftA x1 0) fun x3=>bnd (ldA false 1 H2 x3) fun x4=>bnd (binR .eql x4 (I 1)) fun x5=>ifB x5 (bnd (nilR a0) fun x6=>bnd (shiftA x6 0) fun x7=>bnd (ldA false 1 H2 x7) fun x8=>callK Tryz.prog σ n_dom_Tree_Parent [x8,a1] H2 fun x9 H10=>bnd (binR .lss x9 (I 0)) fun x11=>K x11 H10) (bnd (binR .eql x4 (I 2)) fun x12=>ifB x12 (bnd (nilR a0) fun x13=>bnd (shiftA x13 0) fun x14=>bnd (ldA false 1 H2 x14) fun x15=>callK Tryz.prog σ n_dom_Tree_Place [x15,a1] H2 fun x16 H17=>bnd (binR .eql x16 (I 1)) fun x18=>K x18 H17) (bnd (binR .eql x4 (I 3)) fun x19=>ifB x19 (callK Tryz.prog σ n_match_asked_last [a0,a1] H2 fun x20 H21=>K x20 H21) (bnd (binR .eql x4 (I 4)) fun x22=>ifB x22 (bnd (nilR a0) fun x23=>bnd (shiftA x23 0) fun x24=>bnd (ldA false 1 H2 x24) fun x25=>callK Tryz.prog σ n_dom_Tree_Place [x25,a1] H2 fun x26 H27=>bnd (binR .eql x26 (I 1)) fun x28=>ifB x28 (callK Tryz.prog σ n_match_asked_last [a0,a1] H27 fun x29 H30=>K x29 H30) (K (Bo false) H27)) (bnd (binR .eql x4 (I 5)) fun x31=>ifB x31 (bnd (nilR a0) fun x32=>bnd (shiftA x32 0) fun x33=>bnd (ldA false 1 H2 x33) fun x34=>callK Tryz.prog σ n_dom_Tree_Child [x34,a1,(I 0)] H2 fun x35 H36=>bnd (binR .lss x35 (I 0)) fun x37=>K x37 H36) (bnd (binR .eql x4 (I 6)) fun x38=>ifB x38 (bnd (nilR a0) fun x39=>bnd (shiftA x39 0) fun x40=>bnd (ldA false 1 H2 x40) fun x41=>callK Tryz.prog σ n_dom_Tree_Place [x41,a1] H2 fun x42 H43=>bnd (shiftA x1 1) fun x44=>kpK (x44,some 1) H2 H43 (bnd (ldA false 1 H43 x44) fun x45=>bnd (shiftA x1 2) fun x46=>kpK (x46,some 1) H2 H43 (bnd (ldA false 1 H43 x46) fun x47=>callK Tryz.prog σ n_match_nth [x42,x45,x47] H43 fun x48 H49=>K x48 H49))) (bnd (binR .eql x4 (I 7)) fun x50=>ifB x50 (callK Tryz.prog σ n_match_asked_any [a0,a1,a3] H2 fun x51 H52=>bnd (unR .not x51) fun x53=>K x53 H52) (bnd (binR .eql x4 (I 8)) fun x54=>ifB x54 (callK Tryz.prog σ n_match_asked_any [a0,a1,a3] H2 fun x55 H56=>K x55 H56) (K (Bo false) H2))))))))):∃ r H1,Good Tryz.prog σ n_match_asked_pseudo [a0,a1,a2,a3] H r H1∧K r H1 :=
 gwp 0 (fn:=Tryz.f180) (f:=n_match_asked_pseudo) (c:=match_asked_pseudo.code) (by kernel_rfl) (by kernel_rfl) (Eq.mpr (by kernel_rfl) h)
noncomputable def match_asked_stands.code:Code:=bodyOf Tryz.f181
noncomputable def match_asked_stands.J0 (σ:Sig) (K:AV→Hp→Prop) (y0 y1 y2 y8 y9 y20:AV) (H:Hp):Prop:=∀ j:Nat→AV,wp (CZ σ) 1049351 (sR (bB (sR (sL (sR match_asked_stands.code))))) ([y0,y1,y2,j 3,j 4,j 5,j 6,j 7,y8,y9,j 10,j 11,j 12,j 13,j 14,j 15,j 16,j 17,j 18,j 19,y20]++jr j 21 10) H (fun e T G=>(nx (fQ Tryz.f181 σ K) fun T G=>wp (CZ σ) 1049351 (sR (sR match_asked_stands.code)) T G (fQ Tryz.f181 σ K)) (unblock 0 e) T G)
noncomputable def match_asked_stands.J1 (σ:Sig) (K:AV→Hp→Prop) (y0 y1 y2 y8 y9 y20:AV) (H:Hp):Prop:=∀ j:Nat→AV,wp (CZ σ) 1049351 (sR (cE (sR (bB (sR (sL (sR match_asked_stands.code))))))) ([y0,y1,y2,j 3,j 4,j 5,j 6,j 7,y8,y9,j 10,j 11,j 12,j 13,j 14,j 15,j 16,j 17,j 18,j 19,y20]++jr j 21 10) H (fun e T G=>(nx (fQ Tryz.f181 σ K) fun T G=>wp (CZ σ) 1049351 (sR (sR match_asked_stands.code)) T G (fQ Tryz.f181 σ K)) (unblock 0 e) T G)
theorem match_asked_stands.J0_step {y0 y1 y2 y8 y9 y20:AV} (h:ifB y9 (bnd (nilR y0) fun x1=>bnd (shiftA x1 0) fun x2=>bnd (ldA false 1 H x2) fun x3=>callK Tryz.prog σ n_dom_Tree_Parent [x3,y1] H fun x4 H5=>bnd (binR .eql y2 (I 1)) fun x6=>K (.tup [x4,x6]) H5) (bnd (binR .eql y8 (I 3)) fun x7=>ifB x7 (match_asked_stands.J1 σ K y0 y1 y2 y8 y9 x7 H) (bnd (binR .eql y8 (I 4)) fun x8=>match_asked_stands.J1 σ K y0 y1 y2 y8 y9 x8 H))):match_asked_stands.J0 σ K y0 y1 y2 y8 y9 y20 H :=
 fun j=>Eq.mpr (by kernel_rfl) h
theorem match_asked_stands.J1_step {y0 y1 y2 y8 y9 y20:AV} (h:ifB y20 (bnd (nilR y0) fun x1=>bnd (shiftA x1 0) fun x2=>bnd (ldA false 1 H x2) fun x3=>callK Tryz.prog σ n_dom_Tree_Before [x3,y1] H fun x4 H5=>bnd (binR .eql y2 (I 4)) fun x6=>K (.tup [x4,x6]) H5) (K (.tup [(I (-1)),(Bo false)]) H)):match_asked_stands.J1 σ K y0 y1 y2 y8 y9 y20 H :=
 fun j=>Eq.mpr (by kernel_rfl) h
theorem match_asked_stands.run {a0 a1 a2:AV} (h:bnd (binR .eql a2 (I 1)) fun x1=>ifB x1 (match_asked_stands.J0 σ K a0 a1 a2 a2 x1 (.lit undef) H) (bnd (binR .eql a2 (I 2)) fun x2=>match_asked_stands.J0 σ K a0 a1 a2 a2 x2 (.lit undef) H)):∃ r H1,Good Tryz.prog σ n_match_asked_stands [a0,a1,a2] H r H1∧K r H1 :=
 gwp 1049351 (fn:=Tryz.f181) (f:=n_match_asked_stands) (c:=match_asked_stands.code) (by kernel_rfl) (by kernel_rfl) (Eq.mpr (by kernel_rfl) h)
noncomputable def match_asked_ahead_1.code:Code:=bodyOf Tryz.f182
theorem match_asked_ahead_1.run {a0 a1 a2 a3 a4:AV} (h:bnd (ldA false 1 H a0) fun x1=>bnd (ldA false 1 H a1) fun x2=>bnd (ldA false 1 H a2) fun x3=>bnd (binR .sub x3 (I 1)) fun x4=>bnd (ldA false 1 H a3) fun x5=>callK Tryz.prog σ n_match_asked_is [x1,x2,x4,x5] H fun x6 H7=>ifB x6 (K (Bo true) H7) (bnd (ldA false 1 H7 a4) fun x8=>ifB x8 (bnd (ldA false 1 H7 a0) fun x9=>bnd (ldA false 1 H7 a1) fun x10=>bnd (ldA false 1 H7 a2) fun x11=>bnd (ldA false 1 H7 a3) fun x12=>callK Tryz.prog σ n_match_asked_ahead [x9,x10,x11,x12] H7 fun x13 H14=>K x13 H14) (K (Bo false) H7))):∃ r H1,Good Tryz.prog σ n_match_asked_ahead_1 [a0,a1,a2,a3,a4] H r H1∧K r H1 :=
 gwp 0 (fn:=Tryz.f182) (f:=n_match_asked_ahead_1) (c:=match_asked_ahead_1.code) (by kernel_rfl) (by kernel_rfl) (Eq.mpr (by kernel_rfl) h)
noncomputable def dom_Tree_View.code:Code:=bodyOf Tryz.f183
theorem dom_Tree_View.run {a0 a1:AV} (h:allocK [I 0,.lit (.string ⟨#[]⟩),.lit (.string ⟨#[]⟩),.lit (.slice none 0 0),.lit (.slice none 0 0)] H fun x1 H2=>callK Tryz.prog σ n_dom_Tree_at [a0,a1] H2 fun x3 H4=>bnd (partR true 0 5 x3) fun x5=>bnd (stA 5 H4 x1 x5) fun H6=>bnd (ldA true 5 H6 x1) fun r7=>K r7 H6):∃ r H1,Good Tryz.prog σ n_dom_Tree_View [a0,a1] H r H1∧K r H1 :=
 gwp 0 (fn:=Tryz.f183) (f:=n_dom_Tree_View) (c:=dom_Tree_View.code) (by kernel_rfl) (by kernel_rfl) (Eq.mpr (by kernel_rfl) h)
noncomputable def match_has.code:Code:=bodyOf Tryz.f184
noncomputable def match_has.L0 (σ:Sig) (K:AV→Hp→Prop) (y1 y7 y8 y9:AV) (H:Hp):Prop:=∀ j:Nat→AV,LoopP (CZ σ) (lB (bB (sR (sL (sR match_has.code))))) ([j 0,y1,j 2,j 3,j 4,j 5,j 6,y7,y8,y9]++jr j 10 7) H (fun e T G=>(nx (fQ Tryz.f184 σ K) fun T G=>wp (CZ σ) 898 (sR (sR match_has.code)) T G (fQ Tryz.f184 σ K)) (unblock 0 e) T G)
theorem match_has.L0_step {y1 y7 y8 y9:AV} (h:bnd (binR .lss y9 y8) fun x1=>ifB x1 (bnd (ixaSl 1 y7 y9) fun x2=>bnd (ldA false 1 H x2) fun x3=>bnd (binR .eql x3 y1) fun x4=>ifB x4 (K (Bo true) H) (bnd (binR .add y9 (I 1)) fun x5=>match_has.L0 σ K y1 y7 y8 x5 H)) (K (Bo false) H)):match_has.L0 σ K y1 y7 y8 y9 H :=
 fun j=>lrd (g:=898) (Eq.mpr (by kernel_rfl) h)
theorem match_has.run {a0 a1:AV} (h:bnd (lenSl a0) fun x1=>match_has.L0 σ K a1 a0 x1 (I 0) H):∃ r H1,Good Tryz.prog σ n_match_has [a0,a1] H r H1∧K r H1 :=
 gwp 898 (fn:=Tryz.f184) (f:=n_match_has) (c:=match_has.code) (by kernel_rfl) (by kernel_rfl) (Eq.mpr (by kernel_rfl) h)
noncomputable def match_attr.code:Code:=bodyOf Tryz.f185
noncomputable def match_attr.L0 (σ:Sig) (K:AV→Hp→Prop) (y3 y8 y9 y10:AV) (H:Hp):Prop:=∀ j:Nat→AV,LoopP (CZ σ) (lB (bB (sR (sL (sR match_attr.code))))) ([j 0,j 1,j 2,y3,j 4,j 5,j 6,j 7,y8,y9,y10]++jr j 11 13) H (fun e T G=>(nx (fQ Tryz.f185 σ K) fun T G=>wp (CZ σ) 1800 (sR (sR match_attr.code)) T G (fQ Tryz.f185 σ K)) (unblock 0 e) T G)
theorem match_attr.L0_step {y3 y8 y9 y10:AV} (h:bnd (binR .lss y10 y9) fun x1=>ifB x1 (bnd (ixaSl 2 y8 y10) fun x2=>bnd (ldA true 2 H x2) fun x3=>allocK [.lit (.string ⟨#[]⟩),.lit (.string ⟨#[]⟩)] H fun x4 H5=>bnd (stA 2 H5 x4 x3) fun H6=>bnd (shiftA x4 0) fun x7=>bnd (ldA false 1 H6 x7) fun x8=>bnd (shiftA y3 0) fun x9=>bnd (ldA false 1 H6 x9) fun x10=>bnd (binR .eql x8 x10) fun x11=>ifB x11 (bnd (shiftA x4 1) fun x12=>bnd (ldA false 1 H6 x12) fun x13=>bnd (ldA true 3 H6 y3) fun x14=>callK Tryz.prog σ n_match_so [x13,x14] H6 fun x15 H16=>K x15 H16) (bnd (binR .add y10 (I 1)) fun x17=>match_attr.L0 σ K y3 y8 y9 x17 H6)) (K (Bo false) H)):match_attr.L0 σ K y3 y8 y9 y10 H :=
 fun j=>lrd (g:=1800) (Eq.mpr (by kernel_rfl) h)
theorem match_attr.run {a0 a1:AV} (h:boxK a0 H fun x1 H2=>boxK a1 H2 fun x3 H4=>bnd (shiftA x1 4) fun x5=>bnd (ldA false 1 H4 x5) fun x6=>bnd (lenSl x6) fun x7=>match_attr.L0 σ K x3 x6 x7 (I 0) H4):∃ r H1,Good Tryz.prog σ n_match_attr [a0,a1] H r H1∧K r H1 :=
 gwp 1800 (fn:=Tryz.f185) (f:=n_match_attr) (c:=match_attr.code) (by kernel_rfl) (by kernel_rfl) (Eq.mpr (by kernel_rfl) h)
noncomputable def dom_Tree_Parent.code:Code:=bodyOf Tryz.f186
theorem dom_Tree_Parent.run {a0 a1:AV} (h:bnd (binR .lss a1 (I 0)) fun x1=>ifB x1 (K (I (-1)) H) (bnd (nilR a0) fun x2=>bnd (shiftA x2 0) fun x3=>bnd (ldA false 1 H x3) fun x4=>bnd (lenSl x4) fun x5=>bnd (binR .geq a1 x5) fun x6=>ifB x6 (K (I (-1)) H) (bnd (nilR a0) fun x7=>bnd (shiftA x7 0) fun x8=>bnd (ldA false 1 H x8) fun x9=>bnd (ixaSl 9 x9 a1) fun x10=>bnd (shiftA x10 0) fun x11=>bnd (shiftA x11 0) fun x12=>bnd (ldA false 1 H x12) fun x13=>K x13 H))):∃ r H1,Good Tryz.prog σ n_dom_Tree_Parent [a0,a1] H r H1∧K r H1 :=
 gwp 0 (fn:=Tryz.f186) (f:=n_dom_Tree_Parent) (c:=dom_Tree_Parent.code) (by kernel_rfl) (by kernel_rfl) (Eq.mpr (by kernel_rfl) h)
noncomputable def dom_Tree_Place.code:Code:=bodyOf Tryz.f187
theorem dom_Tree_Place.run {a0 a1:AV} (h:callK Tryz.prog σ n_dom_Tree_at [a0,a1] H fun x1 H2=>bnd (partR false 7 1 x1) fun x3=>K x3 H2):∃ r H1,Good Tryz.prog σ n_dom_Tree_Place [a0,a1] H r H1∧K r H1 :=
 gwp 0 (fn:=Tryz.f187) (f:=n_dom_Tree_Place) (c:=dom_Tree_Place.code) (by kernel_rfl) (by kernel_rfl) (Eq.mpr (by kernel_rfl) h)
noncomputable def match_asked_last.code:Code:=bodyOf Tryz.f188
theorem match_asked_last.run {a0 a1:AV} (h:bnd (nilR a0) fun x1=>bnd (shiftA x1 0) fun x2=>bnd (ldA false 1 H x2) fun x3=>callK Tryz.prog σ n_dom_Tree_Parent [x3,a1] H fun x4 H5=>bnd (binR .lss x4 (I 0)) fun x6=>ifB x6 (K (Bo true) H5) (bnd (nilR a0) fun x7=>bnd (shiftA x7 0) fun x8=>bnd (ldA false 1 H5 x8) fun x9=>bnd (nilR a0) fun x10=>bnd (shiftA x10 0) fun x11=>bnd (ldA false 1 H5 x11) fun x12=>callK Tryz.prog σ n_dom_Tree_Place [x12,a1] H5 fun x13 H14=>kpK (x8,some 1) H5 H14 (callK Tryz.prog σ n_dom_Tree_Child [x9,x4,x13] H14 fun x15 H16=>bnd (binR .lss x15 (I 0)) fun x17=>K x17 H16))):∃ r H1,Good Tryz.prog σ n_match_asked_last [a0,a1] H r H1∧K r H1 :=
 gwp 0 (fn:=Tryz.f188) (f:=n_match_asked_last) (c:=match_asked_last.code) (by kernel_rfl) (by kernel_rfl) (Eq.mpr (by kernel_rfl) h)
noncomputable def dom_Tree_Child.code:Code:=bodyOf Tryz.f189
theorem dom_Tree_Child.run {a0 a1 a2:AV} (h:callK Tryz.prog σ n_dom_Tree_at [a0,a1] H fun x1 H2=>bnd (partR false 5 1 x1) fun x3=>bnd (lenSl x3) fun x4=>bnd (binR .lss a2 x4) fun x5=>ifB x5 (bnd (ixaSl 1 x3 a2) fun x6=>bnd (ldA false 1 H2 x6) fun x7=>K x7 H2) (K (I (-1)) H2)):∃ r H1,Good Tryz.prog σ n_dom_Tree_Child [a0,a1,a2] H r H1∧K r H1 :=
 gwp 0 (fn:=Tryz.f189) (f:=n_dom_Tree_Child) (c:=dom_Tree_Child.code) (by kernel_rfl) (by kernel_rfl) (Eq.mpr (by kernel_rfl) h)
noncomputable def match_nth.code:Code:=bodyOf Tryz.f190
theorem match_nth.run {a0 a1 a2:AV} (h:bnd (binR .eql a1 (I 0)) fun x1=>ifB x1 (bnd (binR .eql a0 a2) fun x2=>K x2 H) (bnd (binR .gtr a1 (I 0)) fun x3=>ifB x3 (bnd (binR .leq a2 a0) fun x4=>ifB x4 (bnd (cvInt .u64 a0) fun x5=>bnd (cvInt .u64 a2) fun x6=>bnd (binR .sub x5 x6) fun x7=>bnd (cvInt .u64 a1) fun x8=>bnd (binR .rem x7 x8) fun x9=>bnd (binR .eql x9 (.lit (.int .u64 0))) fun x10=>K x10 H) (K (Bo false) H)) (bnd (binR .geq a2 a0) fun x11=>ifB x11 (bnd (cvInt .u64 a2) fun x12=>bnd (cvInt .u64 a0) fun x13=>bnd (binR .sub x12 x13) fun x14=>bnd (cvInt .u64 a1) fun x15=>bnd (unR .neg x15) fun x16=>bnd (binR .rem x14 x16) fun x17=>bnd (binR .eql x17 (.lit (.int .u64 0))) fun x18=>K x18 H) (K (Bo false) H)))):∃ r H1,Good Tryz.prog σ n_match_nth [a0,a1,a2] H r H1∧K r H1 :=
 gwp 0 (fn:=Tryz.f190) (f:=n_match_nth) (c:=match_nth.code) (by kernel_rfl) (by kernel_rfl) (Eq.mpr (by kernel_rfl) h)
noncomputable def dom_Tree_Before.code:Code:=bodyOf Tryz.f191
theorem dom_Tree_Before.run {a0 a1:AV} (h:callK Tryz.prog σ n_dom_Tree_at [a0,a1] H fun x1 H2=>bnd (partR false 8 1 x1) fun x3=>K x3 H2):∃ r H1,Good Tryz.prog σ n_dom_Tree_Before [a0,a1] H r H1∧K r H1 :=
 gwp 0 (fn:=Tryz.f191) (f:=n_dom_Tree_Before) (c:=dom_Tree_Before.code) (by kernel_rfl) (by kernel_rfl) (Eq.mpr (by kernel_rfl) h)
noncomputable def match_so.code:Code:=bodyOf Tryz.f192
theorem match_so.run {a0 a1:AV} (h:boxK a1 H fun x1 H2=>bnd (shiftA x1 2) fun x3=>bnd (ldA false 1 H2 x3) fun x4=>bnd (binR .neq x4 (.lit (.string ⟨#[]⟩))) fun x5=>bnd (shiftA x1 1) fun x6=>bnd (ldA false 1 H2 x6) fun x7=>bnd (binR .eql x7 (I 0)) fun x8=>ifB x8 (K (Bo true) H2) (bnd (binR .eql x7 (I 1)) fun x9=>ifB x9 (bnd (shiftA x1 2) fun x10=>bnd (ldA false 1 H2 x10) fun x11=>bnd (binR .eql a0 x11) fun x12=>K x12 H2) (bnd (binR .eql x7 (I 2)) fun x13=>ifB x13 (ifB x5 (bnd (shiftA x1 2) fun x14=>bnd (ldA false 1 H2 x14) fun x15=>callK Tryz.prog σ n_match_word [a0,x15] H2 fun x16 H17=>K x16 H17) (K (Bo false) H2)) (bnd (binR .eql x7 (I 3)) fun x18=>ifB x18 (bnd (shiftA x1 2) fun x19=>bnd (ldA false 1 H2 x19) fun x20=>bnd (binR .eql a0 x20) fun x21=>ifB x21 (K (Bo true) H2) (bnd (shiftA x1 2) fun x22=>bnd (ldA false 1 H2 x22) fun x23=>bnd (binR .add x23 (.lit (.string ⟨#[45]⟩))) fun x24=>callK Tryz.prog σ n_strings_HasPrefix [a0,x24] H2 fun x25 H26=>K x25 H26)) (bnd (binR .eql x7 (I 4)) fun x27=>ifB x27 (ifB x5 (bnd (shiftA x1 2) fun x28=>bnd (ldA false 1 H2 x28) fun x29=>callK Tryz.prog σ n_strings_HasPrefix [a0,x29] H2 fun x30 H31=>K x30 H31) (K (Bo false) H2)) (bnd (binR .eql x7 (I 5)) fun x32=>ifB x32 (ifB x5 (bnd (shiftA x1 2) fun x33=>bnd (ldA false 1 H2 x33) fun x34=>callK Tryz.prog σ n_strings_HasSuffix [a0,x34] H2 fun x35 H36=>K x35 H36) (K (Bo false) H2)) (bnd (binR .eql x7 (I 6)) fun x37=>ifB x37 (ifB x5 (bnd (shiftA x1 2) fun x38=>bnd (ldA false 1 H2 x38) fun x39=>callK Tryz.prog σ n_strings_Contains [a0,x39] H2 fun x40 H41=>K x40 H41) (K (Bo false) H2)) (K (Bo false) H2)))))))):∃ r H1,Good Tryz.prog σ n_match_so [a0,a1] H r H1∧K r H1 :=
 gwp 0 (fn:=Tryz.f192) (f:=n_match_so) (c:=match_so.code) (by kernel_rfl) (by kernel_rfl) (Eq.mpr (by kernel_rfl) h)
noncomputable def match_word.code:Code:=bodyOf Tryz.f193
noncomputable def match_word.R0 (j:Nat→AV) (y3 y4:AV):LRec:=⟨([j 0,j 1,j 2,y3,y4]++jr j 5 7),rP (bB (sR (sL (sR match_word.code)))),rA (bB (sR (sL (sR match_word.code)))),rB (bB (sR (sL (sR match_word.code))))⟩
theorem match_word.R0_round {j:Nat→AV} {y3 y4 p0:AV} {id:Nat} (hl:H.get id=some (.loop (match_word.R0 j y3 y4) .ready none)) (h:H.get id=some (.loop (match_word.R0 j y3 y4) .ready none)∧(bnd (some (H.set id (some (.loop (match_word.R0 j y3 y4) .busy none)))) fun H1=>bnd (ldA false 1 H1 y3) fun x2=>bnd (binR .eql p0 x2) fun x3=>ifB x3 (bnd (stA 1 H1 y4 (Bo true)) fun H4=>roundE id (match_word.R0 j y3 y4) K .ret H4) (roundE id (match_word.R0 j y3 y4) K .normal H1))):callV Tryz.prog σ (.yl id) [p0] H K :=
 yield_of_wp (CZ σ) mixed 24 hl (by kernel_rfl) (by kernel_rfl) (by kernel_rfl) (Eq.mpr (by kernel_rfl) h)
theorem match_word.run {a0 a1:AV} (h:boxK a1 H fun x1 H2=>allocK [Bo false] H2 fun x3 H4=>callK Tryz.prog σ n_match_words [a0] H4 fun x5 H6=>∀ j:Nat→AV,rangeK Tryz.prog σ x5 (match_word.R0 j x1 x3) H6 (fun H7=>bnd (stA 1 H7 x3 (Bo false)) fun H9=>bnd (ldA false 1 H9 x3) fun r10=>K r10 H9) (fun H7=>bnd (ldA false 1 H7 x3) fun r11=>K r11 H7) (fun i8 H7=>False)):∃ r H1,Good Tryz.prog σ n_match_word [a0,a1] H r H1∧K r H1 :=
 gwp 24 (fn:=Tryz.f193) (f:=n_match_word) (c:=match_word.code) (by kernel_rfl) (by kernel_rfl) (Eq.mpr (by kernel_rfl) h)
noncomputable def strings_HasPrefix.code:Code:=bodyOf Tryz.f194
theorem strings_HasPrefix.run {a0 a1:AV} (h:callK Tryz.prog σ n_internal_stringslite_HasPrefix [a0,a1] H fun x1 H2=>K x1 H2):∃ r H1,Good Tryz.prog σ n_strings_HasPrefix [a0,a1] H r H1∧K r H1 :=
 gwp 0 (fn:=Tryz.f194) (f:=n_strings_HasPrefix) (c:=strings_HasPrefix.code) (by kernel_rfl) (by kernel_rfl) (Eq.mpr (by kernel_rfl) h)
noncomputable def strings_HasSuffix.code:Code:=bodyOf Tryz.f195
theorem strings_HasSuffix.run {a0 a1:AV} (h:callK Tryz.prog σ n_internal_stringslite_HasSuffix [a0,a1] H fun x1 H2=>K x1 H2):∃ r H1,Good Tryz.prog σ n_strings_HasSuffix [a0,a1] H r H1∧K r H1 :=
 gwp 0 (fn:=Tryz.f195) (f:=n_strings_HasSuffix) (c:=strings_HasSuffix.code) (by kernel_rfl) (by kernel_rfl) (Eq.mpr (by kernel_rfl) h)
noncomputable def match_words.code:Code:=bodyOf Tryz.f197
theorem match_words.run {a0:AV} (h:boxK a0 H fun x1 H2=>K (.fn n_match_words_1 [x1]) H2):∃ r H1,Good Tryz.prog σ n_match_words [a0] H r H1∧K r H1 :=
 gwp 0 (fn:=Tryz.f197) (f:=n_match_words) (c:=match_words.code) (by kernel_rfl) (by kernel_rfl) (Eq.mpr (by kernel_rfl) h)
noncomputable def internal_stringslite_HasPrefix.code:Code:=bodyOf Tryz.f198
theorem internal_stringslite_HasPrefix.run {a0 a1:AV} (h:bnd (lenStr a0) fun x1=>bnd (lenStr a1) fun x2=>bnd (binR .geq x1 x2) fun x3=>ifB x3 (bnd (lenStr a1) fun x4=>bnd (slStr a0 none (some x4)) fun x5=>bnd (binR .eql x5 a1) fun x6=>K x6 H) (K (Bo false) H)):∃ r H1,Good Tryz.prog σ n_internal_stringslite_HasPrefix [a0,a1] H r H1∧K r H1 :=
 gwp 0 (fn:=Tryz.f198) (f:=n_internal_stringslite_HasPrefix) (c:=internal_stringslite_HasPrefix.code) (by kernel_rfl) (by kernel_rfl) (Eq.mpr (by kernel_rfl) h)
noncomputable def internal_stringslite_HasSuffix.code:Code:=bodyOf Tryz.f199
theorem internal_stringslite_HasSuffix.run {a0 a1:AV} (h:bnd (lenStr a0) fun x1=>bnd (lenStr a1) fun x2=>bnd (binR .geq x1 x2) fun x3=>ifB x3 (bnd (lenStr a0) fun x4=>bnd (lenStr a1) fun x5=>bnd (binR .sub x4 x5) fun x6=>bnd (slStr a0 (some x6) none) fun x7=>bnd (binR .eql x7 a1) fun x8=>K x8 H) (K (Bo false) H)):∃ r H1,Good Tryz.prog σ n_internal_stringslite_HasSuffix [a0,a1] H r H1∧K r H1 :=
 gwp 0 (fn:=Tryz.f199) (f:=n_internal_stringslite_HasSuffix) (c:=internal_stringslite_HasSuffix.code) (by kernel_rfl) (by kernel_rfl) (Eq.mpr (by kernel_rfl) h)
noncomputable def match_words_1.code:Code:=bodyOf Tryz.f201
noncomputable def match_words_1.Q0 (σ:Sig) (K:AV→Hp→Prop):Exit→List AV→Hp→Prop:=(nx (fun e T G=>(fQ Tryz.f201 σ K) (unblock 0 e) T G) fun T G=>∀ j,LoopP (CZ σ) (lB (bB match_words_1.code)) (maskA 11 j 0 T) G (fun e T G=>(fQ Tryz.f201 σ K) (unblock 0 e) T G))
noncomputable def match_words_1.L0 (σ:Sig) (K:AV→Hp→Prop) (y0 y1 y3:AV) (H:Hp):Prop:=∀ j:Nat→AV,LoopP (CZ σ) (lB (bB match_words_1.code)) ([y0,y1,j 2,y3]++jr j 4 32) H (fun e T G=>(fQ Tryz.f201 σ K) (unblock 0 e) T G)
noncomputable def match_words_1.L1 (σ:Sig) (K:AV→Hp→Prop) (y0 y1 y3:AV) (H:Hp):Prop:=∀ j:Nat→AV,LoopP (CZ σ) (lB (bB (sL (sR (bB (sR (lB (bB match_words_1.code)))))))) ([y0,y1,j 2,y3]++jr j 4 32) H (fun e T G=>(nx (fun e T G=>(match_words_1.Q0 σ K) (unblock 1 e) T G) fun T G=>wp (CZ σ) 11 (sR (sR (bB (sR (lB (bB match_words_1.code)))))) T G (fun e T G=>(match_words_1.Q0 σ K) (unblock 1 e) T G)) (unblock 2 e) T G)
theorem match_words_1.L0_step {y0 y1 y3:AV} (h:bnd (ldA false 1 H y1) fun x1=>bnd (binR .neq x1 (.lit (.string ⟨#[]⟩))) fun x2=>ifB x2 (match_words_1.L1 σ K y0 y1 (I 0) H) (K (.tup []) H)):match_words_1.L0 σ K y0 y1 y3 H :=
 fun j=>lrd (g:=11) (Eq.mpr (by kernel_rfl) h)
theorem match_words_1.L1_step {y0 y1 y3:AV} (h:bnd (ldA false 1 H y1) fun x1=>bnd (lenStr x1) fun x2=>bnd (binR .lss y3 x2) fun x3=>ifB x3 (bnd (ldA false 1 H y1) fun x4=>bnd (ixStr x4 y3) fun x5=>callK Tryz.prog σ n_match_white [x5] H fun x6 H7=>bnd (unR .not x6) fun x8=>ifB x8 (bnd (binR .add y3 (I 1)) fun x9=>match_words_1.L1 σ K y0 y1 x9 H7) (bnd (binR .gtr y3 (I 0)) fun x10=>ifB x10 (bnd (ldA false 1 H7 y1) fun x11=>bnd (slStr x11 none (some y3)) fun x12=>callV Tryz.prog σ y0 [x12] H7 fun x13 H14=>bnd (unR .not x13) fun x15=>ifB x15 (K (.tup []) H14) (bnd (ldA false 1 H14 y1) fun x16=>bnd (binR .add y3 (I 1)) fun x17=>bnd (ldA false 1 H14 y1) fun x18=>bnd (lenStr x18) fun x19=>bnd (minA [x17,x19]) fun x20=>bnd (slStr x16 (some x20) none) fun x21=>bnd (stA 1 H14 y1 x21) fun H22=>match_words_1.L0 σ K y0 y1 y3 H22)) (bnd (ldA false 1 H7 y1) fun x23=>bnd (binR .add y3 (I 1)) fun x24=>bnd (ldA false 1 H7 y1) fun x25=>bnd (lenStr x25) fun x26=>bnd (minA [x24,x26]) fun x27=>bnd (slStr x23 (some x27) none) fun x28=>bnd (stA 1 H7 y1 x28) fun H29=>match_words_1.L0 σ K y0 y1 y3 H29))) (bnd (binR .gtr y3 (I 0)) fun x30=>ifB x30 (bnd (ldA false 1 H y1) fun x31=>bnd (slStr x31 none (some y3)) fun x32=>callV Tryz.prog σ y0 [x32] H fun x33 H34=>bnd (unR .not x33) fun x35=>ifB x35 (K (.tup []) H34) (bnd (ldA false 1 H34 y1) fun x36=>bnd (binR .add y3 (I 1)) fun x37=>bnd (ldA false 1 H34 y1) fun x38=>bnd (lenStr x38) fun x39=>bnd (minA [x37,x39]) fun x40=>bnd (slStr x36 (some x40) none) fun x41=>bnd (stA 1 H34 y1 x41) fun H42=>match_words_1.L0 σ K y0 y1 y3 H42)) (bnd (ldA false 1 H y1) fun x43=>bnd (binR .add y3 (I 1)) fun x44=>bnd (ldA false 1 H y1) fun x45=>bnd (lenStr x45) fun x46=>bnd (minA [x44,x46]) fun x47=>bnd (slStr x43 (some x47) none) fun x48=>bnd (stA 1 H y1 x48) fun H49=>match_words_1.L0 σ K y0 y1 y3 H49))):match_words_1.L1 σ K y0 y1 y3 H :=
 fun j=>lrd (g:=11) (Eq.mpr (by kernel_rfl) h)
theorem match_words_1.run {a0 a1:AV} (h:match_words_1.L0 σ K a0 a1 (.lit undef) H):∃ r H1,Good Tryz.prog σ n_match_words_1 [a0,a1] H r H1∧K r H1 :=
 gwp 11 (fn:=Tryz.f201) (f:=n_match_words_1) (c:=match_words_1.code) (by kernel_rfl) (by kernel_rfl) (Eq.mpr (by kernel_rfl) h)
noncomputable def match_white.code:Code:=bodyOf Tryz.f202
theorem match_white.run {a0:AV} (h:bnd (binR .eql a0 (.lit (.int .u8 9))) fun x1=>ifB x1 (K (Bo true) H) (bnd (binR .eql a0 (.lit (.int .u8 10))) fun x2=>ifB x2 (K (Bo true) H) (bnd (binR .eql a0 (.lit (.int .u8 12))) fun x3=>ifB x3 (K (Bo true) H) (bnd (binR .eql a0 (.lit (.int .u8 13))) fun x4=>ifB x4 (K (Bo true) H) (bnd (binR .eql a0 (.lit (.int .u8 32))) fun x5=>K x5 H))))):∃ r H1,Good Tryz.prog σ n_match_white [a0] H r H1∧K r H1 :=
 gwp 0 (fn:=Tryz.f202) (f:=n_match_white) (c:=match_white.code) (by kernel_rfl) (by kernel_rfl) (Eq.mpr (by kernel_rfl) h)
end Go.Proofs.YthdcghnjndhecaaGreat.Ev
namespace Go.Proofs.YthdcghnjndhecaaGreat.Ev
set_option linter.unusedVariables false
set_option linter.unusedSimpArgs false
variable {σ:Sig}
def lowb (c:UInt8):UInt8:=if 65≤c.toNat∧c.toNat≤90 then UInt8.ofNat (c.toNat+32) else c
def lowB (s:ByteArray):ByteArray:=⟨(s.data.toList.map lowb).toArray⟩
def enc8 (c:UInt8):AV:=.lit (.int .u8 c.toNat)
theorem wr8 {n:Int} (h0:0≤n) (h1:n≤255):wr .u8 n=n:=by
 unfold wr
 simp [IntKind.wrap,IntKind.signed,IntKind.bits]
 omega
theorem bytesA_map:∀ (l:List UInt8),bytesA (l.map enc8)=some l
 | []=>rfl
 | c::l=>by
  have ih:=bytesA_map l
  rw [List.map_cons]
  show (bytesA (l.map enc8)).map (UInt8.ofNat ((c.toNat:Int)).toNat::·)=_
  rw [ih]
  simp
theorem all_one8 (l:List UInt8):(l.map enc8).all AV.one=true:=by
 rw [List.all_map,List.all_eq_true]
 intro x _; rfl
theorem str_of8 {H:Hp} {id:Nat} {l:List UInt8} {n:Nat} {ex:Bool} (hg:H.get id=some (.cells (l.map enc8) ex)) (hn:n=l.length):cvToStr H (.sl id 0 1 n none)=some (Sx ⟨l.toArray⟩):=by
 subst hn
 simp only [cvToStr,srcA,hg]
 have e:List.take l.length (l.map enc8)=l.map enc8:=by
  have:=List.take_length (l:=l.map enc8)
  rwa [List.length_map] at this
 simp only [List.drop_zero,Nat.mul_one,beqN,e,List.length_map,decide_true,Bool.and_self,cond_true,all_one8,bytesA_map]
 rfl
theorem low_step {l:List UInt8} {k:Nat} {c:UInt8} (h:l[k]?=some c) (v:UInt8) (hv:v=lowb c):(l.set k v).take (k+1)++((l.set k v).drop (k+1)).map lowb=l.take k++(l.drop k).map lowb:=by
 subst hv
 obtain ⟨hlt,rfl⟩:=List.getElem?_eq_some_iff.1 h
 rw [List.drop_eq_getElem_cons hlt,List.take_succ_eq_append_getElem (by simpa using hlt),List.drop_set_of_lt (by omega),List.take_set_of_le (by omega)]
 simp
 rw [List.drop_eq_getElem_cons (i:=k) (l:=List.map lowb l) (by simpa using hlt)]
 simp
theorem low_same {l:List UInt8} {k:Nat} {c:UInt8} (h:l[k]?=some c) (hv:lowb c=c):l.take (k+1)++(l.drop (k+1)).map lowb=l.take k++(l.drop k).map lowb:=by
 have:=low_step h c hv.symm
 rwa [show l.set k c=l from by
  obtain ⟨hlt,rfl⟩:=List.getElem?_eq_some_iff.1 h
  simp] at this
theorem lower_L0 {K:AV→Hp→Prop} {n id:Nat} (hn:n<9000000000000000000):∀ (d k:Nat) (l:List UInt8) (H:Hp) (ex:Bool),H.get id=some (.cells (l.map enc8) ex)→l.length=n→n - k=d→k≤n→(∀ H,K (Sx ⟨(l.take k++(l.drop k).map lowb).toArray⟩) H) →
  text_Lower.L0 σ K (.sl id 0 1 n none) (.sl id 0 1 n none) (I n) (I k) H:=by
 intro d
 induction d with
 | zero =>
  intro k l H ex hg hl hd hk hK
  have e:k=n:=by omega
  subst e
  refine text_Lower.L0_step ?_
  simp [str_of8 hg hl.symm]
  simpa [← hl] using hK H
 | succ d ih =>
  intro k l H ex hg hl hd hk hK
  have hlt:k<n:=by omega
  have hlt':k<l.length:=by omega
  have hget:l[k]?=some l[k]:=List.getElem?_eq_getElem hlt'
  have hc:=(l[k]).toNat_lt
  refine text_Lower.L0_step ?_
  simp [hlt,ix_sl,hg,ldL_map hlt',enc8]
  have next:∀ (l':List UInt8) (H':Hp),H'.get id=some (.cells (l'.map enc8) ex)→l'.length=n→l'.take (k+1)++(l'.drop (k+1)).map lowb=l.take k++(l.drop k).map lowb→text_Lower.J1 σ K (.sl id 0 1 n none) (.sl id 0 1 n none) (I n) (I k) H':=by
   intro l' H' hg' hl' he
   refine text_Lower.J1_step ?_
   simp
   rw [wr_succ (Nat.lt_trans hlt hn)]
   exact ih (k+1) l' H' ex hg' hl' (by omega) (by omega) (by rw [he]; exact hK)
  split
  ·split
   ·rename_i h1 h2
    have e1:wr .u8 ((l[k].toNat:Int)+97)=(l[k].toNat:Int)+97:=wr8 (by omega) (by omega)
    have e2:wr .u8 ((l[k].toNat:Int)+97 - 65)=((lowb l[k]).toNat:Int):=by
     rw [wr8 (by omega) (by omega)]
     unfold lowb
     rw [if_pos ⟨by omega,by omega⟩]
     simp; omega
    rw [e1,e2]
    have e3:(k:Int).toNat=k:=by omega
    rw [if_pos (show k+1≤l.length from hlt'),bnd_some]
    have e4:AV.lit (.int .u8 (lowb l[k]).toNat)=enc8 (lowb l[k]):=rfl
    rw [e4,ov_map _ hlt']
    exact next (l.set k (lowb l[k])) _ (by simp) (by simpa using hl) (low_step hget _ rfl)
   ·rename_i h1 h2
    exact next l H hg hl (low_same hget (by unfold lowb; rw [if_neg (by omega)]))
  ·rename_i h1
   exact next l H hg hl (low_same hget (by unfold lowb; rw [if_neg (by omega)]))
theorem Lower_ok (s:ByteArray) (hs:s.data.size<9000000000000000000) (H:Hp):Good Tryz.prog σ n_text_Lower [Sx s] H (Sx (lowB s)) H:=by
 refine good_by (fun K hK=>text_Lower.run ?_) rfl rfl H
 simp only [cvToBytes,bnd_some,len_sl]
 refine lower_L0 hs _ 0 s.data.toList _ false (by simp [enc8]) (by simp) rfl (Nat.zero_le _) fun H=>?_
 simpa [lowB] using hK H
theorem rlower_L0 {K:AV→Hp→Prop} {n id:Nat} (hn:n<9000000000000000000):∀ (d k:Nat) (l:List UInt8) (H:Hp) (ex:Bool),H.get id=some (.cells (l.map enc8) ex)→l.length=n→n - k=d→k≤n→(∀ H,K (Sx ⟨(l.take k++(l.drop k).map lowb).toArray⟩) H) →
  ref1_Lower.L0 σ K (.sl id 0 1 n none) (I k) H:=by
 intro d
 induction d with
 | zero =>
  intro k l H ex hg hl hd hk hK
  have e:k=n:=by omega
  subst e
  refine ref1_Lower.L0_step ?_
  simp [str_of8 hg hl.symm]
  simpa [← hl] using hK H
 | succ d ih =>
  intro k l H ex hg hl hd hk hK
  have hlt:k<n:=by omega
  have hlt':k<l.length:=by omega
  have hget:l[k]?=some l[k]:=List.getElem?_eq_getElem hlt'
  have hc:=(l[k]).toNat_lt
  refine ref1_Lower.L0_step ?_
  simp [hlt,ix_sl,hg,ldL_map hlt',enc8]
  have next:∀ (l':List UInt8) (H':Hp),H'.get id=some (.cells (l'.map enc8) ex)→l'.length=n→l'.take (k+1)++(l'.drop (k+1)).map lowb=l.take k++(l.drop k).map lowb→ref1_Lower.J1 σ K (.sl id 0 1 n none) (I k) H':=by
   intro l' H' hg' hl' he
   refine ref1_Lower.J1_step ?_
   simp
   rw [wr_succ (Nat.lt_trans hlt hn)]
   exact ih (k+1) l' H' ex hg' hl' (by omega) (by omega) (by rw [he]; exact hK)
  split
  ·split
   ·rename_i h1 h2
    have e2:wr .u8 ((l[k].toNat:Int)+32)=((lowb l[k]).toNat:Int):=by
     rw [wr8 (by omega) (by omega)]
     unfold lowb
     rw [if_pos ⟨by omega,by omega⟩]
     simp; omega
    rw [e2]
    rw [if_pos (show k+1≤l.length from hlt'),bnd_some]
    have e4:AV.lit (.int .u8 (lowb l[k]).toNat)=enc8 (lowb l[k]):=rfl
    rw [e4,ov_map _ hlt']
    exact next (l.set k (lowb l[k])) _ (by simp) (by simpa using hl) (low_step hget _ rfl)
   ·rename_i h1 h2
    exact next l H hg hl (low_same hget (by unfold lowb; rw [if_neg (by omega)]))
  ·rename_i h1
   exact next l H hg hl (low_same hget (by unfold lowb; rw [if_neg (by omega)]))
theorem rLower_ok (s:ByteArray) (hs:s.data.size<9000000000000000000) (H:Hp):Good Tryz.prog σ n_ref1_Lower [Sx s] H (Sx (lowB s)) H:=by
 refine good_by (fun K hK=>ref1_Lower.run ?_) rfl rfl H
 simp only [cvToBytes,bnd_some,len_sl]
 refine rlower_L0 hs _ 0 s.data.toList _ false (by simp [enc8]) (by simp) rfl (Nat.zero_le _) fun H=>?_
 simpa [lowB] using hK H
end Go.Proofs.YthdcghnjndhecaaGreat.Ev
namespace Go.Proofs.YthdcghnjndhecaaGreat.Ev
set_option linter.unusedVariables false
set_option linter.unusedSimpArgs false
variable {σ:Sig}
theorem Good.imm0 {P:Program} {f sz:Nat} {r:AV} {H H':Hp} (h:∀ (a:Option Addr) (c:Nat),Good P σ f [.lit (.slice a 0 c)] H r H'):Good P σ f [.imm sz []] H r H':=by
 refine ⟨(h none 0).1,fun B w0 E w vs hσ hst hxs=>?_⟩
 have hl:=hxs.len
 have hv:vs[0]?=some (vs[0]'(by simp at hl; omega)):=Array.getElem?_eq_getElem _
 have hr:=hxs.at_ 0 _ _ rfl hv
 have:∃ a c,vs[0]'(by simp at hl; omega)=.slice a 0 c:=by
  generalize vs[0]'(by simp at hl; omega)=v at hr
  cases hr with
  | immE=>exact ⟨_,_,rfl⟩
  | imm val hn=>subst hn; exact ⟨_,_,rfl⟩
 obtain ⟨a,c,e⟩:=this
 refine (h a c).2 B w0 E w vs hσ hst ⟨by simpa using hl,fun i x v hx hv'=>?_⟩
 match i with
 | 0 =>
  simp at hx; subst hx
  rw [hv] at hv'
  cases hv'
  rw [e]; exact .lit _
 | i+1=>simp at hx
theorem clone_str0 (H:Hp):Good Tryz.prog σ n_slices_Clone_string_string [strs []] H (strs []) H:=by
 refine Good.imm0 fun a c=>?_
 cases a with
 | none =>
  have run:∃ r H1,Good Tryz.prog σ n_slices_Clone_string_string [.lit (.slice none 0 c)] Hp.empty r H1∧r=.lit (.slice none 0 0):=slices_Clone_string_string.run (by simp)
  obtain ⟨r,H1,hg,rfl⟩:=run
  exact hg.frzR rfl .nil H
 | some a =>
  have run:∃ r H1,Good Tryz.prog σ n_slices_Clone_string_string [.lit (.slice (some a) 0 c)] Hp.empty r H1∧Fz H1 r (strs []):=by
   refine slices_Clone_string_string.run ?_
   simp [bldSlR,bldR,appR,srcA,beqN,notStr,zrow]
   exact .sl (cs:=[]) (ex:=true) (fun _ _=>.any) (by simp) rfl (by simp) (by simp) (by simp)
  obtain ⟨r,H1,hg,hf⟩:=run
  exact hg.frzR rfl hf H
theorem clone_pr0 (H:Hp):Good Tryz.prog σ n_slices_Clone_api_Pair_api_Pair [.imm 2 []] H (.imm 2 []) H:=by
 refine Good.imm0 fun a c=>?_
 cases a with
 | none =>
  have run:∃ r H1,Good Tryz.prog σ n_slices_Clone_api_Pair_api_Pair [.lit (.slice none 0 c)] Hp.empty r H1∧r=.lit (.slice none 0 0):=slices_Clone_api_Pair_api_Pair.run (by simp)
  obtain ⟨r,H1,hg,rfl⟩:=run
  exact hg.frzR rfl .nil H
 | some a =>
  have run:∃ r H1,Good Tryz.prog σ n_slices_Clone_api_Pair_api_Pair [.lit (.slice (some a) 0 c)] Hp.empty r H1∧Fz H1 r (.imm 2 []):=by
   refine slices_Clone_api_Pair_api_Pair.run ?_
   simp [bldSlR,bldR,appR,srcA,beqN,notStr,zrow]
   exact .sl (cs:=[]) (ex:=true) (fun _ _=>.any) (by simp) rfl (by simp) (by simp) (by simp)
  obtain ⟨r,H1,hg,hf⟩:=run
  exact hg.frzR rfl hf H
theorem app_new {sz bytes:Nat} {z:List Value} {H:Hp} {rows:List (List AV)} (hr:rows≠[]) (h2:∀ row ∈ rows,row.length=sz) (hone:rows.flatten.all AV.one=true) (hb:rows.length*bytes≤140737488355328) (hn:rows.length≤4611686018427387904)
  {K:AV × Hp→Prop} (h:K (.sl (H.n+1) 0 sz rows.length none,(H.new (.cells [] true)).new (.cells rows.flatten false))) :
  bnd (bldSlR z sz 0 H []) fun p=>bnd (appR false sz bytes p.2 p.1 (.imm sz rows)) K:=by
 have h0:rows.length≠0:=by cases rows<;>simp at hr ⊢
 have e:zrow z 0=[]:=by simp [zrow]
 simp only [bldSlR,bldR,Nat.zero_mul,e,List.length_nil,beqN,decide_true,cond_true,bnd_some]
 simp only [appR,notStr,cond_true,src_imm,hone,beqN,h0,decide_false,cond_false,bleN]
 simp [hb,hn,h0]
 exact h
theorem clone_str (l:List ByteArray) (hb:l.length*16≤140737488355328) (H:Hp):Good Tryz.prog σ n_slices_Clone_string_string [strs l] H (strs l) H:=by
 cases l with
 | nil=>exact clone_str0 H
 | cons s l =>
  have run:∃ r H1,Good Tryz.prog σ n_slices_Clone_string_string [strs (s::l)] Hp.empty r H1∧Fz H1 r (strs (s::l)):=by
   refine slices_Clone_string_string.run ?_
   simp only [strs,List.map_cons,e_sl3,bnd_some,ifB_lit,Bool.false_eq_true,if_false]
   refine app_new (rows:=[Sx s]::l.map fun s=>[Sx s]) (K:=fun q=>Fz q.2 q.1 (.imm 1 ([Sx s]::l.map fun s=>[Sx s]))) (by simp) (fun row hrow=>?_) ?_ (by simpa using hb) (by simp at hb ⊢; omega) ?_
   ·rw [← List.map_cons (f:=fun s=>[Sx s])] at hrow
    obtain ⟨x,_,rfl⟩:=List.mem_map.1 hrow; rfl
   ·rw [← List.map_cons (f:=fun s=>[Sx s]),List.all_eq_true]
    intro x hx
    obtain ⟨row,hrow,hx⟩:=List.mem_flatten.1 hx
    obtain ⟨x,_,rfl⟩:=List.mem_map.1 hrow
    simp at hx; subst hx; rfl
   ·refine Fz.rows (cs:=([Sx s]::l.map fun s=>[Sx s]).flatten) (ex:=false) (by simp) (fun row hrow=>?_) ?_ ?_
    ·rw [← List.map_cons (f:=fun s=>[Sx s])] at hrow
     obtain ⟨x,_,rfl⟩:=List.mem_map.1 hrow; rfl
    ·rw [List.drop_zero]
     refine List.take_of_length_le ?_
     rw [flatten_len (sz:=1)]
     ·simp
     ·intro row hrow
      rw [← List.map_cons (f:=fun s=>[Sx s])] at hrow
      obtain ⟨x,_,rfl⟩:=List.mem_map.1 hrow; rfl
    ·rw [← List.map_cons (f:=fun s=>[Sx s])]; exact noIds_map _ (fun _=>rfl) _
  obtain ⟨r,H1,hg,hf⟩:=run
  exact hg.frzR (by simp [noIds]) hf H
def lowPr (p:ByteArray × ByteArray):ByteArray × ByteArray:=(lowB p.1,p.2)
def lowN (n:Nd):Nd:={ n with tag:=lowB n.tag,attrs:=n.attrs.map lowPr }
structure NdWf (n:Nd):Prop where
 parent:i64 n.parent
 tag:n.tag.data.size≤reachBytes
 classes:n.classes.length*16≤reachBytes
 attrs:n.attrs.length*32≤reachBytes
 names:∀ p ∈ n.attrs,p.1.data.size≤reachBytes
theorem reach_eq:reachBytes=140737488351232:=rfl
@[simp] theorem st_strs (H:Hp) (id off:Nat) (l:List ByteArray):stA 1 H (.ptr id off) (strs l)=stO 1 off [strs l] H id (H.get id):=st_ptr 1 H id off _ rfl rfl
theorem attrs_len {rows:List (ByteArray × ByteArray)}:∀ row ∈ rows.map encPr,row.length=2:=by
 intro row hrow
 obtain ⟨x,_,rfl⟩:=List.mem_map.1 hrow; rfl
theorem attrs_one {rows:List (ByteArray × ByteArray)}:(rows.map encPr).flatten.all AV.one=true:=by
 rw [List.all_eq_true]
 intro x hx
 obtain ⟨row,hrow,hx⟩:=List.mem_flatten.1 hx
 obtain ⟨x,_,rfl⟩:=List.mem_map.1 hrow
 simp [encPr] at hx
 rcases hx with rfl | rfl<;>rfl
theorem copied_sp (n:Nd) (hn:NdWf n) {H:Hp} {K:AV→Hp→Prop}
  (h0:n.attrs=[]→∀ H',H'.n ≥ H.n→(∀ j,j<H.n→H'.get j=H.get j)→K (.agg (encNd n)) H')
  (h1:n.attrs≠[]→∀ H' id,H'.n ≥ H.n→(∀ j,j<H.n→H'.get j=H.get j)→H.n≤id→id<H'.n→H'.get id=some (.cells (n.attrs.map encPr).flatten false) →
   K (.agg [I n.parent,Sx n.tag,Sx n.id,strs n.classes,.sl id 0 2 n.attrs.length none]) H') :
  callK Tryz.prog σ n_dom_copied [.agg (encNd n)] H K:=by
 have hc:=hn.classes
 have ha:=hn.attrs
 rw [reach_eq] at hc ha
 have nlt:∀ {j:Nat},j<H.n→j≠H.n∧j≠H.n+1∧j≠H.n+2∧j≠H.n+3:=fun h=>by omega
 refine dom_copied.run ?_
 simp [encNd]
 refine callK_of (clone_str _ (by omega) _) ?_
 simp
 by_cases he:n.attrs=[]
 ·rw [he]
  refine callK_of (clone_pr0 _) ?_
  have e:encNd n=[I n.parent,Sx n.tag,Sx n.id,strs n.classes,.imm 2 []]:=by simp [encNd,he]
  rw [e] at h0
  simp [ldL_all]
  exact h0 he _ (by simp; omega) (fun j hj=>by have:=nlt hj; simp [this])
 ·obtain ⟨p,ps,hps⟩:=List.exists_cons_of_ne_nil he
  refine slices_Clone_api_Pair_api_Pair.run ?_
  rw [hps,List.map_cons]
  simp only [e_sl3,bnd_some,ifB_lit,Bool.false_eq_true,if_false]
  rw [← List.map_cons,← hps]
  refine app_new (rows:=n.attrs.map encPr) (by simpa using he) attrs_len attrs_one (by simpa using Nat.le_trans ha (by omega)) (by simp; omega) ?_
  have q1:¬ (H.n=H.n+1+1+1):=by omega
  have q2:¬ (H.n=H.n+1+1):=by omega
  have q3:¬ (H.n+1=H.n+1+1+1):=by omega
  simp [ldL_all,q1,q2,q3]
  refine h1 he _ _ ?_ (fun j hj=>?_) ?_ ?_ ?_
  ·simp; omega
  ·have:=nlt hj
   have q4:j≠H.n+1+1:=by omega
   have q5:j≠H.n+1+1+1:=by omega
   simp [this,q4,q5]
  ·omega
  ·simp
  ·have q6:¬ (H.n+1+1=H.n):=by omega
   have q7:¬ (H.n+1+1+1=H.n):=by omega
   have q8:¬ (H.n+1+1+1=H.n+1):=by omega
   have q9:¬ (H.n+1+1=H.n+1):=by omega
   simp [q6,q7,q8,q9]
theorem low_take {l l0:List (ByteArray × ByteArray)} {k:Nat} (hk:k<l0.length) (hl:l.length=l0.length) (h1:l.take k=(l0.take k).map lowPr) (h2:l.drop k=l0.drop k) :
  ∃ hk':k<l.length,l[k]=l0[k]∧(l.set k (lowPr l0[k])).take (k+1)=(l0.take (k+1)).map lowPr∧(l.set k (lowPr l0[k])).drop (k+1)=l0.drop (k+1):=by
 have hk':k<l.length:=by omega
 rw [List.drop_eq_getElem_cons hk',List.drop_eq_getElem_cons hk] at h2
 have h3:=List.cons.inj h2
 refine ⟨hk',h3.1,?_,?_⟩
 ·rw [List.take_succ_eq_append_getElem (by simpa using hk'),List.take_succ_eq_append_getElem hk,List.map_append,← h1,List.take_set_of_le (by omega)]
  simp
 ·rw [List.drop_set_of_lt (by omega)]; exact h3.2
theorem dlow_L0 (n:Nd) (hn:NdWf n) {K:AV→Hp→Prop} {id b1 b2:Nat} {par tg idd cl:AV} (h12:b1≠b2) (hi1:id≠b1) (hi2:id≠b2) (ho:[par,tg,idd,cl].all AV.one=true):∀ (d k:Nat) (l:List (ByteArray × ByteArray)) (H:Hp),H.get b1=some (.cells [par,tg,idd,cl,.sl id 0 2 n.attrs.length none] true)→(∃ cs,H.get b2=some (.cells cs true)∧cs.length=5) →
  H.get id=some (.cells (l.map encPr).flatten false)→l.length=n.attrs.length→n.attrs.length - k=d→k≤n.attrs.length→l.take k=(n.attrs.take k).map lowPr→l.drop k=n.attrs.drop k →
  (∀ H',H'.get id=some (.cells ((n.attrs.map lowPr).map encPr).flatten false)→K (.agg [par,tg,idd,cl,.sl id 0 2 n.attrs.length none]) H') →
  dom_lowered.L0 σ K (.ptr b1 0) (.ptr b2 0) (I n.attrs.length) (I k) H:=by
 have ha:=hn.attrs
 rw [reach_eq] at ha
 intro d
 induction d with
 | zero =>
  intro k l H g1 g2 gi hl hd hk h1 h2 hK
  obtain ⟨cs,g2,hcs⟩:=g2
  have e:k=n.attrs.length:=by omega
  subst e
  have el:l=n.attrs.map lowPr:=by
   rw [← hl,List.take_length,hl,List.take_length] at h1
   exact h1
  refine dom_lowered.L0_step ?_
  simp [g1,g2,ldL_all,hcs]
  simp at ho
  simp [ho,overlay_all,hcs,ldL_all]
  refine hK _ ?_
  simp [hi2,gi,el]
 | succ d ih =>
  intro k l H g1 g2 gi hl hd hk h1 h2 hK
  have hlt:k<n.attrs.length:=by omega
  obtain ⟨hlt',hlk,h3,h4⟩:=low_take hlt hl h1 h2
  have hsz:(n.attrs[k]).1.data.size<9000000000000000000:=by
   have:=hn.names _ (List.getElem_mem hlt)
   rw [reach_eq] at this
   omega
  have hdrop:((l.map encPr).flatten).drop (k*2)=encPr n.attrs[k]++((l.map encPr).drop (k+1)).flatten:=by
   rw [flat_drop attrs_len (by simpa using hlt'),List.getElem_map,hlk]
  refine dom_lowered.L0_step ?_
  simp [g1,hlt,ix_sl,gi,hdrop,encPr]
  refine callK_of (Lower_ok _ hsz _) ?_
  have hlen:k*2+1≤((l.map encPr).flatten).length:=by
   rw [flatten_len attrs_len,List.length_map]; omega
  simp [g1,gi]
  rw [if_pos (by simpa using hlen),bnd_some,wr_succ (by omega)]
  refine ih (k+1) (l.set k (lowPr n.attrs[k])) _ (by simp [Ne.symm hi1,g1]) ?_ ?_ (by simpa using hl) (by omega) (by omega) h3 h4 hK
  ·obtain ⟨cs,g2,hcs⟩:=g2
   exact ⟨cs,by simp [Ne.symm hi2,g2],hcs⟩
  ·simp
   have:=flat_overlay (sz:=2) (xs:=[Sx (lowB n.attrs[k].1)]) (k:=0) (by simp) (rows:=l.map encPr) (w:=k) attrs_len (by simpa using hlt')
   rw [Nat.add_zero] at this
   rw [this]
   congr 3
   simp [encPr,lowPr,hlk]
theorem dLow_ok (n:Nd) (hn:NdWf n) (H:Hp):Good Tryz.prog σ n_dom_lowered [.agg (encNd n)] H (.agg (encNd (lowN n))) H:=by
 have ht:n.tag.data.size<9000000000000000000:=by
  have:=hn.tag
  rw [reach_eq] at this; omega
 obtain ⟨Q,hQ⟩:∃ Q:AV→Hp→Prop,∀ r H1,Q r H1 ↔ Fz H1 r (.agg (encNd (lowN n))):=⟨_,fun _ _=>Iff.rfl⟩
 have run:∃ r H1,Good Tryz.prog σ n_dom_lowered [.agg (encNd n)] Hp.empty r H1∧Q r H1:=by
  refine dom_lowered.run ?_
  simp
  refine copied_sp n hn (fun he H' hn' hs=>?_) (fun he H' id hn' hs hid hid' hg=>?_)
  ·have e0:H'.get Hp.empty.n=some (.cells (encNd n) true):=by rw [hs _ (by simp; omega)]; simp
   have e1:H'.get (Hp.empty.n+1)=some (.cells [I 0,Sx ⟨#[]⟩,Sx ⟨#[]⟩,.lit (.slice none 0 0),.lit (.slice none 0 0)] true):=by rw [hs _ (by simp)]; simp
   generalize Hp.empty.n=z at e0 e1 ⊢
   simp [e0,e1,encNd,he,overlay_all]
   refine callK_of (Lower_ok _ ht _) ?_
   simp [e0,e1,overlay_all]
   refine dom_lowered.L0_step ?_
   simp [e0,e1,ldL_all,overlay_all]
   rw [hQ]
   have e2:encNd (lowN n)=[I n.parent,Sx (lowB n.tag),Sx n.id,strs n.classes,.imm 2 []]:=by simp [lowN,encNd,he]
   rw [e2]
   exact .refl (by simp [noIds,noId,noIdss])
  ·have e0:H'.get Hp.empty.n=some (.cells (encNd n) true):=by rw [hs _ (by simp; omega)]; simp
   have e1:H'.get (Hp.empty.n+1)=some (.cells [I 0,Sx ⟨#[]⟩,Sx ⟨#[]⟩,.lit (.slice none 0 0),.lit (.slice none 0 0)] true):=by rw [hs _ (by simp)]; simp
   have hid:Hp.empty.n+2≤id:=by simpa using hid
   generalize Hp.empty.n=z at e0 e1 hid ⊢
   have d1:id≠z:=by omega
   have d2:id≠z+1:=by omega
   simp [e0,e1,encNd,overlay_all]
   refine callK_of (Lower_ok _ ht _) ?_
   simp [e0,e1,overlay_all]
   refine dlow_L0 n hn (id:=id) (by omega) d1 d2 ?_ _ 0 n.attrs _ (by rw [hp_get_set,if_pos rfl]) ⟨_,by simp [e1]; rfl,rfl⟩ (by simp [d1,hg]) rfl rfl (Nat.zero_le _) (by simp) rfl fun H2 h2=>?_
   ·simp
   rw [hQ]
   refine .aggL (.cons (.refl rfl) (.cons (.refl rfl) (.cons (.refl rfl) (.cons (.refl (noId_strs _)) (.cons ?_ .nil)))))
   have:=Fz.rows (cap:=none) h2 (rows:=(n.attrs.map lowPr).map encPr) (off:=0) attrs_len (by rw [List.drop_zero]; exact List.take_of_length_le (by rw [flatten_len attrs_len]; exact Nat.le_refl _)) (noIds_map _ (fun _=>rfl) _)
   simpa [lowN] using this
 obtain ⟨r,H1,hg,hf⟩:=run
 rw [hQ] at hf
 exact hg.frzR (by simp [noIds,noId,noId_Nd]) hf H
end Go.Proofs.YthdcghnjndhecaaGreat.Ev
namespace Go.Proofs.YthdcghnjndhecaaGreat.Ev
set_option linter.unusedVariables false
set_option linter.unusedSimpArgs false
variable {σ:Sig}
theorem map_take_succ {α β:Type} {f:α→β} {l:List α} {k:Nat} (h:k<l.length):(l.take (k+1)).map f=(l.take k).map f++[f l[k]]:=by
 rw [List.take_succ_eq_append_getElem h,List.map_append]; rfl
theorem rlow_L0 (n:Nd) (hn:NdWf n) {K:AV→Hp→Prop} {b1 b2:Nat} {par tg idd cl:AV} {cr:List (List AV)} (h12:b1≠b2) (ho:[par,tg,idd].all AV.one=true) (ho1:AV.one cl=true):∀ (d k:Nat) (y:AV) (H:Hp),b1<H.n→b2<H.n→H.get b1=some (.cells [par,tg,idd,cl,.imm 2 (n.attrs.map encPr)] true)→(∃ cs,H.get b2=some (.cells cs true)∧cs.length=5) →
  Gs 1 H cl cr→Gs 2 H y ((n.attrs.take k).map fun p=>encPr (lowPr p))→¬ own cl b1→¬ own cl b2→¬ own y b1→¬ own y b2→(∀ j,own cl j→¬ own y j)→n.attrs.length - k=d→k≤n.attrs.length →
  (∀ y' H',Gs 1 H' cl cr→Gs 2 H' y' (n.attrs.map fun p=>encPr (lowPr p))→K (.agg [par,tg,idd,cl,y']) H') →
  ref9_lowered.L0 σ K (.ptr b1 0) (.ptr b2 0) y (I k) H:=by
 have ha:=hn.attrs
 rw [reach_eq] at ha
 intro d
 induction d with
 | zero =>
  intro k y H l1 l2 g1 g2 gc gy c1 c2 y1 y2 hd' hd hk hK
  obtain ⟨cs,g2,hcs⟩:=g2
  have e:k=n.attrs.length:=by omega
  subst e
  rw [List.take_length] at gy
  refine ref9_lowered.L0_step ?_
  simp at ho
  have o5:=gy.one
  simp [g1,gy.st (id:=b1) (off:=4) g1 (by simp),ldL_all,g2,hcs,Ne.symm h12,ho,ho1,o5,overlay_all]
  refine hK _ _ (gc.keep (fun j hj=>?_) (by simp)) (gy.keep (fun j hj=>?_) (by simp))
  ·have:j≠b1:=fun e=>c1 (e ▸ hj)
   have:j≠b2:=fun e=>c2 (e ▸ hj)
   simp [*]
  ·have:j≠b1:=fun e=>y1 (e ▸ hj)
   have:j≠b2:=fun e=>y2 (e ▸ hj)
   simp [*]
 | succ d ih =>
  intro k y H l1 l2 g1 g2 gc gy c1 c2 y1 y2 hd' hd hk hK
  have hlt:k<n.attrs.length:=by omega
  have hget:n.attrs[k]?=some n.attrs[k]:=List.getElem?_eq_getElem hlt
  have hsz:(n.attrs[k]).1.data.size<9000000000000000000:=by
   have:=hn.names _ (List.getElem_mem hlt)
   rw [reach_eq] at this
   omega
  refine ref9_lowered.L0_step ?_
  simp [g1,hlt,ix_map hget,encPr]
  refine callK_of (rLower_ok _ hsz _) ?_
  simp [g1,ix_map hget,encPr,bldR,beqN,bleN]
  refine bnd_app1 gy rfl rfl rfl (by simp; omega) (by simp; omega) fun y' H' gy' f=>?_
  have n1:∀ {j:Nat},j<H.n→¬ own y j→¬ own y' j:=fun hj hy h=>by
   rcases f.mine _ h with h | h
   ·exact hy h
   ·omega
  rw [wr_succ (by omega)]
  refine ih (k+1) y' H' (Nat.lt_of_lt_of_le l1 f.grow) (Nat.lt_of_lt_of_le l2 f.grow) (by rw [f.same _ l1 y1]; exact g1) ?_ (gc.keep (fun j hj=>f.same j (gc.lt hj) (hd' j hj)) f.grow) ?_ c1 c2 (n1 l1 y1) (n1 l2 y2) (fun j hj=>n1 (gc.lt hj) (hd' j hj)) (by omega) (by omega) hK
  ·obtain ⟨cs,g2,hcs⟩:=g2
   exact ⟨cs,by rw [f.same _ l2 y2]; exact g2,hcs⟩
  ·rw [map_take_succ hlt]
   exact gy'
theorem rLow_ok (n:Nd) (hn:NdWf n) (H:Hp):Good Tryz.prog σ n_ref9_lowered [.agg (encNd n)] H (.agg (encNd (lowN n))) H:=by
 have ht:n.tag.data.size<9000000000000000000:=by
  have:=hn.tag
  rw [reach_eq] at this; omega
 have hc:=hn.classes
 rw [reach_eq] at hc
 obtain ⟨Q,hQ⟩:∃ Q:AV→Hp→Prop,∀ r H1,Q r H1 ↔ Fz H1 r (.agg (encNd (lowN n))):=⟨_,fun _ _=>Iff.rfl⟩
 have run:∃ r H1,Good Tryz.prog σ n_ref9_lowered [.agg (encNd n)] Hp.empty r H1∧Q r H1:=by
  refine ref9_lowered.run ?_
  simp [encNd]
  refine callK_of (rLower_ok _ ht _) ?_
  simp
  refine bnd_app (rows2:=n.classes.map fun s=>[Sx s]) .nil rfl src_imm (fun row hrow=>?_) ?_ (by simp; omega) (by simp; omega) fun cl H2 gc f=>?_
  ·obtain ⟨x,_,rfl⟩:=List.mem_map.1 hrow; rfl
  ·rw [List.all_eq_true]
   intro x hx
   obtain ⟨row,hrow,hx⟩:=List.mem_flatten.1 hx
   obtain ⟨x,_,rfl⟩:=List.mem_map.1 hrow
   simp at hx; subst hx; rfl
  ·have f0:=f.same Hp.empty.n (by simp; omega) (fun h=>h)
   have f1:=f.same (Hp.empty.n+1) (by simp) (fun h=>h)
   have fm:=f.mine
   have fg:=f.grow
   simp at f0 f1 fg
   have c1:¬ own cl Hp.empty.n:=fun h=>by
    rcases fm _ h with h | h
    ·exact h
    ·have h:=h.1; simp at h; omega
   have c2:¬ own cl (Hp.empty.n+1):=fun h=>by
    rcases fm _ h with h | h
    ·exact h
    ·have h:=h.1; simp at h; omega
   clear fm f
   generalize Hp.empty.n=z at f0 f1 fg c1 c2 ⊢
   simp at gc
   simp [f0,gc.st (id:=z) (off:=3) f0 (by simp)]
   refine rlow_L0 n hn (by omega) ?_ gc.one _ 0 _ _ (by simp; omega) (by simp; omega) (by rw [hp_get_set,if_pos rfl]) ⟨_,by simp [f1]; rfl,rfl⟩ (gc.keep (fun j hj=>?_) (by simp)) .nil c1 c2 (fun h=>h) (fun h=>h) (fun j _ h=>h) rfl (Nat.zero_le _) fun y' H' g1 g2=>?_
   ·simp
   ·have:j≠z:=fun e=>c1 (e ▸ hj)
    simp [this]
   ·rw [hQ]
    refine .aggL (.cons (.refl rfl) (.cons (.refl rfl) (.cons (.refl rfl) (.cons ?_ (.cons ?_ .nil)))))
    ·exact g1.fz (noIds_map _ (fun _=>rfl) _)
    ·have:=g2.fz (noIds_map _ (fun _=>rfl) _)
     rw [show (lowN n).attrs.map encPr=n.attrs.map fun p=>encPr (lowPr p) by simp [lowN,Function.comp_def]]
     exact this
 obtain ⟨r,H1,hg,hf⟩:=run
 rw [hQ] at hf
 exact hg.frzR (by simp [noIds,noId,noId_Nd]) hf H
end Go.Proofs.YthdcghnjndhecaaGreat.Ev

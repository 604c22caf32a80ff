/- The walks, part 4: the evaluator, the functions, the laws. Conditions: none. -/
import Derived.Test.YtaoegkmfgfefgaaGreatZ3
namespace Go.Proofs.YtaoegkmfgfefgaaGreat.Ev
set_option maxRecDepth 100000
set_option maxHeartbeats 4000000
set_option linter.unusedVariables false
variable {σ:Sig} {K:AV→Hp→Prop} {H:Hp}
noncomputable def ref9_Deep.code:Code:=bodyOf Tryz.f86
noncomputable def ref9_Deep.Q0 (σ:Sig) (K:AV→Hp→Prop):Exit→List AV→Hp→Prop:=(nx (fQ Tryz.f86 σ K) fun T G=>wp (CZ σ) 230 (sR (sR ref9_Deep.code)) T G (fQ Tryz.f86 σ K))
noncomputable def ref9_Deep.Q1 (σ:Sig) (K:AV→Hp→Prop):Exit→List AV→Hp→Prop:=(nx (fun e T G=>(ref9_Deep.Q0 σ K) (unblock 0 e) T G) fun T G=>∀ j,LoopP (CZ σ) (lB (bB (sR (sL (sR ref9_Deep.code))))) (maskA 230 j 0 T) G (fun e T G=>(ref9_Deep.Q0 σ K) (unblock 0 e) T G))
noncomputable def ref9_Deep.L0 (σ:Sig) (K:AV→Hp→Prop) (y1 y2 y5 y6 y7:AV) (H:Hp):Prop:=∀ j:Nat→AV,LoopP (CZ σ) (lB (bB (sR (sL (sR ref9_Deep.code))))) ([j 0,y1,y2,j 3,j 4,y5,y6,y7]++jr j 8 39) H (fun e T G=>(ref9_Deep.Q0 σ K) (unblock 0 e) T G)
noncomputable def ref9_Deep.J1 (σ:Sig) (K:AV→Hp→Prop) (y1 y2 y5 y6 y7:AV) (H:Hp):Prop:=∀ j:Nat→AV,wp (CZ σ) 230 (sR (sR (lB (bB (sR (sL (sR ref9_Deep.code))))))) ([j 0,y1,y2,j 3,j 4,y5,y6,y7]++jr j 8 39) H (ref9_Deep.Q1 σ K)
noncomputable def ref9_Deep.L2 (σ:Sig) (K:AV→Hp→Prop) (y1 y2 y5 y6 y7:AV) (H:Hp):Prop:=∀ j:Nat→AV,LoopP (CZ σ) (lB (bB (sR (sR (sR (sR (bB (sL (sR (lB (bB (sR (sL (sR ref9_Deep.code)))))))))))))) ([j 0,y1,y2,j 3,j 4,y5,y6,y7]++jr j 8 39) H (fun e T G=>(fun e T G=>(nx (ref9_Deep.Q1 σ K) fun T G=>∀ j,wp (CZ σ) 230 (sR (sR (lB (bB (sR (sL (sR ref9_Deep.code))))))) (maskA 230 j 0 T) G (ref9_Deep.Q1 σ K)) (unblock 1 e) T G) (unblock 2 e) T G)
theorem ref9_Deep.L0_step {y1 y2 y5 y6 y7:AV} (h:bnd (shiftA y2 4) fun x1=>bnd (ldA false 1 H x1) fun x2=>bnd (lenSl x2) fun x3=>bnd (binR .lss y5 x3) fun x4=>ifB x4 (bnd (shiftA y2 4) fun x5=>bnd (ldA false 1 H x5) fun x6=>bnd (ixaSl 4 x6 y5) fun x7=>bnd (ldA true 4 H x7) fun x8=>allocK [I 0,I 0,I 0,.lit (.slice none 0 0)] H fun x9 H10=>bnd (stA 4 H10 x9 x8) fun H11=>bnd (shiftA x9 0) fun x12=>bnd (ldA false 1 H11 x12) fun x13=>bnd (binR .neq x13 (I 7)) fun x14=>ifB x14 (bnd (shiftA x9 0) fun x15=>bnd (ldA false 1 H11 x15) fun x16=>bnd (binR .neq x16 (I 8)) fun x17=>ifB x17 (ref9_Deep.J1 σ K y1 y2 y5 x9 y7 H11) (bnd (binR .geq y1 (I 8)) fun x18=>ifB x18 (K (Bo true) H11) (ref9_Deep.L2 σ K y1 y2 y5 x9 (I 0) H11))) (bnd (binR .geq y1 (I 8)) fun x19=>ifB x19 (K (Bo true) H11) (ref9_Deep.L2 σ K y1 y2 y5 x9 (I 0) H11))) (K (Bo false) H)):ref9_Deep.L0 σ K y1 y2 y5 y6 y7 H :=
 fun j=>lrd (g:=230) (Eq.mpr (by kernel_rfl) h)
theorem ref9_Deep.J1_step {y1 y2 y5 y6 y7:AV} (h:bnd (binR .add y5 (I 1)) fun x1=>ref9_Deep.L0 σ K y1 y2 x1 y6 y7 H):ref9_Deep.J1 σ K y1 y2 y5 y6 y7 H :=
 fun j=>Eq.mpr (by kernel_rfl) h
theorem ref9_Deep.L2_step {y1 y2 y5 y6 y7:AV} (h:bnd (shiftA y6 3) fun x1=>bnd (ldA false 1 H x1) fun x2=>bnd (lenSl x2) fun x3=>bnd (binR .lss y7 x3) fun x4=>ifB x4 (bnd (shiftA y6 3) fun x5=>bnd (ldA false 1 H x5) fun x6=>bnd (ixaSl 1 x6 y7) fun x7=>bnd (ldA true 1 H x7) fun x8=>bnd (binR .add y1 (I 1)) fun x9=>callK Tryz.prog σ n_ref9_DeepSel [x8,x9] H fun x10 H11=>ifB x10 (K (Bo true) H11) (bnd (binR .add y7 (I 1)) fun x12=>ref9_Deep.L2 σ K y1 y2 y5 y6 x12 H11)) (ref9_Deep.J1 σ K y1 y2 y5 y6 y7 H)):ref9_Deep.L2 σ K y1 y2 y5 y6 y7 H :=
 fun j=>lrd (g:=230) (Eq.mpr (by kernel_rfl) h)
theorem ref9_Deep.run {a0 a1:AV} (h:boxK a0 H fun x1 H2=>ref9_Deep.L0 σ K a1 x1 (I 0) (.lit undef) (.lit undef) H2):∃ r H1,Good Tryz.prog σ n_ref9_Deep [a0,a1] H r H1∧K r H1 :=
 gwp 230 (fn:=Tryz.f86) (f:=n_ref9_Deep) (c:=ref9_Deep.code) (by kernel_rfl) (by kernel_rfl) (Eq.mpr (by kernel_rfl) h)
noncomputable def ref9_Tree_front.code:Code:=bodyOf Tryz.f87
noncomputable def ref9_Tree_front.J0 (σ:Sig) (K:AV→Hp→Prop) (y5 y13:AV) (H:Hp):Prop:=∀ j:Nat→AV,wp (CZ σ) 8224 (sR (sR (sR ref9_Tree_front.code))) ([j 0,j 1,j 2,j 3,j 4,y5,j 6,j 7,j 8,j 9,j 10,j 11,j 12,y13]++jr j 14 50) H (fQ Tryz.f87 σ K)
theorem ref9_Tree_front.J0_step {y5 y13:AV} (h:bnd (ixaSl 1 y5 y13) fun x1=>bnd (ldA false 1 H x1) fun x2=>bnd (binR .eql x2 (I 1)) fun x3=>K x3 H):ref9_Tree_front.J0 σ K y5 y13 H :=
 fun j=>Eq.mpr (by kernel_rfl) h
theorem ref9_Tree_front.run {a0 a1 a2 a3 a4 a5:AV} (h:boxK a2 H fun x1 H2=>bnd (shiftA x1 0) fun x3=>bnd (ldA false 1 H2 x3) fun x4=>bnd (lenSl x4) fun x5=>bnd (binR .mul a1 x5) fun x6=>bnd (binR .add x6 a3) fun x7=>bnd (binR .sub x7 (I 1)) fun x8=>bnd (ixaSl 1 a5 x8) fun x9=>bnd (ldA false 1 H2 x9) fun x10=>bnd (binR .eql x10 (I 0)) fun x11=>ifB x11 (bnd (shiftA x1 0) fun x12=>bnd (ldA false 1 H2 x12) fun x13=>bnd (binR .sub a3 (I 1)) fun x14=>bnd (ixaSl 6 x13 x14) fun x15=>bnd (shiftA x15 1) fun x16=>bnd (ldA true 5 H2 x16) fun x17=>callK Tryz.prog σ n_ref9_Tree_compound [a0,a1,x17,a4] H2 fun x18 H19=>ifB x18 (bnd (binR .eql a3 (I 1)) fun x20=>ifB x20 (bnd (ixaSl 1 a5 x8) fun x21=>bnd (stA 1 H19 x21 (I 2)) fun H22=>bnd (ixaSl 1 a5 x8) fun x23=>bnd (stA 1 H22 x23 (I 1)) fun H24=>ref9_Tree_front.J0 σ K a5 x8 H24) (bnd (ldA true 1 H19 x1) fun x25=>callK Tryz.prog σ n_ref9_Tree_hangs [a0,a1,x25,a3,a4,a5] H19 fun x26 H27=>bnd (ixaSl 1 a5 x8) fun x28=>bnd (stA 1 H27 x28 (I 2)) fun H29=>ifB x26 (bnd (ixaSl 1 a5 x8) fun x30=>bnd (stA 1 H29 x30 (I 1)) fun H31=>ref9_Tree_front.J0 σ K a5 x8 H31) (ref9_Tree_front.J0 σ K a5 x8 H29))) (bnd (ixaSl 1 a5 x8) fun x32=>bnd (stA 1 H19 x32 (I 2)) fun H33=>ref9_Tree_front.J0 σ K a5 x8 H33)) (ref9_Tree_front.J0 σ K a5 x8 H2)):∃ r H1,Good Tryz.prog σ n_ref9_Tree_front [a0,a1,a2,a3,a4,a5] H r H1∧K r H1 :=
 gwp 8224 (fn:=Tryz.f87) (f:=n_ref9_Tree_front) (c:=ref9_Tree_front.code) (by kernel_rfl) (by kernel_rfl) (Eq.mpr (by kernel_rfl) h)
noncomputable def text_Lower.code:Code:=bodyOf Tryz.f89
noncomputable def text_Lower.Q0 (σ:Sig) (K:AV→Hp→Prop):Exit→List AV→Hp→Prop:=(nx (fQ Tryz.f89 σ K) fun T G=>wp (CZ σ) 1800 (sR (sR (sR text_Lower.code))) T G (fQ Tryz.f89 σ K))
noncomputable def text_Lower.L0 (σ:Sig) (K:AV→Hp→Prop) (y3 y8 y9 y10:AV) (H:Hp):Prop:=∀ j:Nat→AV,LoopP (CZ σ) (lB (bB (sR (sL (sR (sR text_Lower.code)))))) ([j 0,j 1,j 2,y3,j 4,j 5,j 6,j 7,y8,y9,y10]++jr j 11 19) H (fun e T G=>(text_Lower.Q0 σ K) (unblock 0 e) T G)
noncomputable def text_Lower.J1 (σ:Sig) (K:AV→Hp→Prop) (y3 y8 y9 y10:AV) (H:Hp):Prop:=∀ j:Nat→AV,wp (CZ σ) 1800 (sR (sR (sR (lB (bB (sR (sL (sR (sR text_Lower.code))))))))) ([j 0,j 1,j 2,y3,j 4,j 5,j 6,j 7,y8,y9,y10]++jr j 11 19) H (nx (fun e T G=>(text_Lower.Q0 σ K) (unblock 0 e) T G) fun T G=>∀ j,LoopP (CZ σ) (lB (bB (sR (sL (sR (sR text_Lower.code)))))) (maskA 1800 j 0 T) G (fun e T G=>(text_Lower.Q0 σ K) (unblock 0 e) T G))
theorem text_Lower.L0_step {y3 y8 y9 y10:AV} (h:bnd (binR .lss y10 y9) fun x1=>ifB x1 (bnd (ixaSl 1 y8 y10) fun x2=>bnd (ldA false 1 H x2) fun x3=>bnd (binR .geq x3 (.lit (.int .u8 65))) fun x4=>ifB x4 (bnd (binR .leq x3 (.lit (.int .u8 90))) fun x5=>ifB x5 (bnd (binR .add x3 (.lit (.int .u8 97))) fun x6=>bnd (binR .sub x6 (.lit (.int .u8 65))) fun x7=>bnd (ixaSl 1 y3 y10) fun x8=>bnd (stA 1 H x8 x7) fun H9=>text_Lower.J1 σ K y3 y8 y9 y10 H9) (text_Lower.J1 σ K y3 y8 y9 y10 H)) (text_Lower.J1 σ K y3 y8 y9 y10 H)) (bnd (cvToStr H y3) fun x10=>K x10 H)):text_Lower.L0 σ K y3 y8 y9 y10 H :=
 fun j=>lrd (g:=1800) (Eq.mpr (by kernel_rfl) h)
theorem text_Lower.J1_step {y3 y8 y9 y10:AV} (h:bnd (binR .add y10 (I 1)) fun x1=>text_Lower.L0 σ K y3 y8 y9 x1 H):text_Lower.J1 σ K y3 y8 y9 y10 H :=
 fun j=>Eq.mpr (by kernel_rfl) h
noncomputable def ref9_Tree_compound.code:Code:=bodyOf Tryz.f114
noncomputable def ref9_Tree_compound.L0 (σ:Sig) (K:AV→Hp→Prop) (y0 y1 y3 y6 y9 y10 y11 y12 y14:AV) (H:Hp):Prop:=∀ j:Nat→AV,LoopP (CZ σ) (lB (bB (sR (sL (sR (sR (sR (sR ref9_Tree_compound.code)))))))) ([y0,y1,j 2,y3,j 4,j 5,y6,j 7,j 8,y9,y10,y11,y12,j 13,y14]++jr j 15 92) H (fun e T G=>(nx (fQ Tryz.f114 σ K) fun T G=>wp (CZ σ) 24139 (sR (sR (sR (sR (sR ref9_Tree_compound.code))))) T G (fQ Tryz.f114 σ K)) (unblock 0 e) T G)
noncomputable def ref9_Tree_compound.L1 (σ:Sig) (K:AV→Hp→Prop) (y0 y1 y3 y6 y9 y10 y11 y12 y14:AV) (H:Hp):Prop:=∀ j:Nat→AV,LoopP (CZ σ) (lB (bB (sR (sL (sR (sR (sR (sR (sR ref9_Tree_compound.code))))))))) ([y0,y1,j 2,y3,j 4,j 5,y6,j 7,j 8,y9,y10,y11,y12,j 13,y14]++jr j 15 92) H (fun e T G=>(nx (fQ Tryz.f114 σ K) fun T G=>wp (CZ σ) 24139 (sR (sR (sR (sR (sR (sR ref9_Tree_compound.code)))))) T G (fQ Tryz.f114 σ K)) (unblock 2 e) T G)
noncomputable def ref9_Tree_compound.L2 (σ:Sig) (K:AV→Hp→Prop) (y0 y1 y3 y6 y9 y10 y11 y12 y14:AV) (H:Hp):Prop:=∀ j:Nat→AV,LoopP (CZ σ) (lB (bB (sR (sL (sR (sR (sR (sR (sR (sR ref9_Tree_compound.code)))))))))) ([y0,y1,j 2,y3,j 4,j 5,y6,j 7,j 8,y9,y10,y11,y12,j 13,y14]++jr j 15 92) H (fun e T G=>(nx (fQ Tryz.f114 σ K) fun T G=>wp (CZ σ) 24139 (sR (sR (sR (sR (sR (sR (sR ref9_Tree_compound.code))))))) T G (fQ Tryz.f114 σ K)) (unblock 4 e) T G)
noncomputable def ref9_Tree_compound.L3 (σ:Sig) (K:AV→Hp→Prop) (y0 y1 y3 y6 y9 y10 y11 y12 y14:AV) (H:Hp):Prop:=∀ j:Nat→AV,LoopP (CZ σ) (lB (bB (sR (sL (sR (sR (sR (sR (sR (sR (sR ref9_Tree_compound.code))))))))))) ([y0,y1,j 2,y3,j 4,j 5,y6,j 7,j 8,y9,y10,y11,y12,j 13,y14]++jr j 15 92) H (fun e T G=>(nx (fQ Tryz.f114 σ K) fun T G=>wp (CZ σ) 24139 (sR (sR (sR (sR (sR (sR (sR (sR ref9_Tree_compound.code)))))))) T G (fQ Tryz.f114 σ K)) (unblock 6 e) T G)
theorem ref9_Tree_compound.L0_step {y0 y1 y3 y6 y9 y10 y11 y12 y14:AV} (h:bnd (shiftA y6 1) fun x1=>bnd (ldA false 1 H x1) fun x2=>bnd (lenSl x2) fun x3=>bnd (binR .lss y10 x3) fun x4=>ifB x4 (bnd (shiftA y6 1) fun x5=>bnd (ldA false 1 H x5) fun x6=>bnd (ixaSl 1 x6 y10) fun x7=>bnd (ldA false 1 H x7) fun x8=>bnd (shiftA y9 2) fun x9=>bnd (ldA false 1 H x9) fun x10=>bnd (binR .neq x8 x10) fun x11=>ifB x11 (K (Bo false) H) (bnd (shiftA y9 2) fun x12=>bnd (ldA false 1 H x12) fun x13=>bnd (binR .eql x13 (.lit (.string ⟨#[]⟩))) fun x14=>ifB x14 (K (Bo false) H) (bnd (binR .add y10 (I 1)) fun x15=>ref9_Tree_compound.L0 σ K y0 y1 y3 y6 y9 x15 y11 y12 y14 H))) (ref9_Tree_compound.L1 σ K y0 y1 y3 y6 y9 y10 (I 0) y12 y14 H)):ref9_Tree_compound.L0 σ K y0 y1 y3 y6 y9 y10 y11 y12 y14 H :=
 fun j=>lrd (g:=24139) (Eq.mpr (by kernel_rfl) h)
theorem ref9_Tree_compound.L1_step {y0 y1 y3 y6 y9 y10 y11 y12 y14:AV} (h:bnd (shiftA y6 2) fun x1=>bnd (ldA false 1 H x1) fun x2=>bnd (lenSl x2) fun x3=>bnd (binR .lss y11 x3) fun x4=>ifB x4 (bnd (shiftA y9 3) fun x5=>bnd (ldA false 1 H x5) fun x6=>bnd (shiftA y6 2) fun x7=>bnd (ldA false 1 H x7) fun x8=>bnd (ixaSl 1 x8 y11) fun x9=>bnd (ldA false 1 H x9) fun x10=>callK Tryz.prog σ n_ref9_has [x6,x10] H fun x11 H12=>bnd (unR .not x11) fun x13=>ifB x13 (K (Bo false) H12) (bnd (binR .add y11 (I 1)) fun x14=>ref9_Tree_compound.L1 σ K y0 y1 y3 y6 y9 y10 x14 y12 y14 H12)) (ref9_Tree_compound.L2 σ K y0 y1 y3 y6 y9 y10 y11 (I 0) y14 H)):ref9_Tree_compound.L1 σ K y0 y1 y3 y6 y9 y10 y11 y12 y14 H :=
 fun j=>lrd (g:=24139) (Eq.mpr (by kernel_rfl) h)
theorem ref9_Tree_compound.L2_step {y0 y1 y3 y6 y9 y10 y11 y12 y14:AV} (h:bnd (shiftA y6 3) fun x1=>bnd (ldA false 1 H x1) fun x2=>bnd (lenSl x2) fun x3=>bnd (binR .lss y12 x3) fun x4=>ifB x4 (bnd (ldA true 5 H y9) fun x5=>bnd (shiftA y6 3) fun x6=>bnd (ldA false 1 H x6) fun x7=>bnd (ixaSl 3 x7 y12) fun x8=>bnd (ldA true 3 H x8) fun x9=>callK Tryz.prog σ n_ref9_attr [x5,x9] H fun x10 H11=>bnd (unR .not x10) fun x12=>ifB x12 (K (Bo false) H11) (bnd (binR .add y12 (I 1)) fun x13=>ref9_Tree_compound.L2 σ K y0 y1 y3 y6 y9 y10 y11 x13 y14 H11)) (ref9_Tree_compound.L3 σ K y0 y1 y3 y6 y9 y10 y11 y12 (I 0) H)):ref9_Tree_compound.L2 σ K y0 y1 y3 y6 y9 y10 y11 y12 y14 H :=
 fun j=>lrd (g:=24139) (Eq.mpr (by kernel_rfl) h)
theorem ref9_Tree_compound.L3_step {y0 y1 y3 y6 y9 y10 y11 y12 y14:AV} (h:bnd (shiftA y6 4) fun x1=>bnd (ldA false 1 H x1) fun x2=>bnd (lenSl x2) fun x3=>bnd (binR .lss y14 x3) fun x4=>ifB x4 (bnd (shiftA y6 4) fun x5=>bnd (ldA false 1 H x5) fun x6=>bnd (ixaSl 4 x6 y14) fun x7=>bnd (ldA true 4 H x7) fun x8=>callK Tryz.prog σ n_ref9_Tree_pseudo [y0,y1,x8,y3] H fun x9 H10=>bnd (unR .not x9) fun x11=>ifB x11 (K (Bo false) H10) (bnd (binR .add y14 (I 1)) fun x12=>ref9_Tree_compound.L3 σ K y0 y1 y3 y6 y9 y10 y11 y12 x12 H10)) (K (Bo true) H)):ref9_Tree_compound.L3 σ K y0 y1 y3 y6 y9 y10 y11 y12 y14 H :=
 fun j=>lrd (g:=24139) (Eq.mpr (by kernel_rfl) h)
theorem ref9_Tree_compound.run {a0 a1 a2 a3:AV} (h:boxK a2 H fun x1 H2=>callK Tryz.prog σ n_ref9_Tree_is [a0,a1] H2 fun x3 H4=>bnd (unR .not x3) fun x5=>ifB x5 (K (Bo false) H4) (bnd (nilR a0) fun x6=>bnd (shiftA x6 0) fun x7=>bnd (ldA false 1 H4 x7) fun x8=>bnd (ixaSl 5 x8 a1) fun x9=>bnd (ldA true 5 H4 x9) fun x10=>allocK [I 0,.lit (.string ⟨#[]⟩),.lit (.string ⟨#[]⟩),.lit (.slice none 0 0),.lit (.slice none 0 0)] H4 fun x11 H12=>bnd (stA 5 H12 x11 x10) fun H13=>bnd (shiftA x1 0) fun x14=>bnd (ldA false 1 H13 x14) fun x15=>bnd (binR .neq x15 (.lit (.string ⟨#[]⟩))) fun x16=>ifB x16 (bnd (shiftA x1 0) fun x17=>bnd (ldA false 1 H13 x17) fun x18=>bnd (shiftA x11 1) fun x19=>bnd (ldA false 1 H13 x19) fun x20=>bnd (binR .neq x18 x20) fun x21=>ifB x21 (K (Bo false) H13) (ref9_Tree_compound.L0 σ K a0 a1 a3 x1 x11 (I 0) (.lit undef) (.lit undef) (.lit undef) H13)) (ref9_Tree_compound.L0 σ K a0 a1 a3 x1 x11 (I 0) (.lit undef) (.lit undef) (.lit undef) H13))):∃ r H1,Good Tryz.prog σ n_ref9_Tree_compound [a0,a1,a2,a3] H r H1∧K r H1 :=
 gwp 24139 (fn:=Tryz.f114) (f:=n_ref9_Tree_compound) (c:=ref9_Tree_compound.code) (by kernel_rfl) (by kernel_rfl) (Eq.mpr (by kernel_rfl) h)
noncomputable def ref9_Tree_hangs.code:Code:=bodyOf Tryz.f115
noncomputable def ref9_Tree_hangs.L0 (σ:Sig) (K:AV→Hp→Prop) (y0 y3 y4 y5 y8 y13 y15:AV) (H:Hp):Prop:=∀ j:Nat→AV,LoopP (CZ σ) (lB (bB (sR (cT (sR (bB (sR (sL (sR ref9_Tree_hangs.code))))))))) ([y0,j 1,j 2,y3,y4,y5,j 6,j 7,y8,j 9,j 10,j 11,j 12,y13,j 14,y15]++jr j 16 82) H (fun e T G=>(fun e T G=>(nx (fQ Tryz.f115 σ K) fun T G=>∀ j,wp (CZ σ) 41273 (sR (sR ref9_Tree_hangs.code)) (maskA 41273 j 0 T) G (fQ Tryz.f115 σ K)) (unblock 0 e) T G) (unblock 1 e) T G)
noncomputable def ref9_Tree_hangs.L1 (σ:Sig) (K:AV→Hp→Prop) (y0 y3 y4 y5 y8 y13 y15:AV) (H:Hp):Prop:=∀ j:Nat→AV,LoopP (CZ σ) (lB (bB (sR (cT (sR (cE (sR (cE (sR (cE (sR (bB (sR (sL (sR ref9_Tree_hangs.code))))))))))))))) ([y0,j 1,j 2,y3,y4,y5,j 6,j 7,y8,j 9,j 10,j 11,j 12,y13,j 14,y15]++jr j 16 82) H (fun e T G=>(fun e T G=>(nx (fQ Tryz.f115 σ K) fun T G=>∀ j,wp (CZ σ) 41273 (sR (sR ref9_Tree_hangs.code)) (maskA 41273 j 0 T) G (fQ Tryz.f115 σ K)) (unblock 0 e) T G) (unblock 3 e) T G)
noncomputable def ref9_Tree_hangs.J2 (σ:Sig) (K:AV→Hp→Prop) (y0 y3 y4 y5 y8 y13 y15:AV) (H:Hp):Prop:=∀ j:Nat→AV,wp (CZ σ) 41273 (sR (sR ref9_Tree_hangs.code)) ([y0,j 1,j 2,y3,y4,y5,j 6,j 7,y8,j 9,j 10,j 11,j 12,y13,j 14,y15]++jr j 16 82) H (fQ Tryz.f115 σ K)
theorem ref9_Tree_hangs.L0_step {y0 y3 y4 y5 y8 y13 y15:AV} (h:bnd (binR .geq y13 (I 0)) fun x1=>ifB x1 (bnd (ldA true 1 H y8) fun x2=>bnd (binR .sub y3 (I 1)) fun x3=>callK Tryz.prog σ n_ref9_Tree_front [y0,y13,x2,x3,y4,y5] H fun x4 H5=>ifB x4 (K (Bo true) H5) (callK Tryz.prog σ n_ref9_Tree_Parent [y0,y13] H5 fun x6 H7=>ref9_Tree_hangs.L0 σ K y0 y3 y4 y5 y8 x6 y15 H7)) (ref9_Tree_hangs.J2 σ K y0 y3 y4 y5 y8 y13 y15 H)):ref9_Tree_hangs.L0 σ K y0 y3 y4 y5 y8 y13 y15 H :=
 fun j=>lrd (g:=41273) (Eq.mpr (by kernel_rfl) h)
theorem ref9_Tree_hangs.L1_step {y0 y3 y4 y5 y8 y13 y15:AV} (h:bnd (binR .geq y15 (I 0)) fun x1=>ifB x1 (bnd (ldA true 1 H y8) fun x2=>bnd (binR .sub y3 (I 1)) fun x3=>callK Tryz.prog σ n_ref9_Tree_front [y0,y15,x2,x3,y4,y5] H fun x4 H5=>ifB x4 (K (Bo true) H5) (callK Tryz.prog σ n_ref9_Tree_Before [y0,y15] H5 fun x6 H7=>ref9_Tree_hangs.L1 σ K y0 y3 y4 y5 y8 y13 x6 H7)) (ref9_Tree_hangs.J2 σ K y0 y3 y4 y5 y8 y13 y15 H)):ref9_Tree_hangs.L1 σ K y0 y3 y4 y5 y8 y13 y15 H :=
 fun j=>lrd (g:=41273) (Eq.mpr (by kernel_rfl) h)
theorem ref9_Tree_hangs.J2_step {y0 y3 y4 y5 y8 y13 y15:AV} (h:K (Bo false) H):ref9_Tree_hangs.J2 σ K y0 y3 y4 y5 y8 y13 y15 H :=
 fun j=>Eq.mpr (by kernel_rfl) h
theorem ref9_Tree_hangs.run {a0 a1 a2 a3 a4 a5:AV} (h:boxK a2 H fun x1 H2=>bnd (shiftA x1 0) fun x3=>bnd (ldA false 1 H2 x3) fun x4=>bnd (binR .sub a3 (I 1)) fun x5=>bnd (ixaSl 6 x4 x5) fun x6=>bnd (shiftA x6 0) fun x7=>bnd (ldA false 1 H2 x7) fun x8=>bnd (binR .eql x8 (I 1)) fun x9=>ifB x9 (callK Tryz.prog σ n_ref9_Tree_Parent [a0,a1] H2 fun x10 H11=>ref9_Tree_hangs.L0 σ K a0 a3 a4 a5 x1 x10 (.lit undef) H11) (bnd (binR .eql x8 (I 2)) fun x12=>ifB x12 (callK Tryz.prog σ n_ref9_Tree_Parent [a0,a1] H2 fun x13 H14=>bnd (binR .geq x13 (I 0)) fun x15=>ifB x15 (callK Tryz.prog σ n_ref9_Tree_Parent [a0,a1] H14 fun x16 H17=>kpK (x1,some 1) H14 H17 (bnd (ldA true 1 H17 x1) fun x18=>bnd (binR .sub a3 (I 1)) fun x19=>callK Tryz.prog σ n_ref9_Tree_front [a0,x16,x18,x19,a4,a5] H17 fun x20 H21=>K x20 H21)) (K (Bo false) H14)) (bnd (binR .eql x8 (I 3)) fun x22=>ifB x22 (callK Tryz.prog σ n_ref9_Tree_Before [a0,a1] H2 fun x23 H24=>bnd (binR .geq x23 (I 0)) fun x25=>ifB x25 (callK Tryz.prog σ n_ref9_Tree_Before [a0,a1] H24 fun x26 H27=>kpK (x1,some 1) H24 H27 (bnd (ldA true 1 H27 x1) fun x28=>bnd (binR .sub a3 (I 1)) fun x29=>callK Tryz.prog σ n_ref9_Tree_front [a0,x26,x28,x29,a4,a5] H27 fun x30 H31=>K x30 H31)) (K (Bo false) H24)) (bnd (binR .eql x8 (I 4)) fun x32=>ifB x32 (callK Tryz.prog σ n_ref9_Tree_Before [a0,a1] H2 fun x33 H34=>ref9_Tree_hangs.L1 σ K a0 a3 a4 a5 x1 (.lit undef) x33 H34) (ref9_Tree_hangs.J2 σ K a0 a3 a4 a5 x1 (.lit undef) (.lit undef) H2))))):∃ r H1,Good Tryz.prog σ n_ref9_Tree_hangs [a0,a1,a2,a3,a4,a5] H r H1∧K r H1 :=
 gwp 41273 (fn:=Tryz.f115) (f:=n_ref9_Tree_hangs) (c:=ref9_Tree_hangs.code) (by kernel_rfl) (by kernel_rfl) (Eq.mpr (by kernel_rfl) h)
noncomputable def ref9_has.code:Code:=bodyOf Tryz.f127
noncomputable def ref9_has.L0 (σ:Sig) (K:AV→Hp→Prop) (y0 y1 y5:AV) (H:Hp):Prop:=∀ j:Nat→AV,LoopP (CZ σ) (lB (bB (sR (sL (sR ref9_has.code))))) ([y0,y1,j 2,j 3,j 4,y5]++jr j 6 12) H (fun e T G=>(nx (fQ Tryz.f127 σ K) fun T G=>wp (CZ σ) 35 (sR (sR ref9_has.code)) T G (fQ Tryz.f127 σ K)) (unblock 0 e) T G)
theorem ref9_has.L0_step {y0 y1 y5:AV} (h:bnd (lenSl y0) fun x1=>bnd (binR .lss y5 x1) fun x2=>ifB x2 (bnd (ixaSl 1 y0 y5) fun x3=>bnd (ldA false 1 H x3) fun x4=>bnd (binR .eql x4 y1) fun x5=>ifB x5 (K (Bo true) H) (bnd (binR .add y5 (I 1)) fun x6=>ref9_has.L0 σ K y0 y1 x6 H)) (K (Bo false) H)):ref9_has.L0 σ K y0 y1 y5 H :=
 fun j=>lrd (g:=35) (Eq.mpr (by kernel_rfl) h)
theorem ref9_has.run {a0 a1:AV} (h:ref9_has.L0 σ K a0 a1 (I 0) H):∃ r H1,Good Tryz.prog σ n_ref9_has [a0,a1] H r H1∧K r H1 :=
 gwp 35 (fn:=Tryz.f127) (f:=n_ref9_has) (c:=ref9_has.code) (by kernel_rfl) (by kernel_rfl) (Eq.mpr (by kernel_rfl) h)
noncomputable def ref9_attr.code:Code:=bodyOf Tryz.f128
noncomputable def ref9_attr.L0 (σ:Sig) (K:AV→Hp→Prop) (y2 y3 y5:AV) (H:Hp):Prop:=∀ j:Nat→AV,LoopP (CZ σ) (lB (bB (sR (sL (sR ref9_attr.code))))) ([j 0,j 1,y2,y3,j 4,y5]++jr j 6 103) H (fun e T G=>(nx (fQ Tryz.f128 σ K) fun T G=>wp (CZ σ) 44 (sR (sR ref9_attr.code)) T G (fQ Tryz.f128 σ K)) (unblock 0 e) T G)
theorem ref9_attr.L0_step {y2 y3 y5:AV} (h:bnd (shiftA y2 4) fun x1=>bnd (ldA false 1 H x1) fun x2=>bnd (lenSl x2) fun x3=>bnd (binR .lss y5 x3) fun x4=>ifB x4 (bnd (shiftA y2 4) fun x5=>bnd (ldA false 1 H x5) fun x6=>bnd (ixaSl 2 x6 y5) fun x7=>bnd (shiftA x7 0) fun x8=>bnd (ldA false 1 H x8) fun x9=>bnd (shiftA y3 0) fun x10=>bnd (ldA false 1 H x10) fun x11=>bnd (binR .neq x9 x11) fun x12=>ifB x12 (bnd (binR .add y5 (I 1)) fun x13=>ref9_attr.L0 σ K y2 y3 x13 H) (bnd (shiftA y2 4) fun x14=>bnd (ldA false 1 H x14) fun x15=>bnd (ixaSl 2 x15 y5) fun x16=>bnd (shiftA x16 1) fun x17=>bnd (ldA false 1 H x17) fun x18=>bnd (shiftA y3 1) fun x19=>bnd (ldA false 1 H x19) fun x20=>bnd (binR .eql x20 (I 0)) fun x21=>ifB x21 (K (Bo true) H) (bnd (binR .eql x20 (I 1)) fun x22=>ifB x22 (bnd (shiftA y3 2) fun x23=>bnd (ldA false 1 H x23) fun x24=>bnd (binR .eql x18 x24) fun x25=>K x25 H) (bnd (binR .eql x20 (I 2)) fun x26=>ifB x26 (bnd (shiftA y3 2) fun x27=>bnd (ldA false 1 H x27) fun x28=>callK Tryz.prog σ n_ref9_words [x28] H fun x29 H30=>bnd (lenSl x29) fun x31=>bnd (binR .eql x31 (I 1)) fun x32=>ifB x32 (bnd (ixaSl 1 x29 (I 0)) fun x33=>bnd (ldA false 1 H30 x33) fun x34=>bnd (shiftA y3 2) fun x35=>bnd (ldA false 1 H30 x35) fun x36=>bnd (binR .eql x34 x36) fun x37=>ifB x37 (callK Tryz.prog σ n_ref9_words [x18] H30 fun x38 H39=>bnd (shiftA y3 2) fun x40=>kpK (x40,some 1) H30 H39 (bnd (ldA false 1 H39 x40) fun x41=>callK Tryz.prog σ n_ref9_has [x38,x41] H39 fun x42 H43=>K x42 H43)) (K (Bo false) H30)) (K (Bo false) H30)) (bnd (binR .eql x20 (I 3)) fun x44=>ifB x44 (bnd (shiftA y3 2) fun x45=>bnd (ldA false 1 H x45) fun x46=>bnd (binR .eql x18 x46) fun x47=>ifB x47 (K (Bo true) H) (bnd (shiftA y3 2) fun x48=>bnd (ldA false 1 H x48) fun x49=>bnd (binR .add x49 (.lit (.string ⟨#[45]⟩))) fun x50=>callK Tryz.prog σ n_ref9_begins [x18,x50] H fun x51 H52=>K x51 H52)) (bnd (binR .eql x20 (I 4)) fun x53=>ifB x53 (bnd (shiftA y3 2) fun x54=>bnd (ldA false 1 H x54) fun x55=>bnd (binR .neq x55 (.lit (.string ⟨#[]⟩))) fun x56=>ifB x56 (bnd (shiftA y3 2) fun x57=>bnd (ldA false 1 H x57) fun x58=>callK Tryz.prog σ n_ref9_begins [x18,x58] H fun x59 H60=>K x59 H60) (K (Bo false) H)) (bnd (binR .eql x20 (I 5)) fun x61=>ifB x61 (bnd (shiftA y3 2) fun x62=>bnd (ldA false 1 H x62) fun x63=>bnd (binR .neq x63 (.lit (.string ⟨#[]⟩))) fun x64=>ifB x64 (bnd (shiftA y3 2) fun x65=>bnd (ldA false 1 H x65) fun x66=>callK Tryz.prog σ n_ref9_ends [x18,x66] H fun x67 H68=>K x67 H68) (K (Bo false) H)) (bnd (binR .eql x20 (I 6)) fun x69=>ifB x69 (bnd (shiftA y3 2) fun x70=>bnd (ldA false 1 H x70) fun x71=>bnd (binR .neq x71 (.lit (.string ⟨#[]⟩))) fun x72=>ifB x72 (bnd (shiftA y3 2) fun x73=>bnd (ldA false 1 H x73) fun x74=>callK Tryz.prog σ n_ref9_in [x18,x74] H fun x75 H76=>K x75 H76) (K (Bo false) H)) (K (Bo false) H))))))))) (K (Bo false) H)):ref9_attr.L0 σ K y2 y3 y5 H :=
 fun j=>lrd (g:=44) (Eq.mpr (by kernel_rfl) h)
theorem ref9_attr.run {a0 a1:AV} (h:boxK a0 H fun x1 H2=>boxK a1 H2 fun x3 H4=>ref9_attr.L0 σ K x1 x3 (I 0) H4):∃ r H1,Good Tryz.prog σ n_ref9_attr [a0,a1] H r H1∧K r H1 :=
 gwp 44 (fn:=Tryz.f128) (f:=n_ref9_attr) (c:=ref9_attr.code) (by kernel_rfl) (by kernel_rfl) (Eq.mpr (by kernel_rfl) h)
noncomputable def ref9_Tree_pseudo.code:Code:=bodyOf Tryz.f129
noncomputable def ref9_Tree_pseudo.J0 (σ:Sig) (K:AV→Hp→Prop) (y0 y1 y3 y6 y55:AV) (H:Hp):Prop:=∀ j:Nat→AV,wp (CZ σ) 36028797018964043 (sR (cE (sR (cE (sR (cE (sR (cE (sR (cE (sR (cE (sR (bB (sR (sL (sR ref9_Tree_pseudo.code))))))))))))))))) ([y0,y1,j 2,y3,j 4,j 5,y6,j 7,j 8,j 9,j 10,j 11,j 12,j 13,j 14,j 15,j 16,j 17,j 18,j 19,j 20,j 21,j 22,j 23,j 24,j 25,j 26,j 27,j 28,j 29,j 30,j 31,j 32,j 33,j 34,j 35,j 36,j 37,j 38,j 39,j 40,j 41,j 42,j 43,j 44,j 45,j 46,j 47,j 48,j 49,j 50,j 51,j 52,j 53,j 54,y55]++jr j 56 14) H (fun e T G=>(nx (fQ Tryz.f129 σ K) fun T G=>wp (CZ σ) 36028797018964043 (sR (sR ref9_Tree_pseudo.code)) T G (fQ Tryz.f129 σ K)) (unblock 0 e) T G)
theorem ref9_Tree_pseudo.J0_step {y0 y1 y3 y6 y55:AV} (h:ifB y55 (bnd (shiftA y6 3) fun x1=>bnd (ldA false 1 H x1) fun x2=>bnd (binR .add y3 (I 1)) fun x3=>callK Tryz.prog σ n_ref9_Tree_any [y0,y1,x2,x3] H fun x4 H5=>bnd (shiftA y6 0) fun x6=>bnd (ldA false 1 H5 x6) fun x7=>bnd (binR .eql x7 (I 8)) fun x8=>bnd (eqBoolR .eql x4 x8) fun x9=>K x9 H5) (K (Bo false) H)):ref9_Tree_pseudo.J0 σ K y0 y1 y3 y6 y55 H :=
 fun j=>Eq.mpr (by kernel_rfl) h
theorem ref9_Tree_pseudo.run {a0 a1 a2 a3:AV} (h:boxK a2 H fun x1 H2=>bnd (shiftA x1 0) fun x3=>bnd (ldA false 1 H2 x3) fun x4=>bnd (binR .eql x4 (I 1)) fun x5=>ifB x5 (bnd (binR .eql a1 (I 0)) fun x6=>K x6 H2) (bnd (binR .eql x4 (I 2)) fun x7=>ifB x7 (callK Tryz.prog σ n_ref9_Tree_Place [a0,a1] H2 fun x8 H9=>bnd (binR .eql x8 (I 1)) fun x10=>K x10 H9) (bnd (binR .eql x4 (I 3)) fun x11=>ifB x11 (callK Tryz.prog σ n_ref9_Tree_last [a0,a1] H2 fun x12 H13=>K x12 H13) (bnd (binR .eql x4 (I 4)) fun x14=>ifB x14 (callK Tryz.prog σ n_ref9_Tree_Place [a0,a1] H2 fun x15 H16=>bnd (binR .eql x15 (I 1)) fun x17=>ifB x17 (callK Tryz.prog σ n_ref9_Tree_last [a0,a1] H16 fun x18 H19=>K x18 H19) (K (Bo false) H16)) (bnd (binR .eql x4 (I 5)) fun x20=>ifB x20 (callK Tryz.prog σ n_ref9_Tree_Children [a0,a1] H2 fun x21 H22=>bnd (lenSl x21) fun x23=>bnd (binR .eql x23 (I 0)) fun x24=>K x24 H22) (bnd (binR .eql x4 (I 6)) fun x25=>ifB x25 (callK Tryz.prog σ n_ref9_Tree_Place [a0,a1] H2 fun x26 H27=>bnd (shiftA x1 1) fun x28=>kpK (x28,some 1) H2 H27 (bnd (ldA false 1 H27 x28) fun x29=>bnd (shiftA x1 2) fun x30=>kpK (x30,some 1) H2 H27 (bnd (ldA false 1 H27 x30) fun x31=>callK Tryz.prog σ n_ref9_nth [x26,x29,x31] H27 fun x32 H33=>K x32 H33))) (bnd (binR .eql x4 (I 7)) fun x34=>ifB x34 (ref9_Tree_pseudo.J0 σ K a0 a1 a3 x1 x34 H2) (bnd (binR .eql x4 (I 8)) fun x35=>ref9_Tree_pseudo.J0 σ K a0 a1 a3 x1 x35 H2)))))))):∃ r H1,Good Tryz.prog σ n_ref9_Tree_pseudo [a0,a1,a2,a3] H r H1∧K r H1 :=
 gwp 36028797018964043 (fn:=Tryz.f129) (f:=n_ref9_Tree_pseudo) (c:=ref9_Tree_pseudo.code) (by kernel_rfl) (by kernel_rfl) (Eq.mpr (by kernel_rfl) h)
noncomputable def ref9_Tree_Parent.code:Code:=bodyOf Tryz.f130
theorem ref9_Tree_Parent.run {a0 a1:AV} (h:callK Tryz.prog σ n_ref9_Tree_is [a0,a1] H fun x1 H2=>bnd (unR .not x1) fun x3=>ifB x3 (K (I (-1)) H2) (bnd (nilR a0) fun x4=>bnd (shiftA x4 0) fun x5=>bnd (ldA false 1 H2 x5) fun x6=>bnd (ixaSl 5 x6 a1) fun x7=>bnd (shiftA x7 0) fun x8=>bnd (ldA false 1 H2 x8) fun x9=>K x9 H2)):∃ r H1,Good Tryz.prog σ n_ref9_Tree_Parent [a0,a1] H r H1∧K r H1 :=
 gwp 0 (fn:=Tryz.f130) (f:=n_ref9_Tree_Parent) (c:=ref9_Tree_Parent.code) (by kernel_rfl) (by kernel_rfl) (Eq.mpr (by kernel_rfl) h)
noncomputable def ref9_Tree_Before.code:Code:=bodyOf Tryz.f131
noncomputable def ref9_Tree_Before.L0 (σ:Sig) (K:AV→Hp→Prop) (y0 y1 y5:AV) (H:Hp):Prop:=∀ j:Nat→AV,LoopP (CZ σ) (lB (bB (sR (sL (sR (sR ref9_Tree_Before.code)))))) ([y0,y1,j 2,j 3,j 4,y5]++jr j 6 32) H (fun e T G=>(nx (fQ Tryz.f131 σ K) fun T G=>wp (CZ σ) 35 (sR (sR (sR ref9_Tree_Before.code))) T G (fQ Tryz.f131 σ K)) (unblock 0 e) T G)
theorem ref9_Tree_Before.L0_step {y0 y1 y5:AV} (h:bnd (binR .gtr y5 (I 0)) fun x1=>ifB x1 (bnd (nilR y0) fun x2=>bnd (shiftA x2 0) fun x3=>bnd (ldA false 1 H x3) fun x4=>bnd (ixaSl 5 x4 y5) fun x5=>bnd (shiftA x5 0) fun x6=>bnd (ldA false 1 H x6) fun x7=>bnd (nilR y0) fun x8=>bnd (shiftA x8 0) fun x9=>bnd (ldA false 1 H x9) fun x10=>bnd (ixaSl 5 x10 y1) fun x11=>bnd (shiftA x11 0) fun x12=>bnd (ldA false 1 H x12) fun x13=>bnd (binR .eql x7 x13) fun x14=>ifB x14 (K y5 H) (bnd (binR .sub y5 (I 1)) fun x15=>ref9_Tree_Before.L0 σ K y0 y1 x15 H)) (K (I (-1)) H)):ref9_Tree_Before.L0 σ K y0 y1 y5 H :=
 fun j=>lrd (g:=35) (Eq.mpr (by kernel_rfl) h)
theorem ref9_Tree_Before.run {a0 a1:AV} (h:callK Tryz.prog σ n_ref9_Tree_is [a0,a1] H fun x1 H2=>bnd (unR .not x1) fun x3=>ifB x3 (K (I (-1)) H2) (bnd (binR .eql a1 (I 0)) fun x4=>ifB x4 (K (I (-1)) H2) (bnd (binR .sub a1 (I 1)) fun x5=>ref9_Tree_Before.L0 σ K a0 a1 x5 H2))):∃ r H1,Good Tryz.prog σ n_ref9_Tree_Before [a0,a1] H r H1∧K r H1 :=
 gwp 35 (fn:=Tryz.f131) (f:=n_ref9_Tree_Before) (c:=ref9_Tree_Before.code) (by kernel_rfl) (by kernel_rfl) (Eq.mpr (by kernel_rfl) h)
noncomputable def ref9_words.code:Code:=bodyOf Tryz.f139
noncomputable def ref9_words.Q0 (σ:Sig) (K:AV→Hp→Prop):Exit→List AV→Hp→Prop:=(nx (fQ Tryz.f139 σ K) fun T G=>wp (CZ σ) 57 (sR (sR (sR (sR ref9_words.code)))) T G (fQ Tryz.f139 σ K))
noncomputable def ref9_words.Q1 (σ:Sig) (K:AV→Hp→Prop):Exit→List AV→Hp→Prop:=(nx (fun e T G=>(ref9_words.Q0 σ K) (unblock 0 e) T G) fun T G=>∀ j,LoopP (CZ σ) (lB (bB (sR (sL (sR (sR (sR ref9_words.code))))))) (maskA 57 j 0 T) G (fun e T G=>(ref9_words.Q0 σ K) (unblock 0 e) T G))
noncomputable def ref9_words.L0 (σ:Sig) (K:AV→Hp→Prop) (y0 y3 y4 y5:AV) (H:Hp):Prop:=∀ j:Nat→AV,LoopP (CZ σ) (lB (bB (sR (sL (sR (sR (sR ref9_words.code))))))) ([y0,j 1,j 2,y3,y4,y5]++jr j 6 29) H (fun e T G=>(ref9_words.Q0 σ K) (unblock 0 e) T G)
noncomputable def ref9_words.J1 (σ:Sig) (K:AV→Hp→Prop) (y0 y3 y4 y5:AV) (H:Hp):Prop:=∀ j:Nat→AV,wp (CZ σ) 57 (sR (cT (sR (bB (sL (sR (lB (bB (sR (sL (sR (sR (sR ref9_words.code))))))))))))) ([y0,j 1,j 2,y3,y4,y5]++jr j 6 29) H (fun e T G=>(nx (ref9_words.Q1 σ K) fun T G=>∀ j,wp (CZ σ) 57 (sR (sR (lB (bB (sR (sL (sR (sR (sR ref9_words.code))))))))) (maskA 57 j 0 T) G (ref9_words.Q1 σ K)) (unblock 1 e) T G)
noncomputable def ref9_words.J2 (σ:Sig) (K:AV→Hp→Prop) (y0 y3 y4 y5:AV) (H:Hp):Prop:=∀ j:Nat→AV,wp (CZ σ) 57 (sR (sR (lB (bB (sR (sL (sR (sR (sR ref9_words.code))))))))) ([y0,j 1,j 2,y3,y4,y5]++jr j 6 29) H (ref9_words.Q1 σ K)
theorem ref9_words.L0_step {y0 y3 y4 y5:AV} (h:bnd (lenStr y0) fun x1=>bnd (binR .leq y5 x1) fun x2=>ifB x2 (bnd (lenStr y0) fun x3=>bnd (binR .eql y5 x3) fun x4=>ifB x4 (bnd (binR .gtr y5 y4) fun x5=>ifB x5 (bnd (slStr y0 (some y4) (some y5)) fun x6=>bnd (bldSlR [.string ⟨#[]⟩] 1 1 H [(0,1,x6)]) fun p7=>bnd (appR false 1 16 p7.2 y3 p7.1) fun p8=>ref9_words.J1 σ K y0 p8.1 y4 y5 p8.2) (ref9_words.J1 σ K y0 y3 y4 y5 H)) (bnd (ixStr y0 y5) fun x9=>callK Tryz.prog σ n_ref9_blank [x9] H fun x10 H11=>ifB x10 (bnd (binR .gtr y5 y4) fun x12=>ifB x12 (bnd (slStr y0 (some y4) (some y5)) fun x13=>bnd (bldSlR [.string ⟨#[]⟩] 1 1 H11 [(0,1,x13)]) fun p14=>bnd (appR false 1 16 p14.2 y3 p14.1) fun p15=>ref9_words.J1 σ K y0 p15.1 y4 y5 p15.2) (ref9_words.J1 σ K y0 y3 y4 y5 H11)) (ref9_words.J2 σ K y0 y3 y4 y5 H11))) (K y3 H)):ref9_words.L0 σ K y0 y3 y4 y5 H :=
 fun j=>lrd (g:=57) (Eq.mpr (by kernel_rfl) h)
theorem ref9_words.J1_step {y0 y3 y4 y5:AV} (h:bnd (binR .add y5 (I 1)) fun x1=>ref9_words.J2 σ K y0 y3 x1 y5 H):ref9_words.J1 σ K y0 y3 y4 y5 H :=
 fun j=>Eq.mpr (by kernel_rfl) h
theorem ref9_words.J2_step {y0 y3 y4 y5:AV} (h:bnd (binR .add y5 (I 1)) fun x1=>ref9_words.L0 σ K y0 y3 y4 x1 H):ref9_words.J2 σ K y0 y3 y4 y5 H :=
 fun j=>Eq.mpr (by kernel_rfl) h
theorem ref9_words.run {a0:AV} (h:ref9_words.L0 σ K a0 (.lit (.slice none 0 0)) (I 0) (I 0) H):∃ r H1,Good Tryz.prog σ n_ref9_words [a0] H r H1∧K r H1 :=
 gwp 57 (fn:=Tryz.f139) (f:=n_ref9_words) (c:=ref9_words.code) (by kernel_rfl) (by kernel_rfl) (Eq.mpr (by kernel_rfl) h)
noncomputable def ref9_begins.code:Code:=bodyOf Tryz.f140
theorem ref9_begins.run {a0 a1:AV} (h:bnd (lenStr a0) fun x1=>bnd (lenStr a1) fun x2=>bnd (binR .geq x1 x2) fun x3=>ifB x3 (bnd (lenStr a1) fun x4=>bnd (slStr a0 none (some x4)) fun x5=>bnd (binR .eql x5 a1) fun x6=>K x6 H) (K (Bo false) H)):∃ r H1,Good Tryz.prog σ n_ref9_begins [a0,a1] H r H1∧K r H1 :=
 gwp 0 (fn:=Tryz.f140) (f:=n_ref9_begins) (c:=ref9_begins.code) (by kernel_rfl) (by kernel_rfl) (Eq.mpr (by kernel_rfl) h)
noncomputable def ref9_ends.code:Code:=bodyOf Tryz.f141
theorem ref9_ends.run {a0 a1:AV} (h:bnd (lenStr a0) fun x1=>bnd (lenStr a1) fun x2=>bnd (binR .geq x1 x2) fun x3=>ifB x3 (bnd (lenStr a0) fun x4=>bnd (lenStr a1) fun x5=>bnd (binR .sub x4 x5) fun x6=>bnd (slStr a0 (some x6) none) fun x7=>bnd (binR .eql x7 a1) fun x8=>K x8 H) (K (Bo false) H)):∃ r H1,Good Tryz.prog σ n_ref9_ends [a0,a1] H r H1∧K r H1 :=
 gwp 0 (fn:=Tryz.f141) (f:=n_ref9_ends) (c:=ref9_ends.code) (by kernel_rfl) (by kernel_rfl) (Eq.mpr (by kernel_rfl) h)
noncomputable def ref9_in.code:Code:=bodyOf Tryz.f142
noncomputable def ref9_in.L0 (σ:Sig) (K:AV→Hp→Prop) (y0 y1 y5:AV) (H:Hp):Prop:=∀ j:Nat→AV,LoopP (CZ σ) (lB (bB (sR (sL (sR ref9_in.code))))) ([y0,y1,j 2,j 3,j 4,y5]++jr j 6 18) H (fun e T G=>(nx (fQ Tryz.f142 σ K) fun T G=>wp (CZ σ) 35 (sR (sR ref9_in.code)) T G (fQ Tryz.f142 σ K)) (unblock 0 e) T G)
theorem ref9_in.L0_step {y0 y1 y5:AV} (h:bnd (lenStr y1) fun x1=>bnd (binR .add y5 x1) fun x2=>bnd (lenStr y0) fun x3=>bnd (binR .leq x2 x3) fun x4=>ifB x4 (bnd (lenStr y1) fun x5=>bnd (binR .add y5 x5) fun x6=>bnd (slStr y0 (some y5) (some x6)) fun x7=>bnd (binR .eql x7 y1) fun x8=>ifB x8 (K (Bo true) H) (bnd (binR .add y5 (I 1)) fun x9=>ref9_in.L0 σ K y0 y1 x9 H)) (K (Bo false) H)):ref9_in.L0 σ K y0 y1 y5 H :=
 fun j=>lrd (g:=35) (Eq.mpr (by kernel_rfl) h)
theorem ref9_in.run {a0 a1:AV} (h:ref9_in.L0 σ K a0 a1 (I 0) H):∃ r H1,Good Tryz.prog σ n_ref9_in [a0,a1] H r H1∧K r H1 :=
 gwp 35 (fn:=Tryz.f142) (f:=n_ref9_in) (c:=ref9_in.code) (by kernel_rfl) (by kernel_rfl) (Eq.mpr (by kernel_rfl) h)
noncomputable def ref9_Tree_Place.code:Code:=bodyOf Tryz.f143
noncomputable def ref9_Tree_Place.Q0 (σ:Sig) (K:AV→Hp→Prop):Exit→List AV→Hp→Prop:=(nx (fQ Tryz.f143 σ K) fun T G=>wp (CZ σ) 99 (sR (sR (sR (sR ref9_Tree_Place.code)))) T G (fQ Tryz.f143 σ K))
noncomputable def ref9_Tree_Place.L0 (σ:Sig) (K:AV→Hp→Prop) (y0 y1 y5 y6:AV) (H:Hp):Prop:=∀ j:Nat→AV,LoopP (CZ σ) (lB (bB (sR (sL (sR (sR (sR ref9_Tree_Place.code))))))) ([y0,y1,j 2,j 3,j 4,y5,y6]++jr j 7 29) H (fun e T G=>(ref9_Tree_Place.Q0 σ K) (unblock 0 e) T G)
noncomputable def ref9_Tree_Place.J1 (σ:Sig) (K:AV→Hp→Prop) (y0 y1 y5 y6:AV) (H:Hp):Prop:=∀ j:Nat→AV,wp (CZ σ) 99 (sR (sR (lB (bB (sR (sL (sR (sR (sR ref9_Tree_Place.code))))))))) ([y0,y1,j 2,j 3,j 4,y5,y6]++jr j 7 29) H (nx (fun e T G=>(ref9_Tree_Place.Q0 σ K) (unblock 0 e) T G) fun T G=>∀ j,LoopP (CZ σ) (lB (bB (sR (sL (sR (sR (sR ref9_Tree_Place.code))))))) (maskA 99 j 0 T) G (fun e T G=>(ref9_Tree_Place.Q0 σ K) (unblock 0 e) T G))
theorem ref9_Tree_Place.L0_step {y0 y1 y5 y6:AV} (h:bnd (binR .lss y6 y1) fun x1=>ifB x1 (bnd (nilR y0) fun x2=>bnd (shiftA x2 0) fun x3=>bnd (ldA false 1 H x3) fun x4=>bnd (ixaSl 5 x4 y6) fun x5=>bnd (shiftA x5 0) fun x6=>bnd (ldA false 1 H x6) fun x7=>bnd (nilR y0) fun x8=>bnd (shiftA x8 0) fun x9=>bnd (ldA false 1 H x9) fun x10=>bnd (ixaSl 5 x10 y1) fun x11=>bnd (shiftA x11 0) fun x12=>bnd (ldA false 1 H x12) fun x13=>bnd (binR .eql x7 x13) fun x14=>ifB x14 (bnd (binR .add y5 (I 1)) fun x15=>ref9_Tree_Place.J1 σ K y0 y1 x15 y6 H) (ref9_Tree_Place.J1 σ K y0 y1 y5 y6 H)) (K y5 H)):ref9_Tree_Place.L0 σ K y0 y1 y5 y6 H :=
 fun j=>lrd (g:=99) (Eq.mpr (by kernel_rfl) h)
theorem ref9_Tree_Place.J1_step {y0 y1 y5 y6:AV} (h:bnd (binR .add y6 (I 1)) fun x1=>ref9_Tree_Place.L0 σ K y0 y1 y5 x1 H):ref9_Tree_Place.J1 σ K y0 y1 y5 y6 H :=
 fun j=>Eq.mpr (by kernel_rfl) h
theorem ref9_Tree_Place.run {a0 a1:AV} (h:callK Tryz.prog σ n_ref9_Tree_is [a0,a1] H fun x1 H2=>bnd (unR .not x1) fun x3=>ifB x3 (K (I 0) H2) (ref9_Tree_Place.L0 σ K a0 a1 (I 1) (I 1) H2)):∃ r H1,Good Tryz.prog σ n_ref9_Tree_Place [a0,a1] H r H1∧K r H1 :=
 gwp 99 (fn:=Tryz.f143) (f:=n_ref9_Tree_Place) (c:=ref9_Tree_Place.code) (by kernel_rfl) (by kernel_rfl) (Eq.mpr (by kernel_rfl) h)
noncomputable def ref9_Tree_last.code:Code:=bodyOf Tryz.f144
noncomputable def ref9_Tree_last.L0 (σ:Sig) (K:AV→Hp→Prop) (y0 y1 y5:AV) (H:Hp):Prop:=∀ j:Nat→AV,LoopP (CZ σ) (lB (bB (sR (sL (sR ref9_Tree_last.code))))) ([y0,y1,j 2,j 3,j 4,y5]++jr j 6 32) H (fun e T G=>(nx (fQ Tryz.f144 σ K) fun T G=>wp (CZ σ) 35 (sR (sR ref9_Tree_last.code)) T G (fQ Tryz.f144 σ K)) (unblock 0 e) T G)
theorem ref9_Tree_last.L0_step {y0 y1 y5:AV} (h:bnd (binR .gtr y1 (I 0)) fun x1=>ifB x1 (bnd (nilR y0) fun x2=>bnd (shiftA x2 0) fun x3=>bnd (ldA false 1 H x3) fun x4=>bnd (lenSl x4) fun x5=>bnd (binR .lss y5 x5) fun x6=>ifB x6 (bnd (nilR y0) fun x7=>bnd (shiftA x7 0) fun x8=>bnd (ldA false 1 H x8) fun x9=>bnd (ixaSl 5 x9 y5) fun x10=>bnd (shiftA x10 0) fun x11=>bnd (ldA false 1 H x11) fun x12=>bnd (nilR y0) fun x13=>bnd (shiftA x13 0) fun x14=>bnd (ldA false 1 H x14) fun x15=>bnd (ixaSl 5 x15 y1) fun x16=>bnd (shiftA x16 0) fun x17=>bnd (ldA false 1 H x17) fun x18=>bnd (binR .eql x12 x18) fun x19=>ifB x19 (K (Bo false) H) (bnd (binR .add y5 (I 1)) fun x20=>ref9_Tree_last.L0 σ K y0 y1 x20 H)) (K (Bo true) H)) (K (Bo true) H)):ref9_Tree_last.L0 σ K y0 y1 y5 H :=
 fun j=>lrd (g:=35) (Eq.mpr (by kernel_rfl) h)
theorem ref9_Tree_last.run {a0 a1:AV} (h:bnd (binR .add a1 (I 1)) fun x1=>ref9_Tree_last.L0 σ K a0 a1 x1 H):∃ r H1,Good Tryz.prog σ n_ref9_Tree_last [a0,a1] H r H1∧K r H1 :=
 gwp 35 (fn:=Tryz.f144) (f:=n_ref9_Tree_last) (c:=ref9_Tree_last.code) (by kernel_rfl) (by kernel_rfl) (Eq.mpr (by kernel_rfl) h)
noncomputable def ref9_Tree_Children.code:Code:=bodyOf Tryz.f145
noncomputable def ref9_Tree_Children.Q0 (σ:Sig) (K:AV→Hp→Prop):Exit→List AV→Hp→Prop:=(nx (fQ Tryz.f145 σ K) fun T G=>wp (CZ σ) 99 (sR (sR (sR ref9_Tree_Children.code))) T G (fQ Tryz.f145 σ K))
noncomputable def ref9_Tree_Children.L0 (σ:Sig) (K:AV→Hp→Prop) (y0 y1 y5 y6:AV) (H:Hp):Prop:=∀ j:Nat→AV,LoopP (CZ σ) (lB (bB (sR (sL (sR (sR ref9_Tree_Children.code)))))) ([y0,y1,j 2,j 3,j 4,y5,y6]++jr j 7 31) H (fun e T G=>(ref9_Tree_Children.Q0 σ K) (unblock 0 e) T G)
noncomputable def ref9_Tree_Children.J1 (σ:Sig) (K:AV→Hp→Prop) (y0 y1 y5 y6:AV) (H:Hp):Prop:=∀ j:Nat→AV,wp (CZ σ) 99 (sR (sR (lB (bB (sR (sL (sR (sR ref9_Tree_Children.code)))))))) ([y0,y1,j 2,j 3,j 4,y5,y6]++jr j 7 31) H (nx (fun e T G=>(ref9_Tree_Children.Q0 σ K) (unblock 0 e) T G) fun T G=>∀ j,LoopP (CZ σ) (lB (bB (sR (sL (sR (sR ref9_Tree_Children.code)))))) (maskA 99 j 0 T) G (fun e T G=>(ref9_Tree_Children.Q0 σ K) (unblock 0 e) T G))
theorem ref9_Tree_Children.L0_step {y0 y1 y5 y6:AV} (h:callK Tryz.prog σ n_ref9_Tree_is [y0,y1] H fun x1 H2=>ifB x1 (bnd (nilR y0) fun x3=>bnd (shiftA x3 0) fun x4=>bnd (ldA false 1 H2 x4) fun x5=>bnd (lenSl x5) fun x6=>bnd (binR .lss y6 x6) fun x7=>ifB x7 (bnd (nilR y0) fun x8=>bnd (shiftA x8 0) fun x9=>bnd (ldA false 1 H2 x9) fun x10=>bnd (ixaSl 5 x10 y6) fun x11=>bnd (shiftA x11 0) fun x12=>bnd (ldA false 1 H2 x12) fun x13=>bnd (binR .eql x13 y1) fun x14=>ifB x14 (bnd (bldSlR [.int .i64 0] 1 1 H2 [(0,1,y6)]) fun p15=>bnd (appR false 1 8 p15.2 y5 p15.1) fun p16=>ref9_Tree_Children.J1 σ K y0 y1 p16.1 y6 p16.2) (ref9_Tree_Children.J1 σ K y0 y1 y5 y6 H2)) (K y5 H2)) (K y5 H2)):ref9_Tree_Children.L0 σ K y0 y1 y5 y6 H :=
 fun j=>lrd (g:=99) (Eq.mpr (by kernel_rfl) h)
theorem ref9_Tree_Children.J1_step {y0 y1 y5 y6:AV} (h:bnd (binR .add y6 (I 1)) fun x1=>ref9_Tree_Children.L0 σ K y0 y1 y5 x1 H):ref9_Tree_Children.J1 σ K y0 y1 y5 y6 H :=
 fun j=>Eq.mpr (by kernel_rfl) h
theorem ref9_Tree_Children.run {a0 a1:AV} (h:bnd (binR .add a1 (I 1)) fun x1=>ref9_Tree_Children.L0 σ K a0 a1 (.lit (.slice none 0 0)) x1 H):∃ r H1,Good Tryz.prog σ n_ref9_Tree_Children [a0,a1] H r H1∧K r H1 :=
 gwp 99 (fn:=Tryz.f145) (f:=n_ref9_Tree_Children) (c:=ref9_Tree_Children.code) (by kernel_rfl) (by kernel_rfl) (Eq.mpr (by kernel_rfl) h)
noncomputable def ref9_nth.code:Code:=bodyOf Tryz.f146
theorem ref9_nth.run {a0 a1 a2:AV} (h:bnd (binR .eql a1 (I 0)) fun x1=>ifB x1 (bnd (binR .eql a0 a2) fun x2=>K x2 H) (bnd (binR .gtr a2 (I 1099511627776)) fun x3=>ifB x3 (callK Tryz.prog σ n_ref9_far [a0,a1,a2] H fun x4 H5=>K x4 H5) (bnd (binR .lss a2 (I (-1099511627776))) fun x6=>ifB x6 (callK Tryz.prog σ n_ref9_far [a0,a1,a2] H fun x7 H8=>K x7 H8) (bnd (binR .gtr a1 (I 1099511627776)) fun x9=>ifB x9 (callK Tryz.prog σ n_ref9_far [a0,a1,a2] H fun x10 H11=>K x10 H11) (bnd (binR .lss a1 (I (-1099511627776))) fun x12=>ifB x12 (callK Tryz.prog σ n_ref9_far [a0,a1,a2] H fun x13 H14=>K x13 H14) (bnd (binR .sub a0 a2) fun x15=>bnd (binR .rem x15 a1) fun x16=>bnd (binR .eql x16 (I 0)) fun x17=>ifB x17 (bnd (binR .quo x15 a1) fun x18=>bnd (binR .geq x18 (I 0)) fun x19=>K x19 H) (K (Bo false) H))))))):∃ r H1,Good Tryz.prog σ n_ref9_nth [a0,a1,a2] H r H1∧K r H1 :=
 gwp 0 (fn:=Tryz.f146) (f:=n_ref9_nth) (c:=ref9_nth.code) (by kernel_rfl) (by kernel_rfl) (Eq.mpr (by kernel_rfl) h)
noncomputable def ref9_Tree_any.code:Code:=bodyOf Tryz.f147
noncomputable def ref9_Tree_any.L0 (σ:Sig) (K:AV→Hp→Prop) (y0 y1 y2 y3 y9:AV) (H:Hp):Prop:=∀ j:Nat→AV,LoopP (CZ σ) (lB (bB (sR (sL (sR ref9_Tree_any.code))))) ([y0,y1,y2,y3,j 4,j 5,j 6,j 7,j 8,y9]++jr j 10 16) H (fun e T G=>(nx (fQ Tryz.f147 σ K) fun T G=>wp (CZ σ) 527 (sR (sR ref9_Tree_any.code)) T G (fQ Tryz.f147 σ K)) (unblock 0 e) T G)
theorem ref9_Tree_any.L0_step {y0 y1 y2 y3 y9:AV} (h:bnd (lenSl y2) fun x1=>bnd (binR .lss y9 x1) fun x2=>ifB x2 (bnd (ixaSl 1 y2 y9) fun x3=>bnd (ldA true 1 H x3) fun x4=>callK Tryz.prog σ n_ref9_Tree_selector [y0,y1,x4,y3] H fun x5 H6=>ifB x5 (K (Bo true) H6) (bnd (binR .add y9 (I 1)) fun x7=>ref9_Tree_any.L0 σ K y0 y1 y2 y3 x7 H6)) (K (Bo false) H)):ref9_Tree_any.L0 σ K y0 y1 y2 y3 y9 H :=
 fun j=>lrd (g:=527) (Eq.mpr (by kernel_rfl) h)
theorem ref9_Tree_any.run {a0 a1 a2 a3:AV} (h:ref9_Tree_any.L0 σ K a0 a1 a2 a3 (I 0) H):∃ r H1,Good Tryz.prog σ n_ref9_Tree_any [a0,a1,a2,a3] H r H1∧K r H1 :=
 gwp 527 (fn:=Tryz.f147) (f:=n_ref9_Tree_any) (c:=ref9_Tree_any.code) (by kernel_rfl) (by kernel_rfl) (Eq.mpr (by kernel_rfl) h)
noncomputable def ref9_blank.code:Code:=bodyOf Tryz.f155
theorem ref9_blank.run {a0:AV} (h:bnd (binR .eql a0 (.lit (.int .u8 9))) fun x1=>ifB x1 (K (Bo true) H) (bnd (binR .eql a0 (.lit (.int .u8 10))) fun x2=>ifB x2 (K (Bo true) H) (bnd (binR .eql a0 (.lit (.int .u8 12))) fun x3=>ifB x3 (K (Bo true) H) (bnd (binR .eql a0 (.lit (.int .u8 13))) fun x4=>ifB x4 (K (Bo true) H) (bnd (binR .eql a0 (.lit (.int .u8 32))) fun x5=>K x5 H))))):∃ r H1,Good Tryz.prog σ n_ref9_blank [a0] H r H1∧K r H1 :=
 gwp 0 (fn:=Tryz.f155) (f:=n_ref9_blank) (c:=ref9_blank.code) (by kernel_rfl) (by kernel_rfl) (Eq.mpr (by kernel_rfl) h)
noncomputable def ref9_far.code:Code:=bodyOf Tryz.f156
noncomputable def ref9_far.J0 (σ:Sig) (K:AV→Hp→Prop) (y7 y8:AV) (H:Hp):Prop:=∀ j:Nat→AV,wp (CZ σ) 384 (sR (sR (sR (sR (sR (sR ref9_far.code)))))) ([j 0,j 1,j 2,j 3,j 4,j 5,j 6,y7,y8]++jr j 9 30) H (fQ Tryz.f156 σ K)
theorem ref9_far.J0_step {y7 y8:AV} (h:bnd (binR .rem y7 y8) fun x1=>bnd (binR .eql x1 (.lit (.int .u64 0))) fun x2=>K x2 H):ref9_far.J0 σ K y7 y8 H :=
 fun j=>Eq.mpr (by kernel_rfl) h
theorem ref9_far.run {a0 a1 a2:AV} (h:bnd (binR .eql a2 a0) fun x1=>ifB x1 (K (Bo true) H) (bnd (binR .lss a2 a0) fun x2=>bnd (binR .gtr a1 (I 0)) fun x3=>bnd (eqBoolR .neq x2 x3) fun x4=>ifB x4 (K (Bo false) H) (bnd (cvInt .u64 a0) fun x5=>bnd (cvInt .u64 a2) fun x6=>bnd (binR .sub x5 x6) fun x7=>bnd (cvInt .u64 a1) fun x8=>bnd (binR .lss a1 (I 0)) fun x9=>ifB x9 (bnd (cvInt .u64 a2) fun x10=>bnd (cvInt .u64 a0) fun x11=>bnd (binR .sub x10 x11) fun x12=>bnd (cvInt .u64 a1) fun x13=>bnd (unR .neg x13) fun x14=>ref9_far.J0 σ K x12 x14 H) (ref9_far.J0 σ K x7 x8 H)))):∃ r H1,Good Tryz.prog σ n_ref9_far [a0,a1,a2] H r H1∧K r H1 :=
 gwp 384 (fn:=Tryz.f156) (f:=n_ref9_far) (c:=ref9_far.code) (by kernel_rfl) (by kernel_rfl) (Eq.mpr (by kernel_rfl) h)
end Go.Proofs.YtaoegkmfgfefgaaGreat.Ev
namespace Go.Proofs.YtaoegkmfgfefgaaGreat.Ev
set_option maxRecDepth 100000
set_option maxHeartbeats 4000000
set_option linter.unusedVariables false
variable {σ:Sig} {K:AV→Hp→Prop} {H:Hp}
end Go.Proofs.YtaoegkmfgfefgaaGreat.Ev
namespace Go.Proofs.YtaoegkmfgfefgaaGreat.Ev
set_option linter.unusedVariables false
set_option linter.unusedSimpArgs false
variable {σ:Sig}
def lowb (c:UInt8):UInt8:=if 65≤c.toNat∧c.toNat≤90 then UInt8.ofNat (c.toNat+32) else c
def lowB (s:ByteArray):ByteArray:=⟨(s.data.toList.map lowb).toArray⟩
def enc8 (c:UInt8):AV:=.lit (.int .u8 c.toNat)
theorem wr8 {n:Int} (h0:0≤n) (h1:n≤255):wr .u8 n=n:=by
 unfold wr
 simp [IntKind.wrap,IntKind.signed,IntKind.bits]
 omega
theorem bytesA_map:∀ (l:List UInt8),bytesA (l.map enc8)=some l
 | []=>rfl
 | c::l=>by
  have ih:=bytesA_map l
  rw [List.map_cons]
  show (bytesA (l.map enc8)).map (UInt8.ofNat ((c.toNat:Int)).toNat::·)=_
  rw [ih]
  simp
theorem all_one8 (l:List UInt8):(l.map enc8).all AV.one=true:=by
 rw [List.all_map,List.all_eq_true]
 intro x _; rfl
theorem str_of8 {H:Hp} {id:Nat} {l:List UInt8} {n:Nat} {ex:Bool} (hg:H.get id=some (.cells (l.map enc8) ex)) (hn:n=l.length):cvToStr H (.sl id 0 1 n none)=some (Sx ⟨l.toArray⟩):=by
 subst hn
 simp only [cvToStr,srcA,hg]
 have e:List.take l.length (l.map enc8)=l.map enc8:=by
  have:=List.take_length (l:=l.map enc8)
  rwa [List.length_map] at this
 simp only [List.drop_zero,Nat.mul_one,beqN,e,List.length_map,decide_true,Bool.and_self,cond_true,all_one8,bytesA_map]
 rfl
theorem low_step {l:List UInt8} {k:Nat} {c:UInt8} (h:l[k]?=some c) (v:UInt8) (hv:v=lowb c):(l.set k v).take (k+1)++((l.set k v).drop (k+1)).map lowb=l.take k++(l.drop k).map lowb:=by
 subst hv
 obtain ⟨hlt,rfl⟩:=List.getElem?_eq_some_iff.1 h
 rw [List.drop_eq_getElem_cons hlt,List.take_succ_eq_append_getElem (by simpa using hlt),List.drop_set_of_lt (by omega),List.take_set_of_le (by omega)]
 simp
 rw [List.drop_eq_getElem_cons (i:=k) (l:=List.map lowb l) (by simpa using hlt)]
 simp
theorem low_same {l:List UInt8} {k:Nat} {c:UInt8} (h:l[k]?=some c) (hv:lowb c=c):l.take (k+1)++(l.drop (k+1)).map lowb=l.take k++(l.drop k).map lowb:=by
 have:=low_step h c hv.symm
 rwa [show l.set k c=l from by
  obtain ⟨hlt,rfl⟩:=List.getElem?_eq_some_iff.1 h
  simp] at this
theorem lower_L0 {K:AV→Hp→Prop} {n id:Nat} (hn:n<9000000000000000000):∀ (d k:Nat) (l:List UInt8) (H:Hp) (ex:Bool),H.get id=some (.cells (l.map enc8) ex)→l.length=n→n - k=d→k≤n→(∀ H,K (Sx ⟨(l.take k++(l.drop k).map lowb).toArray⟩) H) →
  text_Lower.L0 σ K (.sl id 0 1 n none) (.sl id 0 1 n none) (I n) (I k) H:=by
 intro d
 induction d with
 | zero =>
  intro k l H ex hg hl hd hk hK
  have e:k=n:=by omega
  subst e
  refine text_Lower.L0_step ?_
  simp [str_of8 hg hl.symm]
  simpa [← hl] using hK H
 | succ d ih =>
  intro k l H ex hg hl hd hk hK
  have hlt:k<n:=by omega
  have hlt':k<l.length:=by omega
  have hget:l[k]?=some l[k]:=List.getElem?_eq_getElem hlt'
  have hc:=(l[k]).toNat_lt
  refine text_Lower.L0_step ?_
  simp [hlt,ix_sl,hg,ldL_map hlt',enc8]
  have next:∀ (l':List UInt8) (H':Hp),H'.get id=some (.cells (l'.map enc8) ex)→l'.length=n→l'.take (k+1)++(l'.drop (k+1)).map lowb=l.take k++(l.drop k).map lowb→text_Lower.J1 σ K (.sl id 0 1 n none) (.sl id 0 1 n none) (I n) (I k) H':=by
   intro l' H' hg' hl' he
   refine text_Lower.J1_step ?_
   simp
   rw [wr_succ (Nat.lt_trans hlt hn)]
   exact ih (k+1) l' H' ex hg' hl' (by omega) (by omega) (by rw [he]; exact hK)
  split
  ·split
   ·rename_i h1 h2
    have e1:wr .u8 ((l[k].toNat:Int)+97)=(l[k].toNat:Int)+97:=wr8 (by omega) (by omega)
    have e2:wr .u8 ((l[k].toNat:Int)+97 - 65)=((lowb l[k]).toNat:Int):=by
     rw [wr8 (by omega) (by omega)]
     unfold lowb
     rw [if_pos ⟨by omega,by omega⟩]
     simp; omega
    rw [e1,e2]
    have e3:(k:Int).toNat=k:=by omega
    rw [if_pos (show k+1≤l.length from hlt'),bnd_some]
    have e4:AV.lit (.int .u8 (lowb l[k]).toNat)=enc8 (lowb l[k]):=rfl
    rw [e4,ov_map _ hlt']
    exact next (l.set k (lowb l[k])) _ (by simp) (by simpa using hl) (low_step hget _ rfl)
   ·rename_i h1 h2
    exact next l H hg hl (low_same hget (by unfold lowb; rw [if_neg (by omega)]))
  ·rename_i h1
   exact next l H hg hl (low_same hget (by unfold lowb; rw [if_neg (by omega)]))
theorem rlower_L0 {K:AV→Hp→Prop} {n id:Nat} (hn:n<9000000000000000000):∀ (d k:Nat) (l:List UInt8) (H:Hp) (ex:Bool),H.get id=some (.cells (l.map enc8) ex)→l.length=n→n - k=d→k≤n→(∀ H,K (Sx ⟨(l.take k++(l.drop k).map lowb).toArray⟩) H) →
  ref1_Lower.L0 σ K (.sl id 0 1 n none) (I k) H:=by
 intro d
 induction d with
 | zero =>
  intro k l H ex hg hl hd hk hK
  have e:k=n:=by omega
  subst e
  refine ref1_Lower.L0_step ?_
  simp [str_of8 hg hl.symm]
  simpa [← hl] using hK H
 | succ d ih =>
  intro k l H ex hg hl hd hk hK
  have hlt:k<n:=by omega
  have hlt':k<l.length:=by omega
  have hget:l[k]?=some l[k]:=List.getElem?_eq_getElem hlt'
  have hc:=(l[k]).toNat_lt
  refine ref1_Lower.L0_step ?_
  simp [hlt,ix_sl,hg,ldL_map hlt',enc8]
  have next:∀ (l':List UInt8) (H':Hp),H'.get id=some (.cells (l'.map enc8) ex)→l'.length=n→l'.take (k+1)++(l'.drop (k+1)).map lowb=l.take k++(l.drop k).map lowb→ref1_Lower.J1 σ K (.sl id 0 1 n none) (I k) H':=by
   intro l' H' hg' hl' he
   refine ref1_Lower.J1_step ?_
   simp
   rw [wr_succ (Nat.lt_trans hlt hn)]
   exact ih (k+1) l' H' ex hg' hl' (by omega) (by omega) (by rw [he]; exact hK)
  split
  ·split
   ·rename_i h1 h2
    have e2:wr .u8 ((l[k].toNat:Int)+32)=((lowb l[k]).toNat:Int):=by
     rw [wr8 (by omega) (by omega)]
     unfold lowb
     rw [if_pos ⟨by omega,by omega⟩]
     simp; omega
    rw [e2]
    rw [if_pos (show k+1≤l.length from hlt'),bnd_some]
    have e4:AV.lit (.int .u8 (lowb l[k]).toNat)=enc8 (lowb l[k]):=rfl
    rw [e4,ov_map _ hlt']
    exact next (l.set k (lowb l[k])) _ (by simp) (by simpa using hl) (low_step hget _ rfl)
   ·rename_i h1 h2
    exact next l H hg hl (low_same hget (by unfold lowb; rw [if_neg (by omega)]))
  ·rename_i h1
   exact next l H hg hl (low_same hget (by unfold lowb; rw [if_neg (by omega)]))
theorem rLower_ok (s:ByteArray) (hs:s.data.size<9000000000000000000) (H:Hp):Good Tryz.prog σ n_ref1_Lower [Sx s] H (Sx (lowB s)) H:=by
 refine good_by (fun K hK=>ref1_Lower.run ?_) rfl rfl H
 simp only [cvToBytes,bnd_some,len_sl]
 refine rlower_L0 hs _ 0 s.data.toList _ false (by simp [enc8]) (by simp) rfl (Nat.zero_le _) fun H=>?_
 simpa [lowB] using hK H
end Go.Proofs.YtaoegkmfgfefgaaGreat.Ev
namespace Go.Proofs.YtaoegkmfgfefgaaGreat.Ev
set_option linter.unusedVariables false
set_option linter.unusedSimpArgs false
variable {σ:Sig}
def lowPr (p:ByteArray × ByteArray):ByteArray × ByteArray:=(lowB p.1,p.2)
def lowN (n:Nd):Nd:={ n with tag:=lowB n.tag,attrs:=n.attrs.map lowPr }
structure NdWf (n:Nd):Prop where
 parent:i64 n.parent
 tag:n.tag.data.size≤reachBytes
 classes:n.classes.length*16≤reachBytes
 attrs:n.attrs.length*32≤reachBytes
 names:∀ p ∈ n.attrs,p.1.data.size≤reachBytes
theorem reach_eq:reachBytes=140737488351232:=rfl
@[simp] theorem st_strs (H:Hp) (id off:Nat) (l:List ByteArray):stA 1 H (.ptr id off) (strs l)=stO 1 off [strs l] H id (H.get id):=st_ptr 1 H id off _ rfl rfl
end Go.Proofs.YtaoegkmfgfefgaaGreat.Ev
namespace Go.Proofs.YtaoegkmfgfefgaaGreat.Ev
set_option linter.unusedVariables false
set_option linter.unusedSimpArgs false
variable {σ:Sig}
theorem map_take_succ {α β:Type} {f:α→β} {l:List α} {k:Nat} (h:k<l.length):(l.take (k+1)).map f=(l.take k).map f++[f l[k]]:=by
 rw [List.take_succ_eq_append_getElem h,List.map_append]; rfl
theorem rlow_L0 (n:Nd) (hn:NdWf n) {K:AV→Hp→Prop} {b1 b2:Nat} {par tg idd cl:AV} {cr:List (List AV)} (h12:b1≠b2) (ho:[par,tg,idd].all AV.one=true) (ho1:AV.one cl=true):∀ (d k:Nat) (y:AV) (H:Hp),b1<H.n→b2<H.n→H.get b1=some (.cells [par,tg,idd,cl,.imm 2 (n.attrs.map encPr)] true)→(∃ cs,H.get b2=some (.cells cs true)∧cs.length=5) →
  Gs 1 H cl cr→Gs 2 H y ((n.attrs.take k).map fun p=>encPr (lowPr p))→¬ own cl b1→¬ own cl b2→¬ own y b1→¬ own y b2→(∀ j,own cl j→¬ own y j)→n.attrs.length - k=d→k≤n.attrs.length →
  (∀ y' H',Gs 1 H' cl cr→Gs 2 H' y' (n.attrs.map fun p=>encPr (lowPr p))→K (.agg [par,tg,idd,cl,y']) H') →
  ref9_lowered.L0 σ K (.ptr b1 0) (.ptr b2 0) y (I k) H:=by
 have ha:=hn.attrs
 rw [reach_eq] at ha
 intro d
 induction d with
 | zero =>
  intro k y H l1 l2 g1 g2 gc gy c1 c2 y1 y2 hd' hd hk hK
  obtain ⟨cs,g2,hcs⟩:=g2
  have e:k=n.attrs.length:=by omega
  subst e
  rw [List.take_length] at gy
  refine ref9_lowered.L0_step ?_
  simp at ho
  have o5:=gy.one
  simp [g1,gy.st (id:=b1) (off:=4) g1 (by simp),ldL_all,g2,hcs,Ne.symm h12,ho,ho1,o5,overlay_all]
  refine hK _ _ (gc.keep (fun j hj=>?_) (by simp)) (gy.keep (fun j hj=>?_) (by simp))
  ·have:j≠b1:=fun e=>c1 (e ▸ hj)
   have:j≠b2:=fun e=>c2 (e ▸ hj)
   simp [*]
  ·have:j≠b1:=fun e=>y1 (e ▸ hj)
   have:j≠b2:=fun e=>y2 (e ▸ hj)
   simp [*]
 | succ d ih =>
  intro k y H l1 l2 g1 g2 gc gy c1 c2 y1 y2 hd' hd hk hK
  have hlt:k<n.attrs.length:=by omega
  have hget:n.attrs[k]?=some n.attrs[k]:=List.getElem?_eq_getElem hlt
  have hsz:(n.attrs[k]).1.data.size<9000000000000000000:=by
   have:=hn.names _ (List.getElem_mem hlt)
   rw [reach_eq] at this
   omega
  refine ref9_lowered.L0_step ?_
  simp [g1,hlt,ix_map hget,encPr]
  refine callK_of (rLower_ok _ hsz _) ?_
  simp [g1,ix_map hget,encPr,bldR,beqN,bleN]
  refine bnd_app1 gy rfl rfl rfl (by simp; omega) (by simp; omega) fun y' H' gy' f=>?_
  have n1:∀ {j:Nat},j<H.n→¬ own y j→¬ own y' j:=fun hj hy h=>by
   rcases f.mine _ h with h | h
   ·exact hy h
   ·omega
  rw [wr_succ (by omega)]
  refine ih (k+1) y' H' (Nat.lt_of_lt_of_le l1 f.grow) (Nat.lt_of_lt_of_le l2 f.grow) (by rw [f.same _ l1 y1]; exact g1) ?_ (gc.keep (fun j hj=>f.same j (gc.lt hj) (hd' j hj)) f.grow) ?_ c1 c2 (n1 l1 y1) (n1 l2 y2) (fun j hj=>n1 (gc.lt hj) (hd' j hj)) (by omega) (by omega) hK
  ·obtain ⟨cs,g2,hcs⟩:=g2
   exact ⟨cs,by rw [f.same _ l2 y2]; exact g2,hcs⟩
  ·rw [map_take_succ hlt]
   exact gy'
theorem rLow_ok (n:Nd) (hn:NdWf n) (H:Hp):Good Tryz.prog σ n_ref9_lowered [.agg (encNd n)] H (.agg (encNd (lowN n))) H:=by
 have ht:n.tag.data.size<9000000000000000000:=by
  have:=hn.tag
  rw [reach_eq] at this; omega
 have hc:=hn.classes
 rw [reach_eq] at hc
 obtain ⟨Q,hQ⟩:∃ Q:AV→Hp→Prop,∀ r H1,Q r H1 ↔ Fz H1 r (.agg (encNd (lowN n))):=⟨_,fun _ _=>Iff.rfl⟩
 have run:∃ r H1,Good Tryz.prog σ n_ref9_lowered [.agg (encNd n)] Hp.empty r H1∧Q r H1:=by
  refine ref9_lowered.run ?_
  simp [encNd]
  refine callK_of (rLower_ok _ ht _) ?_
  simp
  refine bnd_app (rows2:=n.classes.map fun s=>[Sx s]) .nil rfl src_imm (fun row hrow=>?_) ?_ (by simp; omega) (by simp; omega) fun cl H2 gc f=>?_
  ·obtain ⟨x,_,rfl⟩:=List.mem_map.1 hrow; rfl
  ·rw [List.all_eq_true]
   intro x hx
   obtain ⟨row,hrow,hx⟩:=List.mem_flatten.1 hx
   obtain ⟨x,_,rfl⟩:=List.mem_map.1 hrow
   simp at hx; subst hx; rfl
  ·have f0:=f.same Hp.empty.n (by simp; omega) (fun h=>h)
   have f1:=f.same (Hp.empty.n+1) (by simp) (fun h=>h)
   have fm:=f.mine
   have fg:=f.grow
   simp at f0 f1 fg
   have c1:¬ own cl Hp.empty.n:=fun h=>by
    rcases fm _ h with h | h
    ·exact h
    ·have h:=h.1; simp at h; omega
   have c2:¬ own cl (Hp.empty.n+1):=fun h=>by
    rcases fm _ h with h | h
    ·exact h
    ·have h:=h.1; simp at h; omega
   clear fm f
   generalize Hp.empty.n=z at f0 f1 fg c1 c2 ⊢
   simp at gc
   simp [f0,gc.st (id:=z) (off:=3) f0 (by simp)]
   refine rlow_L0 n hn (by omega) ?_ gc.one _ 0 _ _ (by simp; omega) (by simp; omega) (by rw [hp_get_set,if_pos rfl]) ⟨_,by simp [f1]; rfl,rfl⟩ (gc.keep (fun j hj=>?_) (by simp)) .nil c1 c2 (fun h=>h) (fun h=>h) (fun j _ h=>h) rfl (Nat.zero_le _) fun y' H' g1 g2=>?_
   ·simp
   ·have:j≠z:=fun e=>c1 (e ▸ hj)
    simp [this]
   ·rw [hQ]
    refine .aggL (.cons (.refl rfl) (.cons (.refl rfl) (.cons (.refl rfl) (.cons ?_ (.cons ?_ .nil)))))
    ·exact g1.fz (noIds_map _ (fun _=>rfl) _)
    ·have:=g2.fz (noIds_map _ (fun _=>rfl) _)
     rw [show (lowN n).attrs.map encPr=n.attrs.map fun p=>encPr (lowPr p) by simp [lowN,Function.comp_def]]
     exact this
 obtain ⟨r,H1,hg,hf⟩:=run
 rw [hQ] at hf
 exact hg.frzR (by simp [noIds,noId,noId_Nd]) hf H
end Go.Proofs.YtaoegkmfgfefgaaGreat.Ev
namespace Go.Proofs.YtaoegkmfgfefgaaGreat.Ev
set_option linter.unusedVariables false
set_option linter.unusedSimpArgs false
variable {σ:Sig}
theorem bnd_app1k {z:List Value} {sz bytes:Nat} {H:Hp} {x y:AV} {rows:List (List AV)} {C:AV × Hp→Prop} (hC:C (.sl H.n 0 sz 1 (some 1),H.new (.cells y.cells true))) (hx:Gs sz H x rows) (hl:y.cells.length=sz) (ha:y.isAny=false) (hone:y.cells.all AV.one=true)
  (hb:(rows.length+1)*bytes≤140737488355328) (hn:rows.length+1≤4611686018427387904) {K:AV × Hp→Prop} (h:∀ x' H',Gs sz H' x' (rows++[y.cells])→Fr H x H' x'→K (x',H')) :
  bnd (bldSlR z sz 1 H [(0,sz,y)]) fun p=>C p∧bnd (appR false sz bytes p.2 x p.1) K:=by
 have:=bnd_app1 (z:=z) hx hl ha hone hb hn h
 rw [bld_one hl ha,bnd_some] at this ⊢
 exact ⟨hC,this⟩
structure TreeH (L:List Nd) (d:List Nat) (H:Hp) (t m:Nat) (sl:AV) (ch:List AV):Prop where
 tlt:t<H.n
 tg:H.get t=some (.cells [sl] true)
 len:ch.length=m
 rows:Gs 9 H sl (rowsE L d ch lowN)
 kid:∀ (i:Nat) (c:AV),ch[i]?=some c→Gs 1 H c ((kids L m i).map fun j:Nat=>[I j])
 nt:¬ own sl t
 nk:∀ (i:Nat) (c:AV),ch[i]?=some c→¬ own c t
 ns:∀ (i:Nat) (c:AV),ch[i]?=some c→∀ j,own c j→¬ own sl j
 nd:∀ (i i':Nat) (c c':AV),i≠i'→ch[i]?=some c→ch[i']?=some c'→∀ j,own c j→¬ own c' j
theorem TreeH.new {L:List Nd} {d:List Nat} {H:Hp} {t m:Nat} {sl:AV} {ch:List AV} (h:TreeH L d H t m sl ch) {H':Hp} (hs:∀ j,j<H.n→H'.get j=H.get j) (hn:H.n≤H'.n):TreeH L d H' t m sl ch :=
 ⟨Nat.lt_of_lt_of_le h.tlt hn,by rw [hs t h.tlt]; exact h.tg,h.len,h.rows.keep (fun j hj=>hs j (h.rows.lt hj)) hn,fun i c hc=>(h.kid i c hc).keep (fun j hj=>hs j ((h.kid i c hc).lt hj)) hn,h.nt,h.nk,h.ns,h.nd⟩
def elC (L:List Nd) (i:Nat):AV:=.imm 1 ((kids L L.length i).map fun j:Nat=>[I j])
def elE (L:List Nd) (d:List Nat) (i:Nat):List AV:=rowE L d i (elC L i) lowN
def domT (L:List Nd) (d:List Nat):AV:=.ip [.imm 9 ((List.range L.length).map (elE L d))]
theorem noId_elC (L:List Nd) (i:Nat):noId (elC L i)=true:=by unfold elC; simp only [noId]; exact noIds_map _ (fun _=>rfl) _
theorem noIds_app:∀ {a b:List AV},noIds a=true→noIds b=true→noIds (a++b)=true
 | [],b,_,h=>h
 | x::a,b,ha,hb=>by
  simp only [noIds,Bool.and_eq_true] at ha
  simp only [List.cons_append,noIds,ha.1,noIds_app ha.2 hb,Bool.and_self]
theorem noId_elE (L:List Nd) (d:List Nat) (i:Nat):noIds (elE L d i)=true:=by
 unfold elE rowE
 exact noIds_app (noId_Nd _) (by simp only [noIds,noId_elC,noId,Bool.and_self])
theorem noId_domT (L:List Nd) (d:List Nat):noId (domT L d)=true:=by
 unfold domT
 simp only [noId,noIds,noIds_map _ (noId_elE L d),Bool.and_self]
end Go.Proofs.YtaoegkmfgfefgaaGreat.Ev
namespace Go.Proofs.YtaoegkmfgfefgaaGreat.Ev
set_option linter.unusedVariables false
set_option linter.unusedSimpArgs false
variable {σ:Sig}
def encI (x:Nat):List AV:=[I (x:Int)]
structure RefH (L:List Nd) (H:Hp) (t m:Nat) (d:List Nat) (n e:AV):Prop where
 tlt:t<H.n
 tg:H.get t=some (.cells [n,e] true)
 rn:Gs 5 H n ((L.take m).map fun x=>encNd (lowN x))
 re:Gs 1 H e (d.map encI)
 nt:¬ own n t
 et:¬ own e t
 ne:∀ j,own n j→¬ own e j
theorem Built.uniq {L:List Nd} {m N:Nat} {d d':List Nat} (h:Built L m d) (h':Built L N d') (hm:m≤N):∀ (n i:Nat),i<n→i<m→d[i]?=d'[i]?:=by
 intro n
 induction n with
 | zero=>intro i hi; omega
 | succ n ih =>
  intro i hi him
  by_cases h0:i=0
  ·subst h0
   rw [(h.root (by omega)).2,(h'.root (by omega)).2]
  ·obtain ⟨p,x,e1,e2,e3,e4,_⟩:=h.step i (by omega) him
   obtain ⟨p',x',f1,f2,f3,f4,_⟩:=h'.step i (by omega) (by omega)
   have:p=p':=by omega
   subst this
   have:=ih p (by omega) (by omega)
   rw [e3,f3] at this
   cases this
   rw [e4,f4]
theorem refNew_L0 {L:List Nd} (hW:∀ n ∈ L,NdWf n) (hN:L.length≤4096) {t:Nat} {K:AV→Hp→Prop} (hErr:(∀ d,¬ Built L L.length d)→∀ e:Int,e≠0→∀ H,K (.tup [.lit (.pointer none),I e]) H)
  (h:∀ H d n e,Built L L.length d→RefH L H t L.length d n e→K (.tup [.ptr t 0,I 0]) H) :
  ∀ (k m:Nat) (H:Hp) (d:List Nat) (n e y7:AV),L.length - m=k→m≤L.length→Built L m d→RefH L H t m d n e→ref9_New.L0 σ K (nds L) (.ptr t 0) (I m) y7 H:=by
 intro k
 induction k with
 | zero =>
  intro m H d n e y7 hk hm hB hR
  have:m=L.length:=by omega
  subst this
  refine ref9_New.L0_step ?_
  simp
  exact h H d n e hB hR
 | succ k ih =>
  intro m H d n e y7 hk hm hB hR
  have hlt:m<L.length:=by omega
  have hLm:L[m]=ndAt L m:=by
   unfold ndAt
   rw [List.getD_eq_getElem?_getD,List.getElem?_eq_getElem hlt]; rfl
  have hget:L[m]?=some (ndAt L m):=by rw [List.getElem?_eq_getElem hlt,hLm]
  have hmem:ndAt L m ∈ L:=List.mem_of_getElem? hget
  have hdl:=hB.len
  have next:∀ x:Nat,(x≤256→Built L (m+1) (d++[x]))→(256<x→∀ d,¬ Built L L.length d)→ref9_New.J1 σ K (nds L) (.ptr t 0) (I m) (I (x:Int)) H:=by
   intro x hx hx'
   refine ref9_New.J1_step ?_
   simp
   split
   ·rename_i hx256
    exact hErr (hx' (by omega)) 11 (by decide) H
   ·rename_i hx256
    have hB':=hx (by omega)
    simp [hR.tg,nds,ix_map hget]
    refine callK_of (rLow_ok _ (hW _ hmem) _) ?_
    simp [hR.tg]
    have t1:t≠H.n:=by have:=hR.tlt; omega
    refine bnd_app1k (y:=.agg (encNd (lowN (ndAt L m)))) (by simp [t1,hR.tg]) hR.rn rfl rfl (by simp) (by simp; omega) (by simp; omega) fun n' H' g f=>?_
    have ht':H'.get t=some (.cells [n,e] true):=by rw [f.same t hR.tlt hR.nt]; exact hR.tg
    have nt':¬ own n' t:=fun h=>by
     rcases f.mine t h with h | h
     ·exact hR.nt h
     ·have:=hR.tlt; omega
    have hre:Gs 1 H' e (d.map encI):=hR.re.keep (fun j hj=>f.same j (hR.re.lt hj) (fun h=>hR.ne j h hj)) f.grow
    have hne:∀ j,own n' j→¬ own e j:=fun j h h'=>by
     rcases f.mine j h with h | h
     ·exact hR.ne j h h'
     ·have:=hR.re.lt h'; omega
    simp [g.st (id:=t) (off:=0) ht' (by simp)]
    have hre2:Gs 1 (H'.set t (some (.cells [n',e] true))) e (d.map encI):=hre.keep (fun j hj=>by
     have:j≠t:=fun h=>hR.et (h ▸ hj)
     simp [this]) (by simp)
    refine bnd_app1 hre2 rfl rfl rfl (by simp; omega) (by simp; omega) fun e' H2 g2 f2=>?_
    have tl2:t<(H'.set t (some (.cells [n',e] true))).n:=by simp; have:=f.grow; have:=hR.tlt; omega
    have ht2:H2.get t=some (.cells [n',e] true):=by rw [f2.same t tl2 hR.et]; simp
    have et':¬ own e' t:=fun h=>by
     rcases f2.mine t h with h | h
     ·exact hR.et h
     ·omega
    simp [g2.st (id:=t) (off:=1) ht2 (by simp)]
    rw [wr_succ (by omega)]
    have hg2n:=f2.grow
    simp at hg2n
    refine ih (m+1) _ (d++[x]) n' e' _ (by omega) (by omega) hB' ⟨?_,?_,?_,?_,nt',et',?_⟩
    ·simp; have:=f.grow; have:=hR.tlt; omega
    ·simp
    ·rw [map_take_succ hlt,hLm]
     refine g.keep (fun j hj=>?_) (by simp; omega)
     have a1:j≠t:=fun h=>nt' (h ▸ hj)
     have a2:j<(H'.set t (some (.cells [n',e] true))).n:=by simp; exact g.lt hj
     have:=f2.same j a2 (hne j hj)
     simp [a1] at this ⊢
     exact this
    ·rw [List.map_append]
     refine Gs.keep (H:=H2) g2 (fun j hj=>?_) (by simp)
     have a1:j≠t:=fun h=>et' (h ▸ hj)
     simp [a1]
    ·intro j hj h'
     rcases f2.mine j h' with h | h
     ·exact hne j hj h
     ·have:=g.lt hj; simp at h; omega
  refine ref9_New.L0_step ?_
  simp [nds,hlt,ix_map hget]
  have hpar:(ndAt L m).parent=par L m:=rfl
  rw [hpar]
  by_cases h0:m=0
  ·subst h0
   simp
   split
   ·rename_i hp
    rw [show (AV.imm 5 (L.map encNd))=nds L from rfl]
    refine next 0 (fun _=>?_) (fun h=>by omega)
    have hd:d=[]:=List.length_eq_zero_iff.1 hdl
    subst hd
    exact .first hlt hp
   ·rename_i hp
    exact hErr (fun d' hB'=>hp (hB'.root hlt).1) 10 (by decide) H
  ·have hm1:¬ ((m:Int)=0):=by omega
   have hm2:(0:Int)<m:=by omega
   have hm3:0<m:=by omega
   simp [h0,hm1,hm2,hm3]
   split
   ·rename_i hp
    exact hErr (fun d' hB'=>by obtain ⟨p,x,e1,e2,_⟩:=hB'.step m hm3 hlt; omega) 10 (by decide) H
   split
   ·rename_i _ hp
    exact hErr (fun d' hB'=>by obtain ⟨p,x,e1,e2,_⟩:=hB'.step m hm3 hlt; omega) 10 (by decide) H
   ·rename_i hp1 hp2
    obtain ⟨p,hp⟩:∃ p:Nat,par L m=p:=⟨(par L m).toNat,by omega⟩
    rw [hp] at hp2 ⊢
    have hpm:p<m:=by omega
    obtain ⟨x,hx⟩:=get_lt (l:=d) (k:=p) (by omega)
    obtain ⟨id,ex,he,hg⟩:∃ id ex,e=.sl id 0 1 d.length none∧H.get id=some (.cells (d.map encI).flatten ex):=by
     have:=hR.re
     generalize hr:d.map encI=rr at this
     have hrl:rr.length=d.length:=by rw [← hr]; simp
     cases this with
     | nil=>simp at hrl; omega
     | sl hlt hg hsz=>exact ⟨_,_,by rw [hrl],hg⟩
    have hdrop:∃ r,((d.map encI).flatten).drop p=I (x:Int)::r:=by
     have h1:∀ r ∈ d.map encI,r.length=1:=fun r hr=>by obtain ⟨y,_,rfl⟩:=List.mem_map.1 hr; rfl
     have h2:=flat_drop h1 (w:=p) (by simp; omega)
     rw [Nat.mul_one] at h2
     have h3:(d.map encI)[p]'(by simp; omega)=encI x:=by
      rw [List.getElem_map]
      rw [List.getElem?_eq_getElem (by omega)] at hx
      rw [Option.some.inj hx]
     rw [h3] at h2
     exact ⟨_,h2⟩
    obtain ⟨r,hdrop⟩:=hdrop
    have e1:wr .i64 ((x:Int)+1)=((x+1:Nat):Int):=by
     have:x≤256:=by
      by_cases hp0:p=0
      ·subst hp0
       have:=(hB.root hm3).2
       rw [hx] at this
       cases this
       omega
      ·obtain ⟨_,y,_,_,_,h4,h5⟩:=hB.step p (by omega) hpm
       rw [hx] at h4
       cases h4
       omega
     rw [wr64 (by omega) (by omega)]; rfl
    simp [hR.tg,he]
    rw [ix_sl (by omega) (by omega)]
    simp [hg,hdrop]
    rw [e1,show (AV.imm 5 (L.map encNd))=nds L from rfl]
    have:=next (x+1) (fun h256=>hB.next hm3 hlt hp hpm hx h256) fun h d' hB'=>by
     obtain ⟨p',x',f1,f2,f3,f4,f5⟩:=hB'.step m hm3 hlt
     have e2:p=p':=by omega
     subst e2
     have e3:=hB.uniq hB' (by omega) (p+1) p (by omega) hpm
     rw [hx,f3] at e3
     cases e3
     omega
    exact this
def refT (L:List Nd) (d:List Nat):AV:=.ip [nds (L.map lowN),.imm 1 (d.map encI)]
theorem noId_refT (L:List Nd) (d:List Nat):noId (refT L d)=true:=by
 unfold refT
 simp only [noId,noIds,noId_nds,noIds_map _ (show ∀ x,noIds (encI x)=true from fun _=>rfl),Bool.and_self]
theorem refNew_ok (L:List Nd) (hW:∀ n ∈ L,NdWf n):((L.length≤4096→∀ d,¬ Built L L.length d)∧∃ e:Int,e≠0∧∀ H,Good Tryz.prog σ n_ref9_New [nds L] H (.tup [.lit (.pointer none),I e]) H) ∨
  (∃ d,L.length≤4096∧Built L L.length d∧∀ H,Good Tryz.prog σ n_ref9_New [nds L] H (.tup [refT L d,I 0]) H):=by
 by_cases hN:L.length≤4096
 ·obtain ⟨Q,hQ⟩:∃ Q:AV→Hp→Prop,∀ r H1,Q r H1 ↔ (((∀ d,¬ Built L L.length d)∧∃ e:Int,e≠0∧r=.tup [.lit (.pointer none),I e])∨∃ d,Built L L.length d∧Fz H1 r (.tup [refT L d,I 0])):=⟨_,fun _ _=>Iff.rfl⟩
  have run:∃ r H1,Good Tryz.prog σ n_ref9_New [nds L] Hp.empty r H1∧Q r H1:=by
   refine ref9_New.run ?_
   have h1:¬ ((4096:Int)<(L.length:Int)):=by omega
   simp [h1,bldR]
   refine refNew_L0 hW hN (fun hnb e he H=>by rw [hQ]; exact .inl ⟨hnb,e,he,rfl⟩) (fun H d n e hB hR=>?_) _ 0 _ [] (.lit (.slice none 0 0)) (.lit (.slice none 0 0)) _ rfl (Nat.zero_le _) (Built.nil L)
    ⟨by simp,by simp,by simpa using Gs.nil,.nil,fun h=>h,fun h=>h,fun j h=>h.elim⟩
   rw [hQ]
   refine .inr ⟨d,hB,.tup rfl fun j x y hx hy=>?_⟩
   have rn:=hR.rn
   rw [List.take_length] at rn
   match j with
   | 0 =>
    simp at hx hy
    subst hx; subst hy
    have f1:=rn.fz (noIds_map _ (fun x=>noId_Nd (lowN x)) _)
    have f2:=hR.re.fz (noIds_map _ (fun _=>rfl) _)
    refine .ptr (fun j=>[n,e].getD j .any) hR.tg (fun j y hj=>?_) (fun j y hj=>?_)
    ·have hl:=(List.getElem?_eq_some_iff.1 hj).1
     match j with
     | 0=>simp
     | 1=>simp
     | j+2=>simp at hl; omega
    ·match j with
     | 0=>simp at hj; rw [← hj]; simpa [nds,Function.comp_def] using f1
     | 1=>simp at hj; rw [← hj]; exact f2
     | j+2=>simp at hj
   | 1=>simp at hx hy; subst hx; subst hy; exact .refl rfl
   | j+2=>simp at hx
  obtain ⟨r,H1,hg,hf⟩:=run
  rw [hQ] at hf
  rcases hf with ⟨hnb,e,he,rfl⟩ | ⟨d,hB,hf⟩
  ·exact .inl ⟨fun _=>hnb,e,he,fun H=>hg.over (by simp [noIds]) (by simp [plainV,plainVs]) H⟩
  ·exact .inr ⟨d,hN,hB,fun H=>hg.frzR (by simp [noIds]) hf H⟩
 ·have run:∃ r H1,Good Tryz.prog σ n_ref9_New [nds L] Hp.empty r H1∧r=.tup [.lit (.pointer none),I 3]:=by
   refine ref9_New.run ?_
   have h1:((4096:Int)<(L.length:Int)):=by omega
   simp [h1]
  obtain ⟨r,H1,hg,rfl⟩:=run
  exact .inl ⟨fun h=>absurd h hN,3,by decide,fun H=>hg.over (by simp [noIds]) (by simp [plainV,plainVs]) H⟩
end Go.Proofs.YtaoegkmfgfefgaaGreat.Ev
namespace Go.Proofs.YtaoegkmfgfefgaaGreat.Ev
set_option linter.unusedVariables false
set_option linter.unusedSimpArgs false
variable {σ:Sig}
def childI (L:List Nd) (e k:Nat):Int:=match (kids L L.length e)[k]? with | some j=>j | none=>-1
def lastB (L:List Nd) (e:Nat):Bool:=decide (par L e<0)||decide (childI L (par L e).toNat (place L e).toNat<0)
theorem par_bd {L:List Nd} {N:Nat} {d:List Nat} (hB:Built L N d) {e:Nat} (he:e<N):par L e=-1∨∃ p:Nat,par L e=p∧p<e:=by
 by_cases h0:e=0
 ·subst h0; exact .inl (hB.root he).1
 ·obtain ⟨p,x,h1,h2,_⟩:=hB.step e (by omega) he
  exact .inr ⟨p,h1,h2⟩
end Go.Proofs.YtaoegkmfgfefgaaGreat.Ev
namespace Go.Proofs.YtaoegkmfgfefgaaGreat.Ev
set_option linter.unusedVariables false
set_option linter.unusedSimpArgs false
variable {σ:Sig}
def HasC (σ:Sig):Prop:=∀ (s t:ByteArray) (H:Hp),s.data.size<4294967281→Good Tryz.prog σ n_strings_Contains [Sx s,Sx t] H (Bo (decide (0≤Go.Lib.index (tl s) (tl t)))) H
def hasB (l:List ByteArray) (s:ByteArray):Bool:=l.any fun x=>decide (x=s)
section
end
def wordB (s t:ByteArray):Bool:=decide (tl t ∈ wordsB (tl s))
def emp:ByteArray:=⟨#[]⟩
def soB (s:ByteArray) (a:At):Bool :=
 if a.op=0 then true else if a.op=1 then decide (s=a.text) else if a.op=2 then !decide (a.text=emp)&&wordB s a.text
 else if a.op=3 then decide (s=a.text)||preB (tl s) (tl a.text++[45]) else if a.op=4 then !decide (a.text=emp)&&preB (tl s) (tl a.text)
 else if a.op=5 then !decide (a.text=emp)&&sufB (tl s) (tl a.text) else if a.op=6 then !decide (a.text=emp)&&decide (0≤Go.Lib.index (tl s) (tl a.text)) else false
structure AtWf (a:At):Prop where
 text:a.text.data.size≤reachBytes
def attrB (l:List (ByteArray × ByteArray)) (a:At):Bool:=match l.find? fun p=>decide (p.1=a.name) with
 | some p=>soB p.2 a
 | none=>false
end Go.Proofs.YtaoegkmfgfefgaaGreat.Ev
namespace Go.Proofs.YtaoegkmfgfefgaaGreat.Ev
set_option linter.unusedVariables false
set_option linter.unusedSimpArgs false
variable {σ:Sig}
structure SmN (n:Nd):Prop where
 classes:n.classes.length≤reachBytes
 attrs:n.attrs.length≤reachBytes
 texts:∀ p ∈ n.attrs,p.2.data.size<4294967281
structure CpOk (c:Cp):Prop where
 ids:c.ids.length≤reachBytes
 classes:c.classes.length≤reachBytes
 attrs:c.attrs.length≤reachBytes
 texts:∀ a ∈ c.attrs,AtWf a
 ps:c.pseudos.length≤reachBytes
def tagB (n:Nd) (c:Cp):Bool:=decide (c.tag=emp)||decide (c.tag=n.tag)
def idB (n:Nd) (x:ByteArray):Bool:=!decide (x=emp)&&decide (x=n.id)
def plainB (n:Nd) (c:Cp):Bool:=tagB n c&&(c.ids.all (idB n)&&(c.classes.all (hasB n.classes)&&c.attrs.all (attrB n.attrs)))
section
end
def nthB (p a b:Int):Bool:=if a=0 then decide (p=b) else if 0<a then decide (b≤p)&&decide ((p - b) % a=0) else decide (p≤b)&&decide ((b - p) % (-a)=0)
theorem wrU (n:Int):wr .u64 n=n % 18446744073709551616:=by
 unfold wr
 simp [IntKind.wrap,IntKind.signed,IntKind.bits]
theorem wrU_in {n:Int} (h0:0≤n) (h1:n<18446744073709551616):wr .u64 n=n:=by rw [wrU]; omega
theorem subU (a b:Int):wr .u64 (wr .u64 a - wr .u64 b)=(a - b) % 18446744073709551616:=by
 rw [wrU,wrU,wrU]
 omega
theorem sibs_len (L:List Nd) (e:Nat):(sibs L e).length≤e:=by
 have:=List.length_filter_le (fun j:Nat=>decide (0<j)&&decide (par L j=par L e)) (List.range e)
 simp at this
 unfold sibs; omega
theorem place_bd (L:List Nd) (e:Nat):1≤place L e∧place L e≤(e:Int)+1:=by
 have:=sibs_len L e
 unfold place; omega
def standI (L:List Nd) (e:Nat) (k:Int):Int:=if k=1∨k=2 then par L e else if k=3∨k=4 then before L e else -1
def farB (k:Int):Bool:=decide (k=1)||decide (k=4)
end Go.Proofs.YtaoegkmfgfefgaaGreat.Ev
namespace Go.Proofs.YtaoegkmfgfefgaaGreat.Ev
set_option linter.unusedVariables false
set_option linter.unusedSimpArgs false
variable {σ:Sig}
structure Lk where
 part:Pt
 lists:List (List Nat)
def encN (n:Nat):List AV:=[I (n:Int)]
def ints (l:List Nat):AV:=.imm 1 (l.map encN)
def encLk (x:Lk):List AV:=encPt x.part++[.imm 1 (x.lists.map fun l=>[ints l])]
def chainV (c:List Lk):AV:=.imm 7 (c.map encLk)
@[simp] theorem len_lk (x:Lk):(encLk x).length=7:=by simp [encLk]
def encQ (n i e:Nat) (a:Bool):List AV:=[I (n:Int),I (i:Int),I (e:Int),Bo a]
abbrev qKK:List KK:=[.int .i64,.int .i64,.int .i64,.bool]
def MemoOk (N:Nat) (T:Nat→Nat→Nat→Bool→Bool) (es:List (AV × AV)):Prop:=∀ p ∈ es,∃ n i e a,n<N∧p=(.agg (encQ n i e a),Bo (T n i e a))∧kOk true qKK p.1=true
structure Asks (t:AV) (C:List (List Lk)) (T:Nat→Nat→Nat→Bool→Bool) (ab mb:Nat) (cs:AV) (H:Hp):Prop where
 gab:H.get ab=some (.cells [t,cs,.mp mb] true)
 nab:ab<H.n
 nmb:mb<H.n
 ne:ab≠mb
 gcs:Gs 1 H cs (C.map fun c=>[chainV c])
 csm:¬ own cs mb
 memo:∃ es,H.get mb=some (.map es)∧MemoOk C.length T es
structure Kp (mb:Nat) (H H':Hp):Prop where
 up:H.n≤H'.n
 get:∀ (j:Nat),j<H.n→j≠mb→H'.get j=H.get j
theorem Kp.refl (mb:Nat) (H:Hp):Kp mb H H:=⟨Nat.le_refl _,fun _ _ _=>rfl⟩
theorem Kp.trans {mb:Nat} {H H1 H2:Hp} (h:Kp mb H H1) (k:Kp mb H1 H2):Kp mb H H2:=⟨Nat.le_trans h.up k.up,fun j hj hne=>by rw [k.get j (Nat.lt_of_lt_of_le hj h.up) hne,h.get j hj hne]⟩
theorem Kp.new (mb:Nat) (H:Hp) (b:Blk):Kp mb H (H.new b):=by
 refine ⟨by simp,fun j hj _=>?_⟩
 have:j≠H.n:=by omega
 simp [this]
theorem Asks.keep {t:AV} {C:List (List Lk)} {T:Nat→Nat→Nat→Bool→Bool} {ab mb:Nat} {cs:AV} {H H':Hp} (h:Asks t C T ab mb cs H) (hn:H.n≤H'.n) (hg:∀ j,j<H.n→H'.get j=H.get j):Asks t C T ab mb cs H':=by
 obtain ⟨es,he,hm⟩:=h.memo
 exact ⟨by rw [hg _ h.nab]; exact h.gab,Nat.lt_of_lt_of_le h.nab hn,Nat.lt_of_lt_of_le h.nmb hn,h.ne,h.gcs.keep (fun j hj=>hg j (h.gcs.lt hj)) hn,h.csm,es,by rw [hg _ h.nmb]; exact he,hm⟩
theorem Asks.new {t:AV} {C:List (List Lk)} {T:Nat→Nat→Nat→Bool→Bool} {ab mb:Nat} {cs:AV} {H:Hp} (h:Asks t C T ab mb cs H) (b:Blk):Asks t C T ab mb cs (H.new b):=by
 refine h.keep (by simp) fun j hj=>?_
 have:j≠H.n:=by omega
 simp [this]
theorem Asks.pure {L:List Nd} {d:List Nat} {C:List (List Lk)} {T:Nat→Nat→Nat→Bool→Bool} {ab mb:Nat} {cs:AV} {H:Hp} (h:Asks (domT L d) C T ab mb cs H) {f:Nat} {xs:List AV} {r:AV}
  (hg:Good Tryz.prog σ f (.ip (domT L d::[])::xs) Hp.empty r Hp.empty) (hx:noIds xs=true) (hr:plainV r=true):Good Tryz.prog σ f (.ptr ab 0::xs) H r H:=by
 refine hg.frzA (.cons (.ptr (fun _=>domT L d) h.gab (fun j y hj=>?_) (fun j y hj=>?_)) (FzL.refl hx)) hr
 ·have:j=0:=by have:=(List.getElem?_eq_some_iff.1 hj).1; simp at this; omega
  subst this; simp
 ·have:j=0:=by have:=(List.getElem?_eq_some_iff.1 hj).1; simp at this; omega
  subst this
  simp at hj; subst hj
  exact .refl (noId_domT L d)
end Go.Proofs.YtaoegkmfgfefgaaGreat.Ev
namespace Go.Proofs.YtaoegkmfgfefgaaGreat.Ev
set_option linter.unusedVariables false
set_option linter.unusedSimpArgs false
variable {σ:Sig}
def FitC (c:Cp):Prop:=c.ids.length≤5∧c.classes.length≤5∧c.attrs.length≤5∧c.pseudos.length≤5
def FitL:Nat→List Sl→Prop
 | 0,_=>False
 | f+1,l=>∀ s ∈ l,s.length≤60∧∀ p ∈ s,FitC p.c∧∀ q ∈ p.c.pseudos,FitL f q.list
def FitS (f:Nat) (s:Sl):Prop:=s.length≤60∧∀ p ∈ s,FitC p.c∧∀ q ∈ p.c.pseudos,FitL f q.list
def FitP (f:Nat) (p:Pt):Prop:=FitC p.c∧∀ q ∈ p.c.pseudos,FitL f q.list
def DearP (f:Nat) (l:List Sl) (n:Int):Prop:=0≤n∧n≤200*4 ^ f∧(n≤40→FitL f l)
theorem dear_step (f:Nat) (hf:f≤10) (ih:∀ l,slsWf Lmax l→∃ n,(∀ H,Good Tryz.prog σ n_law10_dear [sls l,I ((11 - f:Nat):Int)] H (I n) H)∧DearP f l n) (l:List Sl) (hl:slsWf Lmax l) :
  ∃ n,(∀ H,Good Tryz.prog σ n_law10_dear [sls l,I ((10 - f:Nat):Int)] H (I n) H)∧DearP (f+1) l n:=by
 have h4:4 ^ f ≥ 1:=Nat.one_le_pow _ _ (by omega)
 have h4b:4 ^ f≤1048576:=by
  calc 4 ^ f≤4 ^ 10:=Nat.pow_le_pow_right (by omega) hf
   _=1048576:=by decide
 have hpow:(200*4 ^ (f+1):Int)=800*4 ^ f:=by rw [Int.pow_succ]; omega
 have cast4:((4 ^ f:Nat):Int)=(4:Int) ^ f:=by simp
 let K:AV→Hp→Prop:=fun r _=>∃ n,r=I n∧DearP (f+1) l n
 have stop:∀ H,K (I 100) H:=fun H=>⟨100,rfl,by omega,by rw [hpow]; omega,fun h=>by omega⟩
 have L0:∀ (d k:Nat) (H:Hp) (n:Int) (y7 y8 y9 y10:AV),l.length - k=d→k≤l.length→0≤n→n≤200*4 ^ (f+1)→(n≤40→∀ s ∈ l.take k,FitS f s) →
   law10_dear.L0 σ K (sls l) (I ((10 - f:Nat):Int)) (I n) (I k) y7 y8 y9 y10 H:=by
  intro d
  induction d with
  | zero =>
   intro k H n y7 y8 y9 y10 hd hk hn hn2 hfit
   have e:k=l.length:=by omega
   subst e
   refine law10_dear.L0_step ?_
   simp [sls]
   exact ⟨n,rfl,hn,hn2,fun h=>by simpa [FitL,FitS] using hfit h⟩
  | succ d ihd =>
   intro k H n y7 y8 y9 y10 hd hk hn hn2 hfit
   have hlt:k<l.length:=by omega
   obtain ⟨s,hs⟩:=get_lt hlt
   have hsw:=hl.2 s (List.mem_of_getElem? hs)
   have htake:∀ (P:Sl→Prop),(∀ x ∈ l.take k,P x)→P s→∀ x ∈ l.take (k+1),P x:=by
    intro P h1 h2 x hx
    rw [List.take_add_one,hs] at hx
    simp only [Option.toList_some,List.mem_append,List.mem_singleton] at hx
    rcases hx with hx | rfl
    ·exact h1 x hx
    ·exact h2
   have L1:∀ (d2 j:Nat) (H:Hp) (n:Int) (y9 y10:AV),s.length - j=d2→j≤s.length→s.length≤60→0≤n→n≤200*4 ^ (f+1)→(n≤40→(∀ s ∈ l.take k,FitS f s)∧∀ p ∈ s.take j,FitP f p) →
     law10_dear.L1 σ K (sls l) (I ((10 - f:Nat):Int)) (I n) (I k) (.imm 6 (s.map encPt)) (I j) y9 y10 H:=by
    intro d2
    induction d2 with
    | zero =>
     intro j H n y9 y10 hd2 hj h60 hn hn2 hfit2
     have e:j=s.length:=by omega
     subst e
     refine law10_dear.L1_step ?_
     simp
     rw [wr_succL hlt hl.1]
     exact ihd (k+1) H n _ _ _ _ (by omega) (by omega) hn hn2 fun h=>htake _ (hfit2 h).1 ⟨h60,by simpa [FitP] using (hfit2 h).2⟩
    | succ d2 ihd2 =>
     intro j H n y9 y10 hd2 hj h60 hn hn2 hfit2
     have hjlt:j<s.length:=by omega
     obtain ⟨p,hp⟩:=get_lt hjlt
     have hpw:=(Pt.wf_iff.1 (hsw.2 p (List.mem_of_getElem? hp))).2
     have htake2:∀ (P:Pt→Prop),(∀ x ∈ s.take j,P x)→P p→∀ x ∈ s.take (j+1),P x:=by
      intro P h1 h2 x hx
      rw [List.take_add_one,hp] at hx
      simp only [Option.toList_some,List.mem_append,List.mem_singleton] at hx
      rcases hx with hx | rfl
      ·exact h1 x hx
      ·exact h2
     have L2:∀ (d3 i:Nat) (H:Hp) (n:Int) (id:Nat),H.get id=some (.cells (encCp p.c) true)→p.c.pseudos.length - i=d3→i≤p.c.pseudos.length→FitC p.c→0≤n→n≤200*4 ^ (f+1) →
       (n≤40→(∀ s ∈ l.take k,FitS f s)∧(∀ p ∈ s.take j,FitP f p)∧∀ q ∈ p.c.pseudos.take i,FitL f q.list) →
       law10_dear.L2 σ K (sls l) (I ((10 - f:Nat):Int)) (I n) (I k) (.imm 6 (s.map encPt)) (I j) (.ptr id 0) (I i) H:=by
      intro d3
      induction d3 with
      | zero =>
       intro i H n id hid hd3 hi hc hn hn2 hfit3
       have e:i=p.c.pseudos.length:=by omega
       subst e
       refine law10_dear.L2_step ?_
       simp [hid,encCp_eq]
       rw [wr_succL hjlt hsw.1]
       exact ihd2 (j+1) H n _ _ (by omega) (by omega) h60 hn hn2 fun h=>⟨(hfit3 h).1,htake2 _ (hfit3 h).2.1 ⟨hc,by simpa using (hfit3 h).2.2⟩⟩
      | succ d3 ihd3 =>
       intro i H n id hid hd3 hi hc hn hn2 hfit3
       have hilt:i<p.c.pseudos.length:=by omega
       obtain ⟨q,hq⟩:=get_lt hilt
       have hqw:=(Ps.wf_iff.1 (hpw.ps q (List.mem_of_getElem? hq))).2.2.2
       obtain ⟨m,hm,hm0,hm1,hm2⟩:=ih q.list hqw
       refine law10_dear.L2_step ?_
       have e1:wr .i64 (((10 - f:Nat):Int)+1)=((11 - f:Nat):Int):=by rw [wr64 (by omega) (by omega)]; omega
       simp [hid,encCp_eq,ix_map hq,encPs_eq,hilt]
       split
       ·rename_i hlt100
        refine callK_of (by rw [e1]; exact hm H) ?_
        simp only [b_mul,bnd_some,b_add]
        have e2:wr .i64 (3*m)=3*m:=wr64 (by omega) (by omega)
        have e3:wr .i64 (n+3*m)=n+3*m:=wr64 (by omega) (by omega)
        rw [e2,e3,wr_succL hilt hpw.psL]
        refine ihd3 (i+1) H (n+3*m) id hid (by omega) (by omega) hc (by omega) (by rw [hpow]; omega) fun h=>?_
        have:=hfit3 (by omega)
        refine ⟨this.1,this.2.1,fun x hx=>?_⟩
        rw [List.take_add_one,hq] at hx
        simp only [Option.toList_some,List.mem_append,List.mem_singleton] at hx
        rcases hx with hx | rfl
        ·exact this.2.2 x hx
        ·exact hm2 (by omega)
       ·rw [wr_succL hjlt hsw.1]
        refine ihd2 (j+1) H n _ _ (by omega) (by omega) h60 hn hn2 fun h=>by omega
     refine law10_dear.L1_step ?_
     simp [ix_map hp,ldL_all,overlay_all,encPt_eq,encCp_eq,hjlt]
     split
     ·rename_i hlt100
      have e1:wr .i64 (n+1)=n+1:=wr64 (by omega) (by omega)
      have e2:wr .i64 (n+1+((10 - f:Nat):Int))=n+1+((10 - f:Nat):Int):=wr64 (by omega) (by omega)
      simp only [e1,e2]
      split
      ·exact stop Hp.empty
      split
      ·exact stop Hp.empty
      split
      ·exact stop Hp.empty
      split
      ·exact stop Hp.empty
      ·refine L2 _ 0 _ _ H.n ?_ rfl (Nat.zero_le _) ⟨by omega,by omega,by omega,by omega⟩ (by omega) (by rw [hpow]; omega) fun h=>?_
       ·simp [encCp_eq]
       ·have:=hfit2 (by omega)
        exact ⟨this.1,this.2,fun x hx=>by simp at hx⟩
     ·rw [wr_succL hlt hl.1]
      exact ihd (k+1) H n _ _ _ _ (by omega) (by omega) hn hn2 fun h=>by omega
   refine law10_dear.L0_step ?_
   simp only [sls]
   simp [ix_map hs,encSl,hlt]
   have go:s.length≤60→∀ H,law10_dear.L1 σ K (.imm 1 (l.map encSl)) (I ((10 - f:Nat):Int)) (I n) (I k) (.imm 6 (s.map encPt)) (I 0) y9 y10 H :=
    fun h60 H=>L1 _ 0 H n y9 y10 rfl (Nat.zero_le _) h60 hn hn2 fun h=>⟨hfit h,fun x hx=>by simp at hx⟩
   split
   ·split
    ·split
     ·exact stop Hp.empty
     ·split
      ·exact stop Hp.empty
      ·exact go (by omega) _
    ·split
     ·exact stop Hp.empty
     ·exact go (by omega) _
   ·exact ⟨n,rfl,hn,hn2,fun h=>by omega⟩
 have run:∃ r H1,Good Tryz.prog σ n_law10_dear [sls l,I ((10 - f:Nat):Int)] Hp.empty r H1∧K r H1:=by
  refine law10_dear.run ?_
  simp
  rw [if_neg (by omega)]
  exact L0 _ 0 _ 0 _ _ _ _ rfl (Nat.zero_le _) (by omega) (by rw [hpow]; omega) fun _ x hx=>by simp at hx
 obtain ⟨r,H1,hg,n,rfl,hd⟩:=run
 exact ⟨n,fun H=>hg.over (by simp [noIds,noId]) rfl H,hd⟩
theorem dear_ok:∀ (f:Nat),f≤11→∀ (l:List Sl),slsWf Lmax l→∃ n,(∀ H,Good Tryz.prog σ n_law10_dear [sls l,I ((11 - f:Nat):Int)] H (I n) H)∧DearP f l n
 | 0,_,l,hl=>by
  have run:∃ r H1,Good Tryz.prog σ n_law10_dear [sls l,I ((11 - 0:Nat):Int)] Hp.empty r H1∧r=I 100:=law10_dear.run (by simp)
  obtain ⟨r,H1,hg,rfl⟩:=run
  exact ⟨100,fun H=>hg.over (by simp [noIds,noId]) rfl H,by omega,by simp,fun h=>by omega⟩
 | f+1,hf,l,hl=>by
  have:=dear_step f (by omega) (dear_ok f (by omega)) l hl
  rwa [show 10 - f=11 - (f+1) by omega] at this
theorem Dear_ok (l:List Sl) (hl:slsWf Lmax l):∃ b,(∀ H,Good Tryz.prog σ n_law10_Dear [sls l] H (Bo b) H)∧(b=false→FitL 11 l):=by
 obtain ⟨n,hn,h0,h1,h2⟩:=dear_ok (σ:=σ) 11 (by omega) l hl
 have run:∃ r H1,Good Tryz.prog σ n_law10_Dear [sls l] Hp.empty r H1∧r=Bo (decide (40<n)):=by
  refine law10_Dear.run (callK_of (hn _) ?_)
  simp
 obtain ⟨r,H1,hg,rfl⟩:=run
 exact ⟨_,fun H=>hg.over (by simp [noIds,noId]) rfl H,fun h=>h2 (by simpa using h)⟩
end Go.Proofs.YtaoegkmfgfefgaaGreat.Ev
namespace Go.Proofs.YtaoegkmfgfefgaaGreat.Ev
set_option linter.unusedVariables false
set_option linter.unusedSimpArgs false
variable {σ:Sig}
def aheadF (g:Nat→Bool) (L:List Nd) (k:Int):Nat→Nat→Bool
 | 0,_=>false
 | f+1,e=>decide (0≤standI L e k)&&(g (standI L e k).toNat||(farB k&&aheadF g L k f (standI L e k).toNat))
def pseudoB (any:List Sl→Nat→Bool) (L:List Nd) (e:Nat) (q:Ps):Bool :=
 if q.kind=1 then decide (par L e<0) else if q.kind=2 then decide (place L e=1) else if q.kind=3 then lastB L e else if q.kind=4 then decide (place L e=1)&&lastB L e
 else if q.kind=5 then decide (childI L e 0<0) else if q.kind=6 then nthB (place L e) q.a q.b else if q.kind=7 then !any q.list e else if q.kind=8 then any q.list e else false
def compB (any:List Sl→Nat→Bool) (L:List Nd) (e:Nat) (c:Cp):Bool:=plainB (lowN (ndAt L e)) c&&c.pseudos.all (pseudoB any L e)
def frontB (any:List Sl→Nat→Bool) (L:List Nd) (s:Sl):Nat→Nat→Bool
 | 0,e=>match s[0]? with
  | some p=>compB any L e p.c
  | none=>false
 | i+1,e=>match s[i+1]? with
  | some p=>compB any L e p.c&&aheadF (frontB any L s i) L p.comb (e+1) e
  | none=>false
def anyS (any:List Sl→Nat→Bool) (L:List Nd) (l:List Sl) (e:Nat):Bool:=l.any fun s=>!decide (s.length=0)&&frontB any L s (s.length - 1) e
def anyB (L:List Nd):Nat→List Sl→Nat→Bool
 | 0,_,_=>false
 | f+1,l,e=>anyS (anyB L f) L l e
def Nest:Nat→List Sl→Prop
 | 0,_=>False
 | f+1,l=>∀ s ∈ l,∀ p ∈ s,∀ q ∈ p.c.pseudos,Nest f q.list
theorem FitL.nest:∀ {f:Nat} {l:List Sl},FitL f l→Nest f l
 | 0,l,h=>h
 | f+1,l,h=>fun s hs p hp q hq=>(((h s hs).2 p hp).2 q hq).nest
theorem compB_congr {any any':List Sl→Nat→Bool} {L:List Nd} {c:Cp} (h:∀ q ∈ c.pseudos,∀ e,any q.list e=any' q.list e) (e:Nat):compB any L e c=compB any' L e c:=by
 unfold compB
 congr 1
 rw [Bool.eq_iff_iff,List.all_eq_true,List.all_eq_true]
 have:∀ q ∈ c.pseudos,pseudoB any L e q=pseudoB any' L e q:=fun q hq=>by unfold pseudoB; rw [h q hq]
 exact ⟨fun h q hq=>by rw [← this q hq]; exact h q hq,fun h q hq=>by rw [this q hq]; exact h q hq⟩
theorem aheadF_congr {g g':Nat→Bool} {L:List Nd} {k:Int} (h:∀ e,g e=g' e):∀ (f e:Nat),aheadF g L k f e=aheadF g' L k f e
 | 0,e=>rfl
 | f+1,e=>by unfold aheadF; rw [h,aheadF_congr h f]
theorem frontB_congr {any any':List Sl→Nat→Bool} {L:List Nd} {s:Sl} (h:∀ p ∈ s,∀ q ∈ p.c.pseudos,∀ e,any q.list e=any' q.list e):∀ (i e:Nat),frontB any L s i e=frontB any' L s i e
 | 0,e=>by
  unfold frontB
  cases hs:s[0]? with
  | none=>rfl
  | some p=>exact compB_congr (h p (List.mem_of_getElem? hs)) e
 | i+1,e=>by
  unfold frontB
  cases hs:s[i+1]? with
  | none=>rfl
  | some p =>
   simp only
   rw [compB_congr (h p (List.mem_of_getElem? hs)) e,aheadF_congr (frontB_congr h i)]
theorem anyS_congr {any any':List Sl→Nat→Bool} {L:List Nd} {l:List Sl} (h:∀ s ∈ l,∀ p ∈ s,∀ q ∈ p.c.pseudos,∀ e,any q.list e=any' q.list e) (e:Nat):anyS any L l e=anyS any' L l e:=by
 unfold anyS
 rw [Bool.eq_iff_iff,List.any_eq_true,List.any_eq_true]
 have:∀ s ∈ l,(!decide (s.length=0)&&frontB any L s (s.length - 1) e)=(!decide (s.length=0)&&frontB any' L s (s.length - 1) e):=fun s hs=>by rw [frontB_congr (h s hs)]
 exact ⟨fun ⟨s,hs,h⟩=>⟨s,hs,by rw [← this s hs]; exact h⟩,fun ⟨s,hs,h⟩=>⟨s,hs,by rw [this s hs]; exact h⟩⟩
theorem anyB_nest {L:List Nd}:∀ (f g:Nat) (l:List Sl) (e:Nat),Nest f l→f≤g→anyB L g l e=anyB L f l e
 | 0,g,l,e,h,_=>h.elim
 | f+1,0,l,e,h,hfg=>by omega
 | f+1,g+1,l,e,h,hfg=>by
  unfold anyB
  exact anyS_congr (fun s hs p hp q hq e=>anyB_nest f g q.list e (h s hs p hp q hq) (by omega)) e
def AA (L:List Nd):List Sl→Nat→Bool:=anyB L 12
theorem AA_eq {L:List Nd} {f:Nat} {l:List Sl} (h:Nest f l) (hf:f≤12) (e:Nat):anyS (AA L) L l e=AA L l e:=by
 show anyB L 13 l e=anyB L 12 l e
 rw [anyB_nest f 13 l e h (by omega),anyB_nest f 12 l e h hf]
def selC (C:List (List Lk)) (n:Nat):Sl:=(C.getD n []).map (·.part)
def Tru (L:List Nd) (C:List (List Lk)) (n i e:Nat):Bool→Bool
 | false=>frontB (AA L) L (selC C n) i e
 | true=>match (selC C n)[i]? with
  | some p=>aheadF (frontB (AA L) L (selC C n) (i - 1)) L p.comb (e+1) e
  | none=>false
def RepC (R:List Sl→List Nat→Prop) (C:List (List Lk)) (s:Sl) (n:Nat):Prop :=
 ∃ c,C[n]?=some c∧c.map (·.part)=s∧∀ (k:Nat) (x:Lk),c[k]?=some x→x.lists.length=x.part.c.pseudos.length∧∀ (j:Nat) (q:Ps) (ns:List Nat),x.part.c.pseudos[j]?=some q→x.lists[j]?=some ns→R q.list ns
def Rep (C:List (List Lk)):Nat→List Sl→List Nat→Prop
 | 0,_,_=>False
 | f+1,l,ns=>ns.length=l.length∧∀ (i:Nat) (s:Sl) (n:Nat),l[i]?=some s→ns[i]?=some n→RepC (Rep C f) C s n
section
variable {L:List Nd} {d:List Nat} {C:List (List Lk)}
def AskK (σ:Sig) (L:List Nd) (d:List Nat) (C:List (List Lk)) (f:Nat) (xs:List AV) (b:Bool):Prop :=
 ∀ (ab mb:Nat) (cs:AV) (H:Hp) (K:AV→Hp→Prop),Asks (domT L d) C (Tru L C) ab mb cs H→(∀ H',Asks (domT L d) C (Tru L C) ab mb cs H'→Kp mb H H'→K (Bo b) H')→callK Tryz.prog σ f (.ptr ab 0::xs) H K
theorem AskK.pure {f:Nat} {xs:List AV} {b:Bool} (h:∀ H,Good Tryz.prog σ f (.ip (domT L d::[])::xs) H (Bo b) H) (hx:noIds xs=true):AskK σ L d C f xs b :=
 fun ab mb cs H K hA hK=>callK_of (hA.pure (h Hp.empty) hx rfl) (hK H hA (.refl _ _))
section
end
section
end
end
end Go.Proofs.YtaoegkmfgfefgaaGreat.Ev
namespace Go.Proofs.YtaoegkmfgfefgaaGreat.Ev
set_option linter.unusedVariables false
set_option linter.unusedSimpArgs false
variable {σ:Sig}
def mayQ (g:List Sl→Nat→Bool) (dp:Nat) (q:Ps):Bool:=if q.kind=7∨q.kind=8 then !decide (dp=0)&&g q.list (dp - 1) else true
def mayC (g:List Sl→Nat→Bool) (dp:Nat) (c:Cp):Bool:=c.pseudos.all (mayQ g dp)
def mayS (g:List Sl→Nat→Bool) (dp:Nat) (s:Sl):Bool:=decide (s.length≤50)&&s.all fun p=>mayC g dp p.c
def mayF:Nat→List Sl→Nat→Bool
 | 0,_,_=>false
 | f+1,l,dp=>l.all (mayS (mayF f) dp)
section
end
end Go.Proofs.YtaoegkmfgfefgaaGreat.Ev
namespace Go.Proofs.YtaoegkmfgfefgaaGreat.Ev
set_option linter.unusedVariables false
set_option linter.unusedSimpArgs false
variable {σ:Sig}
def HFz (H H2:Hp):Prop:=∃ Hd:Hp,H2.n=H.n∧Hd.n=H.n∧(∀ id k,Hd.get id=some k→H.get id=some k∧H2.get id=none)∧(∀ id k2,H2.get id=some k2→∃ k1,H.get id=some k1∧FzB Hd k1 k2)
theorem FzT.refl {Hd:Hp}:∀ (T:List AV),FzT Hd T T
 | []=>.nil
 | x::T=>.same (.refl T)
theorem HFz.wk {H H2:Hp} (h:HFz H H2) (T:List AV):Wk σ T H T H2:=by
 obtain ⟨Hd,h1,h2,h3,h4⟩:=h
 exact Wk.frz h1 h2 h3 h4 (.refl T)
theorem HFz.loop {P:Program} {C:Ctx P} {c:Code} {T:List AV} {H H2:Hp} {Q:Exit→List AV→Hp→Prop} (k:HFz H H2) (h:LoopP C c T H2 Q):LoopP C c T H Q:=LoopP.conv (k.wk T) h
abbrev NB:Nat:=1048576
def cntF:Nat→List Sl→Nat
 | 0,_=>0
 | f+1,l=>(l.map fun s=>1+(s.map fun p=>(p.c.pseudos.map fun q=>cntF f q.list).sum).sum).sum
def SlsOk:Nat→List Sl→Prop
 | 0,_=>False
 | f+1,l=>l.length≤NB∧∀ s ∈ l,s.length≤NB∧∀ p ∈ s,CpOk p.c∧p.c.pseudos.length≤NB∧∀ q ∈ p.c.pseudos,(i64 q.a∧i64 q.b)∧SlsOk f q.list
theorem Rep.mono {C D:List (List Lk)}:∀ {f:Nat} {l:List Sl} {ns:List Nat},Rep C f l ns→Rep (C++D) f l ns
 | 0,l,ns,h=>h
 | f+1,l,ns,h=>⟨h.1,fun i s n hs hn=>by
  obtain ⟨c,h1,h2,h3⟩:=h.2 i s n hs hn
  refine ⟨c,by rw [List.getElem?_append_left (List.getElem?_eq_some_iff.1 h1).1]; exact h1,h2,fun k x hx=>⟨(h3 k x hx).1,fun j q ns' hq hns=>((h3 k x hx).2 j q ns' hq hns).mono⟩⟩⟩
structure AFr (H:Hp) (cs:AV) (ab:Nat) (H':Hp) (cs':AV):Prop where
 up:H.n≤H'.n
 get:∀ (j:Nat),j<H.n→j≠ab→¬ own cs j→H'.get j=H.get j
 mine:∀ j,own cs' j→own cs j∨H.n≤j
theorem AFr.refl (H:Hp) (cs:AV) (ab:Nat):AFr H cs ab H cs:=⟨Nat.le_refl _,fun _ _ _ _=>rfl,fun j h=>.inl h⟩
theorem AFr.trans {H H1 H2:Hp} {cs cs1 cs2:AV} {ab:Nat} (h:AFr H cs ab H1 cs1) (k:AFr H1 cs1 ab H2 cs2):AFr H cs ab H2 cs2:=by
 refine ⟨Nat.le_trans h.up k.up,fun j hj hne ho=>?_,fun j hj=>?_⟩
 ·rw [k.get j (Nat.lt_of_lt_of_le hj h.up) hne (fun hc=>by
   rcases h.mine j hc with h | h
   ·exact ho h
   ·omega),h.get j hj hne ho]
 ·rcases k.mine j hj with h1 | h1
  ·exact h.mine j h1
  ·have:=h.up; exact .inr (by omega)
section
end
end Go.Proofs.YtaoegkmfgfefgaaGreat.Ev
namespace Go.Proofs.YtaoegkmfgfefgaaGreat.Ev
set_option linter.unusedVariables false
set_option linter.unusedSimpArgs false
variable {σ:Sig}
theorem Nest.one {f:Nat} {l:List Sl} (h:Nest f l) {s:Sl} (hs:s ∈ l):Nest f [s]:=by
 cases f with
 | zero=>exact h
 | succ f=>exact fun s' hs'=>by rw [List.mem_singleton.1 hs']; exact h s hs
theorem SlsOk.one {f:Nat} {l:List Sl} (h:SlsOk f l) {s:Sl} (hs:s ∈ l):SlsOk f [s]:=by
 cases f with
 | zero=>exact h
 | succ f=>exact ⟨(by show 1≤NB; decide),fun s' hs'=>by rw [List.mem_singleton.1 hs']; exact h.2 s hs⟩
theorem sl_one {l:List Sl} {m:Nat} {s:Sl} (h:l[m]?=some s):slSl 1 (sls l) (some (I (m:Int))) (some (I ((m+1:Nat):Int))) none=some (sls [s]):=by
 have hlt:=(List.getElem?_eq_some_iff.1 h).1
 have e1:((m:Int)+1)≤l.length:=by omega
 have e2:(0:Int)≤(m:Int)+1:=by omega
 have e3:((m:Int)+1).toNat=m+1:=by omega
 have e4:(List.drop m (l.map encSl)).take 1=[encSl s]:=by
  rw [← List.map_drop,drop_get h]; rfl
 simp [slSl,intO,intA,slSl0,sls,boundsA,boundA,beqN,e1,e2,e3,e4,show ((m:Int)≤(m:Int)+1) from by omega]
def mayAny (L:List Nd) (f:Nat) (l:List Sl) (e:Nat):Bool:=l.any fun s=>mayF f [s] 8&&AA L [s] e
structure McT (σ:Sig) (L:List Nd) (d:List Nat):Prop where
 hC:HasC σ
 hB:Built L L.length d
 hN:L.length≤4096
 sm:∀ e,e<L.length→SmN (lowN (ndAt L e))
structure SelOk (f:Nat) (l:List Sl):Prop where
 wf:slsWf Lmax l
 ok:SlsOk f l
 nest:Nest f l
 hf:f≤12
 cnt:cntF f l≤NB
section
end
end Go.Proofs.YtaoegkmfgfefgaaGreat.Ev
namespace Go.Proofs.YtaoegkmfgfefgaaGreat.Ev
set_option linter.unusedVariables false
set_option linter.unusedSimpArgs false
variable {σ:Sig}
def selB (L:List Nd) (f:Nat) (s:Sl) (e:Int):Bool:=decide (0≤e)&&decide (e<L.length)&&mayAny L f [s] e.toNat
end Go.Proofs.YtaoegkmfgfefgaaGreat.Ev
namespace Go.Proofs.YtaoegkmfgfefgaaGreat.Ev
set_option linter.unusedVariables false
set_option linter.unusedSimpArgs false
variable {σ:Sig}
def DsOk (σ:Sig) (f:Nat):Prop:=∀ (s:Sl) (dp:Nat) (H:Hp),slWf Lmax s→(∀ p ∈ s,∀ q ∈ p.c.pseudos,Nest f q.list)→dp≤8→Good Tryz.prog σ n_ref9_DeepSel [.agg (encSl s),I (dp:Int)] H (Bo (!mayS (mayF f) (8 - dp) s)) H
def DcOk (σ:Sig) (f:Nat):Prop:=∀ (c:Cp) (dp:Nat) (H:Hp),CpWf Lmax c→(∀ q ∈ c.pseudos,Nest f q.list)→dp≤8→Good Tryz.prog σ n_ref9_Deep [.agg (encCp c),I (dp:Int)] H (Bo (!mayC (mayF f) (8 - dp) c)) H
section
attribute [local irreducible] ref9_Deep.L0 ref9_Deep.J1 ref9_Deep.L2 ref9_DeepSel.L0
theorem ds_step {f:Nat} (ih:DcOk σ f):DsOk σ f:=by
 intro s dp H hw hn hd
 refine good_by (fun K hK=>ref9_DeepSel.run ?_) (by simp [noIds,noId,noId_Sl]) rfl H
 have L0:∀ (m k y2:Nat) (H:Hp),s.length - m=k→m≤s.length→H.get y2=some (.cells (encSl s) true)→(∀ H,K (Bo (!(s.drop m).all fun p=>mayC (mayF f) (8 - dp) p.c)) H)→ref9_DeepSel.L0 σ K (I (dp:Int)) (.ptr y2 0) (I (m:Int)) H:=by
  intro m k
  revert m
  induction k with
  | zero =>
   intro m y2 H hk hm hg hK
   have:m=s.length:=by omega
   subst this
   refine ref9_DeepSel.L0_step ?_
   simp only [sh_ptr,Nat.zero_add,bnd_some,ld_ptr,hg,ldO_cells,List.drop_zero,f_encSl0,len_imm,List.length_map,b_lss,Int.lt_irrefl,decide_false,ifB_lit,Bool.false_eq_true,if_false]
   simpa using hK H
  | succ k ihk =>
   intro m y2 H hk hm hg hK
   have hlt:m<s.length:=by omega
   obtain ⟨p,hp⟩:=get_lt hlt
   have hpm:=List.mem_of_getElem? hp
   have hpw:=(Pt.wf_iff.1 (hw.2 p hpm)).2
   rw [drop_get hp,List.all_cons] at hK
   have hlt':(m:Int)<s.length:=by omega
   refine ref9_DeepSel.L0_step ?_
   have hd1:(encPt p).drop 1=encCp p.c:=by rw [encPt_eq]; rfl
   have hld:ldL true 5 ((encPt p).drop 1)=some (.agg (encCp p.c)):=by rw [hd1,ldL_cp]
   have hsh:shiftA (.ip (encPt p)) 1=some (.ip ((encPt p).drop 1)):=by rw [encPt_eq,encCp_eq]; rfl
   simp only [sh_ptr,Nat.zero_add,bnd_some,ld_ptr,hg,ldO_cells,List.drop_zero,f_encSl0,len_imm,List.length_map,b_lss,hlt',decide_true,ifB_lit,if_true,ix_map hp,hsh,ld_ip,hld]
   refine callK_of (ih p.c dp _ hpw (fun q hq=>hn p hpm q hq) hd) ?_
   simp only [ifB_lit]
   cases hb:mayC (mayF f) (8 - dp) p.c with
   | false =>
    rw [hb] at hK
    simpa using hK _
   | true =>
    rw [hb] at hK
    simp only [Bool.not_true,Bool.false_eq_true,if_false,b_add,bnd_some,wr_succL hlt hw.1]
    exact ihk (m+1) y2 H (by omega) (by omega) hg (by simpa using hK)
 have hS:mayS (mayF f) (8 - dp) s=(decide (s.length≤50)&&s.all fun p=>mayC (mayF f) (8 - dp) p.c):=rfl
 rw [hS] at hK
 simp only [boxK_agg,sh_ptr,bnd_some,Nat.zero_add,ld_ptr,hp_get_new,if_true,ldO_cells,List.drop_zero,f_encSl0,len_imm,List.length_map,b_gtr,ifB_lit,decide_eq_true_eq]
 split
 ·rename_i h50
  have:¬ (s.length≤50):=by omega
  simpa [this] using hK _
 ·rename_i h50
  have:s.length≤50:=by omega
  refine L0 0 _ _ _ rfl (Nat.zero_le _) (by simp) ?_
  simpa [this] using hK
theorem dc_step {f:Nat} (ih:∀ f',f=f'+1→DsOk σ f'):DcOk σ f:=by
 intro c dp H hc hn hd
 refine good_by (fun K hK=>ref9_Deep.run ?_) (by simp [noIds,noId,noId_Cp]) rfl H
 have L0:∀ (k m y2:Nat) (H:Hp) (y6 y7:AV),c.pseudos.length - m=k→m≤c.pseudos.length→y2<H.n→H.get y2=some (.cells (encCp c) true)→(∀ H,K (Bo (!(c.pseudos.drop m).all (mayQ (mayF f) (8 - dp)))) H)→ref9_Deep.L0 σ K (I (dp:Int)) (.ptr y2 0) (I (m:Int)) y6 y7 H:=by
  intro k
  induction k with
  | zero =>
   intro m y2 H y6 y7 hk hm hy2 hg hK
   have:m=c.pseudos.length:=by omega
   subst this
   refine ref9_Deep.L0_step ?_
   simp only [sh_ptr,Nat.zero_add,bnd_some,ld_ptr,hg,ldO_cells,f_encCp4,len_imm,List.length_map,b_lss,Int.lt_irrefl,decide_false,ifB_lit,Bool.false_eq_true,if_false]
   simpa using hK H
  | succ k ihk =>
   intro m y2 H y6 y7 hk hm hy2 hg hK
   have hlt:m<c.pseudos.length:=by omega
   obtain ⟨q,hq⟩:=get_lt hlt
   have hqm:=List.mem_of_getElem? hq
   have hqw:=(Ps.wf_iff.1 (hc.ps q hqm)).2.2.2
   rw [drop_get hq,List.all_cons] at hK
   have hlt':(m:Int)<c.pseudos.length:=by omega
   have next:∀ (H:Hp) (y6 y7:AV),y2<H.n→H.get y2=some (.cells (encCp c) true)→mayQ (mayF f) (8 - dp) q=true→ref9_Deep.J1 σ K (I (dp:Int)) (.ptr y2 0) (I (m:Int)) y6 y7 H:=by
    intro H y6 y7 h1 h2 ht
    refine ref9_Deep.J1_step ?_
    simp only [b_add,bnd_some,wr_succL hlt hc.psL]
    refine ihk (m+1) y2 H y6 y7 (by omega) (by omega) h1 h2 fun H'=>?_
    have:=hK H'
    rwa [ht,Bool.true_and] at this
   have ask:∀ (H:Hp) (y6:Nat) (y7:AV),(q.kind=7∨q.kind=8)→y2<H.n→H.get y2=some (.cells (encCp c) true)→H.get y6=some (.cells (encPs q) true)→ifB (Bo (decide ((8:Int)≤(dp:Int)))) (K (Bo true) H) (ref9_Deep.L2 σ K (I (dp:Int)) (.ptr y2 0) (I (m:Int)) (.ptr y6 0) (I 0) H):=by
    intro H y6 y7 hkq hy hg2 hg6
    simp only [ifB_lit,decide_eq_true_eq]
    have hQ:mayQ (mayF f) (8 - dp) q=(!decide (8 - dp=0)&&mayF f q.list (8 - dp - 1)):=by unfold mayQ; rw [if_pos hkq]
    split
    ·rename_i h0
     have h0':8 - dp=0:=by omega
     have:=hK H
     rw [hQ] at this
     simpa [h0'] using this
    ·rename_i h0
     have h0':¬ (8 - dp=0):=by omega
     have hnq:=hn q hqm
     cases f with
     | zero=>exact hnq.elim
     | succ f' =>
     have hQ2:mayQ (mayF (f'+1)) (8 - dp) q=q.list.all (mayS (mayF f') (8 - (dp+1))):=by
      rw [hQ]
      simp only [h0',decide_false,Bool.not_false,Bool.true_and]
      rw [show 8 - (dp+1)=8 - dp - 1 by omega]
      rfl
     have L2:∀ (k2 j:Nat) (H:Hp),q.list.length - j=k2→j≤q.list.length→y2<H.n→H.get y2=some (.cells (encCp c) true)→H.get y6=some (.cells (encPs q) true)→(∀ i,i<j→∀ s,q.list[i]?=some s→mayS (mayF f') (8 - (dp+1)) s=true)→ref9_Deep.L2 σ K (I (dp:Int)) (.ptr y2 0) (I (m:Int)) (.ptr y6 0) (I (j:Int)) H:=by
      intro k2
      induction k2 with
      | zero =>
       intro j H hk2 hj hy hg2 hg6 hall
       have:j=q.list.length:=by omega
       subst this
       refine ref9_Deep.L2_step ?_
       simp only [sh_ptr,Nat.zero_add,bnd_some,ld_ptr,hg6,ldO_cells,f_encPs3,sls,len_imm,List.length_map,b_lss,Int.lt_irrefl,decide_false,ifB_lit,Bool.false_eq_true,if_false]
       refine next H _ _ hy hg2 ?_
       rw [hQ2,List.all_eq_true]
       intro s hs
       obtain ⟨i,hi⟩:=List.getElem?_of_mem hs
       exact hall i (List.getElem?_eq_some_iff.1 hi).1 s hi
      | succ k2 ih2 =>
       intro j H hk2 hj hy hg2 hg6 hall
       have hjlt:j<q.list.length:=by omega
       obtain ⟨s,hs⟩:=get_lt hjlt
       have hsm:=List.mem_of_getElem? hs
       have hjlt':(j:Int)<q.list.length:=by omega
       refine ref9_Deep.L2_step ?_
       have hix:ixaSl 1 (.imm 1 (q.list.map encSl)) (I (j:Int))=some (.ip (encSl s)):=ix_map hs
       have e1:wr .i64 ((dp:Int)+1)=((dp+1:Nat):Int):=by rw [wr64 (by omega) (by omega)]; rfl
       simp only [sh_ptr,Nat.zero_add,bnd_some,ld_ptr,hg6,ldO_cells,f_encPs3,sls,len_imm,List.length_map,b_lss,hjlt',decide_true,ifB_lit,if_true,hix,ld_ip,ldL_sl,b_add,e1]
       refine callK_of (ih f' rfl s (dp+1) _ (hqw.2 s hsm) (fun p hp q2 hq2=>hnq s hsm p hp q2 hq2) (by omega)) ?_
       simp only [ifB_lit]
       cases hb:mayS (mayF f') (8 - (dp+1)) s with
       | false =>
        have:=hK H
        have hf:q.list.all (mayS (mayF f') (8 - (dp+1)))=false:=by
         rw [List.all_eq_false]
         exact ⟨s,hsm,by rw [hb]; simp⟩
        rw [hQ2,hf] at this
        simpa using this
       | true =>
        simp only [Bool.not_true,Bool.false_eq_true,if_false,bnd_some,wr_succL hjlt hqw.1]
        refine ih2 (j+1) H (by omega) (by omega) hy hg2 hg6 fun i hi s' hs'=>?_
        by_cases hij:i<j
        ·exact hall i hij s' hs'
        ·have:i=j:=by omega
         subst this
         rw [hs] at hs'
         cases hs'
         exact hb
     exact L2 _ 0 H rfl (Nat.zero_le _) hy hg2 hg6 fun i hi=>by omega
   refine ref9_Deep.L0_step ?_
   have hst:stA 4 (H.new (.cells [I 0,I 0,I 0,.lit (.slice none 0 0)] true)) (.ptr H.n 0) (.agg (encPs q))=some ((H.new (.cells [I 0,I 0,I 0,.lit (.slice none 0 0)] true)).set H.n (some (.cells (encPs q) true))):=by
    simp
    rw [ov_Ps q (by simp)]
   simp only [sh_ptr,Nat.zero_add,bnd_some,ld_ptr,hg,ldO_cells,f_encCp4,len_imm,List.length_map,b_lss,hlt',decide_true,ifB_lit,if_true,ix_map hq,ld_ip,ldL_ps,allocK_eq,hst,hp_get_set,List.drop_zero,f_encPs0,b_neq,b_geq]
   have hne:¬ (y2=H.n):=by omega
   have hg2:((H.new (.cells [I 0,I 0,I 0,.lit (.slice none 0 0)] true)).set H.n (some (.cells (encPs q) true))).get y2=some (.cells (encCp c) true):=by simp [hne,hg]
   have hn2:y2<((H.new (.cells [I 0,I 0,I 0,.lit (.slice none 0 0)] true)).set H.n (some (.cells (encPs q) true))).n:=by simp; omega
   have hask:=fun h=>ask _ H.n (I 0) h hn2 hg2 (by simp)
   simp only [ifB_lit] at hask
   by_cases h7:q.kind=7
   ·simp only [h7,decide_true,Bool.not_true,Bool.false_eq_true,if_false]
    exact hask (.inl h7)
   ·simp only [h7,decide_false,Bool.not_false,if_true]
    by_cases h8:q.kind=8
    ·simp only [h8,decide_true,Bool.not_true,Bool.false_eq_true,if_false]
     exact hask (.inr h8)
    ·simp only [h8,decide_false,Bool.not_false,if_true]
     exact next _ _ _ hn2 hg2 (by unfold mayQ; rw [if_neg (by omega)])
 simp only [boxK_agg]
 exact L0 _ 0 _ _ _ _ rfl (Nat.zero_le _) (by simp) (by simp) (by simpa [mayC] using hK)
theorem dc_ok:∀ (f:Nat),DcOk σ f
 | 0=>dc_step fun f' h=>by omega
 | f+1=>dc_step fun f' h=>by
  have:f'=f:=by omega
  rw [this]
  exact ds_step (dc_ok f)
theorem ds_ok (f:Nat):DsOk σ f:=ds_step (dc_ok f)
end
end Go.Proofs.YtaoegkmfgfefgaaGreat.Ev
namespace Go.Proofs.YtaoegkmfgfefgaaGreat.Ev
set_option linter.unusedVariables false
set_option linter.unusedSimpArgs false
variable {σ:Sig}
theorem rix {L:List Nd} {e:Nat} (he:e<L.length):ixaSl 5 (nds (L.map lowN)) (I (e:Int))=some (.ip (encNd (lowN (ndAt L e)))):=by
 have:(L.map lowN)[e]?=some (lowN (ndAt L e)):=by
  rw [List.getElem?_map,List.getElem?_eq_getElem he]
  simp [ndAt,List.getD_eq_getElem?_getD,List.getElem?_eq_getElem he]
 exact ix_map this
theorem rnilp (L:List Nd) (d:List Nat):nilR (refT L d)=some (refT L d):=rfl
theorem rsh (L:List Nd) (d:List Nat):shiftA (refT L d) 0=some (refT L d):=rfl
theorem rld (L:List Nd) (d:List Nat) (H:Hp):ldA false 1 H (refT L d)=some (nds (L.map lowN)):=rfl
theorem rlen (L:List Nd):lenSl (nds (L.map lowN))=some (I (L.length:Int)):=by unfold nds; simp
theorem rpar (L:List Nd) (e:Nat) (H:Hp):ldA false 1 H (.ip (encNd (lowN (ndAt L e))))=some (I (par L e)):=rfl
theorem rndsh (L:List Nd) (e:Nat):shiftA (.ip (encNd (lowN (ndAt L e)))) 0=some (.ip (encNd (lowN (ndAt L e)))):=rfl
theorem ris_ok (L:List Nd) (d:List Nat) (e:Int) (H:Hp):Good Tryz.prog σ n_ref9_Tree_is [refT L d,I e] H (Bo (decide (0≤e)&&decide (e<L.length))) H:=by
 refine good_by (fun K hK=>ref9_Tree_is.run ?_) (by simp [noIds,noId_refT,noId]) rfl H
 have e1:eqPtrR .neq (refT L d) (.lit (.pointer none))=some (Bo true):=rfl
 simp only [e1,bnd_some,ifB_lit,if_true,b_geq,decide_eq_true_eq,rnilp,rsh,rld,rlen,b_lss]
 split
 ·rename_i h
  simpa [h] using hK _
 ·rename_i h
  simpa [h] using hK _
theorem ris_t (L:List Nd) (d:List Nat) {e:Nat} (he:e<L.length) (H:Hp):Good Tryz.prog σ n_ref9_Tree_is [refT L d,I (e:Int)] H (Bo true) H:=by
 have:=ris_ok (σ:=σ) L d (e:Int) H
 rwa [show (decide (0≤(e:Int))&&decide ((e:Int)<L.length))=true by simp; omega] at this
theorem rParent_ok (L:List Nd) (d:List Nat) {e:Nat} (he:e<L.length) (H:Hp):Good Tryz.prog σ n_ref9_Tree_Parent [refT L d,I (e:Int)] H (I (par L e)) H:=by
 refine good_by (fun K hK=>ref9_Tree_Parent.run (callK_of (ris_t L d he _) ?_)) (by simp [noIds,noId_refT,noId]) rfl H
 simp only [u_not,bnd_some,Bool.not_true,ifB_lit,Bool.false_eq_true,if_false,rnilp,rsh,rld,rix he,rndsh,rpar]
 exact hK _
theorem sib_cons (P:Nat→Bool) (m:Nat):(List.range (m+1)).filter P=(List.range m).filter P++if P m then [m] else []:=by
 rw [List.range_succ,List.filter_append]
 congr 1
 simp only [List.filter_cons,List.filter_nil]
theorem rPlace_ok (L:List Nd) (d:List Nat) (hN:L.length≤4096) {e:Nat} (he:e<L.length) (H:Hp):Good Tryz.prog σ n_ref9_Tree_Place [refT L d,I (e:Int)] H (I (place L e)) H:=by
 refine good_by (fun K hK=>ref9_Tree_Place.run (callK_of (ris_t L d he _) ?_)) (by simp [noIds,noId_refT,noId]) rfl H
 simp only [u_not,bnd_some,Bool.not_true,ifB_lit,Bool.false_eq_true,if_false]
 have L0:∀ (k m:Nat) (H:Hp),e - m=k→0<m→m≤e→ref9_Tree_Place.L0 σ K (refT L d) (I (e:Int)) (I ((((List.range m).filter fun j=>decide (0<j)&&decide (par L j=par L e)).length+1:Nat):Int)) (I (m:Int)) H:=by
  intro k
  induction k with
  | zero =>
   intro m H hk h0 hm
   have:m=e:=by omega
   subst this
   refine ref9_Tree_Place.L0_step ?_
   simp only [b_lss,Int.lt_irrefl,decide_false,bnd_some,ifB_lit,Bool.false_eq_true,if_false]
   exact hK _
  | succ k ih =>
   intro m H hk h0 hm
   have hlt:(m:Int)<(e:Int):=by omega
   have hl:((List.range m).filter fun j=>decide (0<j)&&decide (par L j=par L e)).length≤m:=by
    have:=List.length_filter_le (fun j=>decide (0<j)&&decide (par L j=par L e)) (List.range m)
    rwa [List.length_range] at this
   have hs:=sib_cons (fun j=>decide (0<j)&&decide (par L j=par L e)) m
   refine ref9_Tree_Place.L0_step ?_
   simp only [b_lss,hlt,decide_true,bnd_some,ifB_lit,if_true,rnilp,rsh,rld,rix (show m<L.length by omega),rix he,rndsh,rpar,b_eql,decide_eq_true_eq]
   have nx:=ih (m+1) H (by omega) (by omega) (by omega)
   rw [hs] at nx
   split
   ·rename_i hp
    simp only [b_add,bnd_some]
    rw [wr_succ (by omega)]
    refine ref9_Tree_Place.J1_step ?_
    simp only [b_add,bnd_some]
    rw [wr_succ (by omega)]
    simpa [h0,hp] using nx
   ·rename_i hp
    refine ref9_Tree_Place.J1_step ?_
    simp only [b_add,bnd_some]
    rw [wr_succ (by omega)]
    simpa [h0,hp] using nx
 by_cases h0:e=0
 ·subst h0
  refine ref9_Tree_Place.L0_step ?_
  have:¬ ((1:Int)<((0:Nat):Int)):=by omega
  simp only [b_lss,this,decide_false,bnd_some,ifB_lit,Bool.false_eq_true,if_false]
  exact hK _
 ·exact L0 _ 1 _ rfl (by omega) (by omega)
theorem rBefore_ok (L:List Nd) (d:List Nat) (hN:L.length≤4096) {e:Nat} (he:e<L.length) (H:Hp):Good Tryz.prog σ n_ref9_Tree_Before [refT L d,I (e:Int)] H (I (before L e)) H:=by
 refine good_by (fun K hK=>ref9_Tree_Before.run (callK_of (ris_t L d he _) ?_)) (by simp [noIds,noId_refT,noId]) rfl H
 simp only [u_not,bnd_some,Bool.not_true,ifB_lit,Bool.false_eq_true,if_false,b_eql,decide_eq_true_eq]
 have L0:∀ (m:Nat) (H:Hp),m<e→(∀ H,K (I (lastI ((List.range (m+1)).filter fun j=>decide (0<j)&&decide (par L j=par L e)))) H)→ref9_Tree_Before.L0 σ K (refT L d) (I (e:Int)) (I (m:Int)) H:=by
  intro m
  induction m with
  | zero =>
   intro H hm hK
   refine ref9_Tree_Before.L0_step ?_
   simp only [b_gtr,Int.natCast_zero,Int.lt_irrefl,decide_false,bnd_some,ifB_lit,Bool.false_eq_true,if_false]
   exact hK _
  | succ m ih =>
   intro H hm hK
   have h0:(0:Int)<((m+1:Nat):Int):=by omega
   have hs:=sib_cons (fun j=>decide (0<j)&&decide (par L j=par L e)) (m+1)
   rw [hs] at hK
   refine ref9_Tree_Before.L0_step ?_
   simp only [b_gtr,h0,decide_true,bnd_some,ifB_lit,if_true,rnilp,rsh,rld,rix (show m+1<L.length by omega),rix he,rndsh,rpar,b_eql,decide_eq_true_eq]
   split
   ·rename_i hp
    have:=hK H
    simpa [hp,lastI] using this
   ·rename_i hp
    have e1:wr .i64 (((m+1:Nat):Int) - 1)=(m:Int):=by rw [wr64 (by omega) (by omega)]; omega
    simp only [b_sub,bnd_some,e1]
    exact ih H (by omega) fun H=>by simpa [hp] using hK H
 by_cases h0:e=0
 ·subst h0
  simp only [Int.natCast_zero,if_true]
  exact hK _
 ·have h0':¬ ((e:Int)=0):=by omega
  have e1:wr .i64 ((e:Int) - 1)=((e - 1:Nat):Int):=by rw [wr64 (by omega) (by omega)]; omega
  simp only [h0',if_false,b_sub,bnd_some,e1]
  refine L0 (e - 1) _ (by omega) fun H=>?_
  rw [show e - 1+1=e by omega]
  exact hK H
end Go.Proofs.YtaoegkmfgfefgaaGreat.Ev
namespace Go.Proofs.YtaoegkmfgfefgaaGreat.Ev
set_option linter.unusedVariables false
set_option linter.unusedSimpArgs false
variable {σ:Sig}
theorem kids_le (L:List Nd) (p a:Nat):∀ (n:Nat),(kids L a p).length≤(kids L (a+n) p).length
 | 0=>Nat.le_refl _
 | n+1=>by
  rw [← Nat.add_assoc,kids_succ]
  simp only [List.length_append]
  have:=kids_le L p a n
  omega
theorem kids_same {L:List Nd} {p a:Nat}:∀ (n:Nat),(∀ i,a≤i→i<a+n→par L i≠p)→kids L (a+n) p=kids L a p
 | 0,_=>rfl
 | n+1,h=>by
  rw [← Nat.add_assoc,kids_succ,kids_same n fun i h1 h2=>h i h1 (by omega),if_neg (fun hh=>h (a+n) (by omega) (by omega) hh.2)]
  simp
theorem kids_more {L:List Nd} {p a b i:Nat} (h0:0<i) (h1:a≤i) (h2:i<b) (hp:par L i=p):(kids L a p).length<(kids L b p).length:=by
 have e1:=kids_le L p a (i - a)
 have e2:=kids_le L p (i+1) (b - (i+1))
 rw [show a+(i - a)=i by omega] at e1
 rw [show i+1+(b - (i+1))=b by omega,kids_succ,if_pos ⟨h0,hp⟩] at e2
 simp only [List.length_append,List.length_cons,List.length_nil] at e2
 omega
theorem last_kids {L:List Nd} {d:List Nat} (hB:Built L L.length d) {e:Nat} (he:e<L.length) (h0:0<e):∃ p:Nat,par L e=p∧lastB L e=decide ((kids L L.length p).length≤(kids L (e+1) p).length):=by
 rcases par_bd hB he with h | ⟨p,hp,hlt⟩
 ·obtain ⟨p,x,h1,_⟩:=hB.step e h0 he
  omega
 ·refine ⟨p,hp,?_⟩
  have hk:kids L (e+1) p=sibs L e++[e]:=by rw [kids_succ,if_pos ⟨h0,hp⟩,kids_self hp]
  have hpl:(place L e).toNat=(kids L (e+1) p).length:=by
   rw [hk]
   unfold place
   simp only [List.length_append,List.length_cons,List.length_nil]
   omega
  unfold lastB
  rw [hp,Int.toNat_natCast,hpl]
  have hn:¬ ((p:Int)<0):=by omega
  simp only [hn,decide_false,Bool.false_or]
  unfold childI
  by_cases hle:(kids L L.length p).length≤(kids L (e+1) p).length
  ·rw [List.getElem?_eq_none hle]
   simp [hle]
  ·rw [List.getElem?_eq_getElem (by omega)]
   simp only [hle,decide_false]
   simp only [decide_eq_false_iff_not]
   omega
theorem lastB_zero {L:List Nd} {d:List Nat} (hB:Built L L.length d) (h:0<L.length):lastB L 0=true:=by
 unfold lastB
 rw [(hB.root h).1]
 rfl
theorem lastB_false {L:List Nd} {d:List Nat} (hB:Built L L.length d) {e i:Nat} (h0:0<e) (h1:e<i) (h2:i<L.length) (hp:par L i=par L e):lastB L e=false:=by
 obtain ⟨p,hpe,hl⟩:=last_kids hB (show e<L.length by omega) h0
 rw [hl]
 have:=kids_more (L:=L) (p:=p) (a:=e+1) (b:=L.length) (i:=i) (by omega) (by omega) h2 (by rw [hp,hpe])
 simp only [decide_eq_false_iff_not]
 omega
theorem lastB_true {L:List Nd} {d:List Nat} (hB:Built L L.length d) {e:Nat} (h0:0<e) (he:e<L.length) (h:∀ i,e<i→i<L.length→par L i≠par L e):lastB L e=true:=by
 obtain ⟨p,hpe,hl⟩:=last_kids hB he h0
 rw [hl]
 have:=kids_same (L:=L) (p:=p) (a:=e+1) (L.length - (e+1)) fun i h1 h2=>by rw [← hpe]; exact h i (by omega) (by omega)
 rw [show e+1+(L.length - (e+1))=L.length by omega] at this
 rw [this]
 simp
theorem rlast_ok (L:List Nd) (d:List Nat) (hB:Built L L.length d) (hN:L.length≤4096) {e:Nat} (he:e<L.length) (H:Hp):Good Tryz.prog σ n_ref9_Tree_last [refT L d,I (e:Int)] H (Bo (lastB L e)) H:=by
 refine good_by (fun K hK=>ref9_Tree_last.run ?_) (by simp [noIds,noId_refT,noId]) rfl H
 have L0:∀ (k m:Nat) (H:Hp),L.length - m=k→e<m→m≤L.length→(∀ i,e<i→i<m→par L i≠par L e)→ref9_Tree_last.L0 σ K (refT L d) (I (e:Int)) (I (m:Int)) H:=by
  intro k
  induction k with
  | zero =>
   intro m H hk h1 hm hall
   have:m=L.length:=by omega
   subst this
   refine ref9_Tree_last.L0_step ?_
   simp only [b_gtr,bnd_some,ifB_lit,decide_eq_true_eq,rnilp,rsh,rld,rlen,b_lss,Int.lt_irrefl,if_false]
   split
   ·rename_i h0
    have:=hK H
    rwa [lastB_true hB (by omega) he hall] at this
   ·rename_i h0
    have:e=0:=by omega
    subst this
    have:=hK H
    rwa [lastB_zero hB he] at this
  | succ k ih =>
   intro m H hk h1 hm hall
   have hlt:(m:Int)<L.length:=by omega
   refine ref9_Tree_last.L0_step ?_
   simp only [b_gtr,bnd_some,ifB_lit,decide_eq_true_eq,rnilp,rsh,rld,rlen,b_lss,hlt,if_true,rix (show m<L.length by omega),rix he,rndsh,rpar,b_eql]
   split
   ·rename_i h0
    split
    ·rename_i hp
     have:=hK H
     rwa [lastB_false hB (by omega) h1 (by omega) hp] at this
    ·rename_i hp
     simp only [b_add,bnd_some]
     rw [wr_succ (by omega)]
     refine ih (m+1) H (by omega) (by omega) (by omega) fun i hi1 hi2=>?_
     by_cases him:i<m
     ·exact hall i hi1 him
     ·have:i=m:=by omega
      rw [this]; exact hp
   ·rename_i h0
    have:e=0:=by omega
    subst this
    have:=hK H
    rwa [lastB_zero hB he] at this
 simp only [b_add,bnd_some]
 rw [wr_succ (by omega)]
 exact L0 _ (e+1) _ rfl (by omega) (by omega) fun i h1 h2=>by omega
theorem rChildren_ok (L:List Nd) (d:List Nat) (hB:Built L L.length d) (hN:L.length≤4096) {e:Nat} (he:e<L.length) (H:Hp):Good Tryz.prog σ n_ref9_Tree_Children [refT L d,I (e:Int)] H (ints (kids L L.length e)) H:=by
 obtain ⟨Q,hQ⟩:∃ Q:AV→Hp→Prop,∀ r H1,Q r H1 ↔ Gs 1 H1 r ((kids L L.length e).map encN):=⟨_,fun _ _=>Iff.rfl⟩
 have run:∃ r H1,Good Tryz.prog σ n_ref9_Tree_Children [refT L d,I (e:Int)] Hp.empty r H1∧Q r H1:=by
  refine ref9_Tree_Children.run ?_
  have L0:∀ (k m:Nat) (H:Hp) (y5:AV),L.length - m=k→e<m→m≤L.length→Gs 1 H y5 ((kids L m e).map encN)→ref9_Tree_Children.L0 σ Q (refT L d) (I (e:Int)) y5 (I (m:Int)) H:=by
   intro k
   induction k with
   | zero =>
    intro m H y5 hk h1 hm hg
    have:m=L.length:=by omega
    subst this
    refine ref9_Tree_Children.L0_step (callK_of (ris_t L d he _) ?_)
    simp only [bnd_some,ifB_lit,rnilp,rsh,rld,rlen,b_lss,Int.lt_irrefl,decide_false,Bool.false_eq_true,if_false,if_true]
    exact (hQ _ _).2 hg
   | succ k ih =>
    intro m H y5 hk h1 hm hg
    have hlt:(m:Int)<L.length:=by omega
    have hkl:(kids L m e).length≤m:=by
     have:=List.length_filter_le (fun j=>decide (0<j)&&decide (par L j=e)) (List.range m)
     rwa [List.length_range] at this
    have hs:=kids_succ L m e
    refine ref9_Tree_Children.L0_step (callK_of (ris_t L d he _) ?_)
    simp only [bnd_some,ifB_lit,rnilp,rsh,rld,rlen,b_lss,hlt,decide_true,if_true,rix (show m<L.length by omega),rndsh,rpar,b_eql,decide_eq_true_eq]
    split
    ·rename_i hp
     rw [if_pos ⟨by omega,hp⟩] at hs
     refine bnd_app1 (y:=I (m:Int)) hg rfl rfl rfl (by simp; omega) (by simp; omega) fun x' H' hg' _=>?_
     refine ref9_Tree_Children.J1_step ?_
     simp only [b_add,bnd_some]
     rw [wr_succ (by omega)]
     refine ih (m+1) H' x' (by omega) (by omega) (by omega) ?_
     rw [hs,List.map_append]
     exact hg'
    ·rename_i hp
     rw [if_neg (fun h=>hp h.2),List.append_nil] at hs
     refine ref9_Tree_Children.J1_step ?_
     simp only [b_add,bnd_some]
     rw [wr_succ (by omega)]
     refine ih (m+1) H y5 (by omega) (by omega) (by omega) ?_
     rw [hs]
     exact hg
  simp only [b_add,bnd_some]
  rw [wr_succ (by omega)]
  refine L0 _ (e+1) _ _ rfl (by omega) (by omega) ?_
  rw [kids_ge hB (by omega) (Nat.le_refl _)]
  exact .nil
 obtain ⟨r,H1,hg,hr⟩:=run
 rw [hQ] at hr
 exact hg.frzR (by simp [noIds,noId_refT,noId]) (hr.fz (noIds_map _ (fun _=>rfl) _)) H
end Go.Proofs.YtaoegkmfgfefgaaGreat.Ev
namespace Go.Proofs.YtaoegkmfgfefgaaGreat.Ev
set_option linter.unusedVariables false
set_option linter.unusedSimpArgs false
variable {σ:Sig}
theorem blank_ok (c:UInt8) (H:Hp):Good Tryz.prog σ n_ref9_blank [.lit (.int .u8 c.toNat)] H (Bo (wht c)) H:=by
  refine good_by (fun K hK=>ref9_blank.run ?_) (by simp [noIds,noId]) rfl H
  have hK:=hK Hp.empty
  simp only [b_eql,bnd_some,ifB_lit,decide_eq_true_eq]
  split
  · rename_i h
    rwa [show wht c = true by have : c.toNat = 9 := by omega
                              simp [wht,this]] at hK
  rename_i h9
  split
  · rename_i h
    rwa [show wht c = true by have : c.toNat = 10 := by omega
                              simp [wht,this]] at hK
  rename_i h10
  split
  · rename_i h
    rwa [show wht c = true by have : c.toNat = 12 := by omega
                              simp [wht,this]] at hK
  rename_i h12
  split
  · rename_i h
    rwa [show wht c = true by have : c.toNat = 13 := by omega
                              simp [wht,this]] at hK
  rename_i h13
  have e:wht c=decide ((c.toNat:Int)=32):=by
    have a9:¬ c.toNat=9:=by omega
    have a10:¬ c.toNat=10:=by omega
    have a12:¬ c.toNat=12:=by omega
    have a13:¬ c.toNat=13:=by omega
    by_cases h:c.toNat=32
    · simp [wht,h]
    · have h':¬ ((c.toNat:Int)=32):=by omega
      simp [wht,a9,a10,a12,a13,h,h']
  rwa [e] at hK
theorem begins_ok (s p:ByteArray) (H:Hp):Good Tryz.prog σ n_ref9_begins [Sx s,Sx p] H (Bo (preB (tl s) (tl p))) H:=by
 refine good_by (fun K hK=>ref9_begins.run ?_) (by simp [noIds,noId]) rfl H
 simp only [len_str,bnd_some,b_geq,ifB_lit,decide_eq_true_eq]
 split
 ·rename_i h
  rw [sl_str0 (by omega),bnd_some]
  simp only [b_seql,bnd_some]
  have:=pre_take (tl s) (tl p) (by rw [tl_len,tl_len]; omega)
  rw [tl_len,mk_tl] at this
  rw [this]
  exact hK _
 ·rename_i h
  have:=pre_long (s:=tl s) (p:=tl p) (by rw [tl_len,tl_len]; omega)
  rw [this] at hK
  exact hK _
theorem ends_ok (s p:ByteArray) (hs:s.data.size<9000000000000000000) (H:Hp):Good Tryz.prog σ n_ref9_ends [Sx s,Sx p] H (Bo (sufB (tl s) (tl p))) H:=by
 refine good_by (fun K hK=>ref9_ends.run ?_) (by simp [noIds,noId]) rfl H
 simp only [len_str,bnd_some,b_geq,ifB_lit,decide_eq_true_eq]
 split
 ·rename_i h
  simp only [b_sub,bnd_some]
  have e:wr .i64 ((s.data.size:Int) - p.data.size)=((s.data.size - p.data.size:Nat):Int):=by rw [wr64 (by omega) (by omega)]; omega
  rw [e,sl_strE (by omega),bnd_some]
  simp only [b_seql,bnd_some]
  have:=suf_drop (tl s) (tl p) (by rw [tl_len,tl_len]; omega)
  rw [tl_len,tl_len,mk_tl] at this
  rw [this]
  exact hK _
 ·rename_i h
  have:=suf_long (s:=tl s) (p:=tl p) (by rw [tl_len,tl_len]; omega)
  rw [this] at hK
  exact hK _
theorem rhas_L0 {l:List ByteArray} (hl:l.length≤reachBytes) {s:ByteArray} {K:AV→Hp→Prop}:∀ (m k:Nat) (H:Hp),l.length - m=k→m≤l.length→(∀ H,K (Bo (hasB (l.drop m) s)) H)→ref9_has.L0 σ K (strs l) (Sx s) (I m) H:=by
 intro m k
 revert m
 induction k with
 | zero =>
  intro m H hk hm hK
  have:m=l.length:=by omega
  subst this
  refine ref9_has.L0_step ?_
  simp [strs]
  simpa [hasB] using hK H
 | succ k ih =>
  intro m H hk hm hK
  have hlt:m<l.length:=by omega
  obtain ⟨x,hx⟩:=get_lt hlt
  rw [drop_get hx] at hK
  refine ref9_has.L0_step ?_
  simp [strs,hlt,ix_map hx]
  split
  ·rename_i h
   have:=hK H
   simpa [hasB,h] using this
  ·rename_i h
   rw [wr_succL hlt hl (by decide)]
   refine ih (m+1) H (by omega) (by omega) fun H'=>?_
   have:=hK H'
   simpa [hasB,h] using this
theorem rhas_ok (l:List ByteArray) (hl:l.length≤reachBytes) (s:ByteArray) (H:Hp):Good Tryz.prog σ n_ref9_has [strs l,Sx s] H (Bo (hasB l s)) H:=by
 refine good_by (fun K hK=>ref9_has.run ?_) (by simp [noIds,noId]) rfl H
 exact rhas_L0 hl 0 _ _ rfl (Nat.zero_le _) (by simpa using hK)
theorem far_ok {p a b:Int} (hp:i64 p) (ha:i64 a) (hb:i64 b) (h0:a≠0) (H:Hp):Good Tryz.prog σ n_ref9_far [I p,I a,I b] H (Bo (nthB p a b)) H:=by
 refine good_by (fun K hK=>ref9_far.run ?_) (by simp [noIds,noId]) rfl H
 unfold i64 at hp ha hb
 unfold nthB at hK
 rw [if_neg h0] at hK
 simp
 split
 ·rename_i h
  subst h
  split at hK
  ·simpa using hK _
  ·simpa using hK _
 rename_i hne
 by_cases hb':b<p<;>by_cases h3:0<a
 ·simp only [hb',h3,decide_true,not_true,if_true,if_false]
  have h2:¬ (a<0):=by omega
  rw [if_pos h3] at hK
  have e1:wr .u64 a=a:=wrU_in (by omega) (by omega)
  have e2:(p - b) % 18446744073709551616=p - b:=by omega
  rw [if_neg h2]
  rw [subU,e1,e2]
  refine ref9_far.J0_step ?_
  rw [b_rem _ _ _ h0,bnd_some,b_eql,bnd_some]
  have e3:(p - b).tmod a=(p - b) % a:=Int.tmod_eq_emod_of_nonneg (by omega)
  rw [e3]
  have h5:b≤p:=by omega
  simpa [h5] using hK Hp.empty
 ·have hbp:¬ (p≤b):=by omega
  rw [if_neg h3] at hK
  simp [hb',h3]
  simpa [hbp] using hK Hp.empty
 ·have hbp:¬ (b≤p):=by omega
  rw [if_pos h3] at hK
  simp [hb',h3]
  simpa [hbp] using hK Hp.empty
 ·simp only [hb',h3,decide_false,not_true,if_true,if_false]
  have h2:a<0:=by omega
  rw [if_neg h3] at hK
  have e1:wr .u64 (-wr .u64 a)=-a:=by rw [wrU,wrU]; omega
  have e2:(b - p) % 18446744073709551616=b - p:=by omega
  have h3':(-a)≠0:=by omega
  rw [if_pos h2]
  rw [subU,e2,e1]
  refine ref9_far.J0_step ?_
  rw [b_rem _ _ _ h3',bnd_some,b_eql,bnd_some]
  have e3:(b - p).tmod (-a)=(b - p) % (-a):=Int.tmod_eq_emod_of_nonneg (by omega)
  rw [e3]
  have h5:p≤b:=by omega
  simpa [h5] using hK Hp.empty
theorem nthQ {p a b:Int} (h0:a≠0):nthB p a b=(decide ((p - b).tmod a=0)&&decide (0≤(p - b).tdiv a)):=by
 unfold nthB
 rw [if_neg h0]
 by_cases hdv:a ∣ p - b
 ·obtain ⟨q,hq⟩:=hdv
  have e1:(p - b).tmod a=0:=Int.tmod_eq_zero_of_dvd ⟨q,hq⟩
  have e2:(p - b).tdiv a=q:=by rw [hq]; exact Int.mul_tdiv_cancel_left q h0
  have e3:(p - b) % a=0:=Int.emod_eq_zero_of_dvd ⟨q,hq⟩
  have e4:(b - p) % (-a)=0:=Int.emod_eq_zero_of_dvd ⟨q,by rw [Int.neg_mul,← hq]; omega⟩
  rw [e1,e2,e3,e4]
  simp only [decide_true,Bool.and_true,Bool.true_and]
  split
  ·rename_i h
   by_cases h2:0≤q
   ·have:=Int.mul_nonneg (by omega:0≤a) h2
    simp [h2]; omega
   ·have:=Int.mul_neg_of_pos_of_neg h (by omega:q<0)
    simp [h2]; omega
  ·rename_i h
   by_cases h2:0≤q
   ·have:=Int.mul_nonneg (by omega:0≤-a) h2
    rw [Int.neg_mul] at this
    simp [h2]; omega
   ·have:=Int.mul_neg_of_pos_of_neg (by omega:0 < -a) (by omega:q<0)
    rw [Int.neg_mul] at this
    simp [h2]; omega
 ·have e1:¬ ((p - b).tmod a=0):=fun h=>hdv (Int.dvd_of_tmod_eq_zero h)
  have e3:¬ ((p - b) % a=0):=fun h=>hdv (Int.dvd_of_emod_eq_zero h)
  have e4:¬ ((b - p) % (-a)=0):=fun h=>hdv (by
   obtain ⟨q,hq⟩:=Int.dvd_of_emod_eq_zero h
   exact ⟨q,by rw [Int.neg_mul] at hq; omega⟩)
  have e5:¬ ((b - p) % a=0):=fun h=>e4 (by rw [Int.emod_neg]; exact h)
  simp [e1,e3,e5]
theorem rnth_ok {p a b:Int} (hp:0≤p∧p≤5000) (ha:i64 a) (hb:i64 b) (H:Hp):Good Tryz.prog σ n_ref9_nth [I p,I a,I b] H (Bo (nthB p a b)) H:=by
 refine good_by (fun K hK=>ref9_nth.run ?_) (by simp [noIds,noId]) rfl H
 have hp64:i64 p:=⟨by omega,by omega⟩
 simp only [b_eql,bnd_some,ifB_lit,decide_eq_true_eq,b_gtr,b_lss]
 split
 ·rename_i h
  have:=hK Hp.empty
  rwa [show nthB p a b=decide (p=b) by unfold nthB; rw [if_pos h]] at this
 rename_i h0
 split
 ·exact callK_of (far_ok hp64 ha hb h0 _) (hK _)
 rename_i h1
 split
 ·exact callK_of (far_ok hp64 ha hb h0 _) (hK _)
 rename_i h2
 split
 ·exact callK_of (far_ok hp64 ha hb h0 _) (hK _)
 rename_i h3
 split
 ·exact callK_of (far_ok hp64 ha hb h0 _) (hK _)
 rename_i h4
 have e1:wr .i64 (p - b)=p - b:=by rw [wr64 (by omega) (by omega)]
 have hq:wr .i64 ((p - b).tdiv a)=(p - b).tdiv a:=by
  have hn:((p - b).tdiv a).natAbs≤(p - b).natAbs:=by
   rw [Int.natAbs_tdiv]
   exact Nat.div_le_self _ _
  rw [wr64 (by omega) (by omega)]
 simp only [b_sub,bnd_some,e1]
 rw [b_rem _ _ _ h0,bnd_some,b_eql,bnd_some]
 have hK:=hK Hp.empty
 rw [nthQ h0] at hK
 simp only [ifB_lit,decide_eq_true_eq]
 split
 ·rename_i h5
  rw [b_quo _ _ _ h0,bnd_some,hq]
  simpa [h5] using hK
 ·rename_i h5
  simpa [h5] using hK
end Go.Proofs.YtaoegkmfgfefgaaGreat.Ev
namespace Go.Proofs.YtaoegkmfgfefgaaGreat.Ev
set_option linter.unusedVariables false
set_option linter.unusedSimpArgs false
variable {σ:Sig}
theorem in_ok (s x:ByteArray) (hs:s.data.size<4294967281) (hx:x.data.size≤reachBytes) (h0:tl x≠[]) (H:Hp):Good Tryz.prog σ n_ref9_in [Sx s,Sx x] H (Bo (decide (0≤Go.Lib.index (tl s) (tl x)))) H:=by
 refine good_by (fun K hK=>ref9_in.run ?_) (by simp [noIds,noId]) rfl H
 have hr:=reach_eq
 have L0:∀ (k m:Nat) (H:Hp),s.data.size+1 - m=k→m≤s.data.size+1→(∀ j,j<m→Go.Lib.occAt (tl s) (tl x) j=false)→ref9_in.L0 σ K (Sx s) (Sx x) (I (m:Int)) H:=by
  intro k
  induction k with
  | zero =>
   intro m H hk hm hall
   have e1:wr .i64 ((m:Int)+(x.data.size:Int))=(m:Int)+x.data.size:=by rw [wr64 (by omega) (by omega)]
   refine ref9_in.L0_step ?_
   have hn:¬ ((m:Int)+x.data.size≤s.data.size):=by omega
   simp only [len_str,bnd_some,b_add,e1,b_leq,hn,decide_false,ifB_lit,Bool.false_eq_true,if_false]
   have:=Go.Lib.index_none (s:=tl s) (sub:=tl x) fun j hj=>hall j (by rw [tl_len] at hj; omega)
   rw [this] at hK
   exact hK _
  | succ k ih =>
   intro m H hk hm hall
   have e1:wr .i64 ((m:Int)+(x.data.size:Int))=((m+x.data.size:Nat):Int):=by rw [wr64 (by omega) (by omega)]; omega
   refine ref9_in.L0_step ?_
   by_cases hle:m+x.data.size≤s.data.size
   ·have hle':((m+x.data.size:Nat):Int)≤(s.data.size:Int):=by omega
    simp only [len_str,bnd_some,b_add,e1,b_leq,hle',decide_true,ifB_lit,if_true]
    rw [sl_str (by omega) hle,bnd_some]
    simp only [b_seql,bnd_some,ifB_lit,decide_eq_true_eq]
    have ho:=Go.Lib.occAt_iff_take (tl s) (tl x) m (by rw [tl_len,tl_len]; exact hle)
    rw [show m+x.data.size - m=x.data.size by omega]
    rw [tl_len] at ho
    split
    ·rename_i h
     have h2:((tl s).drop m).take x.data.size=tl x:=by
      have:=congrArg tl h
      rwa [tl_mk] at this
     rw [h2] at ho
     have:=Go.Lib.index_first (s:=tl s) (sub:=tl x) (i:=m) (by rw [tl_len]; omega) (by rw [ho]; simp) hall
     rw [this] at hK
     simpa using hK H
    ·rename_i h
     have h2:¬ ((tl s).drop m).take x.data.size=tl x:=fun e=>h (by rw [e,mk_tl])
     rw [wr_succ (by omega)]
     refine ih (m+1) H (by omega) (by omega) fun j hj=>?_
     by_cases hjm:j<m
     ·exact hall j hjm
     ·have:j=m:=by omega
      subst this
      rw [ho]
      simpa using h2
   ·have hle':¬ ((m+x.data.size:Nat):Int)≤(s.data.size:Int):=by omega
    simp only [len_str,bnd_some,b_add,e1,b_leq,hle',decide_false,ifB_lit,Bool.false_eq_true,if_false]
    have:=Go.Lib.index_none (s:=tl s) (sub:=tl x) fun j hj=>by
     by_cases hjm:j<m
     ·exact hall j hjm
     ·cases ho:Go.Lib.occAt (tl s) (tl x) j with
      | false=>rfl
      | true =>
       rcases Go.Lib.occAt_room ho with h | h
       ·rw [tl_len,tl_len] at h; omega
       ·exact absurd h h0
    rw [this] at hK
    exact hK _
 exact L0 _ 0 _ rfl (Nat.zero_le _) fun j hj=>by omega
theorem wl_all:∀ {l:List UInt8} {n:Nat},(∀ k,k<n→∃ c,l[k]?=some c∧wht c=false)→(∀ c,l[n]?=some c→wht c=true)→wl l=n
 | [],n,h,_=>by
  cases n with
  | zero=>rfl
  | succ n =>
   obtain ⟨c,hc,_⟩:=h 0 (by omega)
   simp at hc
 | c::l,0,_,h=>by
  have:=h c (by simp)
  simp [wl,List.takeWhile,nw,this]
 | c::l,n+1,h,h2=>by
  obtain ⟨c',hc,hw⟩:=h 0 (by omega)
  simp at hc
  subst hc
  have ih:=wl_all (l:=l) (n:=n) (fun k hk=>by
   obtain ⟨c',h1,h2⟩:=h (k+1) (by omega)
   exact ⟨c',by simpa using h1,h2⟩) fun c' hc'=>h2 c' (by simpa using hc')
  unfold wl at ih ⊢
  rw [List.takeWhile_cons]
  simp [nw,hw] at ih ⊢
  exact ih
def encW (w:List UInt8):List AV:=[Sx (mk w)]
theorem rwords_ok (s:ByteArray) (hs:s.data.size<4294967281) (H:Hp):Good Tryz.prog σ n_ref9_words [Sx s] H (.imm 1 ((wordsB (tl s)).map encW)) H:=by
 obtain ⟨Q,hQ⟩:∃ Q:AV→Hp→Prop,∀ r H1,Q r H1 ↔ Gs 1 H1 r ((wordsB (tl s)).map encW):=⟨_,fun _ _=>Iff.rfl⟩
 have run:∃ r H1,Good Tryz.prog σ n_ref9_words [Sx s] Hp.empty r H1∧Q r H1:=by
  refine ref9_words.run ?_
  have L0:∀ (k i fr:Nat) (H:Hp) (y3:AV) (out:List (List UInt8)),s.data.size+1 - i=k→i≤s.data.size+1→fr≤i→Gs 1 H y3 (out.map encW)→out.length≤fr→wordsB (tl s)=out++wordsB ((tl s).drop fr)→(∀ j,fr≤j→j<i→∃ c,(tl s)[j]?=some c∧wht c=false)→ref9_words.L0 σ Q (Sx s) y3 (I (fr:Int)) (I (i:Int)) H:=by
   intro k
   induction k with
   | zero =>
    intro i fr H y3 out hk hi hfr hg ho hw hall
    have:i=s.data.size+1:=by omega
    subst this
    refine ref9_words.L0_step ?_
    have hn:¬ (((s.data.size+1:Nat):Int)≤(s.data.size:Int)):=by omega
    simp only [len_str,bnd_some,b_leq,hn,decide_false,ifB_lit,Bool.false_eq_true,if_false]
    by_cases hf:fr≤s.data.size
    ·obtain ⟨c,hc,_⟩:=hall s.data.size hf (by omega)
     have:=(List.getElem?_eq_some_iff.1 hc).1
     rw [tl_len] at this
     omega
    ·rw [List.drop_eq_nil_of_le (by rw [tl_len]; omega),wordsB_nil,List.append_nil] at hw
     rw [hQ,hw]
     exact hg
   | succ k ih =>
    intro i fr H y3 out hk hi hfr hg ho hw hall
    have hle:(i:Int)≤(s.data.size:Int):=by omega
    have fin:∀ (H:Hp),Gs 1 H y3 (out.map encW)→(∀ c,(tl s)[i]?=some c→wht c=true)→ifB (Bo (decide ((fr:Int)<(i:Int)))) (bnd (slStr (Sx s) (some (I (fr:Int))) (some (I (i:Int)))) fun x6=>bnd (bldSlR [.string ⟨#[]⟩] 1 1 H [(0,1,x6)]) fun p7=>bnd (appR false 1 16 p7.2 y3 p7.1) fun p8=>ref9_words.J1 σ Q (Sx s) p8.1 (I (fr:Int)) (I (i:Int)) p8.2) (ref9_words.J1 σ Q (Sx s) y3 (I (fr:Int)) (I (i:Int)) H):=by
     intro H hg hend
     have hwl:wl ((tl s).drop fr)=i - fr:=wl_all (fun k hk=>by
      rw [List.getElem?_drop]
      exact hall (fr+k) (by omega) (by omega)) fun c hc=>hend c (by
       rw [List.getElem?_drop] at hc
       rwa [show fr+(i - fr)=i by omega] at hc)
     simp only [ifB_lit,decide_eq_true_eq]
     split
     ·rename_i hlt
      have hlt':fr<i:=by omega
      have hne:(tl s).drop fr≠[]:=by
       intro e
       have:=congrArg List.length e
       rw [List.length_drop,tl_len,List.length_nil] at this
       omega
      have hwe:=wordsB_eq hne
      rw [hwl,if_neg (by omega),List.drop_drop,show fr+(i - fr+1)=i+1 by omega] at hwe
      rw [sl_str (by omega) (by omega),bnd_some]
      refine bnd_app1 (y:=Sx (mk (((tl s).drop fr).take (i - fr)))) hg rfl rfl rfl (by simp; omega) (by simp; omega) fun y3' H' hg' _=>?_
      refine ref9_words.J1_step ?_
      simp only [b_add,bnd_some]
      rw [wr_succ (by omega)]
      refine ref9_words.J2_step ?_
      simp only [b_add,bnd_some]
      rw [wr_succ (by omega)]
      refine ih (i+1) (i+1) H' y3' (out++[((tl s).drop fr).take (i - fr)]) (by omega) (by omega) (Nat.le_refl _) (by rw [List.map_append]; exact hg') (by simp; omega) ?_ fun j h1 h2=>by omega
      rw [hw,hwe]
      simp
     ·rename_i hlt
      have hfi:fr=i:=by omega
      subst hfi
      refine ref9_words.J1_step ?_
      simp only [b_add,bnd_some]
      rw [wr_succ (by omega)]
      refine ref9_words.J2_step ?_
      simp only [b_add,bnd_some]
      rw [wr_succ (by omega)]
      refine ih (fr+1) (fr+1) H y3 out (by omega) (by omega) (Nat.le_refl _) hg (by omega) ?_ fun j h1 h2=>by omega
      rw [hw]
      congr 1
      by_cases hne:(tl s).drop fr=[]
      ·have:(tl s).drop (fr+1)=[]:=by rw [← List.drop_drop,hne]; rfl
       rw [hne,this]
      ·rw [wordsB_eq hne,hwl,if_pos (by omega),List.drop_drop]
    refine ref9_words.L0_step ?_
    simp only [len_str,bnd_some,b_leq,hle,decide_true,ifB_lit,if_true,b_eql,decide_eq_true_eq,b_gtr]
    split
    ·rename_i he
     have he':i=s.data.size:=by omega
     have:=fin H hg fun c hc=>by
      have:=(List.getElem?_eq_some_iff.1 hc).1
      rw [tl_len] at this
      omega
     simpa only [ifB_lit,decide_eq_true_eq] using this
    ·rename_i he
     have hlt:i<(tl s).length:=by rw [tl_len]; omega
     obtain ⟨c,hc⟩:=get_lt hlt
     rw [ix_str hc,bnd_some]
     refine callK_of (blank_ok c _) ?_
     simp only [ifB_lit]
     cases hwc:wht c with
     | true =>
      have:=fin H hg fun c' hc'=>by rw [hc] at hc'; cases hc'; exact hwc
      simpa only [ifB_lit,decide_eq_true_eq,if_true] using this
     | false =>
      simp only [Bool.false_eq_true,if_false]
      refine ref9_words.J2_step ?_
      simp only [b_add,bnd_some]
      rw [wr_succ (by omega)]
      refine ih (i+1) fr H y3 out (by omega) (by omega) (by omega) hg ho hw fun j h1 h2=>?_
      by_cases hj:j<i
      ·exact hall j h1 hj
      ·have:j=i:=by omega
       subst this
       exact ⟨c,hc,hwc⟩
  exact L0 _ 0 0 _ _ [] rfl (Nat.zero_le _) (Nat.le_refl _) .nil (Nat.le_refl _) (by simp) fun j h1 h2=>by omega
 obtain ⟨r,H1,hg,hr⟩:=run
 rw [hQ] at hr
 exact hg.frzR (by simp [noIds,noId]) (hr.fz (noIds_map _ (fun _=>rfl) _)) H
end Go.Proofs.YtaoegkmfgfefgaaGreat.Ev
namespace Go.Proofs.YtaoegkmfgfefgaaGreat.Ev
set_option linter.unusedVariables false
set_option linter.unusedSimpArgs false
variable {σ:Sig}
theorem words_mem:∀ (n:Nat) (l:List UInt8),l.length≤n→(wordsB l).length≤l.length∧∀ w ∈ wordsB l,w≠[]∧∀ c ∈ w,wht c=false
 | 0,l,h=>by
  have:l=[]:=List.length_eq_zero_iff.1 (by omega)
  subst this
  rw [wordsB_nil]
  exact ⟨Nat.le_refl _,fun w hw=>by cases hw⟩
 | n+1,l,h=>by
  by_cases hl:l=[]
  ·subst hl
   rw [wordsB_nil]
   exact ⟨Nat.le_refl _,fun w hw=>by cases hw⟩
  ·have hpos:=List.length_pos_iff.2 hl
   rw [wordsB_eq hl]
   split
   ·obtain ⟨h1,h2⟩:=words_mem n (l.drop 1) (by rw [List.length_drop]; omega)
    rw [List.length_drop] at h1
    exact ⟨by omega,h2⟩
   ·rename_i hw
    obtain ⟨h1,h2⟩:=words_mem n (l.drop (wl l+1)) (by rw [List.length_drop]; omega)
    rw [List.length_drop] at h1
    refine ⟨by rw [List.length_cons]; omega,fun w hm=>?_⟩
    rcases List.mem_cons.1 hm with rfl | hm
    ·refine ⟨fun e=>?_,fun c hc=>?_⟩
     ·have:=congrArg List.length e
      rw [List.length_take,List.length_nil] at this
      have:=wl_le l
      omega
     ·obtain ⟨i,hi⟩:=List.getElem?_of_mem hc
      rw [List.getElem?_take] at hi
      split at hi
      ·rename_i hlt
       obtain ⟨c',h3,h4⟩:=wl_lt hlt
       rw [h3] at hi
       cases hi
       exact h4
      ·cases hi
    ·exact h2 w hm
theorem words_one {w:List UInt8} (h0:w≠[]) (h:∀ c ∈ w,wht c=false):wordsB w=[w]:=by
 have hpos:=List.length_pos_iff.2 h0
 have hwl:wl w=w.length:=wl_all (fun k hk=>⟨w[k],List.getElem?_eq_getElem hk,h _ (List.getElem_mem hk)⟩) fun c hc=>by
  have:=(List.getElem?_eq_some_iff.1 hc).1
  omega
 rw [wordsB_eq h0,hwl,if_neg (by omega),List.take_length,List.drop_eq_nil_of_le (by omega),wordsB_nil]
theorem words_q (s t:ByteArray):(match wordsB (tl t) with | [w]=>decide (mk w=t)&&hasB ((wordsB (tl s)).map mk) t | _=>false)=(!decide (t=emp)&&wordB s t):=by
 have hin:hasB ((wordsB (tl s)).map mk) t=wordB s t:=by
  unfold hasB wordB
  rw [Bool.eq_iff_iff,List.any_eq_true,decide_eq_true_eq]
  constructor
  ·rintro ⟨x,hx,hd⟩
   obtain ⟨w,hw,rfl⟩:=List.mem_map.1 hx
   rw [decide_eq_true_eq] at hd
   rw [← hd,tl_mk]
   exact hw
  ·exact fun h=>⟨t,List.mem_map.2 ⟨tl t,h,mk_tl t⟩,by simp⟩
 rw [hin]
 by_cases hw:tl t ∈ wordsB (tl s)
 ·obtain ⟨h1,h2⟩:=(words_mem _ (tl s) (Nat.le_refl _)).2 _ hw
  rw [words_one h1 h2]
  have:t≠emp:=fun e=>h1 (by rw [e]; rfl)
  simp [mk_tl,this]
 ·have:wordB s t=false:=by unfold wordB; simpa using hw
  rw [this]
  split<;>simp
theorem strs_words (l:List (List UInt8)):(.imm 1 (l.map encW):AV)=strs (l.map mk):=by unfold strs; rw [List.map_map]; rfl
theorem rattr_L0 {n:Nd} (hl:n.attrs.length≤reachBytes) (ht:∀ p ∈ n.attrs,p.2.data.size<4294967281) {a:At} (ha:a.text.data.size<4294967281) {K:AV→Hp→Prop} {b2 b3:Nat}:∀ (k m:Nat) (H:Hp),n.attrs.length - m=k→m≤n.attrs.length→H.get b2=some (.cells (encNd n) true)→H.get b3=some (.cells (encAt a) true)→(∀ H,K (Bo (attrB (n.attrs.drop m) a)) H)→ref9_attr.L0 σ K (.ptr b2 0) (.ptr b3 0) (I (m:Int)) H:=by
 have hre:=reach_eq
 intro k
 induction k with
 | zero =>
  intro m H hk hm h2 h3 hK
  have:m=n.attrs.length:=by omega
  subst this
  have c2:ldA false 1 H (.ptr b2 4)=some (.imm 2 (n.attrs.map encPr)):=by simp [h2,encNd]
  refine ref9_attr.L0_step ?_
  simp only [sh_ptr,Nat.zero_add,bnd_some,c2,len_imm,List.length_map,b_lss,Int.lt_irrefl,decide_false,ifB_lit,Bool.false_eq_true,if_false]
  simpa [attrB] using hK H
 | succ k ih =>
  intro m H hk hm h2 h3 hK
  have hlt:m<n.attrs.length:=by omega
  obtain ⟨x,hx⟩:=get_lt hlt
  have hxl:=ht x (List.mem_of_getElem? hx)
  rw [drop_get hx] at hK
  have h1:(m:Int)<n.attrs.length:=by omega
  have c2:ldA false 1 H (.ptr b2 4)=some (.imm 2 (n.attrs.map encPr)):=by simp [h2,encNd]
  have d0:ldA false 1 H (.ptr b3 0)=some (Sx a.name):=by simp [h3]
  have d1:ldA false 1 H (.ptr b3 1)=some (I a.op):=by simp [h3]
  have d2:ldA false 1 H (.ptr b3 2)=some (Sx a.text):=by simp [h3,encAt]
  have s0:shiftA (.ip (encPr x)) 0=some (.ip (encPr x)):=rfl
  have s1:shiftA (.ip (encPr x)) 1=some (.ip [Sx x.2]):=rfl
  have l0:ldA false 1 H (.ip (encPr x))=some (Sx x.1):=rfl
  have l1:ldA false 1 H (.ip [Sx x.2])=some (Sx x.2):=rfl
  refine ref9_attr.L0_step ?_
  simp only [sh_ptr,Nat.zero_add,bnd_some,c2,len_imm,List.length_map,b_lss,h1,decide_true,ifB_lit,if_true,ix_map hx,s0,s1,l0,l1,d0,d1,d2,b_sneq,b_eql,b_seql,decide_eq_true_eq]
  by_cases hn:x.1=a.name
  ·have hat:attrB (x::n.attrs.drop (m+1)) a=soB x.2 a:=by simp [attrB,hn]
   rw [hat] at hK
   simp only [hn,decide_true,Bool.not_true,Bool.false_eq_true,if_false]
   unfold soB at hK
   split
   ·rename_i h; simp only [h,if_true] at hK; exact hK _
   rename_i h0
   simp only [h0,if_false] at hK
   split
   ·rename_i h; simp only [h,if_true] at hK; exact hK _
   rename_i h1
   simp only [h1,if_false] at hK
   split
   ·rename_i h
    simp only [h,if_true] at hK
    rw [← words_q] at hK
    refine callK_of (rwords_ok a.text ha _) ?_
    rw [len_imm,bnd_some,b_eql,bnd_some,List.length_map]
    simp only [ifB_lit,decide_eq_true_eq]
    split
    ·rename_i hl1
     obtain ⟨w,hw⟩:∃ w,wordsB (tl a.text)=[w]:=List.length_eq_one_iff.1 (by omega)
     rw [hw] at hK
     have hix:ixaSl 1 (.imm 1 ((wordsB (tl a.text)).map encW)) (I 0)=some (.ip (encW w)):=by
      have:(wordsB (tl a.text))[(0:Nat)]?=some w:=by rw [hw]; rfl
      exact ix_map this
     have hlw:ldA false 1 H (.ip (encW w))=some (Sx (mk w)):=rfl
     rw [hix,bnd_some,hlw,bnd_some,d2,bnd_some,b_seql,bnd_some]
     simp only [ifB_lit,decide_eq_true_eq]
     split
     ·rename_i hq
      refine callK_of (rwords_ok x.2 hxl _) ⟨rfl,?_⟩
      rw [d2,bnd_some,strs_words]
      have hlen:=(words_mem _ (tl x.2) (Nat.le_refl _)).1
      rw [tl_len] at hlen
      refine callK_of (rhas_ok _ (by rw [List.length_map]; omega) _ _) ?_
      simpa [hq] using hK H
     ·rename_i hq
      simpa [hq] using hK H
    ·rename_i hl1
     have:∀ b:List UInt8→Bool,(match wordsB (tl a.text) with | [w]=>b w | _=>false)=false:=fun b=>by
      split
      ·rename_i w hw; rw [hw] at hl1; simp at hl1
      ·rfl
     rw [this] at hK
     exact hK _
   rename_i h2'
   simp only [h2',if_false] at hK
   split
   ·rename_i h
    simp only [h,if_true] at hK
    split
    ·rename_i he
     simp [he] at hK
     exact hK _
    ·rename_i he
     simp [he] at hK
     rw [b_sadd (by show a.text.data.size+1≤_; omega),bnd_some]
     refine callK_of (begins_ok _ _ _) ?_
     rw [tl_mk]
     exact hK _
   rename_i h3'
   simp only [h3',if_false] at hK
   split
   ·rename_i h
    simp only [h,if_true] at hK
    by_cases he:a.text=emp
    ·have he':a.text=⟨#[]⟩:=he
     simp [he'] at hK ⊢
     simpa [emp] using hK H
    ·have he':¬ (a.text=⟨#[]⟩):=he
     simp [he'] at hK ⊢
     refine callK_of (begins_ok _ _ _) ?_
     simpa [he] using hK H
   rename_i h4'
   simp only [h4',if_false] at hK
   split
   ·rename_i h
    simp only [h,if_true] at hK
    by_cases he:a.text=emp
    ·have he':a.text=⟨#[]⟩:=he
     simp [he'] at hK ⊢
     simpa [emp] using hK H
    ·have he':¬ (a.text=⟨#[]⟩):=he
     simp [he'] at hK ⊢
     refine callK_of (ends_ok _ _ (by omega) _) ?_
     simpa [he] using hK H
   rename_i h5'
   simp only [h5',if_false] at hK
   split
   ·rename_i h
    simp only [h,if_true] at hK
    by_cases he:a.text=emp
    ·have he':a.text=⟨#[]⟩:=he
     simp [he'] at hK ⊢
     simpa [emp] using hK H
    ·have he':¬ (a.text=⟨#[]⟩):=he
     simp [he'] at hK ⊢
     refine callK_of (in_ok _ _ hxl (by omega) (fun e=>he (tl_inj e)) _) ?_
     simpa [he] using hK H
   ·rename_i h
    simp only [h,if_false] at hK
    exact hK _
  ·have hat:attrB (x::n.attrs.drop (m+1)) a=attrB (n.attrs.drop (m+1)) a:=by simp [attrB,hn]
   rw [hat] at hK
   simp only [hn,decide_false,Bool.not_false,if_true,b_add,bnd_some]
   rw [wr_succL hlt hl (by decide)]
   exact ih (m+1) H (by omega) (by omega) h2 h3 hK
theorem rattr_ok (n:Nd) (hl:n.attrs.length≤reachBytes) (ht:∀ p ∈ n.attrs,p.2.data.size<4294967281) (a:At) (ha:a.text.data.size<4294967281) (H:Hp):Good Tryz.prog σ n_ref9_attr [.agg (encNd n),.agg (encAt a)] H (Bo (attrB n.attrs a)) H:=by
 refine good_by (fun K hK=>ref9_attr.run ?_) (by simp [noIds,noId,noId_At,noId_Nd]) rfl H
 simp only [boxK_agg]
 exact rattr_L0 hl ht ha _ 0 _ rfl (Nat.zero_le _) (by simp) (by simp) (by simpa using hK)
end Go.Proofs.YtaoegkmfgfefgaaGreat.Ev
namespace Go.Proofs.YtaoegkmfgfefgaaGreat.Ev
set_option linter.unusedVariables false
set_option linter.unusedSimpArgs false
variable {σ:Sig}
theorem root_eq {L:List Nd} {d:List Nat} (hB:Built L L.length d) {e:Nat} (he:e<L.length):decide ((e:Int)=0)=decide (par L e<0):=by
 by_cases h0:e=0
 ·subst h0
  rw [(hB.root he).1]
  rfl
 ·obtain ⟨p,x,h1,_⟩:=hB.step e (by omega) he
  rw [h1]
  have a1:¬ ((e:Int)=0):=by omega
  have a2:¬ ((p:Int)<0):=by omega
  simp only [a1,a2]
theorem empty_eq (L:List Nd) (e:Nat):decide (((kids L L.length e).length:Int)=0)=decide (childI L e 0<0):=by
 unfold childI
 cases kids L L.length e with
 | nil=>rfl
 | cons x l =>
  have a1:¬ (((x::l).length:Int)=0):=by simp; omega
  have a2:¬ ((x:Int)<0):=by omega
  simp only [a1,decide_false,List.getElem?_cons_zero,a2]
theorem rpseudo_ok {L:List Nd} {d:List Nat} (hB:Built L L.length d) (hN:L.length≤4096) {e:Nat} (he:e<L.length) {q:Ps} (hq:i64 q.a∧i64 q.b) {dp:Nat} (hd:dp≤100)
  (hA:(q.kind=7∨q.kind=8)→∀ H,Good Tryz.prog σ n_ref9_Tree_any [refT L d,I (e:Int),sls q.list,I ((dp+1:Nat):Int)] H (Bo (AA L q.list e)) H) (H:Hp) :
  Good Tryz.prog σ n_ref9_Tree_pseudo [refT L d,I (e:Int),.agg (encPs q),I (dp:Int)] H (Bo (pseudoB (AA L) L e q)) H:=by
 refine good_by (fun K hK=>ref9_Tree_pseudo.run ?_) (by simp [noIds,noId,noId_refT,noId_Ps]) rfl H
 have hpl:=place_bd L e
 obtain ⟨H1,hH1⟩:∃ H1,H1=Hp.empty.new (.cells (encPs q) true):=⟨_,rfl⟩
 have hg:H1.get Hp.empty.n=some (.cells (encPs q) true):=by rw [hH1]; simp
 simp only [boxK_agg]
 rw [← hH1]
 generalize Hp.empty.n=b at hg
 have d0:ldA false 1 H1 (.ptr b 0)=some (I q.kind):=by simp [hg]
 have d1:ldA false 1 H1 (.ptr b 1)=some (I q.a):=by simp [hg]
 have d2:ldA false 1 H1 (.ptr b 2)=some (I q.b):=by simp [hg]
 have d3:ldA false 1 H1 (.ptr b 3)=some (sls q.list):=by simp [hg]; rfl
 simp only [sh_ptr,Nat.zero_add,bnd_some,d0,d1,d2,b_eql,ifB_lit,decide_eq_true_eq]
 unfold pseudoB at hK
 split
 ·rename_i h
  simp only [h,if_true] at hK
  rw [root_eq hB he]
  exact hK _
 rename_i h1
 simp only [h1,if_false] at hK
 split
 ·rename_i h
  simp only [h,if_true] at hK
  refine callK_of (rPlace_ok L d hN he _) ?_
  rw [b_eql,bnd_some]
  exact hK _
 rename_i h2
 simp only [h2,if_false] at hK
 split
 ·rename_i h
  simp only [h,if_true] at hK
  exact callK_of (rlast_ok L d hB hN he _) (hK _)
 rename_i h3
 simp only [h3,if_false] at hK
 split
 ·rename_i h
  simp only [h,if_true] at hK
  refine callK_of (rPlace_ok L d hN he _) ?_
  simp only [b_eql,bnd_some,ifB_lit,decide_eq_true_eq]
  split
  ·rename_i hp
   refine callK_of (rlast_ok L d hB hN he _) ?_
   simpa [hp] using hK H1
  ·rename_i hp
   simpa [hp] using hK H1
 rename_i h4
 simp only [h4,if_false] at hK
 split
 ·rename_i h
  simp only [h,if_true] at hK
  refine callK_of (rChildren_ok L d hB hN he _) ?_
  have:lenSl (ints (kids L L.length e))=some (I ((kids L L.length e).length:Int)):=by unfold ints; simp
  rw [this,bnd_some,b_eql,bnd_some,empty_eq]
  exact hK _
 rename_i h5
 simp only [h5,if_false] at hK
 split
 ·rename_i h
  simp only [h,if_true] at hK
  refine callK_of (rPlace_ok L d hN he _) ⟨rfl,?_⟩
  rw [d1,bnd_some]
  refine ⟨rfl,?_⟩
  rw [d2,bnd_some]
  exact callK_of (rnth_ok (by omega) hq.1 hq.2 _) (hK _)
 rename_i h6
 simp only [h6,if_false] at hK
 have J0:∀ c:Bool,(c=true ↔ (q.kind=7∨q.kind=8))→ref9_Tree_pseudo.J0 σ K (refT L d) (I (e:Int)) (I (dp:Int)) (.ptr b 0) (Bo c) H1:=by
  intro c hc
  refine ref9_Tree_pseudo.J0_step ?_
  simp only [ifB_lit]
  by_cases hk:q.kind=7∨q.kind=8
  ·rw [hc.2 hk]
   simp only [if_true,sh_ptr,Nat.zero_add,bnd_some,d3,b_add]
   rw [wr_succ (by omega)]
   refine callK_of (hA hk _) ?_
   simp only [d0,bnd_some,b_eql]
   by_cases h7:q.kind=7
   ·have h8:¬ (q.kind=8):=by omega
    simp only [h7,if_true] at hK
    have:=hK H1
    simp only [h8,decide_false]
    cases hb:AA L q.list e<;>simpa [hb] using this
   ·have h8:q.kind=8:=by omega
    simp only [h7,h8,if_false,if_true] at hK
    have:=hK H1
    simp only [h8,decide_true]
    cases hb:AA L q.list e<;>simpa [hb] using this
  ·have:c=false:=by
    cases c with
    | false=>rfl
    | true=>exact absurd (hc.1 rfl) hk
   subst this
   have h7:¬ (q.kind=7):=fun h=>hk (.inl h)
   have h8:¬ (q.kind=8):=fun h=>hk (.inr h)
   simp only [h7,h8,if_false] at hK
   simpa using hK H1
 split
 ·rename_i h
  exact J0 _ (by simp [h])
 ·rename_i h
  exact J0 _ (by simp [h])
end Go.Proofs.YtaoegkmfgfefgaaGreat.Ev
namespace Go.Proofs.YtaoegkmfgfefgaaGreat.Ev
set_option linter.unusedVariables false
set_option linter.unusedSimpArgs false
variable {σ:Sig}
section
variable {L:List Nd} {d:List Nat} {e:Nat} {c:Cp} {n:Nd} {dp:Nat} {b6 b9:Nat} {K:AV→Hp→Prop}
theorem rc_L3 (hps:c.pseudos.length≤reachBytes) (hP:∀ q ∈ c.pseudos,∀ H,Good Tryz.prog σ n_ref9_Tree_pseudo [refT L d,I (e:Int),.agg (encPs q),I (dp:Int)] H (Bo (pseudoB (AA L) L e q)) H) {y10 y11 y12:AV}:∀ (k m:Nat) (H:Hp),c.pseudos.length - m=k→m≤c.pseudos.length→H.get b6=some (.cells (encCp c) true)→(∀ H,K (Bo ((c.pseudos.drop m).all (pseudoB (AA L) L e))) H) →
  ref9_Tree_compound.L3 σ K (refT L d) (I (e:Int)) (I (dp:Int)) (.ptr b6 0) (.ptr b9 0) y10 y11 y12 (I (m:Int)) H:=by
 intro k
 induction k with
 | zero =>
  intro m H hk hm h6 hK
  have:m=c.pseudos.length:=by omega
  subst this
  have d4:ldA false 1 H (.ptr b6 4)=some (.imm 4 (c.pseudos.map encPs)):=by simp [h6]
  refine ref9_Tree_compound.L3_step ?_
  simp only [sh_ptr,Nat.zero_add,bnd_some,d4,len_imm,List.length_map,b_lss,Int.lt_irrefl,decide_false,ifB_lit,Bool.false_eq_true,if_false]
  simpa using hK H
 | succ k ih =>
  intro m H hk hm h6 hK
  have hlt:m<c.pseudos.length:=by omega
  obtain ⟨q,hq⟩:=get_lt hlt
  rw [drop_get hq,List.all_cons] at hK
  have hlt':(m:Int)<c.pseudos.length:=by omega
  have d4:ldA false 1 H (.ptr b6 4)=some (.imm 4 (c.pseudos.map encPs)):=by simp [h6]
  refine ref9_Tree_compound.L3_step ?_
  simp only [sh_ptr,Nat.zero_add,bnd_some,d4,len_imm,List.length_map,b_lss,hlt',decide_true,ifB_lit,if_true,ix_map hq,ld_ip,ldL_ps]
  refine callK_of (hP q (List.mem_of_getElem? hq) _) ?_
  simp only [u_not,bnd_some,ifB_lit]
  cases hb:pseudoB (AA L) L e q with
  | false=>rw [hb] at hK; simpa using hK H
  | true =>
   rw [hb] at hK
   simp only [Bool.not_true,Bool.false_eq_true,if_false,b_add,bnd_some]
   rw [wr_succL hlt hps (by decide)]
   exact ih (m+1) H (by omega) (by omega) h6 (by simpa using hK)
theorem rc_L2 (has:c.attrs.length≤reachBytes) (hps:c.pseudos.length≤reachBytes) (hn:SmN n) (ha:∀ a ∈ c.attrs,a.text.data.size<4294967281) (hP:∀ q ∈ c.pseudos,∀ H,Good Tryz.prog σ n_ref9_Tree_pseudo [refT L d,I (e:Int),.agg (encPs q),I (dp:Int)] H (Bo (pseudoB (AA L) L e q)) H) {y10 y11 y14:AV}:∀ (k m:Nat) (H:Hp),c.attrs.length - m=k→m≤c.attrs.length→H.get b6=some (.cells (encCp c) true)→H.get b9=some (.cells (encNd n) true)→(∀ H,K (Bo ((c.attrs.drop m).all (attrB n.attrs)&&c.pseudos.all (pseudoB (AA L) L e))) H) →
  ref9_Tree_compound.L2 σ K (refT L d) (I (e:Int)) (I (dp:Int)) (.ptr b6 0) (.ptr b9 0) y10 y11 (I (m:Int)) y14 H:=by
 intro k
 induction k with
 | zero =>
  intro m H hk hm h6 h9 hK
  have:m=c.attrs.length:=by omega
  subst this
  have d3:ldA false 1 H (.ptr b6 3)=some (.imm 3 (c.attrs.map encAt)):=by simp [h6]
  refine ref9_Tree_compound.L2_step ?_
  simp only [sh_ptr,Nat.zero_add,bnd_some,d3,len_imm,List.length_map,b_lss,Int.lt_irrefl,decide_false,ifB_lit,Bool.false_eq_true,if_false]
  exact rc_L3 hps hP _ 0 H rfl (Nat.zero_le _) h6 (by simpa using hK)
 | succ k ih =>
  intro m H hk hm h6 h9 hK
  have hlt:m<c.attrs.length:=by omega
  obtain ⟨a,hq⟩:=get_lt hlt
  rw [drop_get hq,List.all_cons] at hK
  have hlt':(m:Int)<c.attrs.length:=by omega
  have d3:ldA false 1 H (.ptr b6 3)=some (.imm 3 (c.attrs.map encAt)):=by simp [h6]
  have d9:ldA true 5 H (.ptr b9 0)=some (.agg (encNd n)):=by simp only [ld_ptr,h9,ldO_cells,List.drop_zero,ldL_nd]
  refine ref9_Tree_compound.L2_step ?_
  simp only [sh_ptr,Nat.zero_add,bnd_some,d3,d9,len_imm,List.length_map,b_lss,hlt',decide_true,ifB_lit,if_true,ix_map hq,ld_ip,ldL_at]
  refine callK_of (rattr_ok n hn.attrs hn.texts a (ha a (List.mem_of_getElem? hq)) _) ?_
  simp only [u_not,bnd_some,ifB_lit]
  cases hb:attrB n.attrs a with
  | false=>rw [hb] at hK; simpa using hK H
  | true =>
   rw [hb] at hK
   simp only [Bool.not_true,Bool.false_eq_true,if_false,b_add,bnd_some]
   rw [wr_succL hlt has (by decide)]
   exact ih (m+1) H (by omega) (by omega) h6 h9 (by simpa using hK)
structure RcOk (c:Cp):Prop where
 ids:c.ids.length≤reachBytes
 classes:c.classes.length≤reachBytes
 attrs:c.attrs.length≤reachBytes
 ps:c.pseudos.length≤reachBytes
 texts:∀ a ∈ c.attrs,a.text.data.size<4294967281
theorem rc_L1 (hc:RcOk c) (hn:SmN n) (hP:∀ q ∈ c.pseudos,∀ H,Good Tryz.prog σ n_ref9_Tree_pseudo [refT L d,I (e:Int),.agg (encPs q),I (dp:Int)] H (Bo (pseudoB (AA L) L e q)) H) {y10 y12 y14:AV}:∀ (k m:Nat) (H:Hp),c.classes.length - m=k→m≤c.classes.length→H.get b6=some (.cells (encCp c) true)→H.get b9=some (.cells (encNd n) true)→(∀ H,K (Bo ((c.classes.drop m).all (hasB n.classes)&&(c.attrs.all (attrB n.attrs)&&c.pseudos.all (pseudoB (AA L) L e)))) H) →
  ref9_Tree_compound.L1 σ K (refT L d) (I (e:Int)) (I (dp:Int)) (.ptr b6 0) (.ptr b9 0) y10 (I (m:Int)) y12 y14 H:=by
 intro k
 induction k with
 | zero =>
  intro m H hk hm h6 h9 hK
  have:m=c.classes.length:=by omega
  subst this
  have d2:ldA false 1 H (.ptr b6 2)=some (.imm 1 (c.classes.map fun s=>[Sx s])):=by simp [h6,encCp_eq,strs]
  refine ref9_Tree_compound.L1_step ?_
  simp only [sh_ptr,Nat.zero_add,bnd_some,d2,len_imm,List.length_map,b_lss,Int.lt_irrefl,decide_false,ifB_lit,Bool.false_eq_true,if_false]
  exact rc_L2 hc.attrs hc.ps hn hc.texts hP _ 0 H rfl (Nat.zero_le _) h6 h9 (by simpa using hK)
 | succ k ih =>
  intro m H hk hm h6 h9 hK
  have hlt:m<c.classes.length:=by omega
  obtain ⟨x,hq⟩:=get_lt hlt
  rw [drop_get hq,List.all_cons] at hK
  have hlt':(m:Int)<c.classes.length:=by omega
  have d2:ldA false 1 H (.ptr b6 2)=some (.imm 1 (c.classes.map fun s=>[Sx s])):=by simp [h6,encCp_eq,strs]
  have d9:ldA false 1 H (.ptr b9 3)=some (strs n.classes):=by simp [h9,encNd]
  have lx:ldA false 1 H (.ip [Sx x])=some (Sx x):=rfl
  have hix:ixaSl 1 (.imm 1 (c.classes.map fun s=>[Sx s])) (I (m:Int))=some (.ip [Sx x]):=ix_map hq
  refine ref9_Tree_compound.L1_step ?_
  simp only [sh_ptr,Nat.zero_add,bnd_some,d2,d9,len_imm,List.length_map,b_lss,hlt',decide_true,ifB_lit,if_true,hix,lx]
  refine callK_of (rhas_ok n.classes hn.classes x _) ?_
  simp only [u_not,bnd_some,ifB_lit]
  cases hb:hasB n.classes x with
  | false=>rw [hb] at hK; simpa using hK H
  | true =>
   rw [hb] at hK
   simp only [Bool.not_true,Bool.false_eq_true,if_false,b_add,bnd_some]
   rw [wr_succL hlt hc.classes (by decide)]
   exact ih (m+1) H (by omega) (by omega) h6 h9 (by simpa using hK)
theorem rc_L0 (hc:RcOk c) (hn:SmN n) (hP:∀ q ∈ c.pseudos,∀ H,Good Tryz.prog σ n_ref9_Tree_pseudo [refT L d,I (e:Int),.agg (encPs q),I (dp:Int)] H (Bo (pseudoB (AA L) L e q)) H) {y11 y12 y14:AV}:∀ (k m:Nat) (H:Hp),c.ids.length - m=k→m≤c.ids.length→H.get b6=some (.cells (encCp c) true)→H.get b9=some (.cells (encNd n) true)→(∀ H,K (Bo ((c.ids.drop m).all (idB n)&&(c.classes.all (hasB n.classes)&&(c.attrs.all (attrB n.attrs)&&c.pseudos.all (pseudoB (AA L) L e))))) H) →
  ref9_Tree_compound.L0 σ K (refT L d) (I (e:Int)) (I (dp:Int)) (.ptr b6 0) (.ptr b9 0) (I (m:Int)) y11 y12 y14 H:=by
 intro k
 induction k with
 | zero =>
  intro m H hk hm h6 h9 hK
  have:m=c.ids.length:=by omega
  subst this
  have d2:ldA false 1 H (.ptr b6 1)=some (.imm 1 (c.ids.map fun s=>[Sx s])):=by simp [h6,encCp_eq,strs]
  refine ref9_Tree_compound.L0_step ?_
  simp only [sh_ptr,Nat.zero_add,bnd_some,d2,len_imm,List.length_map,b_lss,Int.lt_irrefl,decide_false,ifB_lit,Bool.false_eq_true,if_false]
  exact rc_L1 hc hn hP _ 0 H rfl (Nat.zero_le _) h6 h9 (by simpa using hK)
 | succ k ih =>
  intro m H hk hm h6 h9 hK
  have hlt:m<c.ids.length:=by omega
  obtain ⟨x,hq⟩:=get_lt hlt
  rw [drop_get hq,List.all_cons] at hK
  have hlt':(m:Int)<c.ids.length:=by omega
  have d2:ldA false 1 H (.ptr b6 1)=some (.imm 1 (c.ids.map fun s=>[Sx s])):=by simp [h6,encCp_eq,strs]
  have d9:ldA false 1 H (.ptr b9 2)=some (Sx n.id):=by simp [h9,encNd]
  have lx:ldA false 1 H (.ip [Sx x])=some (Sx x):=rfl
  have hix:ixaSl 1 (.imm 1 (c.ids.map fun s=>[Sx s])) (I (m:Int))=some (.ip [Sx x]):=ix_map hq
  refine ref9_Tree_compound.L0_step ?_
  simp only [sh_ptr,Nat.zero_add,bnd_some,d2,d9,len_imm,List.length_map,b_lss,hlt',decide_true,ifB_lit,if_true,hix,lx,b_sneq,b_seql]
  by_cases h1:x=n.id
  ·by_cases h2:n.id=emp
   ·have h2':n.id=⟨#[]⟩:=h2
    have hid:idB n x=false:=by unfold idB; rw [h1,h2]; simp
    rw [hid] at hK
    simp only [h1,h2',decide_true,Bool.not_true,Bool.false_eq_true,if_false,if_true]
    simpa using hK H
   ·have h2':¬ (n.id=⟨#[]⟩):=h2
    have hid:idB n x=true:=by unfold idB; rw [h1]; simp [h2]
    rw [hid] at hK
    simp only [h1,h2',decide_true,decide_false,Bool.not_true,Bool.false_eq_true,if_false,b_add,bnd_some]
    rw [wr_succL hlt hc.ids (by decide)]
    exact ih (m+1) H (by omega) (by omega) h6 h9 (by simpa using hK)
  ·have hid:idB n x=false:=by unfold idB; simp [h1]
   rw [hid] at hK
   simp only [h1,decide_false,Bool.not_false,if_true]
   simpa using hK H
end
end Go.Proofs.YtaoegkmfgfefgaaGreat.Ev
namespace Go.Proofs.YtaoegkmfgfefgaaGreat.Ev
set_option linter.unusedVariables false
set_option linter.unusedSimpArgs false
variable {σ:Sig}
section
attribute [local irreducible] ref9_Tree_compound.L0
theorem rcomp_ok {L:List Nd} {d:List Nat} (hB:Built L L.length d) (hN:L.length≤4096) {e:Nat} (he:e<L.length) (hn:SmN (lowN (ndAt L e))) {c:Cp} (hc:RcOk c) (hq:∀ q ∈ c.pseudos,i64 q.a∧i64 q.b) {dp:Nat} (hd:dp≤100)
  (hA:∀ q ∈ c.pseudos,(q.kind=7∨q.kind=8)→∀ H,Good Tryz.prog σ n_ref9_Tree_any [refT L d,I (e:Int),sls q.list,I ((dp+1:Nat):Int)] H (Bo (AA L q.list e)) H) (H:Hp) :
  Good Tryz.prog σ n_ref9_Tree_compound [refT L d,I (e:Int),.agg (encCp c),I (dp:Int)] H (Bo (compB (AA L) L e c)) H:=by
 refine good_by (fun K hK=>ref9_Tree_compound.run ?_) (by simp [noIds,noId,noId_refT,noId_Cp]) rfl H
 have hP:∀ q ∈ c.pseudos,∀ H,Good Tryz.prog σ n_ref9_Tree_pseudo [refT L d,I (e:Int),.agg (encPs q),I (dp:Int)] H (Bo (pseudoB (AA L) L e q)) H:=fun q h=>rpseudo_ok hB hN he (hq q h) hd (hA q h)
 simp only [boxK_agg]
 refine callK_of (ris_t L d he _) ?_
 simp only [u_not,bnd_some,ifB_lit,Bool.not_true,Bool.false_eq_true,if_false,rnilp,rsh,rld,rix he,ld_ip,ldL_nd,allocK_eq,st_agg,len_encNd,if_true]
 rw [hp_get_new,if_pos rfl]
 simp only [stO_cells,len_encNd,one_Nd]
 rw [if_pos ⟨by decide,trivial⟩]
 rw [overlay_all (by rfl)]
 simp only [bnd_some]
 obtain ⟨H3,hH3⟩:∃ H3,H3=((Hp.empty.new (.cells (encCp c) true)).new (.cells [I 0,.lit (.string ⟨#[]⟩),.lit (.string ⟨#[]⟩),.lit (.slice none 0 0),.lit (.slice none 0 0)] true)).set (Hp.empty.new (.cells (encCp c) true)).n (some (.cells (encNd (lowN (ndAt L e))) true)):=⟨_,rfl⟩
 have h6:H3.get Hp.empty.n=some (.cells (encCp c) true):=by rw [hH3]; simp
 have h9:H3.get (Hp.empty.new (.cells (encCp c) true)).n=some (.cells (encNd (lowN (ndAt L e))) true):=by rw [hH3]; simp
 rw [← hH3]
 generalize Hp.empty.n=b6 at h6
 generalize (Hp.empty.new (.cells (encCp c) true)).n=b9 at h9
 have d0:ldA false 1 H3 (.ptr b6 0)=some (Sx c.tag):=by simp [h6]
 have d1:ldA false 1 H3 (.ptr b9 1)=some (Sx (lowN (ndAt L e)).tag):=by simp [h9]
 simp only [sh_ptr,Nat.zero_add,bnd_some,d0,d1,b_sneq,ifB_lit]
 have hK':∀ H,K (Bo (tagB (lowN (ndAt L e)) c&&(c.ids.all (idB (lowN (ndAt L e)))&&(c.classes.all (hasB (lowN (ndAt L e)).classes)&&(c.attrs.all (attrB (lowN (ndAt L e)).attrs)&&c.pseudos.all (pseudoB (AA L) L e)))))) H:=by
  intro H
  have:=hK H
  unfold compB plainB at this
  simpa only [Bool.and_assoc] using this
 have go:tagB (lowN (ndAt L e)) c=true→ref9_Tree_compound.L0 σ K (refT L d) (I (e:Int)) (I (dp:Int)) (.ptr b6 0) (.ptr b9 0) (I 0) (.lit undef) (.lit undef) (.lit undef) H3:=by
  intro ht
  refine rc_L0 hc hn hP _ 0 H3 rfl (Nat.zero_le _) h6 h9 fun H=>?_
  have:=hK' H
  rw [ht,Bool.true_and] at this
  exact this
 by_cases ht:c.tag=⟨#[]⟩
 ·simp only [ht,decide_true,Bool.not_true,Bool.false_eq_true,if_false]
  exact go (by unfold tagB emp; simp [ht])
 ·by_cases ht2:c.tag=(lowN (ndAt L e)).tag
  ·simp only [ht,ht2,decide_true,decide_false,Bool.not_true,Bool.not_false,Bool.false_eq_true,if_true,if_false]
   have hne:¬ ((lowN (ndAt L e)).tag=⟨#[]⟩):=by rw [← ht2]; exact ht
   simp only [hne,decide_false,Bool.not_false,if_true]
   exact go (by unfold tagB; simp [ht2])
  ·simp only [ht,ht2,decide_false,Bool.not_false,if_true]
   have:=hK' H3
   have hb:tagB (lowN (ndAt L e)) c=false:=by unfold tagB emp; simp [ht,ht2]
   rw [hb] at this
   simpa using this
end
structure Kn (L:List Nd) (s:Sl) (kb M:Nat) (H:Hp):Prop where
 lt:kb<H.n
 get:∃ ks,H.get kb=some (.cells ks true)∧ks.length=M∧∀ e k,e<L.length→k<s.length→∃ v:Int,ks[e*s.length+k]?=some (I v)∧(v=0∨(v=1∧frontB (AA L) L s k e=true)∨(v=2∧frontB (AA L) L s k e=false))
theorem Kn.keep {L:List Nd} {s:Sl} {kb M:Nat} {H H':Hp} (h:Kn L s kb M H) (hn:H.n≤H'.n) (hg:H'.get kb=H.get kb):Kn L s kb M H':=by
 obtain ⟨ks,h1,h2,h3⟩:=h.get
 exact ⟨Nat.lt_of_lt_of_le h.lt hn,ks,by rw [hg]; exact h1,h2,h3⟩
theorem Kn.new {L:List Nd} {s:Sl} {kb M:Nat} {H:Hp} (h:Kn L s kb M H) (b:Blk):Kn L s kb M (H.new b):=by
 refine h.keep (by simp) ?_
 have:kb≠H.n:=by have:=h.lt; omega
 simp [this]
theorem idx_inj {n a b x y:Nat} (hx:x<n) (hy:y<n) (h:a*n+x=b*n+y):a=b∧x=y:=by
 have h1:(a*n+x) / n=(b*n+y) / n:=by rw [h]
 have hn:0<n:=by omega
 rw [Nat.mul_comm a,Nat.mul_comm b,Nat.mul_add_div hn,Nat.mul_add_div hn,Nat.div_eq_of_lt hx,Nat.div_eq_of_lt hy] at h1
 simp only [Nat.add_zero] at h1
 subst h1
 exact ⟨rfl,by omega⟩
theorem ov_set:∀ (cs:List AV) (i:Nat) (x:AV),i<cs.length→overlay cs i [x]=cs.set i x:=by
 intro cs
 induction cs with
 | nil=>intro i x hi; simp at hi
 | cons c r ih =>
  intro i x hi
  cases i with
  | zero=>simp
  | succ i=>rw [overlay_s,List.set_cons_succ,ih i x (by simpa using hi)]
theorem Kn.put {L:List Nd} {s:Sl} {kb M:Nat} {H:Hp} (h:Kn L s kb M H) {e k:Nat} (he:e<L.length) (hk:k<s.length) {v:Int} (hv:v=0∨(v=1∧frontB (AA L) L s k e=true)∨(v=2∧frontB (AA L) L s k e=false)) :
  ∃ H',stA 1 H (.ptr kb (e*s.length+k)) (I v)=some H'∧Kn L s kb M H'∧Kp kb H H'∧ldA false 1 H' (.ptr kb (e*s.length+k))=some (I v):=by
 obtain ⟨ks,h1,h2,h3⟩:=h.get
 obtain ⟨v0,hv0,_⟩:=h3 e k he hk
 have hlt:=(List.getElem?_eq_some_iff.1 hv0).1
 refine ⟨H.set kb (some (.cells (ks.set (e*s.length+k) (I v)) true)),?_,⟨by simpa using h.lt,_,by simp; rfl,by simpa using h2,fun e' k' he' hk'=>?_⟩,⟨by simp,fun j hj hne=>by simp [hne]⟩,?_⟩
 ·have hlt':e*s.length+k+[I v].length≤ks.length:=by simp; omega
  rw [st_int,h1]
  simp only [stO_cells]
  rw [if_pos ⟨hlt',rfl⟩,ov_set _ _ _ hlt]
 ·by_cases hi:e*s.length+k=e'*s.length+k'
  ·obtain ⟨rfl,rfl⟩:=idx_inj hk hk' hi
   exact ⟨v,by simp [hlt],hv⟩
  ·obtain ⟨w,hw,hw'⟩:=h3 e' k' he' hk'
   exact ⟨w,by simp [List.getElem?_set,hi,hw],hw'⟩
 ·simp only [ld_ptr,hp_get_set,if_true,ldO_cells]
  rw [List.drop_eq_getElem_cons (by simpa using hlt),ldL_one]
  simp
theorem Kn.put2 {L:List Nd} {s:Sl} {kb M:Nat} {H:Hp} (h:Kn L s kb M H) {e k:Nat} (he:e<L.length) (hk:k<s.length) {v w:Int} (hv:v=0∨(v=1∧frontB (AA L) L s k e=true)∨(v=2∧frontB (AA L) L s k e=false)) :
  ∃ H1 H',stA 1 H (.ptr kb (e*s.length+k)) (I w)=some H1∧stA 1 H1 (.ptr kb (e*s.length+k)) (I v)=some H'∧Kn L s kb M H'∧Kp kb H H'∧ldA false 1 H' (.ptr kb (e*s.length+k))=some (I v):=by
 obtain ⟨ks,h1,h2,h3⟩:=h.get
 obtain ⟨v0,hv0,_⟩:=h3 e k he hk
 have hlt:=(List.getElem?_eq_some_iff.1 hv0).1
 refine ⟨H.set kb (some (.cells (ks.set (e*s.length+k) (I w)) true)),H.set kb (some (.cells (ks.set (e*s.length+k) (I w)) true)) |>.set kb (some (.cells ((ks.set (e*s.length+k) (I w)).set (e*s.length+k) (I v)) true)),?_,?_,⟨by simpa using h.lt,_,by simp; rfl,by simpa using h2,fun e' k' he' hk'=>?_⟩,⟨by simp,fun j hj hne=>by simp [hne]⟩,?_⟩
 ·have hlt':e*s.length+k+[I w].length≤ks.length:=by simp; omega
  rw [st_int,h1]
  simp only [stO_cells]
  rw [if_pos ⟨hlt',rfl⟩,ov_set _ _ _ hlt]
 ·have hlt':e*s.length+k+[I v].length≤(ks.set (e*s.length+k) (I w)).length:=by simp; omega
  rw [st_int]
  simp only [hp_get_set,if_true,stO_cells]
  rw [if_pos ⟨hlt',rfl⟩,ov_set _ _ _ (by simpa using hlt)]
 ·by_cases hi:e*s.length+k=e'*s.length+k'
  ·obtain ⟨rfl,rfl⟩:=idx_inj hk hk' hi
   exact ⟨v,by simp [hlt],hv⟩
  ·obtain ⟨w,hw,hw'⟩:=h3 e' k' he' hk'
   exact ⟨w,by simp [List.getElem?_set,hi,hw],hw'⟩
 ·simp only [ld_ptr,hp_get_set,if_true,ldO_cells]
  rw [List.drop_eq_getElem_cons (by simpa using hlt),ldL_one]
  simp
structure RSl (L:List Nd) (s:Sl):Prop where
 len:s.length≤50
 c:∀ p ∈ s,RcOk p.c
 q:∀ p ∈ s,∀ q ∈ p.c.pseudos,i64 q.a∧i64 q.b
theorem rbefore_bd {L:List Nd} (e:Nat):before L e=-1∨∃ p:Nat,before L e=p∧p<e:=by
 unfold before lastI
 cases h:(sibs L e).getLast? with
 | none=>exact .inl rfl
 | some j =>
  refine .inr ⟨j,rfl,?_⟩
  have:=List.mem_of_getLast? h
  unfold sibs at this
  simp only [List.mem_filter,List.mem_range] at this
  exact this.1
section
attribute [local irreducible] ref9_Tree_hangs.L0 ref9_Tree_hangs.L1 ref9_Tree_hangs.J2 ref9_Tree_front.J0
def FrOk (σ:Sig) (L:List Nd) (d:List Nat) (s:Sl) (dp kb M:Nat) (cap:Option Nat) (i:Nat):Prop:=∀ (e:Nat) (H:Hp) (K:AV→Hp→Prop),e<L.length→Kn L s kb M H→(∀ H',Kn L s kb M H'→Kp kb H H'→K (Bo (frontB (AA L) L s i e)) H') →
 callK Tryz.prog σ n_ref9_Tree_front [refT L d,I (e:Int),.agg (encSl s),I ((i+1:Nat):Int),I (dp:Int),.sl kb 0 1 M cap] H K
variable {L:List Nd} {d:List Nat} {s:Sl} {dp kb M:Nat} {cap:Option Nat}
theorem hangs_L0 (hB:Built L L.length d) (hN:L.length≤4096) {i b8:Nat} (hi:i<100) (ih:FrOk σ L d s dp kb M cap i) {K:AV→Hp→Prop} {y15:AV}:∀ (f:Nat) (x:Int) (H:Hp),(x=-1∨∃ p:Nat,x=p∧p<f∧p<L.length)→Kn L s kb M H→b8<H.n→b8≠kb→H.get b8=some (.cells (encSl s) true) →
  (∀ H',Kn L s kb M H'→Kp kb H H'→K (Bo (decide (0≤x)&&(frontB (AA L) L s i x.toNat||aheadF (frontB (AA L) L s i) L 1 f x.toNat))) H') →
  ref9_Tree_hangs.L0 σ K (refT L d) (I ((i+1+1:Nat):Int)) (I (dp:Int)) (.sl kb 0 1 M cap) (.ptr b8 0) (I x) y15 H:=by
 intro f
 induction f with
 | zero =>
  intro x H hx hk h8 hne hg hK
  obtain rfl:x=-1:=by rcases hx with h | ⟨p,_,h,_⟩<;>omega
  refine ref9_Tree_hangs.L0_step ?_
  simp only [b_geq,bnd_some,ifB_lit,show ¬ ((0:Int)≤-1) from by decide,decide_false,Bool.false_eq_true,if_false]
  exact ref9_Tree_hangs.J2_step (by simpa using hK H hk (Kp.refl _ _))
 | succ f ihf =>
  intro x H hx hk h8 hne hg hK
  refine ref9_Tree_hangs.L0_step ?_
  rcases hx with rfl | ⟨p,rfl,hpf,hpL⟩
  ·simp only [b_geq,bnd_some,ifB_lit,show ¬ ((0:Int)≤-1) from by decide,decide_false,Bool.false_eq_true,if_false]
   exact ref9_Tree_hangs.J2_step (by simpa using hK H hk (Kp.refl _ _))
  have hl:ldA true 1 H (.ptr b8 0)=some (.agg (encSl s)):=by simp [hg]
  have hsub:wr .i64 (((i+1+1:Nat):Int) - 1)=((i+1:Nat):Int):=by rw [wr64 (by omega) (by omega)]; omega
  simp only [b_geq,bnd_some,ifB_lit,Int.natCast_nonneg,decide_true,if_true,hl,b_sub,hsub]
  refine ih p H _ hpL hk fun H1 hk1 hp1=>?_
  simp only [ifB_lit]
  simp only [Int.natCast_nonneg,decide_true,Bool.true_and,Int.toNat_natCast] at hK
  cases hb:frontB (AA L) L s i p with
  | true =>
   simp only [if_true]
   have:=hK H1 hk1 hp1
   rw [hb] at this
   simpa using this
  | false =>
   simp only [Bool.false_eq_true,if_false]
   refine callK_of (rParent_ok L d hpL _) ?_
   have hpb:=par_bd hB hpL
   refine ihf (par L p) H1 ?_ hk1 (Nat.lt_of_lt_of_le h8 hp1.up) hne (by rw [hp1.get _ h8 hne]; exact hg) fun H2 hk2 hp2=>?_
   ·rcases hpb with h | ⟨q,h,hq⟩
    ·exact .inl h
    ·exact .inr ⟨q,h,by omega,by omega⟩
   have:=hK H2 hk2 (hp1.trans hp2)
   rw [hb] at this
   have e1:aheadF (frontB (AA L) L s i) L 1 (f+1) p=(decide (0≤par L p)&&(frontB (AA L) L s i (par L p).toNat||aheadF (frontB (AA L) L s i) L 1 f (par L p).toNat)):=by
    rw [aheadF]
    have:standI L p 1=par L p:=by unfold standI; simp
    rw [this]
    have:farB 1=true:=rfl
    rw [this,Bool.true_and]
   rw [← e1]
   simpa using this
theorem hangs_L1 (hB:Built L L.length d) (hN:L.length≤4096) {i b8:Nat} (hi:i<100) (ih:FrOk σ L d s dp kb M cap i) {K:AV→Hp→Prop} {y13:AV}:∀ (f:Nat) (x:Int) (H:Hp),(x=-1∨∃ p:Nat,x=p∧p<f∧p<L.length)→Kn L s kb M H→b8<H.n→b8≠kb→H.get b8=some (.cells (encSl s) true) →
  (∀ H',Kn L s kb M H'→Kp kb H H'→K (Bo (decide (0≤x)&&(frontB (AA L) L s i x.toNat||aheadF (frontB (AA L) L s i) L 4 f x.toNat))) H') →
  ref9_Tree_hangs.L1 σ K (refT L d) (I ((i+1+1:Nat):Int)) (I (dp:Int)) (.sl kb 0 1 M cap) (.ptr b8 0) y13 (I x) H:=by
 intro f
 induction f with
 | zero =>
  intro x H hx hk h8 hne hg hK
  obtain rfl:x=-1:=by rcases hx with h | ⟨p,_,h,_⟩<;>omega
  refine ref9_Tree_hangs.L1_step ?_
  simp only [b_geq,bnd_some,ifB_lit,show ¬ ((0:Int)≤-1) from by decide,decide_false,Bool.false_eq_true,if_false]
  exact ref9_Tree_hangs.J2_step (by simpa using hK H hk (Kp.refl _ _))
 | succ f ihf =>
  intro x H hx hk h8 hne hg hK
  refine ref9_Tree_hangs.L1_step ?_
  rcases hx with rfl | ⟨p,rfl,hpf,hpL⟩
  ·simp only [b_geq,bnd_some,ifB_lit,show ¬ ((0:Int)≤-1) from by decide,decide_false,Bool.false_eq_true,if_false]
   exact ref9_Tree_hangs.J2_step (by simpa using hK H hk (Kp.refl _ _))
  have hl:ldA true 1 H (.ptr b8 0)=some (.agg (encSl s)):=by simp [hg]
  have hsub:wr .i64 (((i+1+1:Nat):Int) - 1)=((i+1:Nat):Int):=by rw [wr64 (by omega) (by omega)]; omega
  simp only [b_geq,bnd_some,ifB_lit,Int.natCast_nonneg,decide_true,if_true,hl,b_sub,hsub]
  refine ih p H _ hpL hk fun H1 hk1 hp1=>?_
  simp only [ifB_lit]
  simp only [Int.natCast_nonneg,decide_true,Bool.true_and,Int.toNat_natCast] at hK
  cases hb:frontB (AA L) L s i p with
  | true =>
   simp only [if_true]
   have:=hK H1 hk1 hp1
   rw [hb] at this
   simpa using this
  | false =>
   simp only [Bool.false_eq_true,if_false]
   refine callK_of (rBefore_ok L d hN hpL _) ?_
   have hpb:=rbefore_bd (L:=L) p
   refine ihf (before L p) H1 ?_ hk1 (Nat.lt_of_lt_of_le h8 hp1.up) hne (by rw [hp1.get _ h8 hne]; exact hg) fun H2 hk2 hp2=>?_
   ·rcases hpb with h | ⟨q,h,hq⟩
    ·exact .inl h
    ·exact .inr ⟨q,h,by omega,by omega⟩
   have:=hK H2 hk2 (hp1.trans hp2)
   rw [hb] at this
   have e1:aheadF (frontB (AA L) L s i) L 4 (f+1) p=(decide (0≤before L p)&&(frontB (AA L) L s i (before L p).toNat||aheadF (frontB (AA L) L s i) L 4 f (before L p).toNat)):=by
    rw [aheadF]
    have:standI L p 4=before L p:=by unfold standI; simp
    rw [this]
    have:farB 4=true:=rfl
    rw [this,Bool.true_and]
   rw [← e1]
   simpa using this
theorem hangs_sp (hB:Built L L.length d) (hN:L.length≤4096) {i:Nat} (hi:i<100) (ih:FrOk σ L d s dp kb M cap i) {p:Pt} (hp:s[i+1]?=some p) {e:Nat} (he:e<L.length) {H:Hp} (hk:Kn L s kb M H) {K:AV→Hp→Prop}
  (hK:∀ H',Kn L s kb M H'→Kp kb H H'→K (Bo (aheadF (frontB (AA L) L s i) L p.comb (e+1) e)) H') :
  callK Tryz.prog σ n_ref9_Tree_hangs [refT L d,I (e:Int),.agg (encSl s),I ((i+1+1:Nat):Int),I (dp:Int),.sl kb 0 1 M cap] H K:=by
 refine ref9_Tree_hangs.run ?_
 simp only [boxK_agg]
 have hk2:=hk.new (.cells (encSl s) true)
 have hkp:=Kp.new kb H (.cells (encSl s) true)
 obtain ⟨H2,hH2⟩:∃ H2,H2=H.new (.cells (encSl s) true):=⟨_,rfl⟩
 have h8:H2.get H.n=some (.cells (encSl s) true):=by rw [hH2]; simp
 have hb8:H.n<H2.n:=by rw [hH2]; simp
 have hne:H.n≠kb:=by have:=hk.lt; omega
 rw [← hH2] at hk2 hkp ⊢
 clear hH2
 generalize H.n=b8 at h8 hb8 hne ⊢
 have hsub:wr .i64 (((i+1+1:Nat):Int) - 1)=((i+1:Nat):Int):=by rw [wr64 (by omega) (by omega)]; omega
 have hl0:ldA false 1 H2 (.ptr b8 0)=some (.imm 6 (s.map encPt)):=by simp [h8,encSl]
 have hl:ldA true 1 H2 (.ptr b8 0)=some (.agg (encSl s)):=by simp [h8]
 have hix:ixaSl 6 (.imm 6 (s.map encPt)) (I ((i+1:Nat):Int))=some (.ip (encPt p)):=ix_map hp
 simp only [sh_ptr,Nat.zero_add,bnd_some,hl0,b_sub,hsub,hix,sh_ip,List.drop_zero,ld_ip,f_encPt0,b_eql,ifB_lit,decide_eq_true_eq]
 have K2:∀ H',Kn L s kb M H'→Kp kb H2 H'→K (Bo (aheadF (frontB (AA L) L s i) L p.comb (e+1) e)) H':=fun H' a b=>hK H' a (hkp.trans b)
 rw [aheadF] at K2
 split
 ·rename_i hc
  refine callK_of (rParent_ok L d he _) ?_
  have hpb:=par_bd hB he
  refine hangs_L0 hB hN hi ih e (par L e) H2 ?_ hk2 hb8 hne h8 fun H3 a b=>?_
  ·rcases hpb with h | ⟨q,h,hq⟩
   ·exact .inl h
   ·exact .inr ⟨q,h,by omega,by omega⟩
  have:=K2 H3 a b
  rw [hc] at this
  have e1:standI L e 1=par L e:=by unfold standI; simp
  have e2:farB 1=true:=rfl
  rw [e1,e2,Bool.true_and] at this
  exact this
 rename_i hc1
 split
 ·rename_i hc
  refine callK_of (rParent_ok L d he _) ?_
  have hpb:=par_bd hB he
  have e1:standI L e 2=par L e:=by unfold standI; simp
  have e2:farB 2=false:=rfl
  rw [hc,e1,e2,Bool.false_and,Bool.or_false] at K2
  simp only [b_geq,bnd_some,ifB_lit,decide_eq_true_eq]
  rcases hpb with h | ⟨q,h,hq⟩
  ·rw [h] at K2 ⊢
   simp only [show ¬ ((0:Int)≤-1) from by decide,if_false]
   simpa using K2 H2 hk2 (Kp.refl _ _)
  ·rw [h] at K2
   simp only [h,Int.natCast_nonneg,if_true]
   refine callK_of (rParent_ok L d he _) ?_
   rw [kp_ptr]
   refine ⟨rfl,?_⟩
   simp only [hl,bnd_some]
   rw [h]
   refine ih q H2 _ (by omega) hk2 fun H3 a b=>?_
   simpa using K2 H3 a b
 rename_i hc2
 split
 ·rename_i hc
  refine callK_of (rBefore_ok L d hN he _) ?_
  have hpb:=rbefore_bd (L:=L) e
  have e1:standI L e 3=before L e:=by unfold standI; simp
  have e2:farB 3=false:=rfl
  rw [hc,e1,e2,Bool.false_and,Bool.or_false] at K2
  simp only [b_geq,bnd_some,ifB_lit,decide_eq_true_eq]
  rcases hpb with h | ⟨q,h,hq⟩
  ·rw [h] at K2 ⊢
   simp only [show ¬ ((0:Int)≤-1) from by decide,if_false]
   simpa using K2 H2 hk2 (Kp.refl _ _)
  ·rw [h] at K2
   simp only [h,Int.natCast_nonneg,if_true]
   refine callK_of (rBefore_ok L d hN he _) ?_
   rw [kp_ptr]
   refine ⟨rfl,?_⟩
   simp only [hl,bnd_some]
   rw [h]
   refine ih q H2 _ (by omega) hk2 fun H3 a b=>?_
   simpa using K2 H3 a b
 rename_i hc3
 split
 ·rename_i hc
  refine callK_of (rBefore_ok L d hN he _) ?_
  have hpb:=rbefore_bd (L:=L) e
  refine hangs_L1 hB hN hi ih e (before L e) H2 ?_ hk2 hb8 hne h8 fun H3 a b=>?_
  ·rcases hpb with h | ⟨q,h,hq⟩
   ·exact .inl h
   ·exact .inr ⟨q,h,by omega,by omega⟩
  have:=K2 H3 a b
  rw [hc] at this
  have e1:standI L e 4=before L e:=by unfold standI; simp
  have e2:farB 4=true:=rfl
  rw [e1,e2,Bool.true_and] at this
  exact this
 rename_i hc4
 refine ref9_Tree_hangs.J2_step ?_
 have e1:standI L e p.comb=-1:=by unfold standI; rw [if_neg (by omega),if_neg (by omega)]
 rw [e1] at K2
 simpa using K2 H2 hk2 (Kp.refl _ _)
def AnyR (σ:Sig) (L:List Nd) (d:List Nat) (s:Sl) (dp:Nat):Prop:=∀ p ∈ s,∀ q ∈ p.c.pseudos,(q.kind=7∨q.kind=8)→∀ (e:Nat) (H:Hp),e<L.length→Good Tryz.prog σ n_ref9_Tree_any [refT L d,I (e:Int),sls q.list,I ((dp+1:Nat):Int)] H (Bo (AA L q.list e)) H
theorem fr_step (hB:Built L L.length d) (hN:L.length≤4096) (hsm:∀ e,e<L.length→SmN (lowN (ndAt L e))) (hs:RSl L s) (hd:dp≤100) (hM:M=L.length*s.length) (hA:AnyR σ L d s dp) {i:Nat} (hi:i<s.length)
  (ih:∀ j,i=j+1→FrOk σ L d s dp kb M cap j):FrOk σ L d s dp kb M cap i:=by
 intro e H K he hk hK
 refine ref9_Tree_front.run ?_
 simp only [boxK_agg]
 have hk2:=hk.new (.cells (encSl s) true)
 have hkp:=Kp.new kb H (.cells (encSl s) true)
 obtain ⟨H2,hH2⟩:∃ H2,H2=H.new (.cells (encSl s) true):=⟨_,rfl⟩
 have h8:H2.get H.n=some (.cells (encSl s) true):=by rw [hH2]; simp
 have hb8:H.n<H2.n:=by rw [hH2]; simp
 have hne:H.n≠kb:=by have:=hk.lt; omega
 rw [← hH2] at hk2 hkp ⊢
 clear hH2
 generalize H.n=b8 at h8 hb8 hne ⊢
 have hl50:=hs.len
 have hmul:e*s.length≤4096*50:=Nat.mul_le_mul (by omega) hl50
 have e1:wr .i64 ((e:Int)*(s.length:Int))=((e*s.length:Nat):Int):=by
  have:(e:Int)*(s.length:Int)=((e*s.length:Nat):Int):=by simp
  rw [this,wr64 (by omega) (by omega)]
 have e2:wr .i64 (((e*s.length:Nat):Int)+((i+1:Nat):Int))=((e*s.length+i+1:Nat):Int):=by rw [wr64 (by omega) (by omega)]; omega
 have e3:wr .i64 (((e*s.length+i+1:Nat):Int) - 1)=((e*s.length+i:Nat):Int):=by rw [wr64 (by omega) (by omega)]; omega
 have e4:wr .i64 (((i+1:Nat):Int) - 1)=(i:Int):=by rw [wr64 (by omega) (by omega)]; omega
 have hlt:e*s.length+i<M:=by
  rw [hM]
  have h1:(e+1)*s.length≤L.length*s.length:=Nat.mul_le_mul_right _ he
  rw [Nat.succ_mul] at h1
  omega
 have hl0:ldA false 1 H2 (.ptr b8 0)=some (.imm 6 (s.map encPt)):=by simp [h8,encSl]
 have hl:ldA true 1 H2 (.ptr b8 0)=some (.agg (encSl s)):=by simp [h8]
 have hix:ixaSl 1 (.sl kb 0 1 M cap) (I ((e*s.length+i:Nat):Int))=some (.ptr kb (e*s.length+i)):=by
  have a1:((e*s.length+i:Nat):Int)<(M:Int):=by omega
  have a2:(0:Int)≤((e*s.length+i:Nat):Int):=by omega
  simp only [ixaSl,intA,a1,a2,decide_true,Bool.and_self,cond_true,Int.toNat_natCast,Nat.zero_add,Nat.mul_one]
 obtain ⟨p,hp⟩:=get_lt hi
 have hixp:ixaSl 6 (.imm 6 (s.map encPt)) (I (i:Int))=some (.ip (encPt p)):=ix_map hp
 obtain ⟨ks,g1,g2,g3⟩:=hk2.get
 obtain ⟨v,hv,hv'⟩:=g3 e i he hi
 have hld:ldA false 1 H2 (.ptr kb (e*s.length+i))=some (I v):=by
  rw [ld_ptr,g1,ldO_cells,drop_get hv,ldL_one]
 simp only [sh_ptr,Nat.zero_add,bnd_some,hl0,len_imm,List.length_map,b_mul,b_add,b_sub,e1,e2,e3,e4,hix,hld,b_eql,ifB_lit,decide_eq_true_eq]
 have K2:∀ H',Kn L s kb M H'→Kp kb H2 H'→K (Bo (frontB (AA L) L s i e)) H':=fun H' a b=>hK H' a (hkp.trans b)
 have fin:∀ (H3:Hp) (w:Int),Kn L s kb M H3→Kp kb H2 H3→ldA false 1 H3 (.ptr kb (e*s.length+i))=some (I w)→decide (w=1)=frontB (AA L) L s i e →
   ref9_Tree_front.J0 σ K (.sl kb 0 1 M cap) (I ((e*s.length+i:Nat):Int)) H3:=by
  intro H3 w a b c hw
  refine ref9_Tree_front.J0_step ?_
  simp only [hix,bnd_some,c,b_eql]
  rw [hw]
  exact K2 H3 a b
 have put2:∀ (H3:Hp) (w:Int) (A:Hp→Prop),Kn L s kb M H3→Kp kb H2 H3→(w=0∨(w=1∧frontB (AA L) L s i e=true)∨(w=2∧frontB (AA L) L s i e=false)) →
   (∀ H4,Kn L s kb M H4→Kp kb H2 H4→ldA false 1 H4 (.ptr kb (e*s.length+i))=some (I w)→A H4)→bnd (stA 1 H3 (.ptr kb (e*s.length+i)) (I w)) A:=by
  intro H3 w A a b hw hA
  obtain ⟨H4,q1,q2,q3,q4⟩:=a.put he hi hw
  rw [q1,bnd_some]
  exact hA H4 q2 (b.trans q3) q4
 by_cases hv0:v=0
 ·simp only [hv0,if_true]
  have hld5:ldA true 5 H2 (.ip ((encPt p).drop 1))=some (.agg (encCp p.c)):=by rw [encPt_eq]; simp
  simp only [hixp,bnd_some,sh_ip,hld5]
  have hpm:=List.mem_of_getElem? hp
  refine callK_of (rcomp_ok hB hN he (hsm e he) (hs.c p hpm) (hs.q p hpm) hd (fun q hq hkd H=>hA p hpm q hq hkd e H he) _) ?_
  simp only [ifB_lit]
  cases hcB:compB (AA L) L e p.c with
  | false =>
   have hf:frontB (AA L) L s i e=false:=by
    cases i with
    | zero=>simp only [frontB,hp]; exact hcB
    | succ i=>simp only [frontB,hp,hcB,Bool.false_and]
   simp only [Bool.false_eq_true,if_false]
   refine put2 H2 2 _ hk2 (Kp.refl _ _) (.inr (.inr ⟨rfl,hf⟩)) fun H4 a b c=>?_
   exact fin H4 2 a b c (by rw [hf]; rfl)
  | true =>
   simp only [if_true]
   cases i with
   | zero =>
    have hf:frontB (AA L) L s 0 e=true:=by simp only [frontB,hp]; exact hcB
    have:((0+1:Nat):Int)=1:=rfl
    simp only [this,if_true]
    have bad:∀ (H3:Hp) (w:Int) (A:Hp→Prop),Kn L s kb M H3→Kp kb H2 H3→(∀ H5 H6,stA 1 H3 (.ptr kb (e*s.length+0)) (I 2)=some H5→stA 1 H5 (.ptr kb (e*s.length+0)) (I 1)=some H6→Kn L s kb M H6→Kp kb H2 H6→ldA false 1 H6 (.ptr kb (e*s.length+0))=some (I 1)→A H6) →
      bnd (stA 1 H3 (.ptr kb (e*s.length+0)) (I 2)) fun H5=>bnd (stA 1 H5 (.ptr kb (e*s.length+0)) (I 1)) A:=by
     intro H3 w A a b h
     obtain ⟨H5,H6,q1,q2,q3,q4,q5⟩:=a.put2 he hi (v:=1) (w:=2) (.inr (.inl ⟨rfl,hf⟩))
     rw [q1,bnd_some,q2,bnd_some]
     exact h H5 H6 q1 q2 q3 (b.trans q4) q5
    refine bad H2 1 _ hk2 (Kp.refl _ _) fun H5 H6 _ _ a b c=>?_
    exact fin H6 1 a b c (by rw [hf]; rfl)
   | succ i =>
    have hne1:¬ (((i+1+1:Nat):Int)=1):=by omega
    simp only [hne1,if_false,hl,bnd_some]
    refine hangs_sp hB hN (by omega) (ih i rfl) hp he hk2 fun H3 hk3 hp3=>?_
    have hfr:frontB (AA L) L s (i+1) e=aheadF (frontB (AA L) L s i) L p.comb (e+1) e:=by simp only [frontB,hp,hcB,Bool.true_and]
    rw [← hfr]
    simp only [ifB_lit]
    cases hf:frontB (AA L) L s (i+1) e with
    | true =>
     obtain ⟨H5,H6,q1,q2,q3,q4,q5⟩:=hk3.put2 he hi (v:=1) (w:=2) (.inr (.inl ⟨rfl,hf⟩))
     rw [q1,bnd_some]
     simp only [if_true]
     rw [q2,bnd_some]
     exact fin H6 1 q3 (hp3.trans q4) q5 (by rw [hf]; rfl)
    | false =>
     refine put2 H3 2 _ hk3 hp3 (.inr (.inr ⟨rfl,hf⟩)) fun H4 a b c=>?_
     simp only [Bool.false_eq_true,if_false]
     exact fin H4 2 a b c (by rw [hf]; rfl)
 ·simp only [hv0,if_false]
  refine fin H2 v hk2 (Kp.refl _ _) hld ?_
  rcases hv' with h | ⟨h,hf⟩ | ⟨h,hf⟩
  ·exact absurd h hv0
  ·rw [h,hf]; rfl
  ·rw [h,hf]; rfl
theorem fr_ok (hB:Built L L.length d) (hN:L.length≤4096) (hsm:∀ e,e<L.length→SmN (lowN (ndAt L e))) (hs:RSl L s) (hd:dp≤100) (hM:M=L.length*s.length) (hA:AnyR σ L d s dp):∀ (i:Nat),i<s.length→FrOk σ L d s dp kb M cap i:=by
 intro i
 induction i with
 | zero=>exact fun hi=>fr_step hB hN hsm hs hd hM hA hi (fun j h=>absurd h (by omega))
 | succ i ih =>
  intro hi
  refine fr_step hB hN hsm hs hd hM hA hi fun j h=>?_
  have:j=i:=by omega
  subst this
  exact ih (by omega)
end
end Go.Proofs.YtaoegkmfgfefgaaGreat.Ev
namespace Go.Proofs.YtaoegkmfgfefgaaGreat.Ev
set_option linter.unusedVariables false
set_option linter.unusedSimpArgs false
variable {σ:Sig} {L:List Nd} {d:List Nat}
def RsOk:Nat→List Sl→Prop
 | 0,_=>False
 | f+1,l=>l.length≤reachBytes∧∀ s ∈ l,s.length≤50∧∀ p ∈ s,RcOk p.c∧∀ q ∈ p.c.pseudos,(i64 q.a∧i64 q.b)∧((q.kind=7∨q.kind=8)→RsOk f q.list)
def frB (L:List Nd) (s:Sl) (e:Nat):Bool:=!decide (s.length=0)&&frontB (AA L) L s (s.length - 1) e
theorem rsel_ok (hB:Built L L.length d) (hN:L.length≤4096) (hsm:∀ e,e<L.length→SmN (lowN (ndAt L e))) {s:Sl} (hs:RSl L s) {dp:Nat} (hd:dp≤100) (hA:AnyR σ L d s dp) {e:Int} (H:Hp) :
  Good Tryz.prog σ n_ref9_Tree_selector [refT L d,I e,.agg (encSl s),I (dp:Int)] H (Bo (decide (0≤e)&&decide (e<L.length)&&frB L s e.toNat)) H:=by
 refine good_by (fun K hK=>ref9_Tree_selector.run ?_) (by simp [noIds,noId,noId_refT,noId_Sl]) rfl H
 simp only [boxK_agg]
 refine callK_of (ris_ok L d e _) ?_
 simp only [u_not,bnd_some,ifB_lit]
 cases hin:(decide (0≤e)&&decide (e<L.length)) with
 | false=>rw [hin] at hK; simpa using hK _
 | true =>
 rw [hin] at hK
 simp only [Bool.true_and] at hK
 simp only [Bool.and_eq_true,decide_eq_true_eq] at hin
 obtain ⟨en,rfl⟩:∃ en:Nat,e=(en:Int):=⟨e.toNat,by omega⟩
 have he:en<L.length:=by omega
 rw [Int.toNat_natCast] at hK
 obtain ⟨H2,hH2⟩:∃ H2,H2=Hp.empty.new (.cells (encSl s) true):=⟨_,rfl⟩
 have h1:H2.get Hp.empty.n=some (.cells (encSl s) true):=by rw [hH2]; simp
 have hlt:Hp.empty.n<H2.n:=by rw [hH2]; simp
 rw [← hH2]
 generalize Hp.empty.n=b1 at h1 hlt ⊢
 have hl0:ldA false 1 H2 (.ptr b1 0)=some (.imm 6 (s.map encPt)):=by simp [h1,encSl]
 simp only [Bool.not_true,Bool.false_eq_true,if_false,sh_ptr,Nat.zero_add,bnd_some,hl0,len_imm,List.length_map,b_eql,ifB_lit,decide_eq_true_eq]
 split
 ·rename_i h0
  have h0':s.length=0:=by omega
  have:frB L s en=false:=by unfold frB; simp [h0']
  rw [this] at hK
  exact hK _
 rename_i h0
 have h0':¬ s.length=0:=by omega
 have hl50:=hs.len
 have hmul:L.length*s.length≤4096*50:=Nat.mul_le_mul hN hl50
 have e1:wr .i64 ((L.length:Int)*(s.length:Int))=((L.length*s.length:Nat):Int):=by
  have:(L.length:Int)*(s.length:Int)=((L.length*s.length:Nat):Int):=by simp
  rw [this,wr64 (by omega) (by omega)]
 obtain ⟨M,hM⟩:∃ M,M=L.length*s.length:=⟨_,rfl⟩
 rw [← hM] at e1 hmul
 have e3:mkSlR [.int .i64 0] 1 8 H2 (I (M:Int)) (I (M:Int))=some (.sl H2.n 0 1 M (some M),H2.new (.cells (zrow [.int .i64 0] (M*1)) true)):=by
  have a:(0:Int)≤M:=by omega
  have b:M≤9223372036854775807:=by omega
  have c:8*M≤281474976710656:=by omega
  simp [mkSlR,intA,a,bleN,b,c]
 simp only [rnilp,rsh,rld,rlen,bnd_some,b_mul,e1,e3]
 have g1:ldA true 1 (H2.new (.cells (zrow [.int .i64 0] (M*1)) true)) (.ptr b1 0)=some (.agg (encSl s)):=by
  have:b1≠H2.n:=by omega
  simp [this,h1]
 have g0:ldA false 1 (H2.new (.cells (zrow [.int .i64 0] (M*1)) true)) (.ptr b1 0)=some (.imm 6 (s.map encPt)):=by
  have:b1≠H2.n:=by omega
  simp [this,h1,encSl]
 simp only [g1,g0,bnd_some,len_imm,List.length_map]
 have hkn:Kn L s H2.n M (H2.new (.cells (zrow [.int .i64 0] (M*1)) true)):=by
  refine ⟨by simp,_,by simp; rfl,by simp [zrow],fun e k he hk=>⟨0,?_,.inl rfl⟩⟩
  have h2:(e+1)*s.length≤L.length*s.length:=Nat.mul_le_mul_right _ he
  rw [Nat.succ_mul] at h2
  have h3:e*s.length+k<M:=by omega
  unfold zrow
  rw [List.getElem?_map,List.getElem?_range (by omega)]
  simp [Nat.mod_one]
 have hn1:(s.length:Int)=((s.length - 1+1:Nat):Int):=by omega
 rw [hn1]
 refine fr_ok hB hN hsm hs hd hM hA (s.length - 1) (by omega) en _ _ he hkn fun H4 _ _=>?_
 have:frB L s en=frontB (AA L) L s (s.length - 1) en:=by unfold frB; simp [h0']
 rw [← this]
 exact hK _
section
attribute [local irreducible] ref9_Tree_any.L0
theorem rany_ok (hB:Built L L.length d) (hN:L.length≤4096) (hsm:∀ e,e<L.length→SmN (lowN (ndAt L e))):∀ (f:Nat) (l:List Sl) (dp:Nat),f≤12→RsOk f l→Nest f l→dp+f≤100 →
  (∀ s ∈ l,RSl L s∧AnyR σ L d s dp)∧∀ (e:Nat) (H:Hp),e<L.length→Good Tryz.prog σ n_ref9_Tree_any [refT L d,I (e:Int),sls l,I (dp:Int)] H (Bo (AA L l e)) H:=by
 intro f
 induction f with
 | zero=>intro l dp _ h; exact h.elim
 | succ f ih =>
  intro l dp hf hl hn hd
  have hb:∀ s ∈ l,RSl L s∧AnyR σ L d s dp:=by
   intro s hs
   have h1:=hl.2 s hs
   refine ⟨⟨h1.1,fun p hp=>(h1.2 p hp).1,fun p hp q hq=>((h1.2 p hp).2 q hq).1⟩,fun p hp q hq hk e H he=>?_⟩
   exact (ih q.list (dp+1) (by omega) (((h1.2 p hp).2 q hq).2 hk) (hn s hs p hp q hq) (by omega)).2 e H he
  refine ⟨hb,fun e H he=>?_⟩
  refine good_by (fun K hK=>ref9_Tree_any.run ?_) (by simp [noIds,noId,noId_refT,noId_sls]) rfl H
  rw [← AA_eq hn hf] at hK
  have L0:∀ (k m:Nat) (H:Hp),l.length - m=k→m≤l.length→(∀ H,K (Bo ((l.drop m).any fun s=>frB L s e)) H)→ref9_Tree_any.L0 σ K (refT L d) (I (e:Int)) (sls l) (I (dp:Int)) (I (m:Int)) H:=by
   intro k
   induction k with
   | zero =>
    intro m H hk hm hK
    have:m=l.length:=by omega
    subst this
    refine ref9_Tree_any.L0_step ?_
    simp
    simpa using hK H
   | succ k ihk =>
    intro m H hk hm hK
    have hlt:m<l.length:=by omega
    obtain ⟨s,hs⟩:=get_lt hlt
    rw [drop_get hs,List.any_cons] at hK
    have hlt':(m:Int)<l.length:=by omega
    have hix:ixaSl 1 (sls l) (I (m:Int))=some (.ip (encSl s)):=ix_map hs
    refine ref9_Tree_any.L0_step ?_
    simp only [len_sls,bnd_some,b_lss,hlt',decide_true,ifB_lit,if_true,hix,ld_ip,ldL_sl]
    have h1:=hb s (List.mem_of_getElem? hs)
    refine callK_of (rsel_ok hB hN hsm h1.1 (by omega) h1.2 _) ?_
    have i1:(0:Int)≤(e:Int):=by omega
    have i2:(e:Int)<(L.length:Int):=by omega
    simp only [i1,i2,decide_true,Bool.and_self,Bool.true_and,Int.toNat_natCast]
    cases hb:frB L s e with
    | true=>rw [hb] at hK; simpa using hK H
    | false =>
     rw [hb] at hK
     simp only [ifB_lit,Bool.false_eq_true,if_false,b_add,bnd_some]
     rw [wr_succL hlt hl.1 (by decide)]
     exact ihk (m+1) H (by omega) (by omega) (by simpa using hK)
  exact L0 _ 0 _ rfl (Nat.zero_le _) hK
end
end Go.Proofs.YtaoegkmfgfefgaaGreat.Ev

/- The walks, part 4: the evaluator, the functions, the laws. Conditions: none. -/
import Derived.Test.YthdcghnjndhecaaGreatZ3
namespace Go.Proofs.YthdcghnjndhecaaGreat.Ev
set_option maxRecDepth 100000
set_option maxHeartbeats 4000000
set_option linter.unusedVariables false
variable {σ:Sig} {K:AV→Hp→Prop} {H:Hp}
noncomputable def mJ.code:Code:=aH Tryz.f136
theorem mJ.run {a0 a1:AV} (h:bnd (fU .neq a0 (.lit (.pointer none))) fun x1=>ifB x1 (bnd (am .geq a1 (I 0)) fun x2=>ifB x2 (az Tryz.prog σ eC [a0] H fun x3 H4=>bnd (am .lss a1 x3) fun x5=>K x5 H4) (K (Bo false) H)) (K (Bo false) H)):∃ r H1,ar Tryz.prog σ io [a0,a1] H r H1∧K r H1 :=
 gwp 0 (fn:=Tryz.f136) (f:=io) (c:=mJ.code) (by kernel_rfl) (by kernel_rfl) (Eq.mpr (by kernel_rfl) h)
noncomputable def iY.code:Code:=aH Tryz.f137
theorem iY.run {a0:AV} (h:bnd (dv [.lit (.pointer none),.lit (.slice none 0 0),.lit (.map none)] [(0,1,a0),(2,1,(.mp H.n))]) fun l1=>cL (.agg l1) (H.new (.map [])) fun x2 H3=>K x2 H3):∃ r H1,ar Tryz.prog σ gV [a0] H r H1∧K r H1 :=
 gwp 0 (fn:=Tryz.f137) (f:=gV) (c:=iY.code) (by kernel_rfl) (by kernel_rfl) (Eq.mpr (by kernel_rfl) h)
noncomputable def aJ.code:Code:=aH Tryz.f138
noncomputable def aJ.Q0 (σ:Sig) (K:AV→Hp→Prop):Exit→List AV→Hp→Prop:=(nx (fQ Tryz.f138 σ K) fun T G=>wp (CZ σ) 7343618 (sR (sR aJ.code)) T G (fQ Tryz.f138 σ K))
noncomputable def aJ.L0 (σ:Sig) (K:AV→Hp→Prop) (y1 y9 y10 y11 y20 y21 y22:AV) (H:Hp):Prop:=∀ j:Nat→AV,aZ (CZ σ) (lB (bB (sR (sL (sR aJ.code))))) ([j 0,y1,j 2,j 3,j 4,j 5,j 6,j 7,j 8,y9,y10,y11,j 12,j 13,j 14,j 15,j 16,j 17,j 18,j 19,y20,y21,y22]++jr j 23 10) H (fun e T G=>(aJ.Q0 σ K) (au 0 e) T G)
noncomputable def aJ.L1 (σ:Sig) (K:AV→Hp→Prop) (y1 y9 y10 y11 y20 y21 y22:AV) (H:Hp):Prop:=∀ j:Nat→AV,aZ (CZ σ) (lB (bB (sR (sR (sR (bB (sL (sR (sR (lB (bB (sR (sL (sR aJ.code)))))))))))))) ([j 0,y1,j 2,j 3,j 4,j 5,j 6,j 7,j 8,y9,y10,y11,j 12,j 13,j 14,j 15,j 16,j 17,j 18,j 19,y20,y21,y22]++jr j 23 10) H (fun e T G=>(fun e T G=>(nx (nx (fun e T G=>(aJ.Q0 σ K) (au 0 e) T G) fun T G=>∀ j,aZ (CZ σ) (lB (bB (sR (sL (sR aJ.code))))) (dx 7343618 j 0 T) G (fun e T G=>(aJ.Q0 σ K) (au 0 e) T G)) fun T G=>wp (CZ σ) 7343618 (sR (sR (sR (lB (bB (sR (sL (sR aJ.code)))))))) T G (nx (fun e T G=>(aJ.Q0 σ K) (au 0 e) T G) fun T G=>∀ j,aZ (CZ σ) (lB (bB (sR (sL (sR aJ.code))))) (dx 7343618 j 0 T) G (fun e T G=>(aJ.Q0 σ K) (au 0 e) T G))) (au 1 e) T G) (au 2 e) T G)
theorem aJ.L0_step {y1 y9 y10 y11 y20 y21 y22:AV} (h:bnd (am .lss y11 y10) fun x1=>ifB x1 (bnd (aV 1 y9 y11) fun x2=>bnd (ldA true 1 H x2) fun x3=>a8 [.lit (.slice none 0 0)] H fun x4 H5=>bnd (stA 1 H5 x4 x3) fun H6=>bnd (aj x4 0) fun x7=>bnd (ldA false 1 H6 x7) fun x8=>bnd (aY x8) fun x9=>bnd (am .gtr x9 (I 50)) fun x10=>ifB x10 (K (Bo false) H6) (bnd (aj x4 0) fun x11=>bnd (ldA false 1 H6 x11) fun x12=>bnd (aY x12) fun x13=>aJ.L1 σ K y1 y9 y10 y11 x12 x13 (I 0) H6)) (K (Bo true) H)):aJ.L0 σ K y1 y9 y10 y11 y20 y21 y22 H :=
 fun j=>lrd (g:=7343618) (Eq.mpr (by kernel_rfl) h)
theorem aJ.L1_step {y1 y9 y10 y11 y20 y21 y22:AV} (h:bnd (am .lss y22 y21) fun x1=>ifB x1 (bnd (aV 6 y20 y22) fun x2=>bnd (ldA true 6 H x2) fun x3=>a8 [I 0,.lit (.string ⟨#[]⟩),.lit (.slice none 0 0),.lit (.slice none 0 0),.lit (.slice none 0 0),.lit (.slice none 0 0)] H fun x4 H5=>bnd (stA 6 H5 x4 x3) fun H6=>bnd (aj x4 1) fun x7=>bnd (ldA true 5 H6 x7) fun x8=>az Tryz.prog σ da [x8,y1] H6 fun x9 H10=>bnd (unR .not x9) fun x11=>ifB x11 (K (Bo false) H10) (bnd (am .add y22 (I 1)) fun x12=>aJ.L1 σ K y1 y9 y10 y11 y20 y21 x12 H10)) (bnd (am .add y11 (I 1)) fun x13=>aJ.L0 σ K y1 y9 y10 x13 y20 y21 y22 H)):aJ.L1 σ K y1 y9 y10 y11 y20 y21 y22 H :=
 fun j=>lrd (g:=7343618) (Eq.mpr (by kernel_rfl) h)
theorem aJ.run {a0 a1:AV} (h:bnd (aY a0) fun x1=>aJ.L0 σ K a1 a0 x1 (I 0) (.lit undef) (.lit undef) (.lit undef) H):∃ r H1,ar Tryz.prog σ dQ [a0,a1] H r H1∧K r H1 :=
 gwp 7343618 (fn:=Tryz.f138) (f:=dQ) (c:=aJ.code) (by kernel_rfl) (by kernel_rfl) (Eq.mpr (by kernel_rfl) h)
noncomputable def aS.code:Code:=aH Tryz.f139
noncomputable def aS.L0 (σ:Sig) (K:AV→Hp→Prop) (y0 y1 y10 y11 y12:AV) (H:Hp):Prop:=∀ j:Nat→AV,aZ (CZ σ) (lB (bB (sR (sL (sR aS.code))))) ([y0,y1,j 2,j 3,j 4,j 5,j 6,j 7,j 8,j 9,y10,y11,y12]++jr j 13 22) H (fun e T G=>(nx (fQ Tryz.f139 σ K) fun T G=>wp (CZ σ) 7171 (sR (sR aS.code)) T G (fQ Tryz.f139 σ K)) (au 0 e) T G)
theorem aS.L0_step {y0 y1 y10 y11 y12:AV} (h:bnd (am .lss y12 y11) fun x1=>ifB x1 (bnd (aV 1 y10 y12) fun x2=>bnd (ldA false 1 H x2) fun x3=>bnd (bT y0) fun x4=>bnd (aj x4 1) fun x5=>bnd (ldA false 1 H x5) fun x6=>bnd (aV 1 x6 x3) fun x7=>bnd (ldA false 1 H x7) fun x8=>bnd (aY x8) fun x9=>bnd (am .gtr x9 (I 0)) fun x10=>ifB x10 (bnd (am .sub x9 (I 1)) fun x11=>az Tryz.prog σ cg [y0,x3,x11,y1] H fun x12 H13=>ifB x12 (K (Bo true) H13) (bnd (am .add y12 (I 1)) fun x14=>aS.L0 σ K y0 y1 y10 y11 x14 H13)) (bnd (am .add y12 (I 1)) fun x15=>aS.L0 σ K y0 y1 y10 y11 x15 H)) (K (Bo false) H)):aS.L0 σ K y0 y1 y10 y11 y12 H :=
 fun j=>lrd (g:=7171) (Eq.mpr (by kernel_rfl) h)
theorem aS.run {a0 a1 a2:AV} (h:bnd (aY a2) fun x1=>aS.L0 σ K a0 a1 a2 x1 (I 0) H):∃ r H1,ar Tryz.prog σ cu [a0,a1,a2] H r H1∧K r H1 :=
 gwp 7171 (fn:=Tryz.f139) (f:=cu) (c:=aS.code) (by kernel_rfl) (by kernel_rfl) (Eq.mpr (by kernel_rfl) h)
noncomputable def af.code:Code:=aH Tryz.f140
noncomputable def af.Q0 (σ:Sig) (K:AV→Hp→Prop):Exit→List AV→Hp→Prop:=(nx (fQ Tryz.f140 σ K) fun T G=>wp (CZ σ) 15047182625 (sR (sR (sR af.code))) T G (fQ Tryz.f140 σ K))
noncomputable def af.Q1 (σ:Sig) (K:AV→Hp→Prop):Exit→List AV→Hp→Prop:=(nx (fun e T G=>(af.Q0 σ K) (au 0 e) T G) fun T G=>∀ j,aZ (CZ σ) (lB (bB (sR (sL (sR (sR af.code)))))) (dx 15047182625 j 0 T) G (fun e T G=>(af.Q0 σ K) (au 0 e) T G))
noncomputable def af.Q2 (σ:Sig) (K:AV→Hp→Prop):Exit→List AV→Hp→Prop:=(nx (af.Q1 σ K) fun T G=>wp (CZ σ) 15047182625 (sR (sR (sR (lB (bB (sR (sL (sR (sR af.code))))))))) T G (af.Q1 σ K))
noncomputable def af.Q3 (σ:Sig) (K:AV→Hp→Prop):Exit→List AV→Hp→Prop:=(nx (fun e T G=>(af.Q2 σ K) (au 1 e) T G) fun T G=>wp (CZ σ) 15047182625 (sR (sR (sR (bB (sL (sR (sR (lB (bB (sR (sL (sR (sR af.code))))))))))))) T G (fun e T G=>(af.Q2 σ K) (au 1 e) T G))
noncomputable def af.Q4 (σ:Sig) (K:AV→Hp→Prop):Exit→List AV→Hp→Prop:=(nx (fun e T G=>(af.Q3 σ K) (au 2 e) T G) fun T G=>∀ j,aZ (CZ σ) (lB (bB (sR (sL (sR (sR (bB (sL (sR (sR (lB (bB (sR (sL (sR (sR af.code)))))))))))))))) (dx 15047182625 j 0 T) G (fun e T G=>(af.Q3 σ K) (au 2 e) T G))
noncomputable def af.L0 (σ:Sig) (K:AV→Hp→Prop) (y0 y5 y8 y11 y14 y15 y16 y21 y22 y23 y31 y32 y33:AV) (H:Hp):Prop:=∀ j:Nat→AV,aZ (CZ σ) (lB (bB (sR (sL (sR (sR af.code)))))) ([y0,j 1,j 2,j 3,j 4,y5,j 6,j 7,y8,j 9,j 10,y11,j 12,j 13,y14,y15,y16,j 17,j 18,j 19,j 20,y21,y22,y23,j 24,j 25,j 26,j 27,j 28,j 29,j 30,y31,y32,y33]++jr j 34 38) H (fun e T G=>(af.Q0 σ K) (au 0 e) T G)
noncomputable def af.L1 (σ:Sig) (K:AV→Hp→Prop) (y0 y5 y8 y11 y14 y15 y16 y21 y22 y23 y31 y32 y33:AV) (H:Hp):Prop:=∀ j:Nat→AV,aZ (CZ σ) (lB (bB (sR (sL (sR (sR (bB (sL (sR (sR (lB (bB (sR (sL (sR (sR af.code)))))))))))))))) ([y0,j 1,j 2,j 3,j 4,y5,j 6,j 7,y8,j 9,j 10,y11,j 12,j 13,y14,y15,y16,j 17,j 18,j 19,j 20,y21,y22,y23,j 24,j 25,j 26,j 27,j 28,j 29,j 30,y31,y32,y33]++jr j 34 38) H (fun e T G=>(af.Q3 σ K) (au 2 e) T G)
noncomputable def af.L2 (σ:Sig) (K:AV→Hp→Prop) (y0 y5 y8 y11 y14 y15 y16 y21 y22 y23 y31 y32 y33:AV) (H:Hp):Prop:=∀ j:Nat→AV,aZ (CZ σ) (lB (bB (sR (sL (sR (sR (bB (sL (sR (sR (lB (bB (sR (sL (sR (sR (bB (sL (sR (sR (lB (bB (sR (sL (sR (sR af.code)))))))))))))))))))))))))) ([y0,j 1,j 2,j 3,j 4,y5,j 6,j 7,y8,j 9,j 10,y11,j 12,j 13,y14,y15,y16,j 17,j 18,j 19,j 20,y21,y22,y23,j 24,j 25,j 26,j 27,j 28,j 29,j 30,y31,y32,y33]++jr j 34 38) H (fun e T G=>(nx (fun e T G=>(nx (af.Q4 σ K) fun T G=>wp (CZ σ) 15047182625 (sR (sR (sR (lB (bB (sR (sL (sR (sR (bB (sL (sR (sR (lB (bB (sR (sL (sR (sR af.code))))))))))))))))))) T G (af.Q4 σ K)) (au 3 e) T G) fun T G=>wp (CZ σ) 15047182625 (sR (sR (sR (bB (sL (sR (sR (lB (bB (sR (sL (sR (sR (bB (sL (sR (sR (lB (bB (sR (sL (sR (sR af.code))))))))))))))))))))))) T G (fun e T G=>(nx (af.Q4 σ K) fun T G=>wp (CZ σ) 15047182625 (sR (sR (sR (lB (bB (sR (sL (sR (sR (bB (sL (sR (sR (lB (bB (sR (sL (sR (sR af.code))))))))))))))))))) T G (af.Q4 σ K)) (au 3 e) T G)) (au 4 e) T G)
theorem af.L0_step {y0 y5 y8 y11 y14 y15 y16 y21 y22 y23 y31 y32 y33:AV} (h:bnd (am .lss y16 y15) fun x1=>ifB x1 (bnd (aV 1 y14 y16) fun x2=>bnd (ldA true 1 H x2) fun x3=>a8 [.lit (.slice none 0 0)] H fun x4 H5=>bnd (stA 1 H5 x4 x3) fun H6=>bnd (aj x4 0) fun x7=>bnd (ldA false 1 H6 x7) fun x8=>bnd (aY x8) fun x9=>af.L1 σ K y0 y5 (.lit (.slice none 0 0)) y11 y14 y15 y16 x8 x9 (I 0) y31 y32 y33 H6) (K y5 H)):af.L0 σ K y0 y5 y8 y11 y14 y15 y16 y21 y22 y23 y31 y32 y33 H :=
 fun j=>lrd (g:=15047182625) (Eq.mpr (by kernel_rfl) h)
theorem af.L1_step {y0 y5 y8 y11 y14 y15 y16 y21 y22 y23 y31 y32 y33:AV} (h:bnd (am .lss y23 y22) fun x1=>ifB x1 (bnd (aV 6 y21 y23) fun x2=>bnd (ldA true 6 H x2) fun x3=>a8 [I 0,.lit (.string ⟨#[]⟩),.lit (.slice none 0 0),.lit (.slice none 0 0),.lit (.slice none 0 0),.lit (.slice none 0 0)] H fun x4 H5=>bnd (stA 6 H5 x4 x3) fun H6=>bnd (ldA true 6 H6 x4) fun x7=>bnd (dv [I 0,.lit (.string ⟨#[]⟩),.lit (.slice none 0 0),.lit (.slice none 0 0),.lit (.slice none 0 0),.lit (.slice none 0 0),.lit (.slice none 0 0)] [(0,6,x7)]) fun l8=>a8 [I 0,.lit (.string ⟨#[]⟩),.lit (.slice none 0 0),.lit (.slice none 0 0),.lit (.slice none 0 0),.lit (.slice none 0 0),.lit (.slice none 0 0)] H6 fun x9 H10=>bnd (stA 7 H10 x9 (.agg l8)) fun H11=>bnd (aj x4 1) fun x12=>bnd (aj x12 4) fun x13=>bnd (ldA false 1 H11 x13) fun x14=>bnd (aY x14) fun x15=>af.L2 σ K y0 y5 y8 x9 y14 y15 y16 y21 y22 y23 x14 x15 (I 0) H11) (bnd (bT y0) fun x16=>bnd (aj x16 1) fun x17=>bnd (ldA false 1 H x17) fun x18=>bnd (aY x18) fun x19=>bnd (bC [.int .i64 0] 1 1 H [(0,1,x19)]) fun p20=>bnd (gm false 1 8 p20.2 y5 p20.1) fun p21=>bnd (bT y0) fun x22=>bnd (aj x22 1) fun x23=>bnd (ldA false 1 p21.2 x23) fun x24=>bnd (bC [.slice none 0 0] 1 1 p21.2 [(0,1,y8)]) fun p25=>bnd (gm false 1 24 p25.2 x24 p25.1) fun p26=>bnd (bT y0) fun x27=>bnd (aj x27 1) fun x28=>bnd (stA 1 p26.2 x28 p26.1) fun H29=>bnd (am .add y16 (I 1)) fun x30=>af.L0 σ K y0 p21.1 y8 y11 y14 y15 x30 y21 y22 y23 y31 y32 y33 H29)):af.L1 σ K y0 y5 y8 y11 y14 y15 y16 y21 y22 y23 y31 y32 y33 H :=
 fun j=>lrd (g:=15047182625) (Eq.mpr (by kernel_rfl) h)
theorem af.L2_step {y0 y5 y8 y11 y14 y15 y16 y21 y22 y23 y31 y32 y33:AV} (h:bnd (am .lss y33 y32) fun x1=>ifB x1 (bnd (aV 4 y31 y33) fun x2=>bnd (ldA true 4 H x2) fun x3=>a8 [I 0,I 0,I 0,.lit (.slice none 0 0)] H fun x4 H5=>bnd (stA 4 H5 x4 x3) fun H6=>bnd (aj y11 6) fun x7=>bnd (ldA false 1 H6 x7) fun x8=>bnd (aj x4 3) fun x9=>bnd (ldA false 1 H6 x9) fun x10=>az Tryz.prog σ ct [y0,x10] H6 fun x11 H12=>kpK (x7,some 1) H6 H12 (bnd (bC [.slice none 0 0] 1 1 H12 [(0,1,x11)]) fun p13=>kpK (x7,some 1) H12 p13.2 (bnd (gm false 1 24 p13.2 x8 p13.1) fun p14=>bnd (aj y11 6) fun x15=>bnd (stA 1 p14.2 x15 p14.1) fun H16=>bnd (am .add y33 (I 1)) fun x17=>af.L2 σ K y0 y5 y8 y11 y14 y15 y16 y21 y22 y23 y31 y32 x17 H16))) (bnd (ldA true 7 H y11) fun x18=>bnd (bC [.int .i64 0,.string ⟨#[]⟩,.slice none 0 0,.slice none 0 0,.slice none 0 0,.slice none 0 0,.slice none 0 0] 7 1 H [(0,7,x18)]) fun p19=>bnd (gm false 7 144 p19.2 y8 p19.1) fun p20=>bnd (am .add y23 (I 1)) fun x21=>af.L1 σ K y0 y5 p20.1 y11 y14 y15 y16 y21 y22 x21 y31 y32 y33 p20.2)):af.L2 σ K y0 y5 y8 y11 y14 y15 y16 y21 y22 y23 y31 y32 y33 H :=
 fun j=>lrd (g:=15047182625) (Eq.mpr (by kernel_rfl) h)
theorem af.run {a0 a1:AV} (h:bnd (aY a1) fun x1=>af.L0 σ K a0 (.lit (.slice none 0 0)) (.lit undef) (.lit undef) a1 x1 (I 0) (.lit undef) (.lit undef) (.lit undef) (.lit undef) (.lit undef) (.lit undef) H):∃ r H1,ar Tryz.prog σ ct [a0,a1] H r H1∧K r H1 :=
 gwp 15047182625 (fn:=Tryz.f140) (f:=ct) (c:=af.code) (by kernel_rfl) (by kernel_rfl) (Eq.mpr (by kernel_rfl) h)
noncomputable def ah.code:Code:=aH Tryz.f141
noncomputable def ah.Q0 (σ:Sig) (K:AV→Hp→Prop):Exit→List AV→Hp→Prop:=(nx (fun e T G=>(fQ Tryz.f141 σ K) (au 0 e) T G) fun T G=>∀ j,aZ (CZ σ) (lB (bB (sR (sR (sR (sR (sR ah.code))))))) (dx 8264141837603088367893 j 0 T) G (fun e T G=>(fQ Tryz.f141 σ K) (au 0 e) T G))
noncomputable def ah.Q1 (σ:Sig) (K:AV→Hp→Prop):Exit→List AV→Hp→Prop:=(fun e T G=>(nx (ah.Q0 σ K) fun T G=>∀ j,wp (CZ σ) 8264141837603088367893 (sR (sR (sR (lB (bB (sR (sR (sR (sR (sR ah.code)))))))))) (dx 8264141837603088367893 j 0 T) G (ah.Q0 σ K)) (au 1 e) T G)
noncomputable def ah.J0 (σ:Sig) (K:AV→Hp→Prop) (y0 y2 y4 y8 y46 y47 y48 y70 y71 y72:AV) (H:Hp):Prop:=∀ j:Nat→AV,wp (CZ σ) 8264141837603088367893 (sR (sR (sR (sR ah.code)))) ([y0,j 1,y2,j 3,y4,j 5,j 6,j 7,y8,j 9,j 10,j 11,j 12,j 13,j 14,j 15,j 16,j 17,j 18,j 19,j 20,j 21,j 22,j 23,j 24,j 25,j 26,j 27,j 28,j 29,j 30,j 31,j 32,j 33,j 34,j 35,j 36,j 37,j 38,j 39,j 40,j 41,j 42,j 43,j 44,j 45,y46,y47,y48,j 49,j 50,j 51,j 52,j 53,j 54,j 55,j 56,j 57,j 58,j 59,j 60,j 61,j 62,j 63,j 64,j 65,j 66,j 67,j 68,j 69,y70,y71,y72]++jr j 73 14) H (fQ Tryz.f141 σ K)
noncomputable def ah.L1 (σ:Sig) (K:AV→Hp→Prop) (y0 y2 y4 y8 y46 y47 y48 y70 y71 y72:AV) (H:Hp):Prop:=∀ j:Nat→AV,aZ (CZ σ) (lB (bB (sR (sR (sR (sR (sR ah.code))))))) ([y0,j 1,y2,j 3,y4,j 5,j 6,j 7,y8,j 9,j 10,j 11,j 12,j 13,j 14,j 15,j 16,j 17,j 18,j 19,j 20,j 21,j 22,j 23,j 24,j 25,j 26,j 27,j 28,j 29,j 30,j 31,j 32,j 33,j 34,j 35,j 36,j 37,j 38,j 39,j 40,j 41,j 42,j 43,j 44,j 45,y46,y47,y48,j 49,j 50,j 51,j 52,j 53,j 54,j 55,j 56,j 57,j 58,j 59,j 60,j 61,j 62,j 63,j 64,j 65,j 66,j 67,j 68,j 69,y70,y71,y72]++jr j 73 14) H (fun e T G=>(fQ Tryz.f141 σ K) (au 0 e) T G)
noncomputable def ah.J2 (σ:Sig) (K:AV→Hp→Prop) (y0 y2 y4 y8 y46 y47 y48 y70 y71 y72:AV) (H:Hp):Prop:=∀ j:Nat→AV,wp (CZ σ) 8264141837603088367893 (sR (sR (sR (lB (bB (sR (sR (sR (sR (sR ah.code)))))))))) ([y0,j 1,y2,j 3,y4,j 5,j 6,j 7,y8,j 9,j 10,j 11,j 12,j 13,j 14,j 15,j 16,j 17,j 18,j 19,j 20,j 21,j 22,j 23,j 24,j 25,j 26,j 27,j 28,j 29,j 30,j 31,j 32,j 33,j 34,j 35,j 36,j 37,j 38,j 39,j 40,j 41,j 42,j 43,j 44,j 45,y46,y47,y48,j 49,j 50,j 51,j 52,j 53,j 54,j 55,j 56,j 57,j 58,j 59,j 60,j 61,j 62,j 63,j 64,j 65,j 66,j 67,j 68,j 69,y70,y71,y72]++jr j 73 14) H (ah.Q0 σ K)
noncomputable def ah.L3 (σ:Sig) (K:AV→Hp→Prop) (y0 y2 y4 y8 y46 y47 y48 y70 y71 y72:AV) (H:Hp):Prop:=∀ j:Nat→AV,aZ (CZ σ) (lB (bB (sR (sL (sR (sR (sR (sR (bB (sL (sR (sR (lB (bB (sR (sR (sR (sR (sR ah.code))))))))))))))))))) ([y0,j 1,y2,j 3,y4,j 5,j 6,j 7,y8,j 9,j 10,j 11,j 12,j 13,j 14,j 15,j 16,j 17,j 18,j 19,j 20,j 21,j 22,j 23,j 24,j 25,j 26,j 27,j 28,j 29,j 30,j 31,j 32,j 33,j 34,j 35,j 36,j 37,j 38,j 39,j 40,j 41,j 42,j 43,j 44,j 45,y46,y47,y48,j 49,j 50,j 51,j 52,j 53,j 54,j 55,j 56,j 57,j 58,j 59,j 60,j 61,j 62,j 63,j 64,j 65,j 66,j 67,j 68,j 69,y70,y71,y72]++jr j 73 14) H (fun e T G=>(nx (ah.Q1 σ K) fun T G=>wp (CZ σ) 8264141837603088367893 (sR (sR (sR (sR (sR (bB (sL (sR (sR (lB (bB (sR (sR (sR (sR (sR ah.code)))))))))))))))) T G (ah.Q1 σ K)) (au 2 e) T G)
theorem ah.J0_step {y0 y2 y4 y8 y46 y47 y48 y70 y71 y72:AV} (h:bnd (aj y4 4) fun x1=>bnd (ldA false 1 H x1) fun x2=>bnd (aY x2) fun x3=>ah.L1 σ K y0 y2 y4 y8 x2 x3 (I 0) y70 y71 y72 H):ah.J0 σ K y0 y2 y4 y8 y46 y47 y48 y70 y71 y72 H :=
 fun j=>Eq.mpr (by kernel_rfl) h
theorem ah.L1_step {y0 y2 y4 y8 y46 y47 y48 y70 y71 y72:AV} (h:bnd (am .lss y48 y47) fun x1=>ifB x1 (bnd (aV 4 y46 y48) fun x2=>bnd (ldA true 4 H x2) fun x3=>a8 [I 0,I 0,I 0,.lit (.slice none 0 0)] H fun x4 H5=>bnd (stA 4 H5 x4 x3) fun H6=>bnd (aj x4 0) fun x7=>bnd (ldA false 1 H6 x7) fun x8=>bnd (am .neq x8 (I 7)) fun x9=>ifB x9 (bnd (aj x4 0) fun x10=>bnd (ldA false 1 H6 x10) fun x11=>bnd (am .neq x11 (I 8)) fun x12=>ifB x12 (bnd (bT y0) fun x13=>bnd (bS 3 1 x13 (I 1)) fun x14=>bnd (ldA false 1 H6 x14) fun x15=>bnd (am .add x15 (I 1)) fun x16=>bnd (bT y0) fun x17=>bnd (bS 3 1 x17 (I 1)) fun x18=>bnd (stA 1 H6 x18 x16) fun H19=>ah.J2 σ K y0 y2 y4 y8 y46 y47 y48 y70 y71 y72 H19) (bnd (am .eql y2 (I 0)) fun x20=>ifB x20 (ah.J2 σ K y0 y2 y4 y8 y46 y47 y48 y70 y71 y72 H6) (bnd (aj x4 3) fun x21=>bnd (ldA false 1 H6 x21) fun x22=>bnd (aY x22) fun x23=>ah.L3 σ K y0 y2 y4 (I 0) y46 y47 y48 x22 x23 (I 0) H6))) (bnd (am .eql y2 (I 0)) fun x24=>ifB x24 (ah.J2 σ K y0 y2 y4 y8 y46 y47 y48 y70 y71 y72 H6) (bnd (aj x4 3) fun x25=>bnd (ldA false 1 H6 x25) fun x26=>bnd (aY x26) fun x27=>ah.L3 σ K y0 y2 y4 (I 0) y46 y47 y48 x26 x27 (I 0) H6))) (K (.tup []) H)):ah.L1 σ K y0 y2 y4 y8 y46 y47 y48 y70 y71 y72 H :=
 fun j=>lrd (g:=8264141837603088367893) (Eq.mpr (by kernel_rfl) h)
theorem ah.J2_step {y0 y2 y4 y8 y46 y47 y48 y70 y71 y72:AV} (h:bnd (am .add y48 (I 1)) fun x1=>ah.L1 σ K y0 y2 y4 y8 y46 y47 x1 y70 y71 y72 H):ah.J2 σ K y0 y2 y4 y8 y46 y47 y48 y70 y71 y72 H :=
 fun j=>Eq.mpr (by kernel_rfl) h
theorem ah.L3_step {y0 y2 y4 y8 y46 y47 y48 y70 y71 y72:AV} (h:bnd (am .lss y72 y71) fun x1=>ifB x1 (bnd (aV 1 y70 y72) fun x2=>bnd (ldA true 1 H x2) fun x3=>a8 [.lit (.slice none 0 0)] H fun x4 H5=>bnd (stA 1 H5 x4 x3) fun H6=>bnd (ldA true 1 H6 x4) fun x7=>bnd (am .sub y2 (I 1)) fun x8=>az Tryz.prog σ dC [x7,x8] H6 fun x9 H10=>bnd (pa [y8,x9]) fun x11=>bnd (am .add y72 (I 1)) fun x12=>ah.L3 σ K y0 y2 y4 x11 y46 y47 y48 y70 y71 x12 H10) (az Tryz.prog σ dm [y0,y8] H fun x13 H14=>ah.J2 σ K y0 y2 y4 y8 y46 y47 y48 y70 y71 y72 H14)):ah.L3 σ K y0 y2 y4 y8 y46 y47 y48 y70 y71 y72 H :=
 fun j=>lrd (g:=8264141837603088367893) (Eq.mpr (by kernel_rfl) h)
theorem ah.run {a0 a1 a2:AV} (h:cL a1 H fun x1 H2=>bnd (bT a0) fun x3=>bnd (bS 3 1 x3 (I 0)) fun x4=>bnd (ldA false 1 H2 x4) fun x5=>bnd (aj x1 1) fun x6=>bnd (ldA false 1 H2 x6) fun x7=>bnd (aY x7) fun x8=>bnd (am .add x5 x8) fun x9=>bnd (bT a0) fun x10=>bnd (bS 3 1 x10 (I 0)) fun x11=>bnd (stA 1 H2 x11 x9) fun H12=>bnd (bT a0) fun x13=>bnd (bS 3 1 x13 (I 1)) fun x14=>bnd (ldA false 1 H12 x14) fun x15=>bnd (aj x1 2) fun x16=>bnd (ldA false 1 H12 x16) fun x17=>bnd (aY x17) fun x18=>bnd (aj x1 3) fun x19=>bnd (ldA false 1 H12 x19) fun x20=>bnd (aY x20) fun x21=>bnd (am .add x18 x21) fun x22=>bnd (am .add x15 x22) fun x23=>bnd (bT a0) fun x24=>bnd (bS 3 1 x24 (I 1)) fun x25=>bnd (stA 1 H12 x25 x23) fun H26=>bnd (aj x1 0) fun x27=>bnd (ldA false 1 H26 x27) fun x28=>bnd (am .neq x28 (.lit (.string ⟨#[]⟩))) fun x29=>ifB x29 (bnd (bT a0) fun x30=>bnd (bS 3 1 x30 (I 2)) fun x31=>bnd (ldA false 1 H26 x31) fun x32=>bnd (am .add x32 (I 1)) fun x33=>bnd (bT a0) fun x34=>bnd (bS 3 1 x34 (I 2)) fun x35=>bnd (stA 1 H26 x35 x33) fun H36=>ah.J0 σ K a0 a2 x1 (.lit undef) (.lit undef) (.lit undef) (.lit undef) (.lit undef) (.lit undef) (.lit undef) H36) (ah.J0 σ K a0 a2 x1 (.lit undef) (.lit undef) (.lit undef) (.lit undef) (.lit undef) (.lit undef) (.lit undef) H26)):∃ r H1,ar Tryz.prog σ b_ [a0,a1,a2] H r H1∧K r H1 :=
 gwp 8264141837603088367893 (fn:=Tryz.f141) (f:=b_) (c:=ah.code) (by kernel_rfl) (by kernel_rfl) (Eq.mpr (by kernel_rfl) h)
noncomputable def aN.code:Code:=aH Tryz.f142
noncomputable def aN.L0 (σ:Sig) (K:AV→Hp→Prop) (y3 y6 y7:AV) (H:Hp):Prop:=∀ j:Nat→AV,aZ (CZ σ) (lB (bB (sR (sL (sR (sR aN.code)))))) ([j 0,j 1,j 2,y3,j 4,j 5,y6,y7]++jr j 8 9) H (fun e T G=>(nx (fQ Tryz.f142 σ K) fun T G=>wp (CZ σ) 200 (sR (sR (sR aN.code))) T G (fQ Tryz.f142 σ K)) (au 0 e) T G)
theorem aN.L0_step {y3 y6 y7:AV} (h:bnd (am .lss y7 (I 3)) fun x1=>ifB x1 (bnd (oI false 3 1 y6 y7) fun x2=>bnd (am .mul y3 (I 256)) fun x3=>az Tryz.prog σ dz [x2,(I 255)] H fun x4 H5=>bnd (am .add x3 x4) fun x6=>bnd (am .add y7 (I 1)) fun x7=>aN.L0 σ K x6 y6 x7 H5) (K y3 H)):aN.L0 σ K y3 y6 y7 H :=
 fun j=>lrd (g:=200) (Eq.mpr (by kernel_rfl) h)
theorem aN.run {a0:AV} (h:cL a0 H fun x1 H2=>bnd (ldA true 3 H2 x1) fun x3=>aN.L0 σ K (I 0) x3 (I 0) H2):∃ r H1,ar Tryz.prog σ db [a0] H r H1∧K r H1 :=
 gwp 200 (fn:=Tryz.f142) (f:=db) (c:=aN.code) (by kernel_rfl) (by kernel_rfl) (Eq.mpr (by kernel_rfl) h)
noncomputable def iv.code:Code:=aH Tryz.f156
theorem iv.run {a0:AV} (h:bnd (bT a0) fun x1=>bnd (aj x1 0) fun x2=>bnd (ldA false 1 H x2) fun x3=>bnd (aY x3) fun x4=>K x4 H):∃ r H1,ar Tryz.prog σ eC [a0] H r H1∧K r H1 :=
 gwp 0 (fn:=Tryz.f156) (f:=eC) (c:=iv.code) (by kernel_rfl) (by kernel_rfl) (Eq.mpr (by kernel_rfl) h)
noncomputable def ao.code:Code:=aH Tryz.f157
noncomputable def ao.Q0 (σ:Sig) (K:AV→Hp→Prop):Exit→List AV→Hp→Prop:=(nx (fQ Tryz.f157 σ K) fun T G=>wp (CZ σ) 1794 (sR (sR ao.code)) T G (fQ Tryz.f157 σ K))
noncomputable def ao.L0 (σ:Sig) (K:AV→Hp→Prop) (y1 y8 y9 y10:AV) (H:Hp):Prop:=∀ j:Nat→AV,aZ (CZ σ) (lB (bB (sR (sL (sR ao.code))))) ([j 0,y1,j 2,j 3,j 4,j 5,j 6,j 7,y8,y9,y10]++jr j 11 22) H (fun e T G=>(ao.Q0 σ K) (au 0 e) T G)
noncomputable def ao.J1 (σ:Sig) (K:AV→Hp→Prop) (y1 y8 y9 y10:AV) (H:Hp):Prop:=∀ j:Nat→AV,wp (CZ σ) 1794 (sR (sR (sR (lB (bB (sR (sL (sR ao.code)))))))) ([j 0,y1,j 2,j 3,j 4,j 5,j 6,j 7,y8,y9,y10]++jr j 11 22) H (nx (fun e T G=>(ao.Q0 σ K) (au 0 e) T G) fun T G=>∀ j,aZ (CZ σ) (lB (bB (sR (sL (sR ao.code))))) (dx 1794 j 0 T) G (fun e T G=>(ao.Q0 σ K) (au 0 e) T G))
theorem ao.L0_step {y1 y8 y9 y10:AV} (h:bnd (am .lss y10 y9) fun x1=>ifB x1 (bnd (aV 4 y8 y10) fun x2=>bnd (ldA true 4 H x2) fun x3=>a8 [I 0,I 0,I 0,.lit (.slice none 0 0)] H fun x4 H5=>bnd (stA 4 H5 x4 x3) fun H6=>bnd (aj x4 0) fun x7=>bnd (ldA false 1 H6 x7) fun x8=>bnd (am .neq x8 (I 7)) fun x9=>ifB x9 (bnd (aj x4 0) fun x10=>bnd (ldA false 1 H6 x10) fun x11=>bnd (am .neq x11 (I 8)) fun x12=>ifB x12 (ao.J1 σ K y1 y8 y9 y10 H6) (bnd (am .eql y1 (I 0)) fun x13=>ifB x13 (K (Bo false) H6) (bnd (aj x4 3) fun x14=>bnd (ldA false 1 H6 x14) fun x15=>bnd (am .sub y1 (I 1)) fun x16=>az Tryz.prog σ dQ [x15,x16] H6 fun x17 H18=>bnd (unR .not x17) fun x19=>ifB x19 (K (Bo false) H18) (ao.J1 σ K y1 y8 y9 y10 H18)))) (bnd (am .eql y1 (I 0)) fun x20=>ifB x20 (K (Bo false) H6) (bnd (aj x4 3) fun x21=>bnd (ldA false 1 H6 x21) fun x22=>bnd (am .sub y1 (I 1)) fun x23=>az Tryz.prog σ dQ [x22,x23] H6 fun x24 H25=>bnd (unR .not x24) fun x26=>ifB x26 (K (Bo false) H25) (ao.J1 σ K y1 y8 y9 y10 H25)))) (K (Bo true) H)):ao.L0 σ K y1 y8 y9 y10 H :=
 fun j=>lrd (g:=1794) (Eq.mpr (by kernel_rfl) h)
theorem ao.J1_step {y1 y8 y9 y10:AV} (h:bnd (am .add y10 (I 1)) fun x1=>ao.L0 σ K y1 y8 y9 x1 H):ao.J1 σ K y1 y8 y9 y10 H :=
 fun j=>Eq.mpr (by kernel_rfl) h
theorem ao.run {a0 a1:AV} (h:cL a0 H fun x1 H2=>bnd (aj x1 4) fun x3=>bnd (ldA false 1 H2 x3) fun x4=>bnd (aY x4) fun x5=>ao.L0 σ K a1 x4 x5 (I 0) H2):∃ r H1,ar Tryz.prog σ da [a0,a1] H r H1∧K r H1 :=
 gwp 1794 (fn:=Tryz.f157) (f:=da) (c:=ao.code) (by kernel_rfl) (by kernel_rfl) (Eq.mpr (by kernel_rfl) h)
noncomputable def fZ.code:Code:=aH Tryz.f158
theorem fZ.run {a0 a1 a2 a3:AV} (h:cL a0 H fun x1 H2=>cL a1 H2 fun x3 H4=>cL a2 H4 fun x5 H6=>cL a3 H6 fun x7 H8=>bnd (ldA false 1 H8 x1) fun x9=>bnd (ldA false 1 H8 x3) fun x10=>bnd (ldA false 1 H8 x5) fun x11=>bnd (ldA false 1 H8 x7) fun x12=>bnd (dv [I 0,I 0,I 0,Bo false] [(0,1,x10),(1,1,x11),(2,1,x12),(3,1,(Bo false))]) fun l13=>az Tryz.prog σ cO [x9,(.agg l13),(.fn ev [x1,x7,x3,x5])] H8 fun x14 H15=>K x14 H15):∃ r H1,ar Tryz.prog σ cg [a0,a1,a2,a3] H r H1∧K r H1 :=
 gwp 0 (fn:=Tryz.f158) (f:=cg) (c:=fZ.code) (by kernel_rfl) (by kernel_rfl) (Eq.mpr (by kernel_rfl) h)
noncomputable def bj.code:Code:=aH Tryz.f159
noncomputable def bj.L0 (σ:Sig) (K:AV→Hp→Prop) (y0 y1 y4:AV) (H:Hp):Prop:=∀ j:Nat→AV,aZ (CZ σ) (lB (bB (sR bj.code))) ([y0,y1,j 2,j 3,y4]++jr j 5 16) H (fun e T G=>(fQ Tryz.f159 σ K) (au 0 e) T G)
theorem bj.L0_step {y0 y1 y4:AV} (h:bnd (am .geq y4 (I 0)) fun x1=>ifB x1 (bnd (bT y0) fun x2=>bnd (bS 3 1 x2 y4) fun x3=>bnd (ldA false 1 H x3) fun x4=>bnd (am .rem y1 (I 256)) fun x5=>bnd (am .add x4 x5) fun x6=>bnd (bT y0) fun x7=>bnd (bS 3 1 x7 y4) fun x8=>bnd (stA 1 H x8 x6) fun H9=>bnd (am .quo y1 (I 256)) fun x10=>bnd (am .sub y4 (I 1)) fun x11=>bj.L0 σ K y0 x10 x11 H9) (K (.tup []) H)):bj.L0 σ K y0 y1 y4 H :=
 fun j=>lrd (g:=19) (Eq.mpr (by kernel_rfl) h)
theorem bj.run {a0 a1:AV} (h:bj.L0 σ K a0 a1 (I 2) H):∃ r H1,ar Tryz.prog σ dm [a0,a1] H r H1∧K r H1 :=
 gwp 19 (fn:=Tryz.f159) (f:=dm) (c:=bj.code) (by kernel_rfl) (by kernel_rfl) (Eq.mpr (by kernel_rfl) h)
noncomputable def eW.code:Code:=aH Tryz.f160
theorem eW.run {a0 a1:AV} (h:bnd (jT [a0,a1]) fun x1=>K x1 H):∃ r H1,ar Tryz.prog σ dz [a0,a1] H r H1∧K r H1 :=
 gwp 0 (fn:=Tryz.f160) (f:=dz) (c:=eW.code) (by kernel_rfl) (by kernel_rfl) (Eq.mpr (by kernel_rfl) h)
noncomputable def fc.code:Code:=aH Tryz.f173
theorem fc.run {a0 a1 a2:AV} (h:cL a1 H fun x1 H2=>bnd (bT a0) fun x3=>bnd (aj x3 2) fun x4=>bnd (ldA false 1 H2 x4) fun x5=>bnd (ldA true 4 H2 x1) fun x6=>bnd (nV (Bo false) true [.int .i64,.int .i64,.int .i64,.bool] true H2 x5 x6) fun x7=>bnd (exR x7 0) fun x8=>bnd (exR x7 1) fun x9=>ifB x9 (K x8 H2) (fp Tryz.prog σ a2 [] H2 fun x10 H11=>bnd (bT a0) fun x12=>bnd (aj x12 2) fun x13=>bnd (ldA false 1 H11 x13) fun x14=>bnd (ldA true 4 H11 x1) fun x15=>bnd (x_ true [.int .i64,.int .i64,.int .i64,.bool] H11 x14 x15 x10) fun H16=>K x10 H16)):∃ r H1,ar Tryz.prog σ cO [a0,a1,a2] H r H1∧K r H1 :=
 gwp 0 (fn:=Tryz.f173) (f:=cO) (c:=fc.code) (by kernel_rfl) (by kernel_rfl) (Eq.mpr (by kernel_rfl) h)
noncomputable def eZ.code:Code:=aH Tryz.f174
theorem eZ.run {a0 a1 a2 a3:AV} (h:bnd (ldA false 1 H a0) fun x1=>bnd (ldA false 1 H a1) fun x2=>bnd (ldA false 1 H a0) fun x3=>bnd (bT x3) fun x4=>bnd (aj x4 1) fun x5=>bnd (ldA false 1 H x5) fun x6=>bnd (ldA false 1 H a2) fun x7=>bnd (aV 1 x6 x7) fun x8=>bnd (ldA false 1 H x8) fun x9=>bnd (ldA false 1 H a3) fun x10=>bnd (aV 7 x9 x10) fun x11=>bnd (ldA true 7 H x11) fun x12=>az Tryz.prog σ cB [x1,x2,x12] H fun x13 H14=>ifB x13 (bnd (ldA false 1 H14 a3) fun x15=>bnd (am .eql x15 (I 0)) fun x16=>ifB x16 (K (Bo true) H14) (bnd (ldA false 1 H14 a0) fun x17=>bnd (ldA false 1 H14 a2) fun x18=>bnd (ldA false 1 H14 a3) fun x19=>bnd (ldA false 1 H14 a1) fun x20=>az Tryz.prog σ bV [x17,x18,x19,x20] H14 fun x21 H22=>K x21 H22)) (K (Bo false) H14)):∃ r H1,ar Tryz.prog σ ev [a0,a1,a2,a3] H r H1∧K r H1 :=
 gwp 0 (fn:=Tryz.f174) (f:=ev) (c:=eZ.code) (by kernel_rfl) (by kernel_rfl) (Eq.mpr (by kernel_rfl) h)
noncomputable def aD.code:Code:=aH Tryz.f175
noncomputable def aD.L0 (σ:Sig) (K:AV→Hp→Prop) (y0 y1 y5 y19 y20 y21:AV) (H:Hp):Prop:=∀ j:Nat→AV,aZ (CZ σ) (lB (bB (sR (sL (sR (sR aD.code)))))) ([y0,y1,j 2,j 3,j 4,y5,j 6,j 7,j 8,j 9,j 10,j 11,j 12,j 13,j 14,j 15,j 16,j 17,j 18,y19,y20,y21]++jr j 22 15) H (fun e T G=>(nx (fQ Tryz.f175 σ K) fun T G=>wp (CZ σ) 3670051 (sR (sR (sR aD.code))) T G (fQ Tryz.f175 σ K)) (au 0 e) T G)
theorem aD.L0_step {y0 y1 y5 y19 y20 y21:AV} (h:bnd (am .lss y21 y20) fun x1=>ifB x1 (bnd (aV 4 y19 y21) fun x2=>bnd (ldA true 4 H x2) fun x3=>a8 [I 0,I 0,I 0,.lit (.slice none 0 0)] H fun x4 H5=>bnd (stA 4 H5 x4 x3) fun H6=>bnd (ldA true 4 H6 x4) fun x7=>bnd (aj y5 6) fun x8=>bnd (ldA false 1 H6 x8) fun x9=>bnd (aV 1 x9 y21) fun x10=>bnd (ldA false 1 H6 x10) fun x11=>az Tryz.prog σ c4 [y0,y1,x7,x11] H6 fun x12 H13=>bnd (unR .not x12) fun x14=>ifB x14 (K (Bo false) H13) (bnd (am .add y21 (I 1)) fun x15=>aD.L0 σ K y0 y1 y5 y19 y20 x15 H13)) (K (Bo true) H)):aD.L0 σ K y0 y1 y5 y19 y20 y21 H :=
 fun j=>lrd (g:=3670051) (Eq.mpr (by kernel_rfl) h)
theorem aD.run {a0 a1 a2:AV} (h:cL a2 H fun x1 H2=>bnd (aj x1 0) fun x3=>bnd (aj x3 1) fun x4=>bnd (ldA true 5 H2 x4) fun x5=>az Tryz.prog σ dc [a0,a1,x5] H2 fun x6 H7=>bnd (unR .not x6) fun x8=>ifB x8 (K (Bo false) H7) (bnd (aj x1 0) fun x9=>bnd (aj x9 1) fun x10=>bnd (aj x10 4) fun x11=>bnd (ldA false 1 H7 x11) fun x12=>bnd (aY x12) fun x13=>aD.L0 σ K a0 a1 x1 x12 x13 (I 0) H7)):∃ r H1,ar Tryz.prog σ cB [a0,a1,a2] H r H1∧K r H1 :=
 gwp 3670051 (fn:=Tryz.f175) (f:=cB) (c:=aD.code) (by kernel_rfl) (by kernel_rfl) (Eq.mpr (by kernel_rfl) h)
noncomputable def eE.code:Code:=aH Tryz.f176
theorem eE.run {a0 a1 a2 a3:AV} (h:cL a0 H fun x1 H2=>cL a1 H2 fun x3 H4=>cL a2 H4 fun x5 H6=>bnd (ldA false 1 H6 x1) fun x7=>bnd (ldA false 1 H6 x1) fun x8=>bnd (bT x8) fun x9=>bnd (aj x9 1) fun x10=>bnd (ldA false 1 H6 x10) fun x11=>bnd (ldA false 1 H6 x3) fun x12=>bnd (aV 1 x11 x12) fun x13=>bnd (ldA false 1 H6 x13) fun x14=>bnd (ldA false 1 H6 x5) fun x15=>bnd (aV 7 x14 x15) fun x16=>bnd (aj x16 0) fun x17=>bnd (aj x17 0) fun x18=>bnd (ldA false 1 H6 x18) fun x19=>az Tryz.prog σ cX [x7,a3,x19] H6 fun x20 H21=>bnd (exR x20 0) fun x22=>bnd (exR x20 1) fun x23=>a8 [I 0] H21 fun x24 H25=>a8 [Bo false] H25 fun x26 H27=>bnd (stA 1 H27 x24 x22) fun H28=>bnd (stA 1 H28 x26 x23) fun H29=>bnd (ldA false 1 H29 x24) fun x30=>bnd (am .geq x30 (I 0)) fun x31=>ifB x31 (bnd (ldA false 1 H29 x1) fun x32=>bnd (ldA false 1 H29 x3) fun x33=>bnd (ldA false 1 H29 x5) fun x34=>bnd (dv [I 0,I 0,I 0,Bo false] [(0,1,x33),(1,1,x34),(2,1,a3),(3,1,(Bo true))]) fun l35=>az Tryz.prog σ cO [x32,(.agg l35),(.fn dJ [x1,x3,x5,x24,x26])] H29 fun x36 H37=>K x36 H37) (K (Bo false) H29)):∃ r H1,ar Tryz.prog σ bV [a0,a1,a2,a3] H r H1∧K r H1 :=
 gwp 0 (fn:=Tryz.f176) (f:=bV) (c:=eE.code) (by kernel_rfl) (by kernel_rfl) (Eq.mpr (by kernel_rfl) h)
noncomputable def ak.code:Code:=aH Tryz.f179
noncomputable def ak.L0 (σ:Sig) (K:AV→Hp→Prop) (y5 y7 y31 y32 y33 y47 y48 y49 y60 y61 y62:AV) (H:Hp):Prop:=∀ j:Nat→AV,aZ (CZ σ) (lB (bB (sR (sL (sR (sR (sR ak.code))))))) ([j 0,j 1,j 2,j 3,j 4,y5,j 6,y7,j 8,j 9,j 10,j 11,j 12,j 13,j 14,j 15,j 16,j 17,j 18,j 19,j 20,j 21,j 22,j 23,j 24,j 25,j 26,j 27,j 28,j 29,j 30,y31,y32,y33,j 34,j 35,j 36,j 37,j 38,j 39,j 40,j 41,j 42,j 43,j 44,j 45,j 46,y47,y48,y49,j 50,j 51,j 52,j 53,j 54,j 55,j 56,j 57,j 58,j 59,y60,y61,y62]++jr j 63 8) H (fun e T G=>(nx (fQ Tryz.f179 σ K) fun T G=>wp (CZ σ) 8071435709698801824 (sR (sR (sR (sR ak.code)))) T G (fQ Tryz.f179 σ K)) (au 0 e) T G)
noncomputable def ak.L1 (σ:Sig) (K:AV→Hp→Prop) (y5 y7 y31 y32 y33 y47 y48 y49 y60 y61 y62:AV) (H:Hp):Prop:=∀ j:Nat→AV,aZ (CZ σ) (lB (bB (sR (sL (sR (sR (sR (sR ak.code)))))))) ([j 0,j 1,j 2,j 3,j 4,y5,j 6,y7,j 8,j 9,j 10,j 11,j 12,j 13,j 14,j 15,j 16,j 17,j 18,j 19,j 20,j 21,j 22,j 23,j 24,j 25,j 26,j 27,j 28,j 29,j 30,y31,y32,y33,j 34,j 35,j 36,j 37,j 38,j 39,j 40,j 41,j 42,j 43,j 44,j 45,j 46,y47,y48,y49,j 50,j 51,j 52,j 53,j 54,j 55,j 56,j 57,j 58,j 59,y60,y61,y62]++jr j 63 8) H (fun e T G=>(nx (fQ Tryz.f179 σ K) fun T G=>wp (CZ σ) 8071435709698801824 (sR (sR (sR (sR (sR ak.code))))) T G (fQ Tryz.f179 σ K)) (au 2 e) T G)
noncomputable def ak.L2 (σ:Sig) (K:AV→Hp→Prop) (y5 y7 y31 y32 y33 y47 y48 y49 y60 y61 y62:AV) (H:Hp):Prop:=∀ j:Nat→AV,aZ (CZ σ) (lB (bB (sR (sL (sR (sR (sR (sR (sR ak.code))))))))) ([j 0,j 1,j 2,j 3,j 4,y5,j 6,y7,j 8,j 9,j 10,j 11,j 12,j 13,j 14,j 15,j 16,j 17,j 18,j 19,j 20,j 21,j 22,j 23,j 24,j 25,j 26,j 27,j 28,j 29,j 30,y31,y32,y33,j 34,j 35,j 36,j 37,j 38,j 39,j 40,j 41,j 42,j 43,j 44,j 45,j 46,y47,y48,y49,j 50,j 51,j 52,j 53,j 54,j 55,j 56,j 57,j 58,j 59,y60,y61,y62]++jr j 63 8) H (fun e T G=>(nx (fQ Tryz.f179 σ K) fun T G=>wp (CZ σ) 8071435709698801824 (sR (sR (sR (sR (sR (sR ak.code)))))) T G (fQ Tryz.f179 σ K)) (au 4 e) T G)
theorem ak.L0_step {y5 y7 y31 y32 y33 y47 y48 y49 y60 y61 y62:AV} (h:bnd (am .lss y33 y32) fun x1=>ifB x1 (bnd (aV 1 y31 y33) fun x2=>bnd (ldA false 1 H x2) fun x3=>bnd (am .eql x3 (.lit (.string ⟨#[]⟩))) fun x4=>ifB x4 (K (Bo false) H) (bnd (aj y7 2) fun x5=>bnd (ldA false 1 H x5) fun x6=>bnd (am .neq x3 x6) fun x7=>ifB x7 (K (Bo false) H) (bnd (am .add y33 (I 1)) fun x8=>ak.L0 σ K y5 y7 y31 y32 x8 y47 y48 y49 y60 y61 y62 H))) (bnd (aj y5 2) fun x9=>bnd (ldA false 1 H x9) fun x10=>bnd (aY x10) fun x11=>ak.L1 σ K y5 y7 y31 y32 y33 x10 x11 (I 0) y60 y61 y62 H)):ak.L0 σ K y5 y7 y31 y32 y33 y47 y48 y49 y60 y61 y62 H :=
 fun j=>lrd (g:=8071435709698801824) (Eq.mpr (by kernel_rfl) h)
theorem ak.L1_step {y5 y7 y31 y32 y33 y47 y48 y49 y60 y61 y62:AV} (h:bnd (am .lss y49 y48) fun x1=>ifB x1 (bnd (aV 1 y47 y49) fun x2=>bnd (ldA false 1 H x2) fun x3=>bnd (aj y7 3) fun x4=>bnd (ldA false 1 H x4) fun x5=>az Tryz.prog σ gM [x5,x3] H fun x6 H7=>bnd (unR .not x6) fun x8=>ifB x8 (K (Bo false) H7) (bnd (am .add y49 (I 1)) fun x9=>ak.L1 σ K y5 y7 y31 y32 y33 y47 y48 x9 y60 y61 y62 H7)) (bnd (aj y5 3) fun x10=>bnd (ldA false 1 H x10) fun x11=>bnd (aY x11) fun x12=>ak.L2 σ K y5 y7 y31 y32 y33 y47 y48 y49 x11 x12 (I 0) H)):ak.L1 σ K y5 y7 y31 y32 y33 y47 y48 y49 y60 y61 y62 H :=
 fun j=>lrd (g:=8071435709698801824) (Eq.mpr (by kernel_rfl) h)
theorem ak.L2_step {y5 y7 y31 y32 y33 y47 y48 y49 y60 y61 y62:AV} (h:bnd (am .lss y62 y61) fun x1=>ifB x1 (bnd (aV 3 y60 y62) fun x2=>bnd (ldA true 3 H x2) fun x3=>a8 [.lit (.string ⟨#[]⟩),I 0,.lit (.string ⟨#[]⟩)] H fun x4 H5=>bnd (stA 3 H5 x4 x3) fun H6=>bnd (ldA true 5 H6 y7) fun x7=>bnd (ldA true 3 H6 x4) fun x8=>az Tryz.prog σ fN [x7,x8] H6 fun x9 H10=>bnd (unR .not x9) fun x11=>ifB x11 (K (Bo false) H10) (bnd (am .add y62 (I 1)) fun x12=>ak.L2 σ K y5 y7 y31 y32 y33 y47 y48 y49 y60 y61 x12 H10)) (K (Bo true) H)):ak.L2 σ K y5 y7 y31 y32 y33 y47 y48 y49 y60 y61 y62 H :=
 fun j=>lrd (g:=8071435709698801824) (Eq.mpr (by kernel_rfl) h)
theorem ak.run {a0 a1 a2:AV} (h:cL a2 H fun x1 H2=>bnd (bT a0) fun x3=>bnd (aj x3 0) fun x4=>bnd (ldA false 1 H2 x4) fun x5=>az Tryz.prog σ dD [x5,a1] H2 fun x6 H7=>a8 [I 0,.lit (.string ⟨#[]⟩),.lit (.string ⟨#[]⟩),.lit (.slice none 0 0),.lit (.slice none 0 0)] H7 fun x8 H9=>bnd (stA 5 H9 x8 x6) fun H10=>bnd (aj x1 0) fun x11=>bnd (ldA false 1 H10 x11) fun x12=>bnd (am .neq x12 (.lit (.string ⟨#[]⟩))) fun x13=>ifB x13 (bnd (aj x1 0) fun x14=>bnd (ldA false 1 H10 x14) fun x15=>bnd (aj x8 1) fun x16=>bnd (ldA false 1 H10 x16) fun x17=>bnd (am .neq x15 x17) fun x18=>ifB x18 (K (Bo false) H10) (bnd (aj x1 1) fun x19=>bnd (ldA false 1 H10 x19) fun x20=>bnd (aY x20) fun x21=>ak.L0 σ K x1 x8 x20 x21 (I 0) (.lit undef) (.lit undef) (.lit undef) (.lit undef) (.lit undef) (.lit undef) H10)) (bnd (aj x1 1) fun x22=>bnd (ldA false 1 H10 x22) fun x23=>bnd (aY x23) fun x24=>ak.L0 σ K x1 x8 x23 x24 (I 0) (.lit undef) (.lit undef) (.lit undef) (.lit undef) (.lit undef) (.lit undef) H10)):∃ r H1,ar Tryz.prog σ dc [a0,a1,a2] H r H1∧K r H1 :=
 gwp 8071435709698801824 (fn:=Tryz.f179) (f:=dc) (c:=ak.code) (by kernel_rfl) (by kernel_rfl) (Eq.mpr (by kernel_rfl) h)
noncomputable def ep.code:Code:=aH Tryz.f180
theorem ep.run {a0 a1 a2 a3:AV} (h:cL a2 H fun x1 H2=>bnd (aj x1 0) fun x3=>bnd (ldA false 1 H2 x3) fun x4=>bnd (am .eql x4 (I 1)) fun x5=>ifB x5 (bnd (bT a0) fun x6=>bnd (aj x6 0) fun x7=>bnd (ldA false 1 H2 x7) fun x8=>az Tryz.prog σ cv [x8,a1] H2 fun x9 H10=>bnd (am .lss x9 (I 0)) fun x11=>K x11 H10) (bnd (am .eql x4 (I 2)) fun x12=>ifB x12 (bnd (bT a0) fun x13=>bnd (aj x13 0) fun x14=>bnd (ldA false 1 H2 x14) fun x15=>az Tryz.prog σ ci [x15,a1] H2 fun x16 H17=>bnd (am .eql x16 (I 1)) fun x18=>K x18 H17) (bnd (am .eql x4 (I 3)) fun x19=>ifB x19 (az Tryz.prog σ cK [a0,a1] H2 fun x20 H21=>K x20 H21) (bnd (am .eql x4 (I 4)) fun x22=>ifB x22 (bnd (bT a0) fun x23=>bnd (aj x23 0) fun x24=>bnd (ldA false 1 H2 x24) fun x25=>az Tryz.prog σ ci [x25,a1] H2 fun x26 H27=>bnd (am .eql x26 (I 1)) fun x28=>ifB x28 (az Tryz.prog σ cK [a0,a1] H27 fun x29 H30=>K x29 H30) (K (Bo false) H27)) (bnd (am .eql x4 (I 5)) fun x31=>ifB x31 (bnd (bT a0) fun x32=>bnd (aj x32 0) fun x33=>bnd (ldA false 1 H2 x33) fun x34=>az Tryz.prog σ dh [x34,a1,(I 0)] H2 fun x35 H36=>bnd (am .lss x35 (I 0)) fun x37=>K x37 H36) (bnd (am .eql x4 (I 6)) fun x38=>ifB x38 (bnd (bT a0) fun x39=>bnd (aj x39 0) fun x40=>bnd (ldA false 1 H2 x40) fun x41=>az Tryz.prog σ ci [x41,a1] H2 fun x42 H43=>bnd (aj x1 1) fun x44=>kpK (x44,some 1) H2 H43 (bnd (ldA false 1 H43 x44) fun x45=>bnd (aj x1 2) fun x46=>kpK (x46,some 1) H2 H43 (bnd (ldA false 1 H43 x46) fun x47=>az Tryz.prog σ gO [x42,x45,x47] H43 fun x48 H49=>K x48 H49))) (bnd (am .eql x4 (I 7)) fun x50=>ifB x50 (az Tryz.prog σ cu [a0,a1,a3] H2 fun x51 H52=>bnd (unR .not x51) fun x53=>K x53 H52) (bnd (am .eql x4 (I 8)) fun x54=>ifB x54 (az Tryz.prog σ cu [a0,a1,a3] H2 fun x55 H56=>K x55 H56) (K (Bo false) H2))))))))):∃ r H1,ar Tryz.prog σ c4 [a0,a1,a2,a3] H r H1∧K r H1 :=
 gwp 0 (fn:=Tryz.f180) (f:=c4) (c:=ep.code) (by kernel_rfl) (by kernel_rfl) (Eq.mpr (by kernel_rfl) h)
noncomputable def ax.code:Code:=aH Tryz.f181
noncomputable def ax.J0 (σ:Sig) (K:AV→Hp→Prop) (y0 y1 y2 y8 y9 y20:AV) (H:Hp):Prop:=∀ j:Nat→AV,wp (CZ σ) 1049351 (sR (bB (sR (sL (sR ax.code))))) ([y0,y1,y2,j 3,j 4,j 5,j 6,j 7,y8,y9,j 10,j 11,j 12,j 13,j 14,j 15,j 16,j 17,j 18,j 19,y20]++jr j 21 10) H (fun e T G=>(nx (fQ Tryz.f181 σ K) fun T G=>wp (CZ σ) 1049351 (sR (sR ax.code)) T G (fQ Tryz.f181 σ K)) (au 0 e) T G)
noncomputable def ax.J1 (σ:Sig) (K:AV→Hp→Prop) (y0 y1 y2 y8 y9 y20:AV) (H:Hp):Prop:=∀ j:Nat→AV,wp (CZ σ) 1049351 (sR (cE (sR (bB (sR (sL (sR ax.code))))))) ([y0,y1,y2,j 3,j 4,j 5,j 6,j 7,y8,y9,j 10,j 11,j 12,j 13,j 14,j 15,j 16,j 17,j 18,j 19,y20]++jr j 21 10) H (fun e T G=>(nx (fQ Tryz.f181 σ K) fun T G=>wp (CZ σ) 1049351 (sR (sR ax.code)) T G (fQ Tryz.f181 σ K)) (au 0 e) T G)
theorem ax.J0_step {y0 y1 y2 y8 y9 y20:AV} (h:ifB y9 (bnd (bT y0) fun x1=>bnd (aj x1 0) fun x2=>bnd (ldA false 1 H x2) fun x3=>az Tryz.prog σ cv [x3,y1] H fun x4 H5=>bnd (am .eql y2 (I 1)) fun x6=>K (.tup [x4,x6]) H5) (bnd (am .eql y8 (I 3)) fun x7=>ifB x7 (ax.J1 σ K y0 y1 y2 y8 y9 x7 H) (bnd (am .eql y8 (I 4)) fun x8=>ax.J1 σ K y0 y1 y2 y8 y9 x8 H))):ax.J0 σ K y0 y1 y2 y8 y9 y20 H :=
 fun j=>Eq.mpr (by kernel_rfl) h
theorem ax.J1_step {y0 y1 y2 y8 y9 y20:AV} (h:ifB y20 (bnd (bT y0) fun x1=>bnd (aj x1 0) fun x2=>bnd (ldA false 1 H x2) fun x3=>az Tryz.prog σ dM [x3,y1] H fun x4 H5=>bnd (am .eql y2 (I 4)) fun x6=>K (.tup [x4,x6]) H5) (K (.tup [(I (-1)),(Bo false)]) H)):ax.J1 σ K y0 y1 y2 y8 y9 y20 H :=
 fun j=>Eq.mpr (by kernel_rfl) h
theorem ax.run {a0 a1 a2:AV} (h:bnd (am .eql a2 (I 1)) fun x1=>ifB x1 (ax.J0 σ K a0 a1 a2 a2 x1 (.lit undef) H) (bnd (am .eql a2 (I 2)) fun x2=>ax.J0 σ K a0 a1 a2 a2 x2 (.lit undef) H)):∃ r H1,ar Tryz.prog σ cX [a0,a1,a2] H r H1∧K r H1 :=
 gwp 1049351 (fn:=Tryz.f181) (f:=cX) (c:=ax.code) (by kernel_rfl) (by kernel_rfl) (Eq.mpr (by kernel_rfl) h)
noncomputable def d8.code:Code:=aH Tryz.f182
theorem d8.run {a0 a1 a2 a3 a4:AV} (h:bnd (ldA false 1 H a0) fun x1=>bnd (ldA false 1 H a1) fun x2=>bnd (ldA false 1 H a2) fun x3=>bnd (am .sub x3 (I 1)) fun x4=>bnd (ldA false 1 H a3) fun x5=>az Tryz.prog σ cg [x1,x2,x4,x5] H fun x6 H7=>ifB x6 (K (Bo true) H7) (bnd (ldA false 1 H7 a4) fun x8=>ifB x8 (bnd (ldA false 1 H7 a0) fun x9=>bnd (ldA false 1 H7 a1) fun x10=>bnd (ldA false 1 H7 a2) fun x11=>bnd (ldA false 1 H7 a3) fun x12=>az Tryz.prog σ bV [x9,x10,x11,x12] H7 fun x13 H14=>K x13 H14) (K (Bo false) H7))):∃ r H1,ar Tryz.prog σ dJ [a0,a1,a2,a3,a4] H r H1∧K r H1 :=
 gwp 0 (fn:=Tryz.f182) (f:=dJ) (c:=d8.code) (by kernel_rfl) (by kernel_rfl) (Eq.mpr (by kernel_rfl) h)
noncomputable def gR.code:Code:=aH Tryz.f183
theorem gR.run {a0 a1:AV} (h:a8 [I 0,.lit (.string ⟨#[]⟩),.lit (.string ⟨#[]⟩),.lit (.slice none 0 0),.lit (.slice none 0 0)] H fun x1 H2=>az Tryz.prog σ cC [a0,a1] H2 fun x3 H4=>bnd (jL true 0 5 x3) fun x5=>bnd (stA 5 H4 x1 x5) fun H6=>bnd (ldA true 5 H6 x1) fun r7=>K r7 H6):∃ r H1,ar Tryz.prog σ dD [a0,a1] H r H1∧K r H1 :=
 gwp 0 (fn:=Tryz.f183) (f:=dD) (c:=gR.code) (by kernel_rfl) (by kernel_rfl) (Eq.mpr (by kernel_rfl) h)
noncomputable def cF.code:Code:=aH Tryz.f184
noncomputable def cF.L0 (σ:Sig) (K:AV→Hp→Prop) (y1 y7 y8 y9:AV) (H:Hp):Prop:=∀ j:Nat→AV,aZ (CZ σ) (lB (bB (sR (sL (sR cF.code))))) ([j 0,y1,j 2,j 3,j 4,j 5,j 6,y7,y8,y9]++jr j 10 7) H (fun e T G=>(nx (fQ Tryz.f184 σ K) fun T G=>wp (CZ σ) 898 (sR (sR cF.code)) T G (fQ Tryz.f184 σ K)) (au 0 e) T G)
theorem cF.L0_step {y1 y7 y8 y9:AV} (h:bnd (am .lss y9 y8) fun x1=>ifB x1 (bnd (aV 1 y7 y9) fun x2=>bnd (ldA false 1 H x2) fun x3=>bnd (am .eql x3 y1) fun x4=>ifB x4 (K (Bo true) H) (bnd (am .add y9 (I 1)) fun x5=>cF.L0 σ K y1 y7 y8 x5 H)) (K (Bo false) H)):cF.L0 σ K y1 y7 y8 y9 H :=
 fun j=>lrd (g:=898) (Eq.mpr (by kernel_rfl) h)
theorem cF.run {a0 a1:AV} (h:bnd (aY a0) fun x1=>cF.L0 σ K a1 a0 x1 (I 0) H):∃ r H1,ar Tryz.prog σ gM [a0,a1] H r H1∧K r H1 :=
 gwp 898 (fn:=Tryz.f184) (f:=gM) (c:=cF.code) (by kernel_rfl) (by kernel_rfl) (Eq.mpr (by kernel_rfl) h)
noncomputable def cb.code:Code:=aH Tryz.f185
noncomputable def cb.L0 (σ:Sig) (K:AV→Hp→Prop) (y3 y8 y9 y10:AV) (H:Hp):Prop:=∀ j:Nat→AV,aZ (CZ σ) (lB (bB (sR (sL (sR cb.code))))) ([j 0,j 1,j 2,y3,j 4,j 5,j 6,j 7,y8,y9,y10]++jr j 11 13) H (fun e T G=>(nx (fQ Tryz.f185 σ K) fun T G=>wp (CZ σ) 1800 (sR (sR cb.code)) T G (fQ Tryz.f185 σ K)) (au 0 e) T G)
theorem cb.L0_step {y3 y8 y9 y10:AV} (h:bnd (am .lss y10 y9) fun x1=>ifB x1 (bnd (aV 2 y8 y10) fun x2=>bnd (ldA true 2 H x2) fun x3=>a8 [.lit (.string ⟨#[]⟩),.lit (.string ⟨#[]⟩)] H fun x4 H5=>bnd (stA 2 H5 x4 x3) fun H6=>bnd (aj x4 0) fun x7=>bnd (ldA false 1 H6 x7) fun x8=>bnd (aj y3 0) fun x9=>bnd (ldA false 1 H6 x9) fun x10=>bnd (am .eql x8 x10) fun x11=>ifB x11 (bnd (aj x4 1) fun x12=>bnd (ldA false 1 H6 x12) fun x13=>bnd (ldA true 3 H6 y3) fun x14=>az Tryz.prog σ il [x13,x14] H6 fun x15 H16=>K x15 H16) (bnd (am .add y10 (I 1)) fun x17=>cb.L0 σ K y3 y8 y9 x17 H6)) (K (Bo false) H)):cb.L0 σ K y3 y8 y9 y10 H :=
 fun j=>lrd (g:=1800) (Eq.mpr (by kernel_rfl) h)
theorem cb.run {a0 a1:AV} (h:cL a0 H fun x1 H2=>cL a1 H2 fun x3 H4=>bnd (aj x1 4) fun x5=>bnd (ldA false 1 H4 x5) fun x6=>bnd (aY x6) fun x7=>cb.L0 σ K x3 x6 x7 (I 0) H4):∃ r H1,ar Tryz.prog σ fN [a0,a1] H r H1∧K r H1 :=
 gwp 1800 (fn:=Tryz.f185) (f:=fN) (c:=cb.code) (by kernel_rfl) (by kernel_rfl) (Eq.mpr (by kernel_rfl) h)
noncomputable def fD.code:Code:=aH Tryz.f186
theorem fD.run {a0 a1:AV} (h:bnd (am .lss a1 (I 0)) fun x1=>ifB x1 (K (I (-1)) H) (bnd (bT a0) fun x2=>bnd (aj x2 0) fun x3=>bnd (ldA false 1 H x3) fun x4=>bnd (aY x4) fun x5=>bnd (am .geq a1 x5) fun x6=>ifB x6 (K (I (-1)) H) (bnd (bT a0) fun x7=>bnd (aj x7 0) fun x8=>bnd (ldA false 1 H x8) fun x9=>bnd (aV 9 x9 a1) fun x10=>bnd (aj x10 0) fun x11=>bnd (aj x11 0) fun x12=>bnd (ldA false 1 H x12) fun x13=>K x13 H))):∃ r H1,ar Tryz.prog σ cv [a0,a1] H r H1∧K r H1 :=
 gwp 0 (fn:=Tryz.f186) (f:=cv) (c:=fD.code) (by kernel_rfl) (by kernel_rfl) (Eq.mpr (by kernel_rfl) h)
noncomputable def gy.code:Code:=aH Tryz.f187
theorem gy.run {a0 a1:AV} (h:az Tryz.prog σ cC [a0,a1] H fun x1 H2=>bnd (jL false 7 1 x1) fun x3=>K x3 H2):∃ r H1,ar Tryz.prog σ ci [a0,a1] H r H1∧K r H1 :=
 gwp 0 (fn:=Tryz.f187) (f:=ci) (c:=gy.code) (by kernel_rfl) (by kernel_rfl) (Eq.mpr (by kernel_rfl) h)
noncomputable def fe.code:Code:=aH Tryz.f188
theorem fe.run {a0 a1:AV} (h:bnd (bT a0) fun x1=>bnd (aj x1 0) fun x2=>bnd (ldA false 1 H x2) fun x3=>az Tryz.prog σ cv [x3,a1] H fun x4 H5=>bnd (am .lss x4 (I 0)) fun x6=>ifB x6 (K (Bo true) H5) (bnd (bT a0) fun x7=>bnd (aj x7 0) fun x8=>bnd (ldA false 1 H5 x8) fun x9=>bnd (bT a0) fun x10=>bnd (aj x10 0) fun x11=>bnd (ldA false 1 H5 x11) fun x12=>az Tryz.prog σ ci [x12,a1] H5 fun x13 H14=>kpK (x8,some 1) H5 H14 (az Tryz.prog σ dh [x9,x4,x13] H14 fun x15 H16=>bnd (am .lss x15 (I 0)) fun x17=>K x17 H16))):∃ r H1,ar Tryz.prog σ cK [a0,a1] H r H1∧K r H1 :=
 gwp 0 (fn:=Tryz.f188) (f:=cK) (c:=fe.code) (by kernel_rfl) (by kernel_rfl) (Eq.mpr (by kernel_rfl) h)
noncomputable def fV.code:Code:=aH Tryz.f189
theorem fV.run {a0 a1 a2:AV} (h:az Tryz.prog σ cC [a0,a1] H fun x1 H2=>bnd (jL false 5 1 x1) fun x3=>bnd (aY x3) fun x4=>bnd (am .lss a2 x4) fun x5=>ifB x5 (bnd (aV 1 x3 a2) fun x6=>bnd (ldA false 1 H2 x6) fun x7=>K x7 H2) (K (I (-1)) H2)):∃ r H1,ar Tryz.prog σ dh [a0,a1,a2] H r H1∧K r H1 :=
 gwp 0 (fn:=Tryz.f189) (f:=dh) (c:=fV.code) (by kernel_rfl) (by kernel_rfl) (Eq.mpr (by kernel_rfl) h)
noncomputable def lI.code:Code:=aH Tryz.f190
theorem lI.run {a0 a1 a2:AV} (h:bnd (am .eql a1 (I 0)) fun x1=>ifB x1 (bnd (am .eql a0 a2) fun x2=>K x2 H) (bnd (am .gtr a1 (I 0)) fun x3=>ifB x3 (bnd (am .leq a2 a0) fun x4=>ifB x4 (bnd (kN .u64 a0) fun x5=>bnd (kN .u64 a2) fun x6=>bnd (am .sub x5 x6) fun x7=>bnd (kN .u64 a1) fun x8=>bnd (am .rem x7 x8) fun x9=>bnd (am .eql x9 (.lit (.int .u64 0))) fun x10=>K x10 H) (K (Bo false) H)) (bnd (am .geq a2 a0) fun x11=>ifB x11 (bnd (kN .u64 a2) fun x12=>bnd (kN .u64 a0) fun x13=>bnd (am .sub x12 x13) fun x14=>bnd (kN .u64 a1) fun x15=>bnd (unR .neg x15) fun x16=>bnd (am .rem x14 x16) fun x17=>bnd (am .eql x17 (.lit (.int .u64 0))) fun x18=>K x18 H) (K (Bo false) H)))):∃ r H1,ar Tryz.prog σ gO [a0,a1,a2] H r H1∧K r H1 :=
 gwp 0 (fn:=Tryz.f190) (f:=gO) (c:=lI.code) (by kernel_rfl) (by kernel_rfl) (Eq.mpr (by kernel_rfl) h)
noncomputable def fH.code:Code:=aH Tryz.f191
theorem fH.run {a0 a1:AV} (h:az Tryz.prog σ cC [a0,a1] H fun x1 H2=>bnd (jL false 8 1 x1) fun x3=>K x3 H2):∃ r H1,ar Tryz.prog σ dM [a0,a1] H r H1∧K r H1 :=
 gwp 0 (fn:=Tryz.f191) (f:=dM) (c:=fH.code) (by kernel_rfl) (by kernel_rfl) (Eq.mpr (by kernel_rfl) h)
noncomputable def nu.code:Code:=aH Tryz.f192
theorem nu.run {a0 a1:AV} (h:cL a1 H fun x1 H2=>bnd (aj x1 2) fun x3=>bnd (ldA false 1 H2 x3) fun x4=>bnd (am .neq x4 (.lit (.string ⟨#[]⟩))) fun x5=>bnd (aj x1 1) fun x6=>bnd (ldA false 1 H2 x6) fun x7=>bnd (am .eql x7 (I 0)) fun x8=>ifB x8 (K (Bo true) H2) (bnd (am .eql x7 (I 1)) fun x9=>ifB x9 (bnd (aj x1 2) fun x10=>bnd (ldA false 1 H2 x10) fun x11=>bnd (am .eql a0 x11) fun x12=>K x12 H2) (bnd (am .eql x7 (I 2)) fun x13=>ifB x13 (ifB x5 (bnd (aj x1 2) fun x14=>bnd (ldA false 1 H2 x14) fun x15=>az Tryz.prog σ fL [a0,x15] H2 fun x16 H17=>K x16 H17) (K (Bo false) H2)) (bnd (am .eql x7 (I 3)) fun x18=>ifB x18 (bnd (aj x1 2) fun x19=>bnd (ldA false 1 H2 x19) fun x20=>bnd (am .eql a0 x20) fun x21=>ifB x21 (K (Bo true) H2) (bnd (aj x1 2) fun x22=>bnd (ldA false 1 H2 x22) fun x23=>bnd (am .add x23 (.lit (.string ⟨#[45]⟩))) fun x24=>az Tryz.prog σ cz [a0,x24] H2 fun x25 H26=>K x25 H26)) (bnd (am .eql x7 (I 4)) fun x27=>ifB x27 (ifB x5 (bnd (aj x1 2) fun x28=>bnd (ldA false 1 H2 x28) fun x29=>az Tryz.prog σ cz [a0,x29] H2 fun x30 H31=>K x30 H31) (K (Bo false) H2)) (bnd (am .eql x7 (I 5)) fun x32=>ifB x32 (ifB x5 (bnd (aj x1 2) fun x33=>bnd (ldA false 1 H2 x33) fun x34=>az Tryz.prog σ de [a0,x34] H2 fun x35 H36=>K x35 H36) (K (Bo false) H2)) (bnd (am .eql x7 (I 6)) fun x37=>ifB x37 (ifB x5 (bnd (aj x1 2) fun x38=>bnd (ldA false 1 H2 x38) fun x39=>az Tryz.prog σ gB [a0,x39] H2 fun x40 H41=>K x40 H41) (K (Bo false) H2)) (K (Bo false) H2)))))))):∃ r H1,ar Tryz.prog σ il [a0,a1] H r H1∧K r H1 :=
 gwp 0 (fn:=Tryz.f192) (f:=il) (c:=nu.code) (by kernel_rfl) (by kernel_rfl) (Eq.mpr (by kernel_rfl) h)
noncomputable def aM.code:Code:=aH Tryz.f193
noncomputable def aM.R0 (j:Nat→AV) (y3 y4:AV):jP:=⟨([j 0,j 1,j 2,y3,y4]++jr j 5 7),rP (bB (sR (sL (sR aM.code)))),rA (bB (sR (sL (sR aM.code)))),rB (bB (sR (sL (sR aM.code))))⟩
theorem aM.R0_round {j:Nat→AV} {y3 y4 p0:AV} {id:Nat} (hl:H.get id=some (.loop (aM.R0 j y3 y4) .ready none)) (h:H.get id=some (.loop (aM.R0 j y3 y4) .ready none)∧(bnd (some (H.set id (some (.loop (aM.R0 j y3 y4) .busy none)))) fun H1=>bnd (ldA false 1 H1 y3) fun x2=>bnd (am .eql p0 x2) fun x3=>ifB x3 (bnd (stA 1 H1 y4 (Bo true)) fun H4=>fE id (aM.R0 j y3 y4) K .ret H4) (fE id (aM.R0 j y3 y4) K .normal H1))):fp Tryz.prog σ (.yl id) [p0] H K :=
 md (CZ σ) mixed 24 hl (by kernel_rfl) (by kernel_rfl) (by kernel_rfl) (Eq.mpr (by kernel_rfl) h)
theorem aM.run {a0 a1:AV} (h:cL a1 H fun x1 H2=>a8 [Bo false] H2 fun x3 H4=>az Tryz.prog σ gU [a0] H4 fun x5 H6=>∀ j:Nat→AV,mK Tryz.prog σ x5 (aM.R0 j x1 x3) H6 (fun H7=>bnd (stA 1 H7 x3 (Bo false)) fun H9=>bnd (ldA false 1 H9 x3) fun r10=>K r10 H9) (fun H7=>bnd (ldA false 1 H7 x3) fun r11=>K r11 H7) (fun i8 H7=>False)):∃ r H1,ar Tryz.prog σ fL [a0,a1] H r H1∧K r H1 :=
 gwp 24 (fn:=Tryz.f193) (f:=fL) (c:=aM.code) (by kernel_rfl) (by kernel_rfl) (Eq.mpr (by kernel_rfl) h)
noncomputable def eD.code:Code:=aH Tryz.f194
theorem eD.run {a0 a1:AV} (h:az Tryz.prog σ bF [a0,a1] H fun x1 H2=>K x1 H2):∃ r H1,ar Tryz.prog σ cz [a0,a1] H r H1∧K r H1 :=
 gwp 0 (fn:=Tryz.f194) (f:=cz) (c:=eD.code) (by kernel_rfl) (by kernel_rfl) (Eq.mpr (by kernel_rfl) h)
noncomputable def eB.code:Code:=aH Tryz.f195
theorem eB.run {a0 a1:AV} (h:az Tryz.prog σ bE [a0,a1] H fun x1 H2=>K x1 H2):∃ r H1,ar Tryz.prog σ de [a0,a1] H r H1∧K r H1 :=
 gwp 0 (fn:=Tryz.f195) (f:=de) (c:=eB.code) (by kernel_rfl) (by kernel_rfl) (Eq.mpr (by kernel_rfl) h)
noncomputable def iX.code:Code:=aH Tryz.f197
theorem iX.run {a0:AV} (h:cL a0 H fun x1 H2=>K (.fn fw [x1]) H2):∃ r H1,ar Tryz.prog σ gU [a0] H r H1∧K r H1 :=
 gwp 0 (fn:=Tryz.f197) (f:=gU) (c:=iX.code) (by kernel_rfl) (by kernel_rfl) (Eq.mpr (by kernel_rfl) h)
noncomputable def ca.code:Code:=aH Tryz.f198
theorem ca.run {a0 a1:AV} (h:bnd (dI a0) fun x1=>bnd (dI a1) fun x2=>bnd (am .geq x1 x2) fun x3=>ifB x3 (bnd (dI a1) fun x4=>bnd (eV a0 none (some x4)) fun x5=>bnd (am .eql x5 a1) fun x6=>K x6 H) (K (Bo false) H)):∃ r H1,ar Tryz.prog σ bF [a0,a1] H r H1∧K r H1 :=
 gwp 0 (fn:=Tryz.f198) (f:=bF) (c:=ca.code) (by kernel_rfl) (by kernel_rfl) (Eq.mpr (by kernel_rfl) h)
noncomputable def cd.code:Code:=aH Tryz.f199
theorem cd.run {a0 a1:AV} (h:bnd (dI a0) fun x1=>bnd (dI a1) fun x2=>bnd (am .geq x1 x2) fun x3=>ifB x3 (bnd (dI a0) fun x4=>bnd (dI a1) fun x5=>bnd (am .sub x4 x5) fun x6=>bnd (eV a0 (some x6) none) fun x7=>bnd (am .eql x7 a1) fun x8=>K x8 H) (K (Bo false) H)):∃ r H1,ar Tryz.prog σ bE [a0,a1] H r H1∧K r H1 :=
 gwp 0 (fn:=Tryz.f199) (f:=bE) (c:=cd.code) (by kernel_rfl) (by kernel_rfl) (Eq.mpr (by kernel_rfl) h)
noncomputable def av.code:Code:=aH Tryz.f201
noncomputable def av.Q0 (σ:Sig) (K:AV→Hp→Prop):Exit→List AV→Hp→Prop:=(nx (fun e T G=>(fQ Tryz.f201 σ K) (au 0 e) T G) fun T G=>∀ j,aZ (CZ σ) (lB (bB av.code)) (dx 11 j 0 T) G (fun e T G=>(fQ Tryz.f201 σ K) (au 0 e) T G))
noncomputable def av.L0 (σ:Sig) (K:AV→Hp→Prop) (y0 y1 y3:AV) (H:Hp):Prop:=∀ j:Nat→AV,aZ (CZ σ) (lB (bB av.code)) ([y0,y1,j 2,y3]++jr j 4 32) H (fun e T G=>(fQ Tryz.f201 σ K) (au 0 e) T G)
noncomputable def av.L1 (σ:Sig) (K:AV→Hp→Prop) (y0 y1 y3:AV) (H:Hp):Prop:=∀ j:Nat→AV,aZ (CZ σ) (lB (bB (sL (sR (bB (sR (lB (bB av.code)))))))) ([y0,y1,j 2,y3]++jr j 4 32) H (fun e T G=>(nx (fun e T G=>(av.Q0 σ K) (au 1 e) T G) fun T G=>wp (CZ σ) 11 (sR (sR (bB (sR (lB (bB av.code)))))) T G (fun e T G=>(av.Q0 σ K) (au 1 e) T G)) (au 2 e) T G)
theorem av.L0_step {y0 y1 y3:AV} (h:bnd (ldA false 1 H y1) fun x1=>bnd (am .neq x1 (.lit (.string ⟨#[]⟩))) fun x2=>ifB x2 (av.L1 σ K y0 y1 (I 0) H) (K (.tup []) H)):av.L0 σ K y0 y1 y3 H :=
 fun j=>lrd (g:=11) (Eq.mpr (by kernel_rfl) h)
theorem av.L1_step {y0 y1 y3:AV} (h:bnd (ldA false 1 H y1) fun x1=>bnd (dI x1) fun x2=>bnd (am .lss y3 x2) fun x3=>ifB x3 (bnd (ldA false 1 H y1) fun x4=>bnd (rg x4 y3) fun x5=>az Tryz.prog σ fh [x5] H fun x6 H7=>bnd (unR .not x6) fun x8=>ifB x8 (bnd (am .add y3 (I 1)) fun x9=>av.L1 σ K y0 y1 x9 H7) (bnd (am .gtr y3 (I 0)) fun x10=>ifB x10 (bnd (ldA false 1 H7 y1) fun x11=>bnd (eV x11 none (some y3)) fun x12=>fp Tryz.prog σ y0 [x12] H7 fun x13 H14=>bnd (unR .not x13) fun x15=>ifB x15 (K (.tup []) H14) (bnd (ldA false 1 H14 y1) fun x16=>bnd (am .add y3 (I 1)) fun x17=>bnd (ldA false 1 H14 y1) fun x18=>bnd (dI x18) fun x19=>bnd (jT [x17,x19]) fun x20=>bnd (eV x16 (some x20) none) fun x21=>bnd (stA 1 H14 y1 x21) fun H22=>av.L0 σ K y0 y1 y3 H22)) (bnd (ldA false 1 H7 y1) fun x23=>bnd (am .add y3 (I 1)) fun x24=>bnd (ldA false 1 H7 y1) fun x25=>bnd (dI x25) fun x26=>bnd (jT [x24,x26]) fun x27=>bnd (eV x23 (some x27) none) fun x28=>bnd (stA 1 H7 y1 x28) fun H29=>av.L0 σ K y0 y1 y3 H29))) (bnd (am .gtr y3 (I 0)) fun x30=>ifB x30 (bnd (ldA false 1 H y1) fun x31=>bnd (eV x31 none (some y3)) fun x32=>fp Tryz.prog σ y0 [x32] H fun x33 H34=>bnd (unR .not x33) fun x35=>ifB x35 (K (.tup []) H34) (bnd (ldA false 1 H34 y1) fun x36=>bnd (am .add y3 (I 1)) fun x37=>bnd (ldA false 1 H34 y1) fun x38=>bnd (dI x38) fun x39=>bnd (jT [x37,x39]) fun x40=>bnd (eV x36 (some x40) none) fun x41=>bnd (stA 1 H34 y1 x41) fun H42=>av.L0 σ K y0 y1 y3 H42)) (bnd (ldA false 1 H y1) fun x43=>bnd (am .add y3 (I 1)) fun x44=>bnd (ldA false 1 H y1) fun x45=>bnd (dI x45) fun x46=>bnd (jT [x44,x46]) fun x47=>bnd (eV x43 (some x47) none) fun x48=>bnd (stA 1 H y1 x48) fun H49=>av.L0 σ K y0 y1 y3 H49))):av.L1 σ K y0 y1 y3 H :=
 fun j=>lrd (g:=11) (Eq.mpr (by kernel_rfl) h)
theorem av.run {a0 a1:AV} (h:av.L0 σ K a0 a1 (.lit undef) H):∃ r H1,ar Tryz.prog σ fw [a0,a1] H r H1∧K r H1 :=
 gwp 11 (fn:=Tryz.f201) (f:=fw) (c:=av.code) (by kernel_rfl) (by kernel_rfl) (Eq.mpr (by kernel_rfl) h)
noncomputable def iP.code:Code:=aH Tryz.f202
theorem iP.run {a0:AV} (h:bnd (am .eql a0 (.lit (.int .u8 9))) fun x1=>ifB x1 (K (Bo true) H) (bnd (am .eql a0 (.lit (.int .u8 10))) fun x2=>ifB x2 (K (Bo true) H) (bnd (am .eql a0 (.lit (.int .u8 12))) fun x3=>ifB x3 (K (Bo true) H) (bnd (am .eql a0 (.lit (.int .u8 13))) fun x4=>ifB x4 (K (Bo true) H) (bnd (am .eql a0 (.lit (.int .u8 32))) fun x5=>K x5 H))))):∃ r H1,ar Tryz.prog σ fh [a0] H r H1∧K r H1 :=
 gwp 0 (fn:=Tryz.f202) (f:=fh) (c:=iP.code) (by kernel_rfl) (by kernel_rfl) (Eq.mpr (by kernel_rfl) h)
end Go.Proofs.YthdcghnjndhecaaGreat.Ev
namespace Go.Proofs.YthdcghnjndhecaaGreat.Ev
set_option linter.unusedVariables false
set_option linter.unusedSimpArgs false
variable {σ:Sig}
def iM (c:UInt8):UInt8:=if 65≤c.toNat∧c.toNat≤90 then UInt8.ofNat (c.toNat+32) else c
def uK (s:ByteArray):ByteArray:=⟨(s.data.toList.map iM).toArray⟩
def mo (c:UInt8):AV:=.lit (.int .u8 c.toNat)
theorem wr8 {n:Int} (h0:0≤n) (h1:n≤255):wr .u8 n=n:=by
 unfold wr
 simp [IntKind.wrap,IntKind.signed,IntKind.bits]
 omega
theorem nr:∀ (l:List UInt8),iU (l.map mo)=some l
 | []=>rfl
 | c::l=>by
  have ih:=nr l
  rw [List.map_cons]
  show (iU (l.map mo)).map (UInt8.ofNat ((c.toNat:Int)).toNat::·)=_
  rw [ih]
  simp
theorem wN (l:List UInt8):(l.map mo).all AV.one=true:=by
 rw [List.all_map,List.all_eq_true]
 intro x _; rfl
theorem EO {H:Hp} {id:Nat} {l:List UInt8} {n:Nat} {ex:Bool} (hg:H.get id=some (.cells (l.map mo) ex)) (hn:n=l.length):iq H (.sl id 0 1 n none)=some (Sx ⟨l.toArray⟩):=by
 subst hn
 simp only [iq,gY,hg]
 have e:List.take l.length (l.map mo)=l.map mo:=by
  have:=List.take_length (l:=l.map mo)
  rwa [List.length_map] at this
 simp only [List.drop_zero,Nat.mul_one,jD,e,List.length_map,decide_true,Bool.and_self,cond_true,wN,nr]
 rfl
theorem qM {l:List UInt8} {k:Nat} {c:UInt8} (h:l[k]?=some c) (v:UInt8) (hv:v=iM c):(l.set k v).take (k+1)++((l.set k v).drop (k+1)).map iM=l.take k++(l.drop k).map iM:=by
 subst hv
 obtain ⟨hlt,rfl⟩:=List.getElem?_eq_some_iff.1 h
 rw [List.drop_eq_getElem_cons hlt,List.take_succ_eq_append_getElem (by simpa using hlt),List.drop_set_of_lt (by omega),List.take_set_of_le (by omega)]
 simp
 rw [List.drop_eq_getElem_cons (i:=k) (l:=List.map iM l) (by simpa using hlt)]
 simp
theorem qJ {l:List UInt8} {k:Nat} {c:UInt8} (h:l[k]?=some c) (hv:iM c=c):l.take (k+1)++(l.drop (k+1)).map iM=l.take k++(l.drop k).map iM:=by
 have:=qM h c hv.symm
 rwa [show l.set k c=l from by
  obtain ⟨hlt,rfl⟩:=List.getElem?_eq_some_iff.1 h
  simp] at this
theorem vU {K:AV→Hp→Prop} {n id:Nat} (hn:n<9000000000000000000):∀ (d k:Nat) (l:List UInt8) (H:Hp) (ex:Bool),H.get id=some (.cells (l.map mo) ex)→l.length=n→n - k=d→k≤n→(∀ H,K (Sx ⟨(l.take k++(l.drop k).map iM).toArray⟩) H) →
  aO.L0 σ K (.sl id 0 1 n none) (.sl id 0 1 n none) (I n) (I k) H:=by
 intro d
 induction d with
 | zero =>
  intro k l H ex hg hl hd hk hK
  have e:k=n:=by omega
  subst e
  refine aO.L0_step ?_
  simp [EO hg hl.symm]
  simpa [← hl] using hK H
 | succ d ih =>
  intro k l H ex hg hl hd hk hK
  have hlt:k<n:=by omega
  have hlt':k<l.length:=by omega
  have hget:l[k]?=some l[k]:=List.getElem?_eq_getElem hlt'
  have hc:=(l[k]).toNat_lt
  refine aO.L0_step ?_
  simp [hlt,qk,hg,tu hlt',mo]
  have next:∀ (l':List UInt8) (H':Hp),H'.get id=some (.cells (l'.map mo) ex)→l'.length=n→l'.take (k+1)++(l'.drop (k+1)).map iM=l.take k++(l.drop k).map iM→aO.J1 σ K (.sl id 0 1 n none) (.sl id 0 1 n none) (I n) (I k) H':=by
   intro l' H' hg' hl' he
   refine aO.J1_step ?_
   simp
   rw [df (Nat.lt_trans hlt hn)]
   exact ih (k+1) l' H' ex hg' hl' (by omega) (by omega) (by rw [he]; exact hK)
  split
  ·split
   ·rename_i h1 h2
    have e1:wr .u8 ((l[k].toNat:Int)+97)=(l[k].toNat:Int)+97:=wr8 (by omega) (by omega)
    have e2:wr .u8 ((l[k].toNat:Int)+97 - 65)=((iM l[k]).toNat:Int):=by
     rw [wr8 (by omega) (by omega)]
     unfold iM
     rw [if_pos ⟨by omega,by omega⟩]
     simp; omega
    rw [e1,e2]
    have e3:(k:Int).toNat=k:=by omega
    rw [if_pos (show k+1≤l.length from hlt'),ae]
    have e4:AV.lit (.int .u8 (iM l[k]).toNat)=mo (iM l[k]):=rfl
    rw [e4,xT _ hlt']
    exact next (l.set k (iM l[k])) _ (by simp) (by simpa using hl) (qM hget _ rfl)
   ·rename_i h1 h2
    exact next l H hg hl (qJ hget (by unfold iM; rw [if_neg (by omega)]))
  ·rename_i h1
   exact next l H hg hl (qJ hget (by unfold iM; rw [if_neg (by omega)]))
theorem mU (s:ByteArray) (hs:s.data.size<9000000000000000000) (H:Hp):ar Tryz.prog σ eJ [Sx s] H (Sx (uK s)) H:=by
 refine bI (fun K hK=>aO.run ?_) rfl rfl H
 simp only [jA,ae,Is]
 refine vU hs _ 0 s.data.toList _ false (by simp [mo]) (by simp) rfl (Nat.zero_le _) fun H=>?_
 simpa [uK] using hK H
end Go.Proofs.YthdcghnjndhecaaGreat.Ev
namespace Go.Proofs.YthdcghnjndhecaaGreat.Ev
set_option linter.unusedVariables false
set_option linter.unusedSimpArgs false
variable {σ:Sig}
theorem ar.imm0 {P:Program} {f sz:Nat} {r:AV} {H H':Hp} (h:∀ (a:Option Addr) (c:Nat),ar P σ f [.lit (.slice a 0 c)] H r H'):ar P σ f [.imm sz []] H r H':=by
 refine ⟨(h none 0).1,fun B w0 E w vs hσ hst hxs=>?_⟩
 have hl:=hxs.len
 have hv:vs[0]?=some (vs[0]'(by simp at hl; omega)):=Array.getElem?_eq_getElem _
 have hr:=hxs.at_ 0 _ _ rfl hv
 have:∃ a c,vs[0]'(by simp at hl; omega)=.slice a 0 c:=by
  generalize vs[0]'(by simp at hl; omega)=v at hr
  cases hr with
  | immE=>exact ⟨_,_,rfl⟩
  | imm val hn=>subst hn; exact ⟨_,_,rfl⟩
 obtain ⟨a,c,e⟩:=this
 refine (h a c).2 B w0 E w vs hσ hst ⟨by simpa using hl,fun i x v hx hv'=>?_⟩
 match i with
 | 0 =>
  simp at hx; subst hx
  rw [hv] at hv'
  cases hv'
  rw [e]; exact .lit _
 | i+1=>simp at hx
theorem sf (H:Hp):ar Tryz.prog σ aK [dq []] H (dq []) H:=by
 refine ar.imm0 fun a c=>?_
 cases a with
 | none =>
  have run:∃ r H1,ar Tryz.prog σ aK [.lit (.slice none 0 c)] Hp.empty r H1∧r=.lit (.slice none 0 0):=bJ.run (by simp)
  obtain ⟨r,H1,hg,rfl⟩:=run
  exact hg.frzR rfl .nil H
 | some a =>
  have run:∃ r H1,ar Tryz.prog σ aK [.lit (.slice (some a) 0 c)] Hp.empty r H1∧Fz H1 r (dq []):=by
   refine bJ.run ?_
   simp [bC,dv,gm,gY,jD,iD,pt]
   exact .sl (cs:=[]) (ex:=true) (fun _ _=>.any) (by simp) rfl (by simp) (by simp) (by simp)
  obtain ⟨r,H1,hg,hf⟩:=run
  exact hg.frzR rfl hf H
theorem t0 (H:Hp):ar Tryz.prog σ aR [.imm 2 []] H (.imm 2 []) H:=by
 refine ar.imm0 fun a c=>?_
 cases a with
 | none =>
  have run:∃ r H1,ar Tryz.prog σ aR [.lit (.slice none 0 c)] Hp.empty r H1∧r=.lit (.slice none 0 0):=bn.run (by simp)
  obtain ⟨r,H1,hg,rfl⟩:=run
  exact hg.frzR rfl .nil H
 | some a =>
  have run:∃ r H1,ar Tryz.prog σ aR [.lit (.slice (some a) 0 c)] Hp.empty r H1∧Fz H1 r (.imm 2 []):=by
   refine bn.run ?_
   simp [bC,dv,gm,gY,jD,iD,pt]
   exact .sl (cs:=[]) (ex:=true) (fun _ _=>.any) (by simp) rfl (by simp) (by simp) (by simp)
  obtain ⟨r,H1,hg,hf⟩:=run
  exact hg.frzR rfl hf H
theorem tK {sz bytes:Nat} {z:List Value} {H:Hp} {rows:List (List AV)} (hr:rows≠[]) (h2:∀ row ∈ rows,row.length=sz) (hone:rows.flatten.all AV.one=true) (hb:rows.length*bytes≤140737488355328) (hn:rows.length≤4611686018427387904)
  {K:AV × Hp→Prop} (h:K (.sl (H.n+1) 0 sz rows.length none,(H.new (.cells [] true)).new (.cells rows.flatten false))) :
  bnd (bC z sz 0 H []) fun p=>bnd (gm false sz bytes p.2 p.1 (.imm sz rows)) K:=by
 have h0:rows.length≠0:=by cases rows<;>simp at hr ⊢
 have e:pt z 0=[]:=by simp [pt]
 simp only [bC,dv,Nat.zero_mul,e,List.length_nil,jD,decide_true,cond_true,ae]
 simp only [gm,iD,cond_true,E6,hone,jD,h0,decide_false,cond_false,s7]
 simp [hb,hn,h0]
 exact h
theorem tY (l:List ByteArray) (hb:l.length*16≤140737488355328) (H:Hp):ar Tryz.prog σ aK [dq l] H (dq l) H:=by
 cases l with
 | nil=>exact sf H
 | cons s l =>
  have run:∃ r H1,ar Tryz.prog σ aK [dq (s::l)] Hp.empty r H1∧Fz H1 r (dq (s::l)):=by
   refine bJ.run ?_
   simp only [dq,List.map_cons,Hh,ae,aq,Bool.false_eq_true,if_false]
   refine tK (rows:=[Sx s]::l.map fun s=>[Sx s]) (K:=fun q=>Fz q.2 q.1 (.imm 1 ([Sx s]::l.map fun s=>[Sx s]))) (by simp) (fun row hrow=>?_) ?_ (by simpa using hb) (by simp at hb ⊢; omega) ?_
   ·rw [← List.map_cons (f:=fun s=>[Sx s])] at hrow
    obtain ⟨x,_,rfl⟩:=List.mem_map.1 hrow; rfl
   ·rw [← List.map_cons (f:=fun s=>[Sx s]),List.all_eq_true]
    intro x hx
    obtain ⟨row,hrow,hx⟩:=List.mem_flatten.1 hx
    obtain ⟨x,_,rfl⟩:=List.mem_map.1 hrow
    simp at hx; subst hx; rfl
   ·refine Fz.rows (cs:=([Sx s]::l.map fun s=>[Sx s]).flatten) (ex:=false) (by simp) (fun row hrow=>?_) ?_ ?_
    ·rw [← List.map_cons (f:=fun s=>[Sx s])] at hrow
     obtain ⟨x,_,rfl⟩:=List.mem_map.1 hrow; rfl
    ·rw [List.drop_zero]
     refine List.take_of_length_le ?_
     rw [bW (sz:=1)]
     ·simp
     ·intro row hrow
      rw [← List.map_cons (f:=fun s=>[Sx s])] at hrow
      obtain ⟨x,_,rfl⟩:=List.mem_map.1 hrow; rfl
    ·rw [← List.map_cons (f:=fun s=>[Sx s])]; exact bi _ (fun _=>rfl) _
  obtain ⟨r,H1,hg,hf⟩:=run
  exact hg.frzR (by simp [aC]) hf H
def iI (p:ByteArray × ByteArray):ByteArray × ByteArray:=(uK p.1,p.2)
def bL (n:Nd):Nd:={ n with tag:=uK n.tag,attrs:=n.attrs.map iI }
structure qv (n:Nd):Prop where
 parent:i64 n.parent
 tag:n.tag.data.size≤reachBytes
 classes:n.classes.length*16≤reachBytes
 attrs:n.attrs.length*32≤reachBytes
 names:∀ p ∈ n.attrs,p.1.data.size≤reachBytes
theorem eL:reachBytes=140737488351232:=rfl
@[simp] theorem LE (H:Hp) (id off:Nat) (l:List ByteArray):stA 1 H (.ptr id off) (dq l)=stO 1 off [dq l] H id (H.get id):=fY 1 H id off _ rfl rfl
theorem fR {rows:List (ByteArray × ByteArray)}:∀ row ∈ rows.map cI,row.length=2:=by
 intro row hrow
 obtain ⟨x,_,rfl⟩:=List.mem_map.1 hrow; rfl
theorem uh {rows:List (ByteArray × ByteArray)}:(rows.map cI).flatten.all AV.one=true:=by
 rw [List.all_eq_true]
 intro x hx
 obtain ⟨row,hrow,hx⟩:=List.mem_flatten.1 hx
 obtain ⟨x,_,rfl⟩:=List.mem_map.1 hrow
 simp [cI] at hx
 rcases hx with rfl | rfl<;>rfl
theorem ug (n:Nd) (hn:qv n) {H:Hp} {K:AV→Hp→Prop}
  (h0:n.attrs=[]→∀ H',H'.n ≥ H.n→(∀ j,j<H.n→H'.get j=H.get j)→K (.agg (a_ n)) H')
  (h1:n.attrs≠[]→∀ H' id,H'.n ≥ H.n→(∀ j,j<H.n→H'.get j=H.get j)→H.n≤id→id<H'.n→H'.get id=some (.cells (n.attrs.map cI).flatten false) →
   K (.agg [I n.parent,Sx n.tag,Sx n.id,dq n.classes,.sl id 0 2 n.attrs.length none]) H') :
  az Tryz.prog σ fI [.agg (a_ n)] H K:=by
 have hc:=hn.classes
 have ha:=hn.attrs
 rw [eL] at hc ha
 have nlt:∀ {j:Nat},j<H.n→j≠H.n∧j≠H.n+1∧j≠H.n+2∧j≠H.n+3:=fun h=>by omega
 refine jU.run ?_
 simp [a_]
 refine ap (tY _ (by omega) _) ?_
 simp
 by_cases he:n.attrs=[]
 ·rw [he]
  refine ap (t0 _) ?_
  have e:a_ n=[I n.parent,Sx n.tag,Sx n.id,dq n.classes,.imm 2 []]:=by simp [a_,he]
  rw [e] at h0
  simp [cr]
  exact h0 he _ (by simp; omega) (fun j hj=>by have:=nlt hj; simp [this])
 ·obtain ⟨p,ps,hps⟩:=List.exists_cons_of_ne_nil he
  refine bn.run ?_
  rw [hps,List.map_cons]
  simp only [Hh,ae,aq,Bool.false_eq_true,if_false]
  rw [← List.map_cons,← hps]
  refine tK (rows:=n.attrs.map cI) (by simpa using he) fR uh (by simpa using Nat.le_trans ha (by omega)) (by simp; omega) ?_
  have q1:¬ (H.n=H.n+1+1+1):=by omega
  have q2:¬ (H.n=H.n+1+1):=by omega
  have q3:¬ (H.n+1=H.n+1+1+1):=by omega
  simp [cr,q1,q2,q3]
  refine h1 he _ _ ?_ (fun j hj=>?_) ?_ ?_ ?_
  ·simp; omega
  ·have:=nlt hj
   have q4:j≠H.n+1+1:=by omega
   have q5:j≠H.n+1+1+1:=by omega
   simp [this,q4,q5]
  ·omega
  ·simp
  ·have q6:¬ (H.n+1+1=H.n):=by omega
   have q7:¬ (H.n+1+1+1=H.n):=by omega
   have q8:¬ (H.n+1+1+1=H.n+1):=by omega
   have q9:¬ (H.n+1+1=H.n+1):=by omega
   simp [q6,q7,q8,q9]
theorem AX {l l0:List (ByteArray × ByteArray)} {k:Nat} (hk:k<l0.length) (hl:l.length=l0.length) (h1:l.take k=(l0.take k).map iI) (h2:l.drop k=l0.drop k) :
  ∃ hk':k<l.length,l[k]=l0[k]∧(l.set k (iI l0[k])).take (k+1)=(l0.take (k+1)).map iI∧(l.set k (iI l0[k])).drop (k+1)=l0.drop (k+1):=by
 have hk':k<l.length:=by omega
 rw [List.drop_eq_getElem_cons hk',List.drop_eq_getElem_cons hk] at h2
 have h3:=List.cons.inj h2
 refine ⟨hk',h3.1,?_,?_⟩
 ·rw [List.take_succ_eq_append_getElem (by simpa using hk'),List.take_succ_eq_append_getElem hk,List.map_append,← h1,List.take_set_of_le (by omega)]
  simp
 ·rw [List.drop_set_of_lt (by omega)]; exact h3.2
theorem EH (n:Nd) (hn:qv n) {K:AV→Hp→Prop} {id b1 b2:Nat} {par tg idd cl:AV} (h12:b1≠b2) (hi1:id≠b1) (hi2:id≠b2) (ho:[par,tg,idd,cl].all AV.one=true):∀ (d k:Nat) (l:List (ByteArray × ByteArray)) (H:Hp),H.get b1=some (.cells [par,tg,idd,cl,.sl id 0 2 n.attrs.length none] true)→(∃ cs,H.get b2=some (.cells cs true)∧cs.length=5) →
  H.get id=some (.cells (l.map cI).flatten false)→l.length=n.attrs.length→n.attrs.length - k=d→k≤n.attrs.length→l.take k=(n.attrs.take k).map iI→l.drop k=n.attrs.drop k →
  (∀ H',H'.get id=some (.cells ((n.attrs.map iI).map cI).flatten false)→K (.agg [par,tg,idd,cl,.sl id 0 2 n.attrs.length none]) H') →
  bM.L0 σ K (.ptr b1 0) (.ptr b2 0) (I n.attrs.length) (I k) H:=by
 have ha:=hn.attrs
 rw [eL] at ha
 intro d
 induction d with
 | zero =>
  intro k l H g1 g2 gi hl hd hk h1 h2 hK
  obtain ⟨cs,g2,hcs⟩:=g2
  have e:k=n.attrs.length:=by omega
  subst e
  have el:l=n.attrs.map iI:=by
   rw [← hl,List.take_length,hl,List.take_length] at h1
   exact h1
  refine bM.L0_step ?_
  simp [g1,g2,cr,hcs]
  simp at ho
  simp [ho,aE,hcs,cr]
  refine hK _ ?_
  simp [hi2,gi,el]
 | succ d ih =>
  intro k l H g1 g2 gi hl hd hk h1 h2 hK
  have hlt:k<n.attrs.length:=by omega
  obtain ⟨hlt',hlk,h3,h4⟩:=AX hlt hl h1 h2
  have hsz:(n.attrs[k]).1.data.size<9000000000000000000:=by
   have:=hn.names _ (List.getElem_mem hlt)
   rw [eL] at this
   omega
  have hdrop:((l.map cI).flatten).drop (k*2)=cI n.attrs[k]++((l.map cI).drop (k+1)).flatten:=by
   rw [ic fR (by simpa using hlt'),List.getElem_map,hlk]
  refine bM.L0_step ?_
  simp [g1,hlt,qk,gi,hdrop,cI]
  refine ap (mU _ hsz _) ?_
  have hlen:k*2+1≤((l.map cI).flatten).length:=by
   rw [bW fR,List.length_map]; omega
  simp [g1,gi]
  rw [if_pos (by simpa using hlen),ae,df (by omega)]
  refine ih (k+1) (l.set k (iI n.attrs[k])) _ (by simp [Ne.symm hi1,g1]) ?_ ?_ (by simpa using hl) (by omega) (by omega) h3 h4 hK
  ·obtain ⟨cs,g2,hcs⟩:=g2
   exact ⟨cs,by simp [Ne.symm hi2,g2],hcs⟩
  ·simp
   have:=eI (sz:=2) (xs:=[Sx (uK n.attrs[k].1)]) (k:=0) (by simp) (rows:=l.map cI) (w:=k) fR (by simpa using hlt')
   rw [Nat.add_zero] at this
   rw [this]
   congr 3
   simp [cI,iI,hlk]
theorem Gy (n:Nd) (hn:qv n) (H:Hp):ar Tryz.prog σ eh [.agg (a_ n)] H (.agg (a_ (bL n))) H:=by
 have ht:n.tag.data.size<9000000000000000000:=by
  have:=hn.tag
  rw [eL] at this; omega
 obtain ⟨Q,hQ⟩:∃ Q:AV→Hp→Prop,∀ r H1,Q r H1 ↔ Fz H1 r (.agg (a_ (bL n))):=⟨_,fun _ _=>Iff.rfl⟩
 have run:∃ r H1,ar Tryz.prog σ eh [.agg (a_ n)] Hp.empty r H1∧Q r H1:=by
  refine bM.run ?_
  simp
  refine ug n hn (fun he H' hn' hs=>?_) (fun he H' id hn' hs hid hid' hg=>?_)
  ·have e0:H'.get Hp.empty.n=some (.cells (a_ n) true):=by rw [hs _ (by simp; omega)]; simp
   have e1:H'.get (Hp.empty.n+1)=some (.cells [I 0,Sx ⟨#[]⟩,Sx ⟨#[]⟩,.lit (.slice none 0 0),.lit (.slice none 0 0)] true):=by rw [hs _ (by simp)]; simp
   generalize Hp.empty.n=z at e0 e1 ⊢
   simp [e0,e1,a_,he,aE]
   refine ap (mU _ ht _) ?_
   simp [e0,e1,aE]
   refine bM.L0_step ?_
   simp [e0,e1,cr,aE]
   rw [hQ]
   have e2:a_ (bL n)=[I n.parent,Sx (uK n.tag),Sx n.id,dq n.classes,.imm 2 []]:=by simp [bL,a_,he]
   rw [e2]
   exact .refl (by simp [aC,bf,cS])
  ·have e0:H'.get Hp.empty.n=some (.cells (a_ n) true):=by rw [hs _ (by simp; omega)]; simp
   have e1:H'.get (Hp.empty.n+1)=some (.cells [I 0,Sx ⟨#[]⟩,Sx ⟨#[]⟩,.lit (.slice none 0 0),.lit (.slice none 0 0)] true):=by rw [hs _ (by simp)]; simp
   have hid:Hp.empty.n+2≤id:=by simpa using hid
   generalize Hp.empty.n=z at e0 e1 hid ⊢
   have d1:id≠z:=by omega
   have d2:id≠z+1:=by omega
   simp [e0,e1,a_,aE]
   refine ap (mU _ ht _) ?_
   simp [e0,e1,aE]
   refine EH n hn (id:=id) (by omega) d1 d2 ?_ _ 0 n.attrs _ (by rw [ay,if_pos rfl]) ⟨_,by simp [e1]; rfl,rfl⟩ (by simp [d1,hg]) rfl rfl (Nat.zero_le _) (by simp) rfl fun H2 h2=>?_
   ·simp
   rw [hQ]
   refine .aggL (.cons (.refl rfl) (.cons (.refl rfl) (.cons (.refl rfl) (.cons (.refl (ju _)) (.cons ?_ .nil)))))
   have:=Fz.rows (cap:=none) h2 (rows:=(n.attrs.map iI).map cI) (off:=0) fR (by rw [List.drop_zero]; exact List.take_of_length_le (by rw [bW fR]; exact Nat.le_refl _)) (bi _ (fun _=>rfl) _)
   simpa [bL] using this
 obtain ⟨r,H1,hg,hf⟩:=run
 rw [hQ] at hf
 exact hg.frzR (by simp [aC,bf,kJ]) hf H
end Go.Proofs.YthdcghnjndhecaaGreat.Ev
namespace Go.Proofs.YthdcghnjndhecaaGreat.Ev
set_option linter.unusedVariables false
set_option linter.unusedSimpArgs false
variable {σ:Sig}
end Go.Proofs.YthdcghnjndhecaaGreat.Ev
namespace Go.Proofs.YthdcghnjndhecaaGreat.Ev
set_option linter.unusedVariables false
set_option linter.unusedSimpArgs false
variable {σ:Sig}
theorem oK {z:List Value} {sz bytes:Nat} {H:Hp} {x y:AV} {rows:List (List AV)} {C:AV × Hp→Prop} (hC:C (.sl H.n 0 sz 1 (some 1),H.new (.cells y.cells true))) (hx:Gs sz H x rows) (hl:y.cells.length=sz) (ha:y.isAny=false) (hone:y.cells.all AV.one=true)
  (hb:(rows.length+1)*bytes≤140737488355328) (hn:rows.length+1≤4611686018427387904) {K:AV × Hp→Prop} (h:∀ x' H',Gs sz H' x' (rows++[y.cells])→Fr H x H' x'→K (x',H')) :
  bnd (bC z sz 1 H [(0,sz,y)]) fun p=>C p∧bnd (gm false sz bytes p.2 x p.1) K:=by
 have:=gh (z:=z) hx hl ha hone hb hn h
 rw [pE hl ha,ae] at this ⊢
 exact ⟨hC,this⟩
structure iW (L:List Nd) (d:List Nat) (H:Hp) (t m:Nat) (sl:AV) (ch:List AV):Prop where
 tlt:t<H.n
 tg:H.get t=some (.cells [sl] true)
 len:ch.length=m
 rows:Gs 9 H sl (cN L d ch bL)
 kid:∀ (i:Nat) (c:AV),ch[i]?=some c→Gs 1 H c ((gu L m i).map fun j:Nat=>[I j])
 nt:¬ own sl t
 nk:∀ (i:Nat) (c:AV),ch[i]?=some c→¬ own c t
 ns:∀ (i:Nat) (c:AV),ch[i]?=some c→∀ j,own c j→¬ own sl j
 nd:∀ (i i':Nat) (c c':AV),i≠i'→ch[i]?=some c→ch[i']?=some c'→∀ j,own c j→¬ own c' j
theorem G_ {L:List Nd} {d:List Nat} {N:Nat} (hB:ee L N d) {m:Nat} (hm:m<N) (hN:N≤4096) {H:Hp} {t x7:Nat} {sl:AV} {ch:List AV} {y6 y7:AV}
  (tlt:t<H.n) (tg:H.get t=some (.cells [sl] true)) (len:ch.length=m) (rows:Gs 9 H sl (cN L d ch bL)) (kid:∀ (i:Nat) (c:AV),ch[i]?=some c→Gs 1 H c ((gu L (m+1) i).map fun j:Nat=>[I j]))
  (nt:¬ own sl t) (nk:∀ (i:Nat) (c:AV),ch[i]?=some c→¬ own c t) (ns:∀ (i:Nat) (c:AV),ch[i]?=some c→∀ j,own c j→¬ own sl j)
  (nd:∀ (i i':Nat) (c c':AV),i≠i'→ch[i]?=some c→ch[i']?=some c'→∀ j,own c j→¬ own c' j)
  (hx7:H.get x7=some (.cells (eT L d m (.lit (.slice none 0 0)) bL) true)) {K:AV→Hp→Prop} (h:∀ H' sl' ch',iW L d H' t (m+1) sl' ch'→K (I 0) H'):aA.J1 σ K (.ptr t 0) (.ptr x7 0) y6 y7 H:=by
 refine aA.J1_step ?_
 simp [tg,hx7]
 simp only [cr (zb L d m (.lit (.slice none 0 0)) bL),ae]
 have ht':t≠H.n:=by omega
 refine oK (y:=.agg (eT L d m (.lit (.slice none 0 0)) bL)) (bytes:=136) (by simp [ht',tg]) rows rfl rfl (by simp [eT,a_]) (by rw [dF]; omega) (by rw [dF]; omega) fun sl' H' g f=>?_
 have e1:H'.get t=some (.cells [sl] true):=by rw [f.same t tlt nt]; exact tg
 have sown:∀ j,own sl' j→own sl j∨(H.n≤j∧j<H'.n):=f.mine
 have nt':¬ own sl' t:=fun h=>by
  rcases sown t h with h | h
  ·exact nt h
  ·omega
 have kl:∀ (i:Nat) (c:AV),ch[i]?=some c→∀ j,own c j→j<H.n:=fun i c hc j hj=>(kid i c hc).lt hj
 simp [g.st (id:=t) (off:=0) e1 (by simp)]
 have cnew:∀ {i:Nat} {c:AV},(ch++[AV.lit (.slice none 0 0)])[i]?=some c→ch[i]?=some c∨(i=m∧c=.lit (.slice none 0 0)):=by
  intro i c hc
  by_cases hi:i<ch.length
  ·rw [List.getElem?_append_left hi] at hc; exact .inl hc
  ·rw [List.getElem?_append_right (by omega)] at hc
   have hl:=(List.getElem?_eq_some_iff.1 hc).1
   simp at hl
   have:i=m:=by omega
   subst this
   simp [len] at hc
   exact .inr ⟨rfl,hc.symm⟩
 refine h _ sl' (ch++[.lit (.slice none 0 0)]) ⟨?_,?_,?_,?_,?_,nt',?_,?_,?_⟩
 ·simp; have:=f.grow; omega
 ·simp
 ·simp [len]
 ·rw [uH,len]
  refine g.keep (fun j hj=>?_) (by simp)
  have:j≠t:=fun e=>nt' (e ▸ hj)
  simp [this]
 ·intro i c hc
  rcases cnew hc with hc | ⟨rfl,rfl⟩
  ·refine (kid i c hc).keep (fun j hj=>?_) (by simp; exact f.grow)
   have:j≠t:=fun e=>nk i c hc (e ▸ hj)
   simp [this]
   exact f.same j (kl i c hc j hj) (ns i c hc j hj)
  ·rw [EM hB (by omega) (Nat.le_refl _)]
   exact .nil
 ·intro i c hc
  rcases cnew hc with hc | ⟨rfl,rfl⟩
  ·exact nk i c hc
  ·exact fun h=>h
 ·intro i c hc j hj h
  rcases cnew hc with hc | ⟨rfl,rfl⟩
  ·rcases sown j h with h | h
   ·exact ns i c hc j hj h
   ·have:=kl i c hc j hj; omega
  ·exact hj
 ·intro i i' c c' hne hc hc' j hj hj'
  rcases cnew hc with hc | ⟨rfl,rfl⟩
  ·rcases cnew hc' with hc' | ⟨rfl,rfl⟩
   ·exact nd i i' c c' hne hc hc' j hj hj'
   ·exact hj'
  ·exact hj
theorem G8 {L:List Nd} {d:List Nat} {N:Nat} (hB:ee L N d) {m p:Nat} (hm:m<N) (hN:N≤4096) (hm0:0<m) (hp:par L m=p) (hpm:p<m) {H:Hp} {t x7 id:Nat} {ch:List AV}
  (hT:iW L d H t m (.sl id 0 9 m none) ch) (hx7:H.get x7=some (.cells (eT L d m (.lit (.slice none 0 0)) bL) true)) (hn7:x7<H.n) (h7t:x7≠t) (h7s:x7≠id) (h7c:∀ (i:Nat) (c:AV),ch[i]?=some c→¬ own c x7)
  {K:AV→Hp→Prop} (h:∀ H' sl' ch',iW L d H' t (m+1) sl' ch'→K (I 0) H'):aA.J0 σ K (.ptr t 0) (.ptr x7 0) (I m) (.ptr id (p*9)) H:=by
 have hl:=hT.len
 obtain ⟨c,hc⟩:=bQ (l:=ch) (k:=p) (by omega)
 have hg:∃ ex,H.get id=some (.cells (cN L d ch bL).flatten ex)∧id<H.n:=by
  have:=hT.rows
  have hlen:=dF L d ch bL
  generalize cN L d ch bL=rr at this hlen
  cases this with
  | sl hlt hg hsz=>exact ⟨_,hg,hlt⟩
 obtain ⟨ex,hg,hidn⟩:=hg
 obtain ⟨r5,h5⟩:=jj (L:=L) (d:=d) (low:=bL) hc 5 (by omega)
 have hgc:=hT.kid p c hc
 have hlast:gu L (m+1) p=gu L m p++[m]:=by rw [lM,if_pos ⟨hm0,hp⟩]
 have hkl:(gu L m p).length≤m:=by
  have:=List.length_filter_le (fun j:Nat=>decide (0<j)&&decide (par L j=(p:Int))) (List.range m)
  simp at this
  unfold gu
  omega
 refine aA.J0_step ?_
 simp [hg,h5,eT,a_]
 refine gh hgc rfl rfl rfl (by simp; omega) (by simp; omega) fun c' H' g f=>?_
 have cid:¬ own c id:=fun h=>(hT.ns p c hc id h) rfl
 have e1:H'.get id=some (.cells (cN L d ch bL).flatten ex):=by rw [f.same id hidn cid]; exact hg
 have hlen:p*9+5<(cN L d ch bL).flatten.length:=by
  rw [bW kd,dF]; omega
 simp [g.st (id:=id) (off:=p*9+5) e1 hlen]
 have hput:=uZ (L:=L) (d:=d) (low:=bL) (c':=c') hc
 rw [kT hlen] at hput
 rw [hput]
 have kl:∀ (i:Nat) (c:AV),ch[i]?=some c→∀ j,own c j→j<H.n:=fun i c hc j hj=>(hT.kid i c hc).lt hj
 have cown:∀ j,own c' j→own c j∨(H.n≤j∧j<H'.n):=f.mine
 have cset:∀ {i:Nat} {x:AV},(ch.set p c')[i]?=some x→(i≠p∧ch[i]?=some x)∨(i=p∧x=c'):=by
  intro i x hx
  rw [List.getElem?_set] at hx
  split at hx
  ·rename_i he
   split at hx
   ·cases hx; exact .inr ⟨he.symm,rfl⟩
   ·cases hx
  ·rename_i he; exact .inl ⟨fun e=>he e.symm,hx⟩
 have cid':¬ own c' id:=fun h=>by
  rcases cown id h with h | h
  ·exact cid h
  ·omega
 have ct':¬ own c' t:=fun h=>by
  rcases cown t h with h | h
  ·exact hT.nk p c hc h
  ·have:=hT.tlt; omega
 have idt:id≠t:=fun e=>hT.nt e
 refine G_ hB hm hN (sl:=.sl id 0 9 m none) (ch:=ch.set p c') ?_ ?_ (by simpa using hl) ?_ ?_ hT.nt ?_ ?_ ?_ ?_ h
 ·simp; have:=f.grow; have:=hT.tlt; omega
 ·simp [Ne.symm idt]
  rw [f.same t hT.tlt (hT.nk p c hc)]; exact hT.tg
 ·have:m=(cN L d (ch.set p c') bL).length:=by rw [dF]; simpa using hl.symm
  conv=>arg 3; rw [this]
  exact .sl (ex:=ex) (by simp; have:=f.grow; omega) (by simp) kd
 ·intro i x hx
  rcases cset hx with ⟨hne,hx⟩ | ⟨rfl,rfl⟩
  ·rw [lM,if_neg (fun h=>hne (by have:=h.2; rw [hp] at this; omega)),List.append_nil]
   refine (hT.kid i x hx).keep (fun j hj=>?_) (by simp; exact f.grow)
   have:j≠id:=fun e=>hT.ns i x hx j hj e.symm
   simp [this]
   exact f.same j (kl i x hx j hj) (hT.nd i p x c hne hx hc j hj)
  ·rw [hlast,List.map_append]
   refine Gs.keep (H:=H') g (fun j hj=>?_) (by simp)
   have:j≠id:=fun e=>cid' (e ▸ hj)
   simp [this]
 ·intro i x hx
  rcases cset hx with ⟨hne,hx⟩ | ⟨rfl,rfl⟩
  ·exact hT.nk i x hx
  ·exact ct'
 ·intro i x hx j hj h
  rcases cset hx with ⟨hne,hx⟩ | ⟨rfl,rfl⟩
  ·exact hT.ns i x hx j hj h
  ·exact cid' (by have h:id=j:=h; rw [h]; exact hj)
 ·intro i i' x x' hne hx hx' j hj hj'
  rcases cset hx with ⟨h1,hx⟩ | ⟨rfl,rfl⟩
  ·rcases cset hx' with ⟨h2,hx'⟩ | ⟨rfl,rfl⟩
   ·exact hT.nd i i' x x' hne hx hx' j hj hj'
   ·rename_i h3
    rcases cown j hj' with h | h
    ·exact hT.nd i i' x c hne h3 hc j hj h
    ·have:=kl i x h3 j hj; omega
  ·rcases cset hx' with ⟨h2,hx'⟩ | ⟨h3,rfl⟩
   ·rcases cown j hj with h | h
    ·exact hT.nd i i' c x' hne hc hx' j h hj'
    ·have:=kl i' x' hx' j hj'; omega
   ·exact hne h3.symm
 ·simp [h7s]
  rw [f.same x7 hn7 (h7c p c hc)]; exact hx7
theorem iW.new {L:List Nd} {d:List Nat} {H:Hp} {t m:Nat} {sl:AV} {ch:List AV} (h:iW L d H t m sl ch) {H':Hp} (hs:∀ j,j<H.n→H'.get j=H.get j) (hn:H.n≤H'.n):iW L d H' t m sl ch :=
 ⟨Nat.lt_of_lt_of_le h.tlt hn,by rw [hs t h.tlt]; exact h.tg,h.len,h.rows.keep (fun j hj=>hs j (h.rows.lt hj)) hn,fun i c hc=>(h.kid i c hc).keep (fun j hj=>hs j ((h.kid i c hc).lt hj)) hn,h.nt,h.nk,h.ns,h.nd⟩
theorem uA {L:List Nd} {m p:Nat} (hp:par L m=p) {j:Nat} {l:List Nat} (e:gu L m p=l++[j]):gc L m=j∧b8 L m=(l.length:Int)+1+1:=by
 rw [o8 hp] at e
 unfold gc b8 o4
 rw [e]
 simp
theorem JE {L : List Nd} {d : List Nat} {N : Nat} (hB : ee L N d) (hW : ∀ n ∈ L, qv n) {m : Nat} (hm : m < N) (hN : N ≤ 4096) {H : Hp} {t : Nat} {sl : AV} {ch : List AV} (hT : iW L d H t m sl ch)
    {K:AV→Hp→Prop} (h:∀ H' sl' ch',iW L d H' t (m+1) sl' ch'→K (I 0) H'):az Tryz.prog σ eH [.ptr t 0,.agg (a_ (cw L m))] H K:=by
  have hmL:m<L.length:=Nat.lt_of_lt_of_le hm hB.le
  have hnd:cw L m ∈ L:=by
    unfold cw
    rw [List.getD_eq_getElem?_getD,List.getElem?_eq_getElem hmL]
    exact List.getElem_mem hmL
  have hlow:=Gy (σ:=σ) _ (hW _ hnd)
  have htn:=hT.tlt
  have t1:t≠H.n:=by omega
  have t2:t≠H.n+1:=by omega
  have hlen:=hT.rows.len
  rw [dF,hT.len] at hlen
  refine aA.run ?_
  simp
  refine ap (hlow _) ?_
  have eb:∀ c:AV,dv [I 0,Sx ⟨#[]⟩,Sx ⟨#[]⟩,.lit (.slice none 0 0),.lit (.slice none 0 0),.lit (.slice none 0 0),I 0,I 0,I 0] [(0,5,.agg (a_ (bL (cw L m)))),(7,1,I 1),(8,1,I (-1))]=some (a_ (bL (cw L m))++[.lit (.slice none 0 0),I 0,I 1,I (-1)]):=by
    intro c
    simp [dv,jD,s7,a_,aP]
  rw [eb .any]
  have hnew:∀ (a b:Blk),iW L d ((H.new a).new b) t m sl ch:=fun a b=>hT.new (fun j hj=>by
    have:j≠H.n:=by omega
    have:j≠H.n+1:=by omega
    simp [*]) (by simp; omega)
  by_cases h0:m=0
  · subst h0
    have hr:=hB.root (by omega)
    have hpar:(cw L 0).parent=-1:=hr.1
    simp [t1,t2,hT.tg,hlen,a_,hpar,aE]
    have hT2 := hT.new (H' := ((H.new (.cells [I (-1), Sx (cw L 0).tag, Sx (cw L 0).id, dq (cw L 0).classes, .imm 2 (List.map cI (cw L 0).attrs)] true)).new
          (.cells [I 0,Sx ⟨#[]⟩,Sx ⟨#[]⟩,.lit (.slice none 0 0),.lit (.slice none 0 0),.lit (.slice none 0 0),I 0,I 0,I 0] true)).set (H.n+1)
      (some (.cells (a_ (bL (cw L 0))++[.lit (.slice none 0 0),I 0,I 1,I (-1)]) true))) (fun j hj=>by
        have a1:j≠H.n:=by omega
        have a2:j≠H.n+1:=by omega
        simp [a1,a2]) (by simp; omega)
    have hd0:d.getD 0 0=0:=by rw [List.getD_eq_getElem?_getD,hr.2]; rfl
    refine G_ hB hm hN hT2.tlt hT2.tg hT2.len hT2.rows (fun i c hc=>?_) hT2.nt hT2.nk hT2.ns hT2.nd ?_ h
    · rw [lM,if_neg (by omega),List.append_nil]; exact hT2.kid i c hc
    · unfold eT
      rw [hd0]
      simp [b8,nc,gc,o4]
  · obtain ⟨p,x,hp,hpm,hx,hdx,h256⟩:=hB.step m (by omega) hm
    have hpar:(cw L m).parent=p:=hp
    have hm0:¬ ((m:Int)=0):=by omega
    have hm1:(0:Int)<m:=by omega
    have hp1:¬ ((p:Int)<0):=by omega
    have hp2:¬ ((m:Int)≤p):=by omega
    have hmn:¬ (m=0):=h0
    have hmp:0<m:=by omega
    obtain ⟨id,ex,rfl,hg,hidn⟩:∃ id ex,sl=.sl id 0 9 m none∧H.get id=some (.cells (cN L d ch bL).flatten ex)∧id<H.n:=by
      have:=hT.rows
      have hl:=dF L d ch bL
      rw [hT.len] at hl
      generalize cN L d ch bL=rr at this hl
      cases this with
      | nil=>simp at hl; omega
      | sl hlt hg hsz=>exact ⟨_,_,by rw [hl],hg,hlt⟩
    obtain ⟨c,hc⟩:=bQ (l:=ch) (k:=p) (by rw [hT.len]; exact hpm)
    obtain ⟨r5,h5⟩:=jj (L:=L) (d:=d) (low:=bL) hc 5 (by omega)
    obtain ⟨r6,h6⟩:=jj (L:=L) (d:=d) (low:=bL) hc 6 (by omega)
    have hdp:d.getD p 0=x:=by rw [List.getD_eq_getElem?_getD,hx]; rfl
    have hdm:d.getD m 0=x+1:=by rw [List.getD_eq_getElem?_getD,hdx]; rfl
    simp only [eT,hdp] at h5 h6
    have i1:id≠H.n:=by omega
    have i2:id≠H.n+1:=by omega
    have hpi:(p:Int)<m:=by omega
    have e256:¬ ((256:Int)<(x:Int)+1):=by omega
    simp [t1,t2,hT.tg,hlen,a_,hpar,aE,hm0,hm1,hp1,hp2,hmn,hmp,qk,hpi,i1,i2,hg,h5,h6]
    have ew:wr .i64 ((x:Int)+1)=((x+1:Nat):Int):=by rw [eg (by omega) (by omega)]; rfl
    have e256':¬ ((256:Int)<((x+1:Nat):Int)):=by omega
    rw [ew,if_neg e256']
    have hG : ∃ G : Hp, G = ((((H.new (.cells [I p, Sx (cw L m).tag, Sx (cw L m).id, dq (cw L m).classes, .imm 2 (List.map cI (cw L m).attrs)] true)).new
        (.cells [I 0,Sx ⟨#[]⟩,Sx ⟨#[]⟩,.lit (.slice none 0 0),.lit (.slice none 0 0),.lit (.slice none 0 0),I 0,I 0,I 0] true)).set (H.n+1)
        (some (.cells [I (bL (cw L m)).parent,Sx (bL (cw L m)).tag,Sx (bL (cw L m)).id,dq (bL (cw L m)).classes,.imm 2 (List.map cI (bL (cw L m)).attrs),.lit (.slice none 0 0),I 0,I 1,I (-1)] true))).set (H.n+1)
        (some (.cells [I (bL (cw L m)).parent,Sx (bL (cw L m)).tag,Sx (bL (cw L m)).id,dq (bL (cw L m)).classes,.imm 2 (List.map cI (bL (cw L m)).attrs),.lit (.slice none 0 0),I ((x+1:Nat):Int),I 1,I (-1)] true))):=⟨_,rfl⟩
    obtain ⟨G,eG⟩:=hG
    rw [← eG]
    have G1:∀ j,j<H.n→G.get j=H.get j:=fun j hj=>by
      have a1:j≠H.n:=by omega
      have a2:j≠H.n+1:=by omega
      rw [eG]; simp [a1,a2]
    have G2:G.get (H.n+1)=some (.cells [I (bL (cw L m)).parent,Sx (bL (cw L m)).tag,Sx (bL (cw L m)).id,dq (bL (cw L m)).classes,.imm 2 (List.map cI (bL (cw L m)).attrs),.lit (.slice none 0 0),I ((x+1:Nat):Int),I 1,I (-1)] true):=by rw [eG]; simp
    have G3:G.n=H.n+2:=by rw [eG]; rfl
    clear eG
    have hTG:=hT.new (H':=G) G1 (by omega)
    have hgG:G.get id=some (.cells (cN L d ch bL).flatten ex):=by rw [G1 id hidn]; exact hg
    have hgc:=hTG.kid p c hc
    have hkl:=hgc.len
    rw [List.length_map] at hkl
    have own7:∀ (i:Nat) (c:AV),ch[i]?=some c→¬ own c (H.n+1):=fun i c hc hj=>by
      have:=(hT.kid i c hc).lt hj; omega
    have hpl:(gu L m p).length≤m:=by
      have:=List.length_filter_le (fun j:Nat=>decide (0<j)&&decide (par L j=(p:Int))) (List.range m)
      simp at this
      unfold gu
      omega
    rcases List.eq_nil_or_concat (gu L m p) with hk | ⟨l,j,hk⟩
    · rw [hk] at hkl
      simp [hkl]
      have hs:nc L m=[]:=by rw [← o8 hp]; exact hk
      refine G8 hB hm hN hmp hp hpm hTG ?_ (by omega) (by omega) (by omega) own7 h
      rw [G2]
      unfold eT
      rw [hdm]
      simp [b8,gc,o4,hs,a_]
    · rw [List.concat_eq_append] at hk
      rw [hk,List.length_append,List.length_singleton] at hkl
      have hll:l.length+1≤m:=by rw [hk] at hpl; simpa using hpl
      obtain ⟨cid,cex,rfl,hcg⟩:∃ cid cex,c=.sl cid 0 1 (l.length+1) none∧G.get cid=some (.cells (((l++[j]).map fun j:Nat=>[I j]).flatten) cex):=by
        rw [hk] at hgc
        generalize hr:((l++[j]).map fun j:Nat=>[I (j:Int)])=rr at hgc
        have hrl:rr.length=l.length+1:=by rw [← hr]; simp
        cases hgc with
        | nil=>simp at hrl
        | sl hlt hg hsz=>exact ⟨_,_,by rw [hrl],hg⟩
      have hd:((l.map fun j:Nat=>[I (j:Int)]).flatten++[I (j:Int)]).drop l.length=[I (j:Int)]:=by
        have:(l.map fun j:Nat=>[I (j:Int)]).flatten.length=l.length:=by
          rw [bW (sz:=1) (fun row hrow=>by obtain ⟨x,_,rfl⟩:=List.mem_map.1 hrow; rfl)]; simp
        rw [List.drop_append_of_le_length (by omega),List.drop_of_length_le (by omega)]
        rfl
      have e1:wr .i64 (((l.length+1:Nat):Int)+1)=(l.length:Int)+1+1:=by rw [eg (by omega) (by omega)]; omega
      have e2:wr .i64 (((l.length+1:Nat):Int) - 1)=(l.length:Int):=by rw [eg (by omega) (by omega)]; omega
      have e3:(0:Int)<((l.length+1:Nat):Int):=by omega
      have e4:(l.length:Int)<((l.length+1:Nat):Int):=by omega
      simp only [hkl,ae,pX,aq,e3,decide_true,if_true,ia,qn,e1,e2]
      rw [qk (by omega) e4]
      have cid7:cid≠H.n+1:=fun e=>own7 p _ hc e
      have id7:id≠H.n+1:=i2
      have hs:=uA hp hk
      simp [hcg,hd,G2,cid7,hgG,h5,a_,id7]
      refine G8 hB hm hN hmp hp hpm (hT.new (fun j hj=>?_) ?_) ?_ ?_ (by omega) (by omega) own7 h
      · have a2:j≠H.n+1:=by omega
        simp [a2,G1 j hj]
      · simp; omega
      · simp [eT,a_]
        rw [← List.getD_eq_getElem?_getD,hdm,hs.1,hs.2]
        simp
      · simp; omega
theorem ui {L:List Nd} {d:List Nat} (hB:ee L L.length d) (hW:∀ n ∈ L,qv n) (hN:L.length≤4096) {t:Nat} {K:AV→Hp→Prop} (h:∀ H sl ch,iW L d H t L.length sl ch→K (.tup [.ptr t 0,I 0]) H) :
  ∀ (k m:Nat) (H:Hp) (sl:AV) (ch:List AV),L.length - m=k→m≤L.length→iW L d H t m sl ch→dW.L0 σ K (.ptr t 0) (nds L) (I L.length) (I m) H:=by
 intro k
 induction k with
 | zero =>
  intro m H sl ch hk hm hT
  have:m=L.length:=by omega
  subst this
  refine dW.L0_step ?_
  simp
  exact h H sl ch hT
 | succ k ih =>
  intro m H sl ch hk hm hT
  have hlt:m<L.length:=by omega
  have hget:L[m]?=some (cw L m):=by
   unfold cw
   rw [List.getD_eq_getElem?_getD,List.getElem?_eq_getElem hlt]; rfl
  refine dW.L0_step ?_
  simp [nds,hlt,cj hget,aE]
  refine JE hB hW hlt hN (hT.new (fun j hj=>?_) ?_) fun H' sl' ch' hT'=>?_
  ·have a1:j≠H.n:=by omega
   simp [a1]
  ·simp
  ·simp
   rw [df (by omega)]
   exact ih (m+1) H' sl' ch' (by omega) (by omega) hT'
def elC (L:List Nd) (i:Nat):AV:=.imm 1 ((gu L L.length i).map fun j:Nat=>[I j])
def elE (L:List Nd) (d:List Nat) (i:Nat):List AV:=eT L d i (elC L i) bL
def bq (L:List Nd) (d:List Nat):AV:=.ip [.imm 9 ((List.range L.length).map (elE L d))]
theorem wD (L:List Nd) (i:Nat):bf (elC L i)=true:=by unfold elC; simp only [bf]; exact bi _ (fun _=>rfl) _
theorem lJ:∀ {a b:List AV},aC a=true→aC b=true→aC (a++b)=true
 | [],b,_,h=>h
 | x::a,b,ha,hb=>by
  simp only [aC,Bool.and_eq_true] at ha
  simp only [List.cons_append,aC,ha.1,lJ ha.2 hb,Bool.and_self]
theorem qE (L:List Nd) (d:List Nat) (i:Nat):aC (elE L d i)=true:=by
 unfold elE eT
 exact lJ (kJ _) (by simp only [aC,wD,bf,Bool.and_self])
theorem bK (L:List Nd) (d:List Nat):bf (bq L d)=true:=by
 unfold bq
 simp only [bf,aC,bi _ (qE L d),Bool.and_self]
theorem Ek {L:List Nd} {d:List Nat} {H:Hp} {ch:List AV} (hl:ch.length=L.length) (hk:∀ (i:Nat) (c:AV),ch[i]?=some c→Gs 1 H c ((gu L L.length i).map fun j:Nat=>[I j])) {sl:AV} (hg:Gs 9 H sl (cN L d ch bL)) :
  Fz H sl (.imm 9 ((List.range L.length).map (elE L d))):=by
 generalize hr:cN L d ch bL=rr at hg
 have hrl:rr.length=L.length:=by rw [← hr,dF,hl]
 cases hg with
 | nil =>
  have:L.length=0:=by simpa using hrl.symm
  rw [this]; exact .nil
 | sl hlt hg hsz =>
  have rowAt:∀ (i:Nat) (row:List AV),((List.range L.length).map (elE L d))[i]?=some row→∃ c,ch[i]?=some c∧row=elE L d i:=by
   intro i row h
   rw [List.getElem?_map,Option.map_eq_some_iff] at h
   obtain ⟨x,hx,rfl⟩:=h
   have hi:=(List.getElem?_eq_some_iff.1 hx).1
   simp at hi
   rw [List.getElem?_range hi] at hx
   cases hx
   obtain ⟨c,hc⟩:=bQ (l:=ch) (k:=i) (by omega)
   exact ⟨c,hc,rfl⟩
  refine .sl (fun i j=>(eT L d i (ch.getD i .any) bL).getD j .any) hg (by simp [hrl]) (fun i row h=>?_) (fun i row j y h hj=>?_) (fun i row j y h hj=>?_)
  ·obtain ⟨c,_,rfl⟩:=rowAt i row h; rfl
  ·obtain ⟨c,hc,rfl⟩:=rowAt i row h
   have hj9:j<9:=by have:=(List.getElem?_eq_some_iff.1 hj).1; simpa [elE] using this
   have e:=lR (L:=L) (d:=d) (low:=bL) hc
   rw [hr] at e
   have hcd:ch.getD i .any=c:=by rw [List.getD_eq_getElem?_getD,hc]; rfl
   rw [Nat.zero_add]
   have hz:(eT L d i c bL)[j]?=some ((eT L d i c bL).getD j .any):=by
    rw [List.getD_eq_getElem?_getD,List.getElem?_eq_getElem (by simpa using hj9)]; rfl
   rw [hcd,lC hsz i _ j _ e hz]
  ·obtain ⟨c,hc,rfl⟩:=rowAt i row h
   have hcd:ch.getD i .any=c:=by rw [List.getD_eq_getElem?_getD,hc]; rfl
   rw [hcd]
   have hcs:=hk i c hc
   have h5:=hcs.fz (bi _ (fun _=>rfl) _)
   have hL:FzL H (eT L d i c bL) (elE L d i):=by
    unfold elE eT a_
    exact .cons (.refl rfl) (.cons (.refl rfl) (.cons (.refl rfl) (.cons (.refl (ju _)) (.cons (.refl (by simp only [bf]; exact bi _ (fun _=>rfl) _)) (.cons h5 (.cons (.refl rfl) (.cons (.refl rfl) (.cons (.refl rfl) .nil))))))))
   obtain ⟨x,hx,hf⟩:=hL.get.2 j y hj
   rw [List.getD_eq_getElem?_getD,hx]
   exact hf
theorem oD {L:List Nd} {d:List Nat} (hB:ee L L.length d) (hW:∀ n ∈ L,qv n) (hN:L.length≤4096) (H:Hp):ar Tryz.prog σ fP [nds L] H (.tup [bq L d,I 0]) H:=by
 obtain ⟨Q,hQ⟩:∃ Q:AV→Hp→Prop,∀ r H1,Q r H1 ↔ Fz H1 r (.tup [bq L d,I 0]):=⟨_,fun _ _=>Iff.rfl⟩
 have run:∃ r H1,ar Tryz.prog σ fP [nds L] Hp.empty r H1∧Q r H1:=by
  refine dW.run ?_
  have h1:¬ ((4096:Int)<(L.length:Int)):=by omega
  simp [h1,dv]
  refine ui hB hW hN (fun H sl ch hT=>?_) _ 0 _ (.lit (.slice none 0 0)) [] rfl (Nat.zero_le _) ⟨by simp,by simp,rfl,.nil,fun i c h=>by simp at h,fun h=>h,fun i c h=>by simp at h,fun i c h=>by simp at h,fun i i' c c' _ h=>by simp at h⟩
  rw [hQ]
  have hr:=Ek hT.len hT.kid hT.rows
  refine .tup rfl fun j x y hx hy=>?_
  match j with
  | 0 =>
   simp at hx hy
   subst hx; subst hy
   refine .ptr (fun _=>sl) hT.tg (fun j y hj=>?_) (fun j y hj=>?_)
   ·have:j=0:=by have:=(List.getElem?_eq_some_iff.1 hj).1; simp at this; omega
    subst this; simp
   ·have:j=0:=by have:=(List.getElem?_eq_some_iff.1 hj).1; simp at this; omega
    subst this
    simp at hj
    rw [← hj]; exact hr
  | 1=>simp at hx hy; subst hx; subst hy; exact .refl rfl
  | j+2=>simp at hx
 obtain ⟨r,H1,hg,hf⟩:=run
 rw [hQ] at hf
 exact hg.frzR (by simp [aC]) hf H
end Go.Proofs.YthdcghnjndhecaaGreat.Ev
namespace Go.Proofs.YthdcghnjndhecaaGreat.Ev
set_option linter.unusedVariables false
set_option linter.unusedSimpArgs false
variable {σ:Sig}
end Go.Proofs.YthdcghnjndhecaaGreat.Ev
namespace Go.Proofs.YthdcghnjndhecaaGreat.Ev
set_option linter.unusedVariables false
set_option linter.unusedSimpArgs false
variable {σ:Sig}
theorem o3 {n k:Nat} (h:k<n):(List.range n)[k]?=some k:=by
 rw [List.getElem?_range h]
theorem tT (L:List Nd) (d:List Nat) (hN:L.length≤4096) {e:Nat} (he:e<L.length) (H:Hp):ar Tryz.prog σ cC [bq L d,I (e:Int)] H (.agg (elE L d e)) H:=by
 obtain ⟨Q,hQ⟩:∃ Q:AV→Hp→Prop,∀ r H1,Q r H1 ↔ r=.agg (elE L d e):=⟨_,fun _ _=>Iff.rfl⟩
 have run:∃ r H1,ar Tryz.prog σ cC [bq L d,I (e:Int)] Hp.empty r H1∧Q r H1:=by
  refine i6.run ?_
  have h1:¬ ((e:Int)<0):=by omega
  have h2:¬ ((L.length:Int)≤e):=by omega
  have h3:¬ (L.length≤e):=by omega
  have hl:(elE L d e).length=9:=rfl
  have ho:(elE L d e).all AV.one=true:=by simp [elE,eT,a_,elC]
  have ho':∀ x ∈ elE L d e,AV.one x=true:=List.all_eq_true.1 ho
  simp [bq,h1,h2,h3,cj (o3 he)]
  simp only [cr hl,ae]
  simp [hl,aE]
  rw [if_pos ho',ae]
  simp [cr hl,hQ]
 obtain ⟨r,H1,hg,hr⟩:=run
 rw [hQ] at hr
 subst hr
 exact hg.frzR (by simp [aC,bK,bf]) (.refl (by simp only [bf]; exact qE L d e)) H
theorem G6 (L:List Nd) (d:List Nat) (hN:L.length≤4096) {e:Nat} (he:e<L.length) (H:Hp):ar Tryz.prog σ dD [bq L d,I (e:Int)] H (.agg (a_ (bL (cw L e)))) H:=by
 obtain ⟨Q,hQ⟩:∃ Q:AV→Hp→Prop,∀ r H1,Q r H1 ↔ r=.agg (a_ (bL (cw L e))):=⟨_,fun _ _=>Iff.rfl⟩
 have run:∃ r H1,ar Tryz.prog σ dD [bq L d,I (e:Int)] Hp.empty r H1∧Q r H1:=by
  refine gR.run ?_
  simp
  refine ap (tT L d hN he _) ?_
  have:(elE L d e).take 5=a_ (bL (cw L e)):=rfl
  simp [this,aE,hQ]
  rw [aE (by simp),Jz]
  rfl
 obtain ⟨r,H1,hg,hr⟩:=run
 rw [hQ] at hr
 subst hr
 exact hg.frzR (by simp [aC,bK,bf]) (.refl (by simp only [bf]; exact kJ _)) H
theorem lj (L:List Nd) (d:List Nat) (hN:L.length≤4096) {e:Nat} (he:e<L.length) (H:Hp):ar Tryz.prog σ cv [bq L d,I (e:Int)] H (I (par L e)) H:=by
 refine bI (fun K hK=>fD.run ?_) (by simp [aC,bK,bf]) rfl H
 have h1:¬ ((e:Int)<0):=by omega
 have h2:¬ ((L.length:Int)≤e):=by omega
 have h3:¬ (L.length≤e):=by omega
 simp [bq,h1,h2,h3,cj (o3 he),elE,eT,a_]
 exact hK _
theorem ky (L:List Nd) (d:List Nat) (hN:L.length≤4096) {e:Nat} (he:e<L.length) (H:Hp):ar Tryz.prog σ ci [bq L d,I (e:Int)] H (I (b8 L e)) H:=by
 refine bI (fun K hK=>gy.run ?_) (by simp [aC,bK,bf]) rfl H
 refine ap (tT L d hN he _) ?_
 simp [elE,eT,a_]
 exact hK _
theorem uc (L:List Nd) (d:List Nat) (hN:L.length≤4096) {e:Nat} (he:e<L.length) (H:Hp):ar Tryz.prog σ dM [bq L d,I (e:Int)] H (I (gc L e)) H:=by
 refine bI (fun K hK=>fH.run ?_) (by simp [aC,bK,bf]) rfl H
 refine ap (tT L d hN he _) ?_
 simp [elE,eT,a_]
 exact hK _
def mL (L:List Nd) (e k:Nat):Int:=match (gu L L.length e)[k]? with | some j=>j | none=>-1
theorem qt (L:List Nd) (d:List Nat) (hN:L.length≤4096) {e k:Nat} (he:e<L.length) (H:Hp):ar Tryz.prog σ dh [bq L d,I (e:Int),I (k:Int)] H (I (mL L e k)) H:=by
 refine bI (fun K hK=>fV.run ?_) (by simp [aC,bK,bf]) rfl H
 refine ap (tT L d hN he _) ?_
 simp [elE,eT,a_,elC]
 split
 ·rename_i h
  have hget:(gu L L.length e)[k]?=some (gu L L.length e)[k]:=List.getElem?_eq_getElem h
  simp [cj hget]
  have:=hK Hp.empty
  simpa [mL,hget] using this
 ·rename_i h
  have hget:(gu L L.length e)[k]?=none:=List.getElem?_eq_none (by omega)
  have:=hK Hp.empty
  simpa [mL,hget] using this
theorem Jf (L:List Nd) (d:List Nat) (H:Hp):ar Tryz.prog σ eC [bq L d] H (I (L.length:Int)) H:=by
 refine bI (fun K hK=>iv.run ?_) (by simp [aC,bK]) rfl H
 simp [bq]
 exact hK _
theorem Lh (L:List Nd) (d:List Nat) (e:Int) (H:Hp):ar Tryz.prog σ io [bq L d,I e] H (Bo (decide (0≤e)&&decide (e<L.length))) H:=by
 refine bI (fun K hK=>mJ.run ?_) (by simp [aC,bK,bf]) rfl H
 have e1:fU .neq (bq L d) (.lit (.pointer none))=some (Bo true):=rfl
 rw [e1]
 simp
 split
 ·rename_i h
  refine ap (Jf L d _) ?_
  simp
  simpa [h] using hK Hp.empty
 ·rename_i h
  simpa [h] using hK Hp.empty
def tv (L:List Nd) (e:Nat):Bool:=decide (par L e<0)||decide (mL L (par L e).toNat (b8 L e).toNat<0)
theorem pO {L:List Nd} {N:Nat} {d:List Nat} (hB:ee L N d) {e:Nat} (he:e<N):par L e=-1∨∃ p:Nat,par L e=p∧p<e:=by
 by_cases h0:e=0
 ·subst h0; exact .inl (hB.root he).1
 ·obtain ⟨p,x,h1,h2,_⟩:=hB.step e (by omega) he
  exact .inr ⟨p,h1,h2⟩
end Go.Proofs.YthdcghnjndhecaaGreat.Ev
namespace Go.Proofs.YthdcghnjndhecaaGreat.Ev
set_option linter.unusedVariables false
set_option linter.unusedSimpArgs false
variable {σ:Sig}
def jE (σ:Sig):Prop:=∀ (s t:ByteArray) (H:Hp),s.data.size<4294967281→ar Tryz.prog σ gB [Sx s,Sx t] H (Bo (decide (0≤Go.Lib.index (tl s) (tl t)))) H
theorem qT (c:UInt8) (H:Hp):ar Tryz.prog σ fh [.lit (.int .u8 c.toNat)] H (Bo (wht c)) H:=by
  refine bI (fun K hK=>iP.run ?_) (by simp [aC,bf]) rfl H
  have hK:=hK Hp.empty
  simp only [oz,ae,aq,decide_eq_true_eq]
  split
  · rename_i h
    rwa [show wht c = true by have : c.toNat = 9 := by omega
                              simp [wht,this]] at hK
  rename_i h9
  split
  · rename_i h
    rwa [show wht c = true by have : c.toNat = 10 := by omega
                              simp [wht,this]] at hK
  rename_i h10
  split
  · rename_i h
    rwa [show wht c = true by have : c.toNat = 12 := by omega
                              simp [wht,this]] at hK
  rename_i h12
  split
  · rename_i h
    rwa [show wht c = true by have : c.toNat = 13 := by omega
                              simp [wht,this]] at hK
  rename_i h13
  have e:wht c=decide ((c.toNat:Int)=32):=by
    have a9:¬ c.toNat=9:=by omega
    have a10:¬ c.toNat=10:=by omega
    have a12:¬ c.toNat=12:=by omega
    have a13:¬ c.toNat=13:=by omega
    by_cases h:c.toNat=32
    · simp [wht,h]
    · have h':¬ ((c.toNat:Int)=32):=by omega
      simp [wht,a9,a10,a12,a13,h,h']
  rwa [e] at hK
theorem EW (s p:ByteArray) (H:Hp):ar Tryz.prog σ bF [Sx s,Sx p] H (Bo (pY (tl s) (tl p))) H:=by
 refine bI (fun K hK=>ca.run ?_) (by simp [aC,bf]) rfl H
 simp only [kD,ae,oW,aq,decide_eq_true_eq]
 split
 ·rename_i h
  rw [ta (by omega),ae]
  simp only [o_,ae]
  have:=BK (tl s) (tl p) (by rw [fG,fG]; omega)
  rw [fG,CO] at this
  rw [this]
  exact hK _
 ·rename_i h
  have:=u0 (s:=tl s) (p:=tl p) (by rw [fG,fG]; omega)
  rw [this] at hK
  exact hK _
theorem wX (s p:ByteArray) (H:Hp):ar Tryz.prog σ cz [Sx s,Sx p] H (Bo (pY (tl s) (tl p))) H :=
 bI (fun K hK=>eD.run (ap (EW s p _) (hK _))) (by simp [aC,bf]) rfl H
theorem Et (s p:ByteArray) (hs:s.data.size<9000000000000000000) (H:Hp):ar Tryz.prog σ bE [Sx s,Sx p] H (Bo (rG (tl s) (tl p))) H:=by
 refine bI (fun K hK=>cd.run ?_) (by simp [aC,bf]) rfl H
 simp only [kD,ae,oW,aq,decide_eq_true_eq]
 split
 ·rename_i h
  simp only [qn,ae]
  have e:wr .i64 ((s.data.size:Int) - p.data.size)=((s.data.size - p.data.size:Nat):Int):=by rw [eg (by omega) (by omega)]; omega
  rw [e,tM (by omega),ae]
  simp only [o_,ae]
  have:=zH (tl s) (tl p) (by rw [fG,fG]; omega)
  rw [fG,fG,CO] at this
  rw [this]
  exact hK _
 ·rename_i h
  have:=Bx (s:=tl s) (p:=tl p) (by rw [fG,fG]; omega)
  rw [this] at hK
  exact hK _
theorem JR (s p:ByteArray) (hs:s.data.size<9000000000000000000) (H:Hp):ar Tryz.prog σ de [Sx s,Sx p] H (Bo (rG (tl s) (tl p))) H :=
 bI (fun K hK=>eB.run (ap (Et s p hs _) (hK _))) (by simp [aC,bf]) rfl H
def pu (l:List ByteArray) (s:ByteArray):Bool:=l.any fun x=>decide (x=s)
theorem Iu {l:List ByteArray} (hl:l.length≤reachBytes) {s:ByteArray} {K:AV→Hp→Prop}:∀ (m k:Nat) (H:Hp),l.length - m=k→m≤l.length→(∀ H,K (Bo (pu (l.drop m) s)) H)→cF.L0 σ K (Sx s) (dq l) (I l.length) (I m) H:=by
 intro m k
 revert m
 induction k with
 | zero =>
  intro m H hk hm hK
  have:m=l.length:=by omega
  subst this
  refine cF.L0_step ?_
  simp
  simpa [pu] using hK H
 | succ k ih =>
  intro m H hk hm hK
  have hlt:m<l.length:=by omega
  obtain ⟨x,hx⟩:=bQ hlt
  rw [cn hx] at hK
  refine cF.L0_step ?_
  simp [dq,hlt,cj hx]
  split
  ·rename_i h
   have:=hK H
   simpa [pu,h] using this
  ·rename_i h
   rw [dE hlt hl (by decide)]
   refine ih (m+1) H (by omega) (by omega) fun H'=>?_
   have:=hK H'
   simpa [pu,h] using this
theorem HB (l:List ByteArray) (hl:l.length≤reachBytes) (s:ByteArray) (H:Hp):ar Tryz.prog σ gM [dq l,Sx s] H (Bo (pu l s)) H:=by
 refine bI (fun K hK=>cF.run ?_) (by simp [aC,bf]) rfl H
 simp
 exact Iu hl 0 _ _ rfl (Nat.zero_le _) (by simpa using hK)
section
attribute [local irreducible] av.L0 av.L1
theorem rL {js:Nat→AV} {K:AV→Hp→Prop} {H:Hp} {w t:ByteArray} {b:AV} (g0:H.get 0=some (.cells [Sx t] true)) (g1:H.get 1=some (.cells [b] true)) (g3:H.get 3=some (.loop (aM.R0 js (.ptr 0 0) (.ptr 1 0)) .ready none))
  (hT:w=t→K (Bo false) (((H.set 3 (some (.loop (aM.R0 js (.ptr 0 0) (.ptr 1 0)) .busy none))).set 1 (some (.cells [Bo true] true))).set 3 (some (.loop (aM.R0 js (.ptr 0 0) (.ptr 1 0)) .done (some .ret)))))
  (hF:w≠t→K (Bo true) ((H.set 3 (some (.loop (aM.R0 js (.ptr 0 0) (.ptr 1 0)) .busy none))).set 3 (some (.loop (aM.R0 js (.ptr 0 0) (.ptr 1 0)) .ready none)))):fp Tryz.prog σ (.yl 3) [Sx w] H K:=by
 refine aM.R0_round g3 ⟨g3,?_⟩
 simp only [ae,aW,ay]
 simp only [show ¬ ((0:Nat)=3) by decide,if_false,g0,bm,List.drop_zero,iH,ae,o_,aq,decide_eq_true_eq]
 split
 ·rename_i h
  simp only [pm,ay,show ¬ ((1:Nat)=3) by decide,if_false,g1,cq]
  rw [if_pos (by simp),ae]
  refine ⟨by simp,?_⟩
  simpa using hT h
 ·rename_i h
  exact ⟨by simp,hF h⟩
theorem ld2 {H:Hp} {id:Nat} {x:AV} (g:H.get id=some (.cells [x] true)):ldA false 1 H (.ptr id 0)=some x:=by simp [g]
theorem zO {js:Nat→AV} {K:AV→Hp→Prop} {t:ByteArray} {b:AV} {N:Nat} (hN:N<9000000000000000000):∀ (f:Nat) (l:List UInt8) (H:Hp) (y3:AV),l.length<f→l.length≤N→H.get 0=some (.cells [Sx t] true)→H.get 1=some (.cells [b] true)→H.get 2=some (.cells [Sx (mk l)] true)→H.get 3=some (.loop (aM.R0 js (.ptr 0 0) (.ptr 1 0)) .ready none) →
  (tl t ∈ jh l→∀ H,H.get 1=some (.cells [Bo true] true)→H.get 3=some (.loop (aM.R0 js (.ptr 0 0) (.ptr 1 0)) .done (some .ret))→K (.tup []) H) →
  (tl t ∉ jh l→∀ H,H.get 1=some (.cells [b] true)→H.get 3=some (.loop (aM.R0 js (.ptr 0 0) (.ptr 1 0)) .ready none)→K (.tup []) H) →
  av.L0 σ K (.yl 3) (.ptr 2 0) y3 H:=by
 intro f
 induction f with
 | zero=>intro l H y3 h; omega
 | succ f ih =>
  intro l H y3 hf hlN g0 g1 g2 g3 hT hF
  refine av.L0_step ?_
  simp only [ld2 g2,ae,IL,aq]
  by_cases hl:l=[]
  ·subst hl
   simp only [show (mk []=(⟨#[]⟩:ByteArray)) from rfl,decide_true,Bool.not_true,Bool.false_eq_true,if_false]
   exact hF (by simp [sT]) H g1 g3
  ·have hmk:¬ (mk l=⟨#[]⟩):=fun h=>hl (sd (h.trans (show (⟨#[]⟩:ByteArray)=mk [] from rfl)))
   have hpos:0<l.length:=List.length_pos_iff.2 hl
   simp only [hmk,decide_false,Bool.not_false,if_true]
   have hwl:=He l
   rw [ut hl] at hT hF
   have hsz:(mk l).data.size=l.length:=GO l
   have rest:∀ (H:Hp),H.get 0=some (.cells [Sx t] true)→H.get 1=some (.cells [b] true)→H.get 2=some (.cells [Sx (mk l)] true)→H.get 3=some (.loop (aM.R0 js (.ptr 0 0) (.ptr 1 0)) .ready none) →
     (wl l=0∨tl t≠l.take (wl l)) →
     bnd (ldA false 1 H (.ptr 2 0)) fun x23=>bnd (am .add (I (wl l:Nat)) (I 1)) fun x24=>bnd (ldA false 1 H (.ptr 2 0)) fun x25=>bnd (dI x25) fun x26=>bnd (jT [x24,x26]) fun x27=>bnd (eV x23 (some x27) none) fun x28=>bnd (stA 1 H (.ptr 2 0) x28) fun H29=>av.L0 σ K (.yl 3) (.ptr 2 0) (I (wl l:Nat)) H29:=by
    intro H g0 g1 g2 g3 hno
    simp only [ld2 g2,ae,ia,kD,hsz]
    rw [df (by omega)]
    have hmin:jT [I ((wl l+1:Nat):Int),I (l.length:Int)]=some (I ((min (wl l+1) l.length:Nat):Int)):=by
     simp only [jT,toI,List.foldl,gL]
     congr 2
     split
     ·congr 2; omega
     ·congr 2; omega
    rw [hmin,ae,tM (by rw [hsz]; omega),ae]
    simp only [J4,g2,cq]
    rw [if_pos (by simp),ae,lT]
    have hdrop:l.drop (min (wl l+1) l.length)=l.drop (wl l+1):=by
     by_cases h:wl l+1≤l.length
     ·rw [Nat.min_eq_left h]
     ·rw [Nat.min_eq_right (by omega),List.drop_of_length_le (Nat.le_refl _),List.drop_of_length_le (by omega)]
    rw [hdrop]
    refine ih (l.drop (wl l+1)) _ _ (by simp; omega) (by simp; omega) (by simp [g0]) (by simp [g1]) (by simp) (by simp [g3]) (fun h=>hT ?_) (fun h=>hF ?_)
    ·split
     ·rename_i h0; rw [h0] at h; exact h
     ·exact List.mem_cons_of_mem _ h
    ·split
     ·rename_i h0; rw [h0] at h; exact h
     ·rename_i h0
      rcases hno with h1 | h1
      ·exact absurd h1 h0
      ·intro hm
       rcases List.mem_cons.1 hm with h2 | h2
       ·exact h1 h2
       ·exact h h2
   have stop:∀ (H:Hp),H.get 0=some (.cells [Sx t] true)→H.get 1=some (.cells [b] true)→H.get 2=some (.cells [Sx (mk l)] true)→H.get 3=some (.loop (aM.R0 js (.ptr 0 0) (.ptr 1 0)) .ready none) →
     bnd (am .gtr (I (wl l:Nat)) (I 0)) fun x10=>ifB x10 (bnd (ldA false 1 H (.ptr 2 0)) fun x11=>bnd (eV x11 none (some (I (wl l:Nat)))) fun x12=>fp Tryz.prog σ (.yl 3) [x12] H fun x13 H14=>bnd (unR .not x13) fun x15=>ifB x15 (K (.tup []) H14) (bnd (ldA false 1 H14 (.ptr 2 0)) fun x16=>bnd (am .add (I (wl l:Nat)) (I 1)) fun x17=>bnd (ldA false 1 H14 (.ptr 2 0)) fun x18=>bnd (dI x18) fun x19=>bnd (jT [x17,x19]) fun x20=>bnd (eV x16 (some x20) none) fun x21=>bnd (stA 1 H14 (.ptr 2 0) x21) fun H22=>av.L0 σ K (.yl 3) (.ptr 2 0) (I (wl l:Nat)) H22))
      (bnd (ldA false 1 H (.ptr 2 0)) fun x23=>bnd (am .add (I (wl l:Nat)) (I 1)) fun x24=>bnd (ldA false 1 H (.ptr 2 0)) fun x25=>bnd (dI x25) fun x26=>bnd (jT [x24,x26]) fun x27=>bnd (eV x23 (some x27) none) fun x28=>bnd (stA 1 H (.ptr 2 0) x28) fun H29=>av.L0 σ K (.yl 3) (.ptr 2 0) (I (wl l:Nat)) H29):=by
    intro H g0 g1 g2 g3
    simp only [pX,ae,aq,decide_eq_true_eq]
    split
    ·rename_i h0
     have h0':wl l≠0:=by omega
     rw [if_neg h0'] at hT hF
     simp only [ld2 g2,ae]
     rw [ta (by rw [hsz]; omega),ae,lT]
     refine rL g0 g1 g3 (fun he=>?_) (fun he=>?_)
     ·simp only [fW,ae,aq,Bool.not_false,if_true]
      refine hT ?_ _ (by simp) (by simp)
      rw [← he,lT]; simp
     ·simp only [fW,ae,aq,Bool.not_true,Bool.false_eq_true,if_false]
      refine rest _ ?_ ?_ ?_ ?_ (.inr fun h=>he ?_)
      ·simp [g0]
      ·simp [g1]
      ·simp [g2]
      ·simp
      ·rw [← h,CO]
    ·rename_i h0
     exact rest H g0 g1 g2 g3 (.inl (by omega))
   have L1:∀ (m k:Nat) (H:Hp),wl l - k=m→k≤wl l→H.get 0=some (.cells [Sx t] true)→H.get 1=some (.cells [b] true)→H.get 2=some (.cells [Sx (mk l)] true)→H.get 3=some (.loop (aM.R0 js (.ptr 0 0) (.ptr 1 0)) .ready none)→av.L1 σ K (.yl 3) (.ptr 2 0) (I (k:Int)) H:=by
    intro m
    induction m with
    | zero =>
     intro k H hm hk g0 g1 g2 g3
     have:k=wl l:=by omega
     subst this
     refine av.L1_step ?_
     simp only [ld2 g2,ae,kD,hsz,c9,aq,decide_eq_true_eq]
     split
     ·rename_i hlt
      obtain ⟨c,hc⟩:=bQ (l:=l) (k:=wl l) (by omega)
      rw [yE (by rw [lT]; exact hc),ae]
      refine ap (qT c H) ?_
      rw [Hl hc]
      simp only [fW,ae,aq,Bool.not_true,Bool.false_eq_true,if_false]
      exact stop H g0 g1 g2 g3
     ·have:=stop H g0 g1 g2 g3
      simp only [ld2 g2,ae] at this
      exact this
    | succ m ihm =>
     intro k H hm hk g0 g1 g2 g3
     obtain ⟨c,hc,hw⟩:=Hm (l:=l) (k:=k) (by omega)
     have hkl:=(List.getElem?_eq_some_iff.1 hc).1
     refine av.L1_step ?_
     have h1:(k:Int)<l.length:=by omega
     simp only [ld2 g2,ae,kD,hsz,c9,aq,decide_eq_true_eq,h1,if_true]
     rw [yE (by rw [lT]; exact hc),ae]
     refine ap (qT c H) ?_
     rw [hw]
     simp only [fW,ae,aq,Bool.not_false,if_true,ia]
     rw [df (by omega)]
     exact ihm (k+1) H (by omega) (by omega) g0 g1 g2 g3
   exact L1 _ 0 H rfl (Nat.zero_le _) g0 g1 g2 g3
end
def qG (s t:ByteArray):Bool:=decide (tl t ∈ jh (tl s))
theorem Ez (s t:ByteArray) (hs:s.data.size<9000000000000000000) (H:Hp):ar Tryz.prog σ fL [Sx s,Sx t] H (Bo (qG s t)) H:=by
 refine bI (fun K hK=>aM.run ?_) (by simp [aC,bf]) rfl H
 have hbx:∀ (x:ByteArray) (H:Hp) (K:AV→Hp→Prop),cL (Sx x) H K=K (.ptr H.n 0) (H.new (.cells [Sx x] true)):=fun x H K=>nH rfl rfl H K
 rw [hbx]
 simp only [bG]
 refine iX.run ?_
 rw [hbx]
 intro js
 simp only [oS]
 refine av.run ?_
 refine zO (js:=js) (t:=t) (b:=Bo false) (N:=(tl s).length) (by rw [fG]; exact hs) ((tl s).length+1) (tl s) _ _ (by omega) (Nat.le_refl _) (by simp [Hp.empty]) (by simp [Hp.empty]) (by simp [Hp.empty]) (by simp [Hp.empty]) (fun hm H g1 g3=>?_) (fun hm H g1 g3=>?_)
 ·have e3:H.get (((Hp.empty.new (Blk.cells [Sx t] true)).new (Blk.cells [AV.lit (Value.bool false)] true)).new (Blk.cells [Sx s] true)).n=some (.loop (aM.R0 js (.ptr 0 0) (.ptr 1 0)) .done (some .ret)):=g3
  rw [e3,Cx]
  have g1':(H.set (((Hp.empty.new (Blk.cells [Sx t] true)).new (Blk.cells [AV.lit (Value.bool false)] true)).new (Blk.cells [Sx s] true)).n none).get (Hp.empty.new (Blk.cells [Sx t] true)).n=some (.cells [Bo true] true):=by
   rw [ay,if_neg (by simp [Hp.empty])]; exact g1
  rw [ld2 g1',ae]
  have:=hK (H.set (((Hp.empty.new (Blk.cells [Sx t] true)).new (Blk.cells [AV.lit (Value.bool false)] true)).new (Blk.cells [Sx s] true)).n none)
  simpa [qG,hm] using this
 ·have e3:H.get (((Hp.empty.new (Blk.cells [Sx t] true)).new (Blk.cells [AV.lit (Value.bool false)] true)).new (Blk.cells [Sx s] true)).n=some (.loop (aM.R0 js (.ptr 0 0) (.ptr 1 0)) .ready none):=g3
  rw [e3,mY]
  have g1':(H.set (((Hp.empty.new (Blk.cells [Sx t] true)).new (Blk.cells [AV.lit (Value.bool false)] true)).new (Blk.cells [Sx s] true)).n none).get (Hp.empty.new (Blk.cells [Sx t] true)).n=some (.cells [Bo false] true):=by
   rw [ay,if_neg (by simp [Hp.empty])]; exact g1
  rw [pm,g1',cq,if_pos (by simp),ae,ld2 (x:=Bo false) (by simp),ae]
  have hw:qG s t=false:=by simp [qG,hm]
  rw [hw] at hK
  exact hK _
def emp:ByteArray:=⟨#[]⟩
def soB (s:ByteArray) (a:At):Bool :=
 if a.op=0 then true else if a.op=1 then decide (s=a.text) else if a.op=2 then !decide (a.text=emp)&&qG s a.text
 else if a.op=3 then decide (s=a.text)||pY (tl s) (tl a.text++[45]) else if a.op=4 then !decide (a.text=emp)&&pY (tl s) (tl a.text)
 else if a.op=5 then !decide (a.text=emp)&&rG (tl s) (tl a.text) else if a.op=6 then !decide (a.text=emp)&&decide (0≤Go.Lib.index (tl s) (tl a.text)) else false
structure Ga (a:At):Prop where
 text:a.text.data.size≤reachBytes
theorem La (hC:jE σ) (s:ByteArray) (hs:s.data.size<4294967281) (a:At) (ha:Ga a) (H:Hp):ar Tryz.prog σ il [Sx s,.agg (dn a)] H (Bo (soB s a)) H:=by
 refine bI (fun K hK=>nu.run ?_) (by simp [aC,bf,pj]) rfl H
 have ht:=ha.text
 rw [eL] at ht
 have g:∀ {H:Hp} {j:Nat},True:=fun {_ _}=>trivial
 simp [dn]
 unfold soB at hK
 split
 ·rename_i h; simp [h] at hK; exact hK _
 rename_i h0
 simp only [h0,if_false] at hK
 split
 ·rename_i h
  have:=hK (Hp.empty.new (.cells (dn a) true))
  rw [if_pos h] at this
  simpa [dn] using this
 rename_i h1
 simp only [h1,if_false] at hK
 split
 ·rename_i h
  simp only [h,if_true] at hK
  split
  ·rename_i he
   have he':a.text=emp:=he
   simp [he'] at hK
   exact hK _
  ·rename_i he
   have he':¬ (a.text=emp):=he
   simp [he'] at hK
   exact ap (Ez s a.text (by omega) _) (hK _)
 rename_i h2
 simp only [h2,if_false] at hK
 split
 ·rename_i h
  simp only [h,if_true] at hK
  split
  ·rename_i he
   simp [he] at hK
   exact hK _
  ·rename_i he
   simp [he] at hK
   rw [HL (by show a.text.data.size+1≤_; omega),ae]
   have:=wX (σ:=σ) s (mk (tl a.text++tl ⟨#[45]⟩))
   rw [lT] at this
   exact ap (this _) (hK _)
 rename_i h3
 simp only [h3,if_false] at hK
 split
 ·rename_i h
  simp only [h,if_true] at hK
  split
  ·rename_i he
   have he':a.text=emp:=he
   simp [he'] at hK
   exact hK _
  ·rename_i he
   have he':¬ (a.text=emp):=he
   simp [he'] at hK
   exact ap (wX s a.text _) (hK _)
 rename_i h4
 simp only [h4,if_false] at hK
 split
 ·rename_i h
  simp only [h,if_true] at hK
  split
  ·rename_i he
   have he':a.text=emp:=he
   simp [he'] at hK
   exact hK _
  ·rename_i he
   have he':¬ (a.text=emp):=he
   simp [he'] at hK
   exact ap (JR s a.text (by omega) _) (hK _)
 rename_i h5
 simp only [h5,if_false] at hK
 split
 ·rename_i h
  simp only [h,if_true] at hK
  split
  ·rename_i he
   have he':a.text=emp:=he
   simp [he'] at hK
   exact hK _
  ·rename_i he
   have he':¬ (a.text=emp):=he
   simp [he'] at hK
   exact ap (hC s a.text _ hs) (hK _)
 ·rename_i h
  simp [h] at hK
  exact hK _
def gZ (l:List (ByteArray × ByteArray)) (a:At):Bool:=match l.find? fun p=>decide (p.1=a.name) with
 | some p=>soB p.2 a
 | none=>false
theorem GN (hC:jE σ) {l:List (ByteArray × ByteArray)} (hl:l.length≤reachBytes) (ht:∀ p ∈ l,p.2.data.size<4294967281) {a:At} (ha:Ga a) {K:AV→Hp→Prop} {y3:Nat}:∀ (m k:Nat) (H:Hp),l.length - m=k→m≤l.length→y3<H.n→H.get y3=some (.cells (dn a) true)→(∀ H,K (Bo (gZ (l.drop m) a)) H)→cb.L0 σ K (.ptr y3 0) (.imm 2 (l.map cI)) (I l.length) (I m) H:=by
 intro m k
 revert m
 induction k with
 | zero =>
  intro m H hk hm hn hg hK
  have:m=l.length:=by omega
  subst this
  refine cb.L0_step ?_
  simp
  simpa [gZ] using hK H
 | succ k ih =>
  intro m H hk hm hn hg hK
  have hlt:m<l.length:=by omega
  obtain ⟨x,hx⟩:=bQ hlt
  have hxl:=ht x (List.mem_of_getElem? hx)
  rw [cn hx] at hK
  have hny:y3≠H.n:=by omega
  have h1:(m:Int)<l.length:=by omega
  refine cb.L0_step ?_
  have hlx:ldL true 2 (cI x)=some (.agg (cI x)):=rfl
  simp only [c9,h1,decide_true,ae,aq,if_true,cj hx,fT,hlx,bG]
  simp [cI,hny,hg,aE]
  simp only [dn,iH,ae,o_,aq,decide_eq_true_eq]
  split
  ·rename_i h
   refine ap (La hC x.2 hxl a ha _) ?_
   have:gZ (x::l.drop (m+1)) a=soB x.2 a:=by simp [gZ,h]
   rw [this] at hK
   exact hK _
  ·rename_i h
   rw [dE hlt hl (by decide)]
   refine ih (m+1) _ (by omega) (by omega) (by simp; omega) (by simp [hny,hg,dn]) fun H'=>?_
   have:gZ (x::l.drop (m+1)) a=gZ (l.drop (m+1)) a:=by simp [gZ,h]
   rw [this] at hK
   exact hK _
theorem F3 (hC:jE σ) (n:Nd) (hl:n.attrs.length≤reachBytes) (ht:∀ p ∈ n.attrs,p.2.data.size<4294967281) (a:At) (ha:Ga a) (H:Hp):ar Tryz.prog σ fN [.agg (a_ n),.agg (dn a)] H (Bo (gZ n.attrs a)) H:=by
 refine bI (fun K hK=>cb.run ?_) (by simp [aC,bf,pj,kJ]) rfl H
 simp [a_]
 exact GN hC hl ht ha 0 _ _ rfl (Nat.zero_le _) (by simp) (by simp) (by simpa using hK)
end Go.Proofs.YthdcghnjndhecaaGreat.Ev
namespace Go.Proofs.YthdcghnjndhecaaGreat.Ev
set_option linter.unusedVariables false
set_option linter.unusedSimpArgs false
variable {σ:Sig}
structure SmN (n:Nd):Prop where
 classes:n.classes.length≤reachBytes
 attrs:n.attrs.length≤reachBytes
 texts:∀ p ∈ n.attrs,p.2.data.size<4294967281
structure pB (c:Cp):Prop where
 ids:c.ids.length≤reachBytes
 classes:c.classes.length≤reachBytes
 attrs:c.attrs.length≤reachBytes
 texts:∀ a ∈ c.attrs,Ga a
 ps:c.pseudos.length≤reachBytes
def uC (n:Nd) (c:Cp):Bool:=decide (c.tag=emp)||decide (c.tag=n.tag)
def idB (n:Nd) (x:ByteArray):Bool:=!decide (x=emp)&&decide (x=n.id)
def nO (n:Nd) (c:Cp):Bool:=uC n c&&(c.ids.all (idB n)&&(c.classes.all (pu n.classes)&&c.attrs.all (gZ n.attrs)))
section
attribute [local irreducible] ak.L0 ak.L1 ak.L2
theorem zK (hC:jE σ) {n:Nd} (hn:SmN n) {c:Cp} (hc:pB c) {K:AV→Hp→Prop} {b7:Nat} {y5 y31 y32 y33 y47 y48 y49:AV}:∀ (m k:Nat) (H:Hp),c.attrs.length - m=k→m≤c.attrs.length→b7<H.n→H.get b7=some (.cells (a_ n) true)→(∀ H,K (Bo ((c.attrs.drop m).all (gZ n.attrs))) H) →
  ak.L2 σ K y5 (.ptr b7 0) y31 y32 y33 y47 y48 y49 (.imm 3 (c.attrs.map dn)) (I c.attrs.length) (I m) H:=by
 intro m k
 revert m
 induction k with
 | zero =>
  intro m H hk hm hb hg hK
  have:m=c.attrs.length:=by omega
  subst this
  refine ak.L2_step ?_
  simp
  simpa using hK H
 | succ k ih =>
  intro m H hk hm hb hg hK
  have hlt:m<c.attrs.length:=by omega
  obtain ⟨x,hx⟩:=bQ hlt
  rw [cn hx] at hK
  have h1:(m:Int)<c.attrs.length:=by omega
  have hny:b7≠H.n:=by omega
  refine ak.L2_step ?_
  simp only [c9,h1,decide_true,ae,aq,if_true,cj hx,fT,Jl,bG]
  simp [dn,hny,hg,aE]
  have e1:ldL true 3 [Sx x.name,I x.op,Sx x.text]=some (.agg (dn x)):=rfl
  rw [e1,ae]
  refine ap (F3 hC n hn.attrs hn.texts x (hc.texts x (List.mem_of_getElem? hx)) _) ?_
  simp only [fW,ae,aq]
  cases hb2:gZ n.attrs x with
  | false =>
   simp
   simp [hb2] at hK
   exact hK _
  | true =>
   simp
   rw [dE hlt hc.attrs (by decide)]
   refine ih (m+1) _ (by omega) (by omega) (by simp; omega) (by simp [hny,hg]) fun H'=>?_
   simp [hb2] at hK
   simpa using hK H'
theorem vA (hC:jE σ) {n:Nd} (hn:SmN n) {c:Cp} (hc:pB c) {K:AV→Hp→Prop} {b5 b7:Nat} {y31 y32 y33 y60 y61 y62:AV}:∀ (m k:Nat) (H:Hp),c.classes.length - m=k→m≤c.classes.length→b7<H.n→H.get b7=some (.cells (a_ n) true)→H.get b5=some (.cells (cR c) true)→(∀ H,K (Bo ((c.classes.drop m).all (pu n.classes)&&c.attrs.all (gZ n.attrs))) H) →
  ak.L1 σ K (.ptr b5 0) (.ptr b7 0) y31 y32 y33 (dq c.classes) (I c.classes.length) (I m) y60 y61 y62 H:=by
 intro m k
 revert m
 induction k with
 | zero =>
  intro m H hk hm hb hg hg5 hK
  have:m=c.classes.length:=by omega
  subst this
  refine ak.L1_step ?_
  simp [hg5]
  exact zK hC hn hc 0 _ H rfl (Nat.zero_le _) hb hg (by simpa using hK)
 | succ k ih =>
  intro m H hk hm hb hg hg5 hK
  have hlt:m<c.classes.length:=by omega
  obtain ⟨x,hx⟩:=bQ hlt
  rw [cn hx] at hK
  refine ak.L1_step ?_
  have h1:(m:Int)<c.classes.length:=by omega
  simp [h1,dq,cj hx,hg]
  refine ap (HB n.classes hn.classes x _) ?_
  simp only [fW,ae,aq]
  cases hb2:pu n.classes x with
  | false =>
   simp
   simp [hb2] at hK
   exact hK _
  | true =>
   simp
   rw [dE hlt hc.classes (by decide)]
   refine ih (m+1) _ (by omega) (by omega) hb hg hg5 fun H'=>?_
   simp [hb2] at hK
   simpa using hK H'
theorem B0 (hC:jE σ) {n:Nd} (hn:SmN n) {c:Cp} (hc:pB c) {K:AV→Hp→Prop} {b5 b7:Nat} {y47 y48 y49 y60 y61 y62:AV}:∀ (m k:Nat) (H:Hp),c.ids.length - m=k→m≤c.ids.length→b7<H.n→H.get b7=some (.cells (a_ n) true)→H.get b5=some (.cells (cR c) true)→(∀ H,K (Bo ((c.ids.drop m).all (idB n)&&(c.classes.all (pu n.classes)&&c.attrs.all (gZ n.attrs)))) H) →
  ak.L0 σ K (.ptr b5 0) (.ptr b7 0) (dq c.ids) (I c.ids.length) (I m) y47 y48 y49 y60 y61 y62 H:=by
 intro m k
 revert m
 induction k with
 | zero =>
  intro m H hk hm hb hg hg5 hK
  have:m=c.ids.length:=by omega
  subst this
  refine ak.L0_step ?_
  simp [hg5]
  exact vA hC hn hc 0 _ H rfl (Nat.zero_le _) hb hg hg5 (by simpa using hK)
 | succ k ih =>
  intro m H hk hm hb hg hg5 hK
  have hlt:m<c.ids.length:=by omega
  obtain ⟨x,hx⟩:=bQ hlt
  rw [cn hx] at hK
  refine ak.L0_step ?_
  have h1:(m:Int)<c.ids.length:=by omega
  simp [h1,dq,cj hx,hg]
  split
  ·rename_i h
   have h':x=emp:=h
   simp [idB,h'] at hK
   exact hK _
  ·rename_i h
   have h':¬ (x=emp):=h
   split
   ·rename_i h2
    have h3:idB n x=true:=by simp [idB,h',← h2]
    simp [h3] at hK
    rw [dE hlt hc.ids (by decide)]
    exact ih (m+1) _ (by omega) (by omega) hb hg hg5 fun H'=>by simpa using hK H'
   ·rename_i h2
    simp [idB,h',h2] at hK
    exact hK _
end
theorem xL (hC:jE σ) {L:List Nd} {d:List Nat} (hN:L.length≤4096) {e:Nat} (he:e<L.length) (hn:SmN (bL (cw L e))) {c:Cp} (hc:pB c) (r:List AV) (hr:aC r=true) (H:Hp) :
  ar Tryz.prog σ dc [.ip (bq L d::r),I (e:Int),.agg (cR c)] H (Bo (nO (bL (cw L e)) c)) H:=by
 refine bI (fun K hK=>ak.run ?_) (by simp [aC,bf,bK,mF,hr]) rfl H
 simp
 refine ap (G6 L d hN he _) ?_
 have hgo:∀ H b5 b7,b7<H.n→H.get b7=some (.cells (a_ (bL (cw L e))) true)→H.get b5=some (.cells (cR c) true)→uC (bL (cw L e)) c=true→ak.L0 σ K (.ptr b5 0) (.ptr b7 0) (dq c.ids) (I c.ids.length) (I 0) (.lit undef) (.lit undef) (.lit undef) (.lit undef) (.lit undef) (.lit undef) H:=by
  intro H b5 b7 hb hg hg5 ht
  unfold nO at hK
  rw [ht,Bool.true_and] at hK
  exact B0 hC hn hc 0 _ H rfl (Nat.zero_le _) hb hg hg5 (by simpa using hK)
 have hov:aP [I 0,Sx ⟨#[]⟩,Sx ⟨#[]⟩,.lit (.slice none 0 0),.lit (.slice none 0 0)] 0 (a_ (bL (cw L e)))=a_ (bL (cw L e)):=aE (by simp)
 simp [hov]
 split
 ·rename_i h
  exact hgo _ _ _ (by simp) (by simp) (by simp) (by simp [uC,show c.tag=emp from h])
 ·rename_i h
  have h':¬ (c.tag=emp):=h
  split
  ·rename_i h2
   refine hgo _ _ _ (by simp) (by simp) (by simp) ?_
   simp [uC,h2]
  ·rename_i h2
   have:uC (bL (cw L e)) c=false:=by simp [uC,h',h2]
   unfold nO at hK
   rw [this,Bool.false_and] at hK
   exact hK _
def Jd (p a b:Int):Bool:=if a=0 then decide (p=b) else if 0<a then decide (b≤p)&&decide ((p - b) % a=0) else decide (p≤b)&&decide ((b - p) % (-a)=0)
theorem wrU (n:Int):wr .u64 n=n % 18446744073709551616:=by
 unfold wr
 simp [IntKind.wrap,IntKind.signed,IntKind.bits]
theorem Ip {n:Int} (h0:0≤n) (h1:n<18446744073709551616):wr .u64 n=n:=by rw [wrU]; omega
theorem KH (a b:Int):wr .u64 (wr .u64 a - wr .u64 b)=(a - b) % 18446744073709551616:=by
 rw [wrU,wrU,wrU]
 omega
theorem HF {p a b:Int} (hp:i64 p) (ha:i64 a) (hb:i64 b) (H:Hp):ar Tryz.prog σ gO [I p,I a,I b] H (Bo (Jd p a b)) H:=by
 refine bI (fun K hK=>lI.run ?_) (by simp [aC,bf]) rfl H
 unfold i64 at hp ha hb
 unfold Jd at hK
 simp
 split
 ·rename_i h
  rw [if_pos h] at hK
  exact hK _
 rename_i h0
 rw [if_neg h0] at hK
 split
 ·rename_i h1
  rw [if_pos h1] at hK
  split
  ·rename_i h2
   have e1:wr .u64 a=a:=Ip (by omega) (by omega)
   have e2:(p - b) % 18446744073709551616=p - b:=by omega
   rw [KH,e1,e2,qS _ _ _ h0,ae,oz,ae]
   have e3:(p - b).tmod a=(p - b) % a:=Int.tmod_eq_emod_of_nonneg (by omega)
   rw [e3]
   simpa [h2] using hK Hp.empty
  ·rename_i h2
   simpa [h2] using hK Hp.empty
 ·rename_i h1
  rw [if_neg h1] at hK
  split
  ·rename_i h2
   have e1:wr .u64 (-wr .u64 a)=-a:=by rw [wrU,wrU]; omega
   have e2:(b - p) % 18446744073709551616=b - p:=by omega
   have h3:(-a)≠0:=by omega
   rw [KH,e2]
   rw [e1,qS _ _ _ h3,ae,oz,ae]
   have e3:(b - p).tmod (-a)=(b - p) % (-a):=Int.tmod_eq_emod_of_nonneg (by omega)
   rw [e3]
   simpa [h2] using hK Hp.empty
  ·rename_i h2
   simpa [h2] using hK Hp.empty
theorem DX (L:List Nd) (e:Nat):(nc L e).length≤e:=by
 have:=List.length_filter_le (fun j:Nat=>decide (0<j)&&decide (par L j=par L e)) (List.range e)
 simp at this
 unfold nc; omega
theorem qC (L:List Nd) (e:Nat):1≤b8 L e∧b8 L e≤(e:Int)+1:=by
 have:=DX L e
 unfold b8; omega
theorem qp {L:List Nd} {d:List Nat} (hB:ee L L.length d) (hN:L.length≤4096) {e:Nat} (he:e<L.length) (r:List AV) (hr:aC r=true) (H:Hp):ar Tryz.prog σ cK [.ip (bq L d::r),I (e:Int)] H (Bo (tv L e)) H:=by
 refine bI (fun K hK=>fe.run ?_) (by simp [aC,bf,bK,hr]) rfl H
 simp
 refine ap (lj L d hN he _) ?_
 simp
 unfold tv at hK
 split
 ·rename_i h
  simpa [h] using hK Hp.empty
 ·rename_i h
  refine ap (ky L d hN he _) ?_
  rcases pO hB he with h1 | ⟨p,h1,h2⟩
  ·omega
  ·have hpl:=qC L e
   obtain ⟨k,hk⟩:∃ k:Nat,b8 L e=k:=⟨(b8 L e).toNat,by omega⟩
   rw [h1,hk] at hK ⊢
   refine ap (qt L d hN (by omega) _) ?_
   have h3:¬ ((p:Int)<0):=by omega
   simp
   simpa [h3] using hK Hp.empty
def bY (L:List Nd) (e:Nat) (k:Int):Int:=if k=1∨k=2 then par L e else if k=3∨k=4 then gc L e else -1
def mr (k:Int):Bool:=decide (k=1)||decide (k=4)
theorem ur {L:List Nd} {d:List Nat} (hN:L.length≤4096) {e:Nat} (he:e<L.length) (k:Int) (r:List AV) (hr:aC r=true) (H:Hp):ar Tryz.prog σ cX [.ip (bq L d::r),I (e:Int),I k] H (.tup [I (bY L e k),Bo (mr k)]) H:=by
 refine bI (fun K hK=>ax.run ?_) (by simp [aC,bf,bK,hr]) (by simp [ey,fJ]) H
 have j0:∀ (b:Bool) (H:Hp),(b=true→k=1∨k=2)→(b=false→¬ (k=1∨k=2))→ax.J0 σ K (.ip (bq L d::r)) (I (e:Int)) (I k) (I k) (Bo b) (.lit undef) H:=by
  intro b H h1 h2
  refine ax.J0_step ?_
  cases b with
  | true =>
   have h:=h1 rfl
   simp
   refine ap (lj L d hN he _) ?_
   have h4:¬ (k=4):=by omega
   simpa [bY,mr,h,h4] using hK H
  | false =>
   have h:=h2 rfl
   have j1:∀ (c:Bool),(c=true→k=3∨k=4)→(c=false→¬ (k=3∨k=4))→ax.J1 σ K (.ip (bq L d::r)) (I (e:Int)) (I k) (I k) (Bo false) (Bo c) H:=by
    intro c h3 h4
    refine ax.J1_step ?_
    have h5:¬ (k=1):=by omega
    cases c with
    | true =>
     have h6:=h3 rfl
     simp
     refine ap (uc L d hN he _) ?_
     have h7:bY L e k=gc L e:=by unfold bY; rw [if_neg h,if_pos h6]
     have h8:mr k=decide (k=4):=by unfold mr; simp [h5]
     rw [h7,h8] at hK
     exact hK H
    | false =>
     have h6:=h4 rfl
     have h7:bY L e k=-1:=by unfold bY; rw [if_neg h,if_neg h6]
     have h8:mr k=false:=by unfold mr; simp; omega
     rw [h7,h8] at hK
     exact hK H
   simp
   split
   ·rename_i h3
    exact j1 (decide (k=3)) (fun _=>.inl h3) (fun h=>by simp [h3] at h)
   ·rename_i h3
    refine j1 _ (fun h=>.inr (by simpa using h)) (fun h=>?_)
    simp at h
    omega
 simp
 split
 ·rename_i h
  exact j0 (decide (k=1)) _ (fun _=>.inl h) (fun h'=>by simp [h] at h')
 ·rename_i h
  refine j0 _ _ (fun h=>.inr (by simpa using h)) (fun h'=>?_)
  simp at h'
  omega
end Go.Proofs.YthdcghnjndhecaaGreat.Ev
namespace Go.Proofs.YthdcghnjndhecaaGreat.Ev
set_option linter.unusedVariables false
set_option linter.unusedSimpArgs false
variable {σ:Sig}
structure Lk where
 part:Pt
 lists:List (List Nat)
def nz (n:Nat):List AV:=[I (n:Int)]
def jm (l:List Nat):AV:=.imm 1 (l.map nz)
def cD (x:Lk):List AV:=ba x.part++[.imm 1 (x.lists.map fun l=>[jm l])]
def fF (c:List Lk):AV:=.imm 7 (c.map cD)
theorem oQ (l:List Nat):bf (jm l)=true:=by unfold jm; simp only [bf]; exact bi _ (fun _=>rfl) _
theorem EX (x:Lk):aC (cD x)=true:=by
 unfold cD
 exact lJ (tL _) (by simp only [aC,bf,bi _ (show ∀ l,aC [jm l]=true from fun l=>by simp [aC,oQ]),Bool.and_self])
@[simp] theorem HW (x:Lk):(cD x).length=7:=by simp [cD]
def hJ (n i e:Nat) (a:Bool):List AV:=[I (n:Int),I (i:Int),I (e:Int),Bo a]
abbrev qKK:List KK:=[.int .i64,.int .i64,.int .i64,.bool]
theorem xu {n i e n' i' e':Nat} {a a':Bool} (h:hJ n i e a=hJ n' i' e' a'):n=n'∧i=i'∧e=e'∧a=a':=by
 simp only [hJ,List.cons.injEq,AV.lit.injEq,Value.int.injEq,Value.bool.injEq,true_and,and_true] at h
 exact ⟨by omega,by omega,by omega,h.2.2.2⟩
def jf (N:Nat) (T:Nat→Nat→Nat→Bool→Bool) (es:List (AV × AV)):Prop:=∀ p ∈ es,∃ n i e a,n<N∧p=(.agg (hJ n i e a),Bo (T n i e a))∧kOk true qKK p.1=true
theorem o9 {N:Nat} {T:Nat→Nat→Nat→Bool→Bool}:∀ {es:List (AV × AV)},jf N T es→∀ n i e a,gg (.agg (hJ n i e a)) es=none∨gg (.agg (hJ n i e a)) es=some (Bo (T n i e a))
 | [],_,n,i,e,a=>.inl rfl
 | (x,y)::r,h,n,i,e,a=>by
  obtain ⟨n',i',e',a',_,hp,_⟩:=h (x,y) (by simp)
  cases hp
  unfold gg
  by_cases he:AV.agg (hJ n' i' e' a')=.agg (hJ n i e a)
  ·rw [if_pos he]
   obtain ⟨rfl,rfl,rfl,rfl⟩:=xu (AV.agg.inj he)
   exact .inr rfl
  ·rw [if_neg he]
   exact o9 (fun p hp=>h p (by simp [hp])) n i e a
theorem qQ {N:Nat} {T:Nat→Nat→Nat→Bool→Bool} {n i e:Nat} {a:Bool} (hnN:n<N) (hk:kOk true qKK (.agg (hJ n i e a))=true):∀ {es:List (AV × AV)},jf N T es→jf N T (jV (.agg (hJ n i e a)) (Bo (T n i e a)) es)
 | [],_=>fun p hp=>by
  simp [jV] at hp
  subst hp
  exact ⟨n,i,e,a,hnN,rfl,hk⟩
 | (x,y)::r,h=>by
  obtain ⟨n',i',e',a',hn',hp,hk'⟩:=h (x,y) (by simp)
  cases hp
  unfold jV
  by_cases he:AV.agg (hJ n' i' e' a')=.agg (hJ n i e a)
  ·rw [if_pos he]
   intro p hp
   rcases List.mem_cons.1 hp with rfl | hp
   ·exact ⟨n,i,e,a,hnN,by rw [he],by rw [he]; exact hk⟩
   ·exact h p (by simp [hp])
  ·rw [if_neg he]
   intro p hp
   rcases List.mem_cons.1 hp with rfl | hp
   ·exact ⟨n',i',e',a',hn',rfl,hk'⟩
   ·exact qQ hnN hk (fun p hp=>h p (by simp [hp])) p hp
theorem qc {N:Nat} {T:Nat→Nat→Nat→Bool→Bool} {es:List (AV × AV)} (h:jf N T es):es.all (fun p=>kOk true qKK p.1)=true:=by
 rw [List.all_eq_true]
 intro p hp
 obtain ⟨n,i,e,a,_,_,hk⟩:=h p hp
 exact hk
structure eU (t:AV) (C:List (List Lk)) (T:Nat→Nat→Nat→Bool→Bool) (ab mb:Nat) (cs:AV) (H:Hp):Prop where
 gab:H.get ab=some (.cells [t,cs,.mp mb] true)
 nab:ab<H.n
 nmb:mb<H.n
 ne:ab≠mb
 gcs:Gs 1 H cs (C.map fun c=>[fF c])
 csm:¬ own cs mb
 memo:∃ es,H.get mb=some (.map es)∧jf C.length T es
structure Kp (mb:Nat) (H H':Hp):Prop where
 up:H.n≤H'.n
 get:∀ (j:Nat),j<H.n→j≠mb→H'.get j=H.get j
theorem Kp.refl (mb:Nat) (H:Hp):Kp mb H H:=⟨Nat.le_refl _,fun _ _ _=>rfl⟩
theorem Kp.trans {mb:Nat} {H H1 H2:Hp} (h:Kp mb H H1) (k:Kp mb H1 H2):Kp mb H H2:=⟨Nat.le_trans h.up k.up,fun j hj hne=>by rw [k.get j (Nat.lt_of_lt_of_le hj h.up) hne,h.get j hj hne]⟩
theorem Kp.new (mb:Nat) (H:Hp) (b:Blk):Kp mb H (H.new b):=by
 refine ⟨by simp,fun j hj _=>?_⟩
 have:j≠H.n:=by omega
 simp [this]
theorem Kp.setN {mb:Nat} {H H':Hp} (h:Kp mb H H') {j:Nat} (hj:H.n≤j) (b:Option Blk):Kp mb H (H'.set j b):=by
 refine ⟨by simpa using h.up,fun i hi hne=>?_⟩
 have:i≠j:=by omega
 simp [this]; exact h.get i hi hne
theorem eU.keep {t:AV} {C:List (List Lk)} {T:Nat→Nat→Nat→Bool→Bool} {ab mb:Nat} {cs:AV} {H H':Hp} (h:eU t C T ab mb cs H) (hn:H.n≤H'.n) (hg:∀ j,j<H.n→H'.get j=H.get j):eU t C T ab mb cs H':=by
 obtain ⟨es,he,hm⟩:=h.memo
 exact ⟨by rw [hg _ h.nab]; exact h.gab,Nat.lt_of_lt_of_le h.nab hn,Nat.lt_of_lt_of_le h.nmb hn,h.ne,h.gcs.keep (fun j hj=>hg j (h.gcs.lt hj)) hn,h.csm,es,by rw [hg _ h.nmb]; exact he,hm⟩
theorem eU.new {t:AV} {C:List (List Lk)} {T:Nat→Nat→Nat→Bool→Bool} {ab mb:Nat} {cs:AV} {H:Hp} (h:eU t C T ab mb cs H) (b:Blk):eU t C T ab mb cs (H.new b):=by
 refine h.keep (by simp) fun j hj=>?_
 have:j≠H.n:=by omega
 simp [this]
theorem eU.setN {t:AV} {C:List (List Lk)} {T:Nat→Nat→Nat→Bool→Bool} {ab mb:Nat} {cs:AV} {H0 H:Hp} (h0:eU t C T ab mb cs H0) (h:eU t C T ab mb cs H) {j:Nat} (hj:H0.n≤j) (b:Option Blk):eU t C T ab mb cs (H.set j b):=by
 obtain ⟨es,he,hm⟩:=h.memo
 have a1:=h0.nab
 have a2:=h0.nmb
 have e1:ab≠j:=by omega
 have e2:mb≠j:=by omega
 refine ⟨by simp [e1,h.gab],by simpa using h.nab,by simpa using h.nmb,h.ne,h.gcs.keep (fun i hi=>?_) (by simp),h.csm,es,by simp [e2,he],hm⟩
 have:=h0.gcs.lt hi
 have:i≠j:=by omega
 simp [this]
theorem eU.pure {L:List Nd} {d:List Nat} {C:List (List Lk)} {T:Nat→Nat→Nat→Bool→Bool} {ab mb:Nat} {cs:AV} {H:Hp} (h:eU (bq L d) C T ab mb cs H) {f:Nat} {xs:List AV} {r:AV}
  (hg:ar Tryz.prog σ f (.ip (bq L d::[])::xs) Hp.empty r Hp.empty) (hx:aC xs=true) (hr:ey r=true):ar Tryz.prog σ f (.ptr ab 0::xs) H r H:=by
 refine hg.frzA (.cons (.ptr (fun _=>bq L d) h.gab (fun j y hj=>?_) (fun j y hj=>?_)) (FzL.refl hx)) hr
 ·have:j=0:=by have:=(List.getElem?_eq_some_iff.1 hj).1; simp at this; omega
  subst this; simp
 ·have:j=0:=by have:=(List.getElem?_eq_some_iff.1 hj).1; simp at this; omega
  subst this
  simp at hj; subst hj
  exact .refl (bK L d)
theorem tF {t:AV} {C:List (List Lk)} {T:Nat→Nat→Nat→Bool→Bool} {ab mb:Nat} {cs:AV} {H:Hp} (h:eU t C T ab mb cs H) {n i e:Nat} {a:Bool} (hnN:n<C.length) (hk:kOk true qKK (.agg (hJ n i e a))=true) {fv:AV} {K:AV→Hp→Prop}
  (how:∀ H1 (K1:AV→Hp→Prop),eU t C T ab mb cs H1→Kp mb H H1→(∀ H2,eU t C T ab mb cs H2→Kp mb H1 H2→K1 (Bo (T n i e a)) H2)→fp Tryz.prog σ fv [] H1 K1)
  (hK:∀ H',eU t C T ab mb cs H'→Kp mb H H'→K (Bo (T n i e a)) H'):az Tryz.prog σ cO [.ptr ab 0,.agg (hJ n i e a),fv] H K:=by
 obtain ⟨es,hes,hm⟩:=h.memo
 have e1:ab≠H.n:=by have:=h.nab; omega
 have e2:mb≠H.n:=by have:=h.nmb; omega
 refine fc.run ?_
 have hl:ldL true 4 (hJ n i e a)=some (.agg (hJ n i e a)):=rfl
 simp only [fk,mV,ae,cM,Nat.zero_add,aW,bt,e1,if_false,if_true,h.gab,bm,List.drop_zero,hl]
 simp only [List.drop,iH,ae,nV,bt,e2,if_false,hes,hk,qc hm,Bool.and_self,cond_true]
 rcases o9 hm n i e a with hf | hf
 ·rw [hf]
  simp [um]
  refine how _ _ (h.new _) (Kp.new _ _ _) fun H2 h2 k2=>?_
  obtain ⟨es2,hes2,hm2⟩:=h2.memo
  have hbox:H2.get H.n=some (.cells (hJ n i e a) true):=by rw [k2.get H.n (by simp) (Ne.symm e2)]; simp
  simp only [h2.gab,bm,List.drop_succ_cons,List.drop_zero,iH,ae,hbox,hl,x_,hes2,hk,qc hm2,uW,Bool.not_false,Bool.and_self,cond_true]
  refine hK _ ?_ ?_
  ·refine ⟨by simp [h2.ne,h2.gab],by simpa using h2.nab,by simpa using h2.nmb,h2.ne,h2.gcs.keep (fun j hj=>?_) (by simp),h2.csm,_,by simp,qQ hnN hk hm2⟩
   have:j≠mb:=fun e=>h2.csm (e ▸ hj)
   simp [this]
  ·have:=(Kp.new mb H (.cells (hJ n i e a) true)).trans k2
   exact ⟨by simpa using this.up,fun j hj hne=>by simp [hne]; exact this.get j hj hne⟩
 ·rw [hf]
  simp [um]
  exact hK _ (h.new _) (Kp.new _ _ _)
end Go.Proofs.YthdcghnjndhecaaGreat.Ev
namespace Go.Proofs.YthdcghnjndhecaaGreat.Ev
set_option linter.unusedVariables false
set_option linter.unusedSimpArgs false
variable {σ:Sig}
def qu (c:Cp):Prop:=c.ids.length≤5∧c.classes.length≤5∧c.attrs.length≤5∧c.pseudos.length≤5
def oh:Nat→List Sl→Prop
 | 0,_=>False
 | f+1,l=>∀ s ∈ l,s.length≤60∧∀ p ∈ s,qu p.c∧∀ q ∈ p.c.pseudos,oh f q.list
def vI (f:Nat) (s:Sl):Prop:=s.length≤60∧∀ p ∈ s,qu p.c∧∀ q ∈ p.c.pseudos,oh f q.list
def L5 (f:Nat) (p:Pt):Prop:=qu p.c∧∀ q ∈ p.c.pseudos,oh f q.list
end Go.Proofs.YthdcghnjndhecaaGreat.Ev
namespace Go.Proofs.YthdcghnjndhecaaGreat.Ev
set_option linter.unusedVariables false
set_option linter.unusedSimpArgs false
variable {σ:Sig}
def fu (g:Nat→Bool) (L:List Nd) (k:Int):Nat→Nat→Bool
 | 0,_=>false
 | f+1,e=>decide (0≤bY L e k)&&(g (bY L e k).toNat||(mr k&&fu g L k f (bY L e k).toNat))
def gE (any:List Sl→Nat→Bool) (L:List Nd) (e:Nat) (q:Ps):Bool :=
 if q.kind=1 then decide (par L e<0) else if q.kind=2 then decide (b8 L e=1) else if q.kind=3 then tv L e else if q.kind=4 then decide (b8 L e=1)&&tv L e
 else if q.kind=5 then decide (mL L e 0<0) else if q.kind=6 then Jd (b8 L e) q.a q.b else if q.kind=7 then !any q.list e else if q.kind=8 then any q.list e else false
def kR (any:List Sl→Nat→Bool) (L:List Nd) (e:Nat) (c:Cp):Bool:=nO (bL (cw L e)) c&&c.pseudos.all (gE any L e)
def c7 (any:List Sl→Nat→Bool) (L:List Nd) (s:Sl):Nat→Nat→Bool
 | 0,e=>match s[0]? with
  | some p=>kR any L e p.c
  | none=>false
 | i+1,e=>match s[i+1]? with
  | some p=>kR any L e p.c&&fu (c7 any L s i) L p.comb (e+1) e
  | none=>false
def pq (any:List Sl→Nat→Bool) (L:List Nd) (l:List Sl) (e:Nat):Bool:=l.any fun s=>!decide (s.length=0)&&c7 any L s (s.length - 1) e
def sg (L:List Nd):Nat→List Sl→Nat→Bool
 | 0,_,_=>false
 | f+1,l,e=>pq (sg L f) L l e
def jQ:Nat→List Sl→Prop
 | 0,_=>False
 | f+1,l=>∀ s ∈ l,∀ p ∈ s,∀ q ∈ p.c.pseudos,jQ f q.list
theorem oh.nest:∀ {f:Nat} {l:List Sl},oh f l→jQ f l
 | 0,l,h=>h
 | f+1,l,h=>fun s hs p hp q hq=>(((h s hs).2 p hp).2 q hq).nest
theorem me {any any':List Sl→Nat→Bool} {L:List Nd} {c:Cp} (h:∀ q ∈ c.pseudos,∀ e,any q.list e=any' q.list e) (e:Nat):kR any L e c=kR any' L e c:=by
 unfold kR
 congr 1
 rw [Bool.eq_iff_iff,List.all_eq_true,List.all_eq_true]
 have:∀ q ∈ c.pseudos,gE any L e q=gE any' L e q:=fun q hq=>by unfold gE; rw [h q hq]
 exact ⟨fun h q hq=>by rw [← this q hq]; exact h q hq,fun h q hq=>by rw [this q hq]; exact h q hq⟩
theorem kE {g g':Nat→Bool} {L:List Nd} {k:Int} (h:∀ e,g e=g' e):∀ (f e:Nat),fu g L k f e=fu g' L k f e
 | 0,e=>rfl
 | f+1,e=>by unfold fu; rw [h,kE h f]
theorem kW {any any':List Sl→Nat→Bool} {L:List Nd} {s:Sl} (h:∀ p ∈ s,∀ q ∈ p.c.pseudos,∀ e,any q.list e=any' q.list e):∀ (i e:Nat),c7 any L s i e=c7 any' L s i e
 | 0,e=>by
  unfold c7
  cases hs:s[0]? with
  | none=>rfl
  | some p=>exact me (h p (List.mem_of_getElem? hs)) e
 | i+1,e=>by
  unfold c7
  cases hs:s[i+1]? with
  | none=>rfl
  | some p =>
   simp only
   rw [me (h p (List.mem_of_getElem? hs)) e,kE (kW h i)]
theorem rX {any any':List Sl→Nat→Bool} {L:List Nd} {l:List Sl} (h:∀ s ∈ l,∀ p ∈ s,∀ q ∈ p.c.pseudos,∀ e,any q.list e=any' q.list e) (e:Nat):pq any L l e=pq any' L l e:=by
 unfold pq
 rw [Bool.eq_iff_iff,List.any_eq_true,List.any_eq_true]
 have:∀ s ∈ l,(!decide (s.length=0)&&c7 any L s (s.length - 1) e)=(!decide (s.length=0)&&c7 any' L s (s.length - 1) e):=fun s hs=>by rw [kW (h s hs)]
 exact ⟨fun ⟨s,hs,h⟩=>⟨s,hs,by rw [← this s hs]; exact h⟩,fun ⟨s,hs,h⟩=>⟨s,hs,by rw [this s hs]; exact h⟩⟩
theorem kZ {L:List Nd}:∀ (f g:Nat) (l:List Sl) (e:Nat),jQ f l→f≤g→sg L g l e=sg L f l e
 | 0,g,l,e,h,_=>h.elim
 | f+1,0,l,e,h,hfg=>by omega
 | f+1,g+1,l,e,h,hfg=>by
  unfold sg
  exact rX (fun s hs p hp q hq e=>kZ f g q.list e (h s hs p hp q hq) (by omega)) e
def AA (L:List Nd):List Sl→Nat→Bool:=sg L 12
theorem KX {L:List Nd} {f:Nat} {l:List Sl} (h:jQ f l) (hf:f≤12) (e:Nat):pq (AA L) L l e=AA L l e:=by
 show sg L 13 l e=sg L 12 l e
 rw [kZ f 13 l e h (by omega),kZ f 12 l e h hf]
def j7 (C:List (List Lk)) (n:Nat):Sl:=(C.getD n []).map (·.part)
def Tru (L:List Nd) (C:List (List Lk)) (n i e:Nat):Bool→Bool
 | false=>c7 (AA L) L (j7 C n) i e
 | true=>match (j7 C n)[i]? with
  | some p=>fu (c7 (AA L) L (j7 C n) (i - 1)) L p.comb (e+1) e
  | none=>false
def rh (R:List Sl→List Nat→Prop) (C:List (List Lk)) (s:Sl) (n:Nat):Prop :=
 ∃ c,C[n]?=some c∧c.map (·.part)=s∧∀ (k:Nat) (x:Lk),c[k]?=some x→x.lists.length=x.part.c.pseudos.length∧∀ (j:Nat) (q:Ps) (ns:List Nat),x.part.c.pseudos[j]?=some q→x.lists[j]?=some ns→R q.list ns
def Rep (C:List (List Lk)):Nat→List Sl→List Nat→Prop
 | 0,_,_=>False
 | f+1,l,ns=>ns.length=l.length∧∀ (i:Nat) (s:Sl) (n:Nat),l[i]?=some s→ns[i]?=some n→rh (Rep C f) C s n
theorem rh.sel {R:List Sl→List Nat→Prop} {C:List (List Lk)} {s:Sl} {n:Nat} (h:rh R C s n):j7 C n=s:=by
 obtain ⟨c,hc,hs,_⟩:=h
 unfold j7
 rw [List.getD_eq_getElem?_getD,hc]
 exact hs
structure Fw (x:Lk):Prop where
 c:pB x.part.c
 ps:∀ q ∈ x.part.c.pseudos,i64 q.a∧i64 q.b
 ls:∀ l ∈ x.lists,l.length≤reachBytes
structure Mc (σ:Sig) (L:List Nd) (d:List Nat) (C:List (List Lk)):Prop where
 hC:jE σ
 hB:ee L L.length d
 hN:L.length≤4096
 sm:∀ e,e<L.length→SmN (bL (cw L e))
 cl:C.length≤reachBytes
 ll:∀ c ∈ C,c.length≤reachBytes
 lk:∀ c ∈ C,∀ x ∈ c,Fw x
theorem Gs.ld1 {H:Hp} {x v:AV} {rows:List (List AV)} {n:Nat} (h:Gs 1 H x rows) (hn:rows[n]?=some [v]):∃ p,aV 1 x (I (n:Int))=some p∧ldA false 1 H p=some v:=by
 have hlt:=(List.getElem?_eq_some_iff.1 hn).1
 cases h with
 | nil=>simp at hlt
 | sl hl hg hsz =>
  rename_i id ex
  refine ⟨.ptr id (0+(n:Int).toNat*1),qk (by omega) (by omega),?_⟩
  have:=ic hsz hlt
  rw [List.getElem?_eq_getElem hlt] at hn
  rw [Option.some.inj hn] at this
  simp [hg]
  rw [Nat.mul_one] at this
  rw [this]
  simp
section
variable {L:List Nd} {d:List Nat} {C:List (List Lk)}
def ow (σ:Sig) (L:List Nd) (d:List Nat) (C:List (List Lk)) (f:Nat) (xs:List AV) (b:Bool):Prop :=
 ∀ (ab mb:Nat) (cs:AV) (H:Hp) (K:AV→Hp→Prop),eU (bq L d) C (Tru L C) ab mb cs H→(∀ H',eU (bq L d) C (Tru L C) ab mb cs H'→Kp mb H H'→K (Bo b) H')→az Tryz.prog σ f (.ptr ab 0::xs) H K
theorem ow.pure {f:Nat} {xs:List AV} {b:Bool} (h:∀ H,ar Tryz.prog σ f (.ip (bq L d::[])::xs) H (Bo b) H) (hx:aC xs=true):ow σ L d C f xs b :=
 fun ab mb cs H K hA hK=>ap (hA.pure (h Hp.empty) hx rfl) (hK H hA (.refl _ _))
def nS (σ:Sig) (L:List Nd) (d:List Nat) (C:List (List Lk)) (f:Nat):Prop:=∀ (l:List Sl) (ns:List Nat),Rep C f l ns→jQ f l→f≤12→ns.length≤reachBytes→∀ e,e<L.length→ow σ L d C cu [I (e:Int),jm ns] (AA L l e)
theorem uB (M:Mc σ L d C) {f:Nat} (hA:nS σ L d C f) (hf:f≤12) {q:Ps} (hq:i64 q.a∧i64 q.b) {ns:List Nat} (hr:(q.kind=7∨q.kind=8)→Rep C f q.list ns) (hnest:(q.kind=7∨q.kind=8)→jQ f q.list) (hns:ns.length≤reachBytes) {e:Nat} (he:e<L.length) :
  ow σ L d C c4 [I (e:Int),.agg (bu q),jm ns] (gE (AA L) L e q):=by
 intro ab mb cs H K hA0 hK
 have hpar:=pO M.hB he
 have hpl:=qC L e
 have e1:ab≠H.n:=by have:=hA0.nab; omega
 have a1:=hA0.new (.cells (bu q) true)
 have k1:=Kp.new mb H (.cells (bu q) true)
 refine ep.run ?_
 simp [dP,e1,hA0.gab]
 have e2:∀ Ks:AV→Hp→Prop,Ks=Ks:=fun _=>rfl
 unfold gE at hK
 have hH:Hp.new H (.cells [I q.kind,I q.a,I q.b,.imm 1 (q.list.map aI)] true)=Hp.new H (.cells (bu q) true):=by rw [dP]
 rw [hH]
 obtain ⟨H1,hH1⟩:∃ H1,H1=H.new (.cells (bu q) true):=⟨_,rfl⟩
 have gq:H1.get H.n=some (.cells [I q.kind,I q.a,I q.b,.imm 1 (q.list.map aI)] true):=by rw [hH1,← dP]; simp
 rw [← hH1] at a1 k1 ⊢
 have pur:∀ {g:Nat} {xs:List AV} {b:Bool},(∀ H,ar Tryz.prog σ g (.ip (bq L d::[])::xs) H (Bo b) H)→aC xs=true→ar Tryz.prog σ g (.ptr ab 0::xs) H1 (Bo b) H1:=fun h hx=>a1.pure (h Hp.empty) hx rfl
 split
 ·rename_i h
  rw [if_pos h] at hK
  refine ap (lj L d M.hN he _) ?_
  simpa using hK H1 a1 k1
 rename_i h1
 rw [if_neg h1] at hK
 split
 ·rename_i h
  rw [if_pos h] at hK
  refine ap (ky L d M.hN he _) ?_
  simpa using hK H1 a1 k1
 rename_i h2
 rw [if_neg h2] at hK
 split
 ·rename_i h
  rw [if_pos h] at hK
  exact ap (pur (fun H=>qp M.hB M.hN he [] rfl H) rfl) (hK H1 a1 k1)
 rename_i h3
 rw [if_neg h3] at hK
 split
 ·rename_i h
  rw [if_pos h] at hK
  refine ap (ky L d M.hN he _) ?_
  simp
  split
  ·rename_i hp
   simp [hp] at hK
   exact ap (pur (fun H=>qp M.hB M.hN he [] rfl H) rfl) (hK H1 a1 k1)
  ·rename_i hp
   simp [hp] at hK
   exact hK H1 a1 k1
 rename_i h4
 rw [if_neg h4] at hK
 split
 ·rename_i h
  rw [if_pos h] at hK
  have:=qt (σ:=σ) L d M.hN (k:=0) he
  refine ap (this _) ?_
  simpa using hK H1 a1 k1
 rename_i h5
 rw [if_neg h5] at hK
 split
 ·rename_i h
  rw [if_pos h] at hK
  refine ap (ky L d M.hN he _) ?_
  simp [gq]
  refine ap (HF ?_ hq.1 hq.2 _) (hK H1 a1 k1)
  have:=M.hN
  unfold i64
  omega
 rename_i h6
 rw [if_neg h6] at hK
 split
 ·rename_i h
  rw [if_pos h] at hK
  refine hA q.list ns (hr (.inl h)) (hnest (.inl h)) hf hns e he ab mb cs H1 _ a1 fun H2 a2 k2=>?_
  simp
  exact hK H2 a2 (k1.trans k2)
 rename_i h7
 rw [if_neg h7] at hK
 split
 ·rename_i h
  rw [if_pos h] at hK
  exact hA q.list ns (hr (.inr h)) (hnest (.inr h)) hf hns e he ab mb cs H1 _ a1 fun H2 a2 k2=>hK H2 a2 (k1.trans k2)
 ·rename_i h
  rw [if_neg h] at hK
  exact hK H1 a1 k1
theorem L7 (x:Lk):ldL true 5 ((cD x).drop 1)=some (.agg (cR x.part.c)):=by
 have e:(cD x).drop 1=cR x.part.c++[.imm 1 (x.lists.map fun l=>[jm l])]:=by
  unfold cD; rw [dO]; rfl
 rw [e,Fg (by simp)]
 rw [List.take_append_of_le_length (by simp),List.take_of_length_le (by simp)]
theorem Ky (x:Lk):ldL false 1 ((cD x).drop 5)=some (.imm 4 (x.part.c.pseudos.map bu)):=by
 unfold cD; rw [dO,cy]; rfl
theorem Kr (x:Lk):ldL false 1 ((cD x).drop 6)=some (.imm 1 (x.lists.map fun l=>[jm l])):=by
 unfold cD; rw [dO,cy]; rfl
theorem Gz (x:Lk):ldL false 1 (cD x)=some (I x.part.comb):=by
 unfold cD; rw [dO]; rfl
section
attribute [local irreducible] aD.L0
theorem qr (M:Mc σ L d C) {f:Nat} (hA:nS σ L d C f) (hf:f≤12) {x:Lk} (hx:Fw x) (hl:x.lists.length=x.part.c.pseudos.length) (hr:∀ (j:Nat) (q:Ps) (ns:List Nat),x.part.c.pseudos[j]?=some q→x.lists[j]?=some ns→Rep C f q.list ns) (hn:∀ q ∈ x.part.c.pseudos,jQ f q.list) {e:Nat} (he:e<L.length) :
  ow σ L d C cB [I (e:Int),.agg (cD x)] (kR (AA L) L e x.part.c):=by
 intro ab mb cs H K hA0 hK
 have a1:=hA0.new (.cells (cD x) true)
 have k1:=Kp.new mb H (.cells (cD x) true)
 have hml:mb≠H.n:=by have:=hA0.nmb; omega
 have hm1:mb<H.n:=hA0.nmb
 have hps:=hx.c.ps
 have L0:∀ (m k:Nat) (H1:Hp),x.part.c.pseudos.length - m=k→m≤x.part.c.pseudos.length→eU (bq L d) C (Tru L C) ab mb cs H1→Kp mb (H.new (.cells (cD x) true)) H1 →
   (∀ H',eU (bq L d) C (Tru L C) ab mb cs H'→Kp mb H H'→K (Bo ((x.part.c.pseudos.drop m).all (gE (AA L) L e))) H')→aD.L0 σ K (.ptr ab 0) (I (e:Int)) (.ptr H.n 0) (.imm 4 (x.part.c.pseudos.map bu)) (I x.part.c.pseudos.length) (I m) H1:=by
  intro m k
  revert m
  induction k with
  | zero =>
   intro m H1 hk hm h1 kp hK
   have:m=x.part.c.pseudos.length:=by omega
   subst this
   refine aD.L0_step ?_
   simp
   simpa using hK H1 h1 (k1.trans kp)
  | succ k ih =>
   intro m H1 hk hm h1 kp hK
   have hlt:m<x.part.c.pseudos.length:=by omega
   obtain ⟨q,hq⟩:=bQ hlt
   obtain ⟨ns,hns⟩:=bQ (l:=x.lists) (k:=m) (by omega)
   have hqm:=List.mem_of_getElem? hq
   rw [cn hq] at hK
   have hlt':(m:Int)<x.part.c.pseudos.length:=by omega
   have gx:H1.get H.n=some (.cells (cD x) true):=by rw [kp.get H.n (by simp) (Ne.symm hml)]; simp
   have hup:=kp.up
   simp at hup
   have n1:H.n≠H1.n:=by omega
   refine aD.L0_step ?_
   have hls:aV 1 (.imm 1 (x.lists.map fun l=>[jm l])) (I (m:Int))=some (.ip [jm ns]):=by
    have:=cj (f:=fun l:List Nat=>[jm l]) (sz:=1) hns
    exact this
   simp only [c9,hlt',decide_true,ae,aq,if_true,cj hq,fT,pK,bG]
   have hst:stA 4 (H1.new (.cells [I 0,I 0,I 0,.lit (.slice none 0 0)] true)) (.ptr H1.n 0) (.agg (bu q))=some ((H1.new (.cells [I 0,I 0,I 0,.lit (.slice none 0 0)] true)).set H1.n (some (.cells (bu q) true))):=by
    simp
    rw [Ad q (by simp)]
   rw [hst,ae]
   simp only [aW,ay,if_true,bm,List.drop_zero,pK,ae,cM,Nat.zero_add,n1,if_false,bt,gx,Kr]
   rw [hls,ae]
   simp only [fT,iH,ae]
   have a2:=h1.setN (h1.new (.cells [I 0,I 0,I 0,.lit (.slice none 0 0)] true)) (Nat.le_refl H1.n) (some (.cells (bu q) true))
   have k2:=(Kp.new mb H1 (.cells [I 0,I 0,I 0,.lit (.slice none 0 0)] true)).setN (Nat.le_refl H1.n) (some (.cells (bu q) true))
   refine uB M hA hf (hx.ps q hqm) (fun _=>hr m q ns hq hns) (fun _=>hn q hqm) (hx.ls ns (List.mem_of_getElem? hns)) he ab mb cs _ _ a2 fun H2 a3 k3=>?_
   simp only [fW,ae,aq]
   cases hb:gE (AA L) L e q with
   | false =>
    simp [hb] at hK
    simp
    exact hK H2 a3 (k1.trans (kp.trans (k2.trans k3)))
   | true =>
    simp [hb] at hK
    simp
    rw [dE hlt hps (by decide)]
    exact ih (m+1) H2 (by omega) (by omega) a3 (kp.trans (k2.trans k3)) (by simpa using hK)
 refine aD.run ?_
 simp only [fk,cM,Nat.zero_add,aW,bt,if_true,bm,L7,ae]
 refine ap (a1.pure (xL M.hC M.hN he (M.sm e he) hx.c [] rfl Hp.empty) (by simp [aC,bf,mF]) rfl) ?_
 simp only [fW,ae,aq]
 unfold kR at hK
 cases hb:nO (bL (cw L e)) x.part.c with
 | false =>
  simp [hb] at hK
  simp
  exact hK _ a1 k1
 | true =>
  simp [hb] at hK
  simp [Ky]
  exact L0 0 _ _ rfl (Nat.zero_le _) a1 (.refl _ _) (by simpa using hK)
end
theorem oF (M:Mc σ L d C) {e:Nat} (he:e<L.length) (k:Int):bY L e k<e:=by
 unfold bY
 split
 ·rcases pO M.hB he with h | ⟨p,h,hp⟩
  ·omega
  ·omega
 ·split
  ·unfold gc o4
   cases h:(nc L e).getLast? with
   | none=>simp<;>omega
   | some j =>
    have:=List.mem_of_getLast? h
    unfold nc at this
    simp only [List.mem_filter,List.mem_range] at this
    simp; omega
  ·omega
theorem uu (M:Mc σ L d C) {e:Nat} (he:e<L.length) (k:Int):-1≤bY L e k:=by
 unfold bY
 split
 ·rcases pO M.hB he with h | ⟨p,h,hp⟩
  ·omega
  ·omega
 ·split
  ·unfold gc o4
   cases h:(nc L e).getLast? with
   | none=>simp
   | some j=>simp<;>omega
  ·omega
theorem lZ (M:Mc σ L d C) (g:Nat→Bool) (k:Int):∀ (f f' e:Nat),e<L.length→e<f→e<f'→fu g L k f e=fu g L k f' e
 | 0,f',e,_,h,_=>by omega
 | f+1,0,e,_,_,h=>by omega
 | f+1,f'+1,e,he,h1,h2=>by
  unfold fu
  have:=oF M he k
  by_cases h:0≤bY L e k
  ·rw [lZ M g k f f' _ (by omega) (by omega) (by omega)]
  ·simp [h]
theorem q_ (M:Mc σ L d C) {ab mb:Nat} {cs:AV} {H:Hp} (hA:eU (bq L d) C (Tru L C) ab mb cs H) {n i:Nat} {c:List Lk} {x:Lk} (hc:C[n]?=some c) (hx:c[i]?=some x) :
  ∃ p,aV 1 cs (I (n:Int))=some p∧ldA false 1 H p=some (fF c)∧aV 7 (fF c) (I (i:Int))=some (.ip (cD x)):=by
 obtain ⟨p,h1,h2⟩:=hA.gcs.ld1 (n:=n) (v:=fF c) (by rw [List.getElem?_map,hc]; rfl)
 exact ⟨p,h1,h2,cj hx⟩
theorem tO (M:Mc σ L d C) {f:Nat} (hA:nS σ L d C f) (hf:f≤12) {n:Nat} {s:Sl} (hr:rh (Rep C f) C s n) (hn:∀ p ∈ s,∀ q ∈ p.c.pseudos,jQ f q.list) (hn9:n<9000000000000000000) (i:Nat) (hi:i<s.length) (hi9:i<9000000000000000000)
  (hah:i≠0→∀ e,e<L.length→ow σ L d C bV [I (n:Int),I (i:Int),I (e:Int)] (Tru L C n i e true)) (e:Nat) (he:e<L.length) :
  ow σ L d C cg [I (n:Int),I (i:Int),I (e:Int)] (Tru L C n i e false):=by
 intro ab mb cs H K hA0 hK
 obtain ⟨c,hc,hcs,hcl⟩:=hr
 have hsel:j7 C n=s:=rh.sel ⟨c,hc,hcs,hcl⟩
 obtain ⟨x,hx⟩:=bQ (l:=c) (k:=i) (by rw [← List.length_map (f:=(·.part)),hcs]; exact hi)
 have hcm:=List.mem_of_getElem? hc
 have hxm:=List.mem_of_getElem? hx
 have hlk:=M.lk c hcm x hxm
 obtain ⟨hl1,hl2⟩:=hcl i x hx
 have hsx:s[i]?=some x.part:=by rw [← hcs,List.getElem?_map,hx]; rfl
 have hbx:∀ (v:AV) (H:Hp) (K:AV→Hp→Prop),v.isAny=false→v.cells=[v]→cL v H K=K (.ptr H.n 0) (H.new (.cells [v] true)):=fun v H K h1 h2=>nH h1 h2 H K
 have tr:Tru L C n i e false=(kR (AA L) L e x.part.c&&(decide (i=0)||Tru L C n i e true)):=by
  unfold Tru
  simp only [hsel]
  cases i with
  | zero=>unfold c7; simp [hsx]
  | succ i=>rw [c7]; simp [hsx]
 refine fZ.run ?_
 rw [hbx _ _ _ rfl rfl,hbx _ _ _ rfl rfl,hbx _ _ _ rfl rfl,hbx _ _ _ rfl rfl]
 obtain ⟨H4,hH4⟩:∃ H4,H4=(((H.new (.cells [.ptr ab 0] true)).new (.cells [I (n:Int)] true)).new (.cells [I (i:Int)] true)).new (.cells [I (e:Int)] true):=⟨_,rfl⟩
 have a4:eU (bq L d) C (Tru L C) ab mb cs H4:=by rw [hH4]; exact (((hA0.new _).new _).new _).new _
 have k4:Kp mb H H4:=by rw [hH4]; exact (((Kp.new mb H _).trans (Kp.new mb _ _)).trans (Kp.new mb _ _)).trans (Kp.new mb _ _)
 have q1:¬ (H.n=H.n+1+1+1):=by omega
 have q2:¬ (H.n=H.n+1+1):=by omega
 have q3:¬ (H.n+1=H.n+1+1+1):=by omega
 have g0:H4.get H.n=some (.cells [.ptr ab 0] true):=by rw [hH4]; simp [q1,q2]
 have g1:H4.get (H.n+1)=some (.cells [I (n:Int)] true):=by rw [hH4]; simp [q3]
 have g2:H4.get (H.n+1+1)=some (.cells [I (i:Int)] true):=by rw [hH4]; simp
 have g3:H4.get (H.n+1+1+1)=some (.cells [I (e:Int)] true):=by rw [hH4]; simp
 have n4:H4.n=H.n+4:=by rw [hH4]; rfl
 rw [← hH4]
 simp only [Hp.n_new]
 rw [ld2 g0,ae,ld2 g1,ae,ld2 g2,ae,ld2 g3,ae]
 have hb:dv [I 0,I 0,I 0,.lit (.bool false)] [(0,1,I (n:Int)),(1,1,I (i:Int)),(2,1,I (e:Int)),(3,1,Bo false)]=some (hJ n i e false):=rfl
 rw [hb,ae]
 have mbl:=hA0.nmb
 refine tF (n:=n) (i:=i) (e:=e) (a:=false) a4 (List.getElem?_eq_some_iff.1 hc).1 rfl (fun H1 K1 h1 kp1 hK1=>?_) (fun H' h' kp'=>hK H' h' (k4.trans kp'))
 have keep:∀ {H2:Hp},Kp mb H4 H2→∀ {j:Nat} {v:AV},H.n≤j→j<H.n+4→H4.get j=some (.cells [v] true)→H2.get j=some (.cells [v] true):=fun kp j v h1 h2 hg=>by rw [kp.get j (by omega) (by omega)]; exact hg
 rw [lN,List.nil_append]
 refine eZ.run ?_
 obtain ⟨p,c1,c2,c3⟩:=q_ M h1 hc hx
 have hlx:ldL true 7 (cD x)=some (.agg (cD x)):=cr (HW x)
 have hcab:ldA false 1 H1 (.ptr ab 1)=some cs:=by simp [h1.gab]
 rw [ld2 (keep kp1 (by omega) (by omega) g0),ae,ld2 (keep kp1 (by omega) (by omega) g3),ae,ae,mV,ae,cM,ae,hcab,ae,ld2 (keep kp1 (by omega) (by omega) g1),ae,c1,ae,c2,ae,ld2 (keep kp1 (by omega) (by omega) g2),ae,c3,ae,fT,hlx,ae]
 refine qr M hA hf hlk hl1 hl2 (hn x.part (List.mem_of_getElem? hsx)) he ab mb cs H1 _ h1 fun H2 h2 kp2=>?_
 simp only [aq]
 rw [tr] at hK1
 cases hcb:kR (AA L) L e x.part.c with
 | false =>
  simp [hcb] at hK1
  simp
  exact hK1 H2 h2 kp2
 | true =>
  simp [hcb] at hK1
  simp only [if_true]
  have kp12:=kp1.trans kp2
  rw [ld2 (keep kp12 (by omega) (by omega) g2),ae,oz,ae]
  simp only [aq,decide_eq_true_eq]
  split
  ·rename_i h0
   have h0':i=0:=by omega
   simp [h0'] at hK1
   exact hK1 H2 h2 kp2
  ·rename_i h0
   have h0':i≠0:=by omega
   simp [h0'] at hK1
   rw [ld2 (keep kp12 (by omega) (by omega) g0),ae,ld2 (keep kp12 (by omega) (by omega) g1),ae,ae,ld2 (keep kp12 (by omega) (by omega) g3),ae]
   exact hah h0' e he ab mb cs H2 _ h2 fun H3 h3 kp3=>hK1 H3 h3 (kp2.trans kp3)
theorem r_ (M:Mc σ L d C) {n:Nat} {c:List Lk} (hc:C[n]?=some c) (hn9:n<9000000000000000000) {i:Nat} {x:Lk} (hx:c[i+1]?=some x) (hi9:i+1<9000000000000000000)
  (hsx:(j7 C n)[i+1]?=some x.part) (his:∀ e,e<L.length→ow σ L d C cg [I (n:Int),I (i:Int),I (e:Int)] (Tru L C n i e false)) :
  ∀ (m e:Nat),e<m→e<L.length→ow σ L d C bV [I (n:Int),I ((i+1:Nat):Int),I (e:Int)] (Tru L C n (i+1) e true):=by
 intro m
 induction m with
 | zero=>intro e h; omega
 | succ m ih =>
  intro e hem he ab mb cs H K hA0 hK
  have hlt:=oF M he x.part.comb
  have hge:=uu M he x.part.comb
  have trE:∀ e,e<L.length→Tru L C n (i+1) e true=fu (c7 (AA L) L (j7 C n) i) L x.part.comb (e+1) e:=fun e he=>by
   unfold Tru
   simp only [hsx,Nat.add_sub_cancel]
  have tr:Tru L C n (i+1) e true=(decide (0≤bY L e x.part.comb)&&(Tru L C n i (bY L e x.part.comb).toNat false||(mr x.part.comb&&Tru L C n (i+1) (bY L e x.part.comb).toNat true))):=by
   rw [trE e he]
   by_cases h:0≤bY L e x.part.comb
   ·rw [trE _ (by omega),fu]
    rw [lZ M (c7 (AA L) L (j7 C n) i) x.part.comb e ((bY L e x.part.comb).toNat+1) (bY L e x.part.comb).toNat (by omega) (by omega) (by omega)]
    rfl
   ·rw [fu]; simp [h]
  have hbx:∀ (v:AV) (H:Hp) (K:AV→Hp→Prop),v.isAny=false→v.cells=[v]→cL v H K=K (.ptr H.n 0) (H.new (.cells [v] true)):=fun v H K h1 h2=>nH h1 h2 H K
  refine eE.run ?_
  rw [hbx _ _ _ rfl rfl,hbx _ _ _ rfl rfl,hbx _ _ _ rfl rfl]
  obtain ⟨H3,hH3⟩:∃ H3,H3=((H.new (.cells [.ptr ab 0] true)).new (.cells [I (n:Int)] true)).new (.cells [I ((i+1:Nat):Int)] true):=⟨_,rfl⟩
  have a3:eU (bq L d) C (Tru L C) ab mb cs H3:=by rw [hH3]; exact ((hA0.new _).new _).new _
  have k3:Kp mb H H3:=by rw [hH3]; exact ((Kp.new mb H _).trans (Kp.new mb _ _)).trans (Kp.new mb _ _)
  have q2:¬ (H.n=H.n+1+1):=by omega
  have g0:H3.get H.n=some (.cells [.ptr ab 0] true):=by rw [hH3]; simp [q2]
  have g1:H3.get (H.n+1)=some (.cells [I (n:Int)] true):=by rw [hH3]; simp
  have g2:H3.get (H.n+1+1)=some (.cells [I ((i+1:Nat):Int)] true):=by rw [hH3]; simp
  have n3:H3.n=H.n+1+1+1:=by rw [hH3]; rfl
  rw [← hH3]
  simp only [Hp.n_new]
  obtain ⟨p,c1,c2,c3⟩:=q_ M a3 hc hx
  have hcab:ldA false 1 H3 (.ptr ab 1)=some cs:=by simp [a3.gab]
  rw [ld2 g0,ae,ae,mV,ae,cM,ae,hcab,ae,ld2 g1,ae,c1,ae,c2,ae,ld2 g2,ae,c3,ae,tA,ae,List.drop_zero,tA,ae,List.drop_zero,fT,Gz,ae]
  refine ap (a3.pure (ur M.hN he x.part.comb [] rfl Hp.empty) rfl (by simp [ey,fJ])) ?_
  simp only [BY,List.getElem?_cons_zero,List.getElem?_cons_succ,ae,bG,Hp.n_new]
  obtain ⟨H5,hH5⟩:∃ H5,H5=(((H3.new (.cells [I 0] true)).new (.cells [Bo false] true)).set H3.n (some (.cells [I (bY L e x.part.comb)] true))).set (H3.n+1) (some (.cells [Bo (mr x.part.comb)] true)):=⟨_,rfl⟩
  have s1:stA 1 ((H3.new (.cells [I 0] true)).new (.cells [Bo false] true)) (.ptr H3.n 0) (I (bY L e x.part.comb))=some (((H3.new (.cells [I 0] true)).new (.cells [Bo false] true)).set H3.n (some (.cells [I (bY L e x.part.comb)] true))):=by simp
  have s2:stA 1 (((H3.new (.cells [I 0] true)).new (.cells [Bo false] true)).set H3.n (some (.cells [I (bY L e x.part.comb)] true))) (.ptr (H3.n+1) 0) (Bo (mr x.part.comb))=some H5:=by rw [hH5]; simp
  rw [s1,ae,s2,ae]
  have a5:eU (bq L d) C (Tru L C) ab mb cs H5:=by
   rw [hH5]
   exact a3.setN (a3.setN ((a3.new _).new _) (Nat.le_refl _) _) (by omega) _
  have k5:Kp mb H3 H5:=by
   rw [hH5]
   exact ((((Kp.new mb H3 _).trans (Kp.new mb _ _))).setN (Nat.le_refl _) _).setN (by omega) _
  have mbl:=hA0.nmb
  have n5:H5.n=H.n+1+1+1+1+1:=by rw [hH5]; simp [n3]
  have r0:H5.get H.n=some (.cells [.ptr ab 0] true):=by rw [k5.get _ (by omega) (by omega)]; exact g0
  have r1:H5.get (H.n+1)=some (.cells [I (n:Int)] true):=by rw [k5.get _ (by omega) (by omega)]; exact g1
  have r2:H5.get (H.n+1+1)=some (.cells [I ((i+1:Nat):Int)] true):=by rw [k5.get _ (by omega) (by omega)]; exact g2
  have r3:H5.get H3.n=some (.cells [I (bY L e x.part.comb)] true):=by rw [hH5]; simp
  have r4:H5.get (H3.n+1)=some (.cells [Bo (mr x.part.comb)] true):=by rw [hH5]; simp
  clear hH5 s1 s2
  rw [ld2 r3,ae,oW,ae]
  simp only [aq,decide_eq_true_eq]
  rw [tr] at hK
  split
  ·rename_i h0
   rw [ld2 r0,ae,ld2 r1,ae,ld2 r2,ae]
   have hb:dv [I 0,I 0,I 0,.lit (.bool false)] [(0,1,I (n:Int)),(1,1,I ((i+1:Nat):Int)),(2,1,I (e:Int)),(3,1,Bo true)]=some (hJ n (i+1) e true):=rfl
   rw [hb,ae]
   refine tF (n:=n) (i:=i+1) (e:=e) (a:=true) a5 (List.getElem?_eq_some_iff.1 hc).1 rfl (fun H1 K1 h1 kp1 hK1=>?_) (fun H' h' kp'=>?_)
   ·have keep:∀ {H2:Hp},Kp mb H5 H2→∀ {j:Nat} {v:AV},H.n≤j→j<H.n+5→H5.get j=some (.cells [v] true)→H2.get j=some (.cells [v] true):=fun kp j v h1 h2 hg=>by rw [kp.get j (by omega) (by omega)]; exact hg
    obtain ⟨x',hx'⟩:∃ k:Nat,bY L e x.part.comb=k:=⟨(bY L e x.part.comb).toNat,by omega⟩
    rw [tr,hx'] at hK1
    rw [hx'] at r3 hlt
    simp only [Int.toNat_natCast] at hK1
    rw [lN,List.nil_append]
    refine d8.run ?_
    have e1:wr .i64 (((i+1:Nat):Int) - 1)=(i:Int):=by rw [eg (by omega) (by omega)]; omega
    rw [ld2 (keep kp1 (by omega) (by omega) r0),ae,ld2 (keep kp1 (by omega) (by omega) r1),ae,ld2 (keep kp1 (by omega) (by omega) r2),ae,qn,ae,e1,ld2 (keep kp1 (by omega) (by omega) r3),ae]
    refine his x' (by omega) ab mb cs H1 _ h1 fun H2 h2 kp2=>?_
    simp only [aq]
    have kp12:=kp1.trans kp2
    have h0':(0:Int)≤(x':Int):=by omega
    cases hf:Tru L C n i x' false with
    | true =>
     simp [hf,h0'] at hK1
     simp
     exact hK1 H2 h2 kp2
    | false =>
     simp [hf,h0'] at hK1
     simp only [Bool.false_eq_true,if_false]
     rw [ld2 (keep kp12 (by omega) (by omega) r4),ae]
     simp only [aq]
     cases hfar:mr x.part.comb with
     | false =>
      simp [hfar] at hK1
      simp
      exact hK1 H2 h2 kp2
     | true =>
      simp [hfar] at hK1
      simp only [if_true]
      rw [ld2 (keep kp12 (by omega) (by omega) r0),ae,ld2 (keep kp12 (by omega) (by omega) r1),ae,ld2 (keep kp12 (by omega) (by omega) r2),ae,ld2 (keep kp12 (by omega) (by omega) r3),ae]
      exact ih x' (by omega) (by omega) ab mb cs H2 _ h2 fun H3' h3 kp3=>hK1 H3' h3 (kp2.trans kp3)
   ·rw [← tr] at hK
    exact hK H' h' (k3.trans (k5.trans kp'))
  ·rename_i h0
   have:decide (0≤bY L e x.part.comb)=false:=by simpa using h0
   rw [this,Bool.false_and] at hK
   exact hK H5 a5 (k3.trans k5)
theorem Ho (M:Mc σ L d C) {f:Nat} (hA:nS σ L d C f) (hf:f≤12) {n:Nat} {s:Sl} (hr:rh (Rep C f) C s n) (hn:∀ p ∈ s,∀ q ∈ p.c.pseudos,jQ f q.list) (hn9:n<9000000000000000000):∀ (i:Nat),i<s.length→i<9000000000000000000→∀ e,e<L.length →
  ow σ L d C cg [I (n:Int),I (i:Int),I (e:Int)] (Tru L C n i e false)
 | 0,hi,hi9,e,he=>tO M hA hf hr hn hn9 0 hi hi9 (fun h=>absurd rfl h) e he
 | i+1,hi,hi9,e,he=>by
  refine tO M hA hf hr hn hn9 (i+1) hi hi9 (fun _ e he=>?_) e he
  obtain ⟨c,hc,hcs,hcl⟩:=hr
  obtain ⟨x,hx⟩:=bQ (l:=c) (k:=i+1) (by rw [← List.length_map (f:=(·.part)),hcs]; exact hi)
  have hsel:j7 C n=s:=rh.sel ⟨c,hc,hcs,hcl⟩
  have hsx:(j7 C n)[i+1]?=some x.part:=by rw [hsel,← hcs,List.getElem?_map,hx]; rfl
  exact r_ M hc hn9 hx hi9 hsx (fun e he=>Ho M hA hf ⟨c,hc,hcs,hcl⟩ hn hn9 i (by omega) (by omega) e he) (e+1) e (by omega) he
section
attribute [local irreducible] aS.L0
theorem za (M:Mc σ L d C) {f:Nat} (hA:nS σ L d C f) (hf:f+1≤12):nS σ L d C (f+1):=by
 intro l ns hr hn _ hns e he ab mb cs H K hA0 hK
 rw [← KX hn hf] at hK
 obtain ⟨hlen,hrep⟩:=hr
 have L0:∀ (m k:Nat) (H1:Hp),ns.length - m=k→m≤ns.length→eU (bq L d) C (Tru L C) ab mb cs H1→Kp mb H H1→(∀ H',eU (bq L d) C (Tru L C) ab mb cs H'→Kp mb H H'→K (Bo (pq (AA L) L (l.drop m) e)) H') →
   aS.L0 σ K (.ptr ab 0) (I (e:Int)) (jm ns) (I ns.length) (I m) H1:=by
  intro m k
  revert m
  induction k with
  | zero =>
   intro m H1 hk hm h1 kp hK
   have:m=ns.length:=by omega
   subst this
   refine aS.L0_step ?_
   simp
   have:=hK H1 h1 kp
   rw [hlen,List.drop_length] at this
   exact this
  | succ k ih =>
   intro m H1 hk hm h1 kp hK
   have hlt:m<ns.length:=by omega
   obtain ⟨n,hnn⟩:=bQ hlt
   obtain ⟨s,hs⟩:=bQ (l:=l) (k:=m) (by omega)
   have hrc:=hrep m s n hs hnn
   rw [cn hs] at hK
   have hlt':(m:Int)<ns.length:=by omega
   obtain ⟨c,hc,hcs,hcl⟩:=hrc
   have hcm:=List.mem_of_getElem? hc
   have hcl2:c.length=s.length:=by rw [← hcs,List.length_map]
   obtain ⟨p,c1,c2⟩:=h1.gcs.ld1 (n:=n) (v:=fF c) (by rw [List.getElem?_map,hc]; rfl)
   have hcab:ldA false 1 H1 (.ptr ab 1)=some cs:=by simp [h1.gab]
   have hix:aV 1 (jm ns) (I (m:Int))=some (.ip (nz n)):=cj hnn
   have hllen:aY (fF c)=some (I (s.length:Int)):=by unfold fF; simp [hcl2]
   have hl9:=M.ll c hcm
   rw [eL] at hl9 hns
   have hn9:n<9000000000000000000:=by
    have:=(List.getElem?_eq_some_iff.1 hc).1
    have:=M.cl
    rw [eL] at this
    omega
   have hsel:j7 C n=s:=rh.sel ⟨c,hc,hcs,hcl⟩
   refine aS.L0_step ?_
   have hle:ldL false 1 (nz n)=some (I (n:Int)):=rfl
   simp only [c9,hlt',decide_true,ae,aq,if_true,hix,fT,hle,mV,cM,hcab,c1,c2,hllen,pX,decide_eq_true_eq]
   have hcons:pq (AA L) L (s::l.drop (m+1)) e=((!decide (s.length=0)&&c7 (AA L) L s (s.length - 1) e)||pq (AA L) L (l.drop (m+1)) e):=by simp [pq]
   rw [hcons] at hK
   split
   ·rename_i h0
    have e1:wr .i64 ((s.length:Int) - 1)=((s.length - 1:Nat):Int):=by rw [eg (by omega) (by omega)]; omega
    simp only [qn,ae,e1]
    refine Ho M hA (by omega) ⟨c,hc,hcs,hcl⟩ (fun p hp q hq=>hn s (List.mem_of_getElem? hs) p hp q hq) hn9 (s.length - 1) (by omega) (by omega) e he ab mb cs H1 _ h1 fun H2 h2 kp2=>?_
    have htr:Tru L C n (s.length - 1) e false=c7 (AA L) L s (s.length - 1) e:=by unfold Tru; simp only [hsel]
    rw [htr]
    have h0':¬ (s.length=0):=by omega
    simp only [aq]
    cases hfr:c7 (AA L) L s (s.length - 1) e with
    | true =>
     rw [hfr] at hK
     simp [h0'] at hK
     simp
     exact hK H2 h2 (kp.trans kp2)
    | false =>
     rw [hfr] at hK
     simp at hK
     simp
     rw [df (by omega)]
     exact ih (m+1) H2 (by omega) (by omega) h2 (kp.trans kp2) hK
   ·rename_i h0
    have h0':s.length=0:=by omega
    simp [h0'] at hK
    simp only [ia,ae]
    rw [df (by omega)]
    exact ih (m+1) H1 (by omega) (by omega) h1 kp hK
 refine aS.run ?_
 have:aY (jm ns)=some (I (ns.length:Int)):=by unfold jm; simp
 rw [this,ae]
 exact L0 0 _ H rfl (Nat.zero_le _) hA0 (.refl _ _) (by simpa using hK)
theorem zV (M:Mc σ L d C):∀ (f:Nat),f≤12→nS σ L d C f
 | 0,_=>fun l ns hr=>hr.elim
 | f+1,hf=>za M (zV M f (by omega)) hf
end
end
end Go.Proofs.YthdcghnjndhecaaGreat.Ev
namespace Go.Proofs.YthdcghnjndhecaaGreat.Ev
set_option linter.unusedVariables false
set_option linter.unusedSimpArgs false
variable {σ:Sig}
def uj (g:List Sl→Nat→Bool) (dp:Nat) (q:Ps):Bool:=if q.kind=7∨q.kind=8 then !decide (dp=0)&&g q.list (dp - 1) else true
def uy (g:List Sl→Nat→Bool) (dp:Nat) (c:Cp):Bool:=c.pseudos.all (uj g dp)
def FC (g:List Sl→Nat→Bool) (dp:Nat) (s:Sl):Bool:=decide (s.length≤50)&&s.all fun p=>uy g dp p.c
def iL:Nat→List Sl→Nat→Bool
 | 0,_,_=>false
 | f+1,l,dp=>l.all (FC (iL f) dp)
section
attribute [local irreducible] aJ.L0 aJ.L1 ao.L0 ao.J1
def tP (σ:Sig) (f:Nat):Prop:=∀ (l:List Sl) (dp:Nat) (H:Hp),kz gW l→jQ f l→dp≤8→ar Tryz.prog σ dQ [sls l,I (dp:Int)] H (Bo (iL f l dp)) H
theorem E7 {f:Nat} (ih:tP σ f) (c:Cp) (hc:BM gW c) (hn:∀ q ∈ c.pseudos,jQ f q.list) (dp:Nat) (hd:dp≤8) (H:Hp):ar Tryz.prog σ da [.agg (cR c),I (dp:Int)] H (Bo (uy (iL f) dp c)) H:=by
 refine bI (fun K hK=>ao.run ?_) (by simp [aC,bf,mF]) rfl H
 have L0:∀ (m k:Nat) (H:Hp),c.pseudos.length - m=k→m≤c.pseudos.length→(∀ H,K (Bo ((c.pseudos.drop m).all (uj (iL f) dp))) H)→ao.L0 σ K (I (dp:Int)) (.imm 4 (c.pseudos.map bu)) (I c.pseudos.length) (I m) H:=by
  intro m k
  revert m
  induction k with
  | zero =>
   intro m H hk hm hK
   have:m=c.pseudos.length:=by omega
   subst this
   refine ao.L0_step ?_
   simp
   simpa using hK H
  | succ k ihk =>
   intro m H hk hm hK
   have hlt:m<c.pseudos.length:=by omega
   obtain ⟨q,hq⟩:=bQ hlt
   have hqm:=List.mem_of_getElem? hq
   have hqw:=(Ps.wf_iff.1 (hc.ps q hqm)).2.2.2
   rw [cn hq,List.all_cons] at hK
   have hlt':(m:Int)<c.pseudos.length:=by omega
   have next:∀ H,uj (iL f) dp q=true→ao.J1 σ K (I (dp:Int)) (.imm 4 (c.pseudos.map bu)) (I c.pseudos.length) (I m) H:=by
    intro H ht
    refine ao.J1_step ?_
    simp
    rw [dE hlt hc.psL]
    refine ihk (m+1) H (by omega) (by omega) fun H'=>?_
    have:=hK H'
    rwa [ht,Bool.true_and] at this
   have ask:∀ (H:Hp),(q.kind=7∨q.kind=8)→H.get (H.n - 1)=some (.cells (bu q) true)→ifB (Bo (decide ((dp:Int)=0))) (K (Bo false) H) (bnd (ldA false 1 H (.ptr (H.n - 1) 3)) fun x22=>bnd (am .sub (I (dp:Int)) (I 1)) fun x23=>az Tryz.prog σ dQ [x22,x23] H fun x24 H25=>bnd (unR .not x24) fun x26=>ifB x26 (K (Bo false) H25) (ao.J1 σ K (I (dp:Int)) (.imm 4 (c.pseudos.map bu)) (I c.pseudos.length) (I m) H25)):=by
    intro H hkq hg
    simp only [aq,decide_eq_true_eq]
    have hQ:uj (iL f) dp q=(!decide (dp=0)&&iL f q.list (dp - 1)):=by unfold uj; rw [if_pos hkq]
    split
    ·rename_i h0
     have h0':dp=0:=by omega
     have:=hK H
     rw [hQ] at this
     simpa [h0'] using this
    ·rename_i h0
     have h0':¬ (dp=0):=by omega
     have e1:wr .i64 ((dp:Int) - 1)=((dp - 1:Nat):Int):=by rw [eg (by omega) (by omega)]; omega
     simp only [aW,hg,bm,qF,ae,qn,e1]
     refine ap (ih q.list (dp - 1) H hqw (hn q hqm) (by omega)) ?_
     simp only [fW,ae,aq]
     cases hb:iL f q.list (dp - 1) with
     | false =>
      have:=hK H
      rw [hQ] at this
      simpa [h0',hb] using this
     | true =>
      simp
      exact next H (by rw [hQ]; simp [h0',hb])
   refine ao.L0_step ?_
   have hst:stA 4 (H.new (.cells [I 0,I 0,I 0,.lit (.slice none 0 0)] true)) (.ptr H.n 0) (.agg (bu q))=some ((H.new (.cells [I 0,I 0,I 0,.lit (.slice none 0 0)] true)).set H.n (some (.cells (bu q) true))):=by
    simp
    rw [Ad q (by simp)]
   simp only [c9,hlt',decide_true,ae,aq,if_true,cj hq,fT,pK,bG,hst,cM,Nat.zero_add,aW,ay,bm,List.drop_zero,yz,Ko]
   have hask:=ask ((H.new (.cells [I 0,I 0,I 0,.lit (.slice none 0 0)] true)).set H.n (some (.cells (bu q) true)))
   simp only [Hp.n_set,Hp.n_new,Nat.add_sub_cancel,aW,ay,if_true,bm] at hask
   by_cases h7:q.kind=7
   ·simp only [h7,decide_true,Bool.not_true,Bool.false_eq_true,if_false,oz,ae]
    exact hask (.inl h7) trivial
   ·simp only [h7,decide_false,Bool.not_false,if_true]
    by_cases h8:q.kind=8
    ·simp only [h8,decide_true,Bool.not_true,Bool.false_eq_true,if_false,oz,ae]
     exact hask (.inr h8) trivial
    ·simp only [h8,decide_false,Bool.not_false,if_true]
     exact next _ (by unfold uj; rw [if_neg (by omega)])
 simp only [fk,cM,ae,Nat.zero_add,aW,bt,if_true,bm,D3,kB,List.length_map]
 exact L0 0 _ _ rfl (Nat.zero_le _) (by simpa [uy] using hK)
theorem wb {f:Nat} (ih:tP σ f):tP σ (f+1):=by
 intro l dp H hl hn hd
 refine bI (fun K hK=>aJ.run ?_) (by simp [aC,bf]) rfl H
 have L0:∀ (m k:Nat) (H:Hp) (y20 y21 y22:AV),l.length - m=k→m≤l.length→(∀ H,K (Bo ((l.drop m).all (FC (iL f) dp))) H)→aJ.L0 σ K (I (dp:Int)) (sls l) (I l.length) (I m) y20 y21 y22 H:=by
  intro m k
  revert m
  induction k with
  | zero =>
   intro m H y20 y21 y22 hk hm hK
   have:m=l.length:=by omega
   subst this
   refine aJ.L0_step ?_
   simp
   simpa using hK H
  | succ k ihk =>
   intro m H y20 y21 y22 hk hm hK
   have hlt:m<l.length:=by omega
   obtain ⟨s,hs⟩:=bQ hlt
   have hsm:=List.mem_of_getElem? hs
   have hsw:=hl.2 s hsm
   rw [cn hs,List.all_cons] at hK
   have hlt':(m:Int)<l.length:=by omega
   have L1:∀ (j k2:Nat) (H:Hp),s.length - j=k2→j≤s.length→(∀ H,K (Bo ((s.drop j).all (fun p=>uy (iL f) dp p.c)&&(l.drop (m+1)).all (FC (iL f) dp))) H) →
     aJ.L1 σ K (I (dp:Int)) (sls l) (I l.length) (I m) (.imm 6 (s.map ba)) (I s.length) (I j) H:=by
    intro j k2
    revert j
    induction k2 with
    | zero =>
     intro j H hk2 hj hK
     have:j=s.length:=by omega
     subst this
     refine aJ.L1_step ?_
     simp
     rw [dE hlt hl.1]
     exact ihk (m+1) H _ _ _ (by omega) (by omega) (by simpa using hK)
    | succ k2 ih2 =>
     intro j H hk2 hj hK
     have hjlt:j<s.length:=by omega
     obtain ⟨p,hp⟩:=bQ hjlt
     have hpm:=List.mem_of_getElem? hp
     have hpw:=(Pt.wf_iff.1 (hsw.2 p hpm)).2
     rw [cn hp,List.all_cons] at hK
     have hjlt':(j:Int)<s.length:=by omega
     have hst:stA 6 (H.new (.cells [I 0,Sx ⟨#[]⟩,.lit (.slice none 0 0),.lit (.slice none 0 0),.lit (.slice none 0 0),.lit (.slice none 0 0)] true)) (.ptr H.n 0) (.agg (ba p))=some ((H.new (.cells [I 0,Sx ⟨#[]⟩,.lit (.slice none 0 0),.lit (.slice none 0 0),.lit (.slice none 0 0),.lit (.slice none 0 0)] true)).set H.n (some (.cells (ba p) true))):=by
      simp
      rw [Hk p (by simp)]
     refine aJ.L1_step ?_
     have hd1:(ba p).drop 1=cR p.c:=by rw [dO]; rfl
     simp only [c9,hjlt',decide_true,ae,aq,if_true,cj hp,fT,ve,bG,hst,cM,Nat.zero_add,aW,ay,bm,hd1,Ju]
     refine ap (E7 ih p.c hpw (fun q hq=>hn s hsm p hpm q hq) dp hd _) ?_
     simp only [fW,ae,aq]
     cases hb:uy (iL f) dp p.c with
     | false =>
      rw [hb] at hK
      simpa using hK _
     | true =>
      rw [hb] at hK
      simp
      rw [dE hjlt hsw.1]
      exact ih2 (j+1) _ (by omega) (by omega) (by simpa using hK)
   refine aJ.L0_step ?_
   have hst:stA 1 (H.new (.cells [.lit (.slice none 0 0)] true)) (.ptr H.n 0) (.agg (aI s))=some ((H.new (.cells [.lit (.slice none 0 0)] true)).set H.n (some (.cells (aI s) true))):=by
    simp [aI]
   have hix:aV 1 (sls l) (I (m:Int))=some (.ip (aI s)):=cj hs
   simp only [c9,hlt',decide_true,ae,aq,if_true,hix,fT,ni,bG,hst,cM,Nat.zero_add,aW,ay,bm,List.drop_zero,rk,kB,List.length_map,pX,decide_eq_true_eq]
   have hS:FC (iL f) dp s=(decide (s.length≤50)&&s.all fun p=>uy (iL f) dp p.c):=rfl
   rw [hS] at hK
   split
   ·rename_i h50
    have:¬ (s.length≤50):=by omega
    simpa [this] using hK _
   ·rename_i h50
    have:s.length≤50:=by omega
    refine L1 0 _ _ rfl (Nat.zero_le _) ?_
    simpa [this] using hK
 simp
 exact L0 0 _ _ _ _ _ rfl (Nat.zero_le _) (by simpa [iL] using hK)
theorem zX:∀ (f:Nat),tP σ f
 | 0=>fun l dp H hl hn=>hn.elim
 | f+1=>wb (zX f)
end
end Go.Proofs.YthdcghnjndhecaaGreat.Ev

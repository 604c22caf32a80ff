/- The walks, part 5: the evaluator, the functions, the laws. Conditions: none. -/
import Derived.Test.YthdcghnjndhecaaGreatZ4
namespace Go.Proofs.YthdcghnjndhecaaGreat.Ev
set_option maxRecDepth 100000
set_option maxHeartbeats 4000000
set_option linter.unusedVariables false
variable {σ:Sig} {K:AV→Hp→Prop} {H:Hp}
noncomputable def aC.code:Code:=aD Tryz.f124
noncomputable def aC.L0 (σ:Sig) (K:AV→Hp→Prop) (y0 y3 y4 y5 y8 y13 y15:AV) (H:Hp):Prop:=∀ j:Nat→AV,aN (CZ σ) (lB (bB (sR (cT (sR (bB (sR (sL (sR aC.code))))))))) ([y0,j 1,j 2,y3,y4,y5,j 6,j 7,y8,j 9,j 10,j 11,j 12,y13,j 14,y15]++jr j 16 82) H (fun e T G=>(fun e T G=>(nx (fQ Tryz.f124 σ K) fun T G=>∀ j,wp (CZ σ) 41273 (sR (sR aC.code)) (cv 41273 j 0 T) G (fQ Tryz.f124 σ K)) (al 0 e) T G) (al 1 e) T G)
noncomputable def aC.L1 (σ:Sig) (K:AV→Hp→Prop) (y0 y3 y4 y5 y8 y13 y15:AV) (H:Hp):Prop:=∀ j:Nat→AV,aN (CZ σ) (lB (bB (sR (cT (sR (cE (sR (cE (sR (cE (sR (bB (sR (sL (sR aC.code))))))))))))))) ([y0,j 1,j 2,y3,y4,y5,j 6,j 7,y8,j 9,j 10,j 11,j 12,y13,j 14,y15]++jr j 16 82) H (fun e T G=>(fun e T G=>(nx (fQ Tryz.f124 σ K) fun T G=>∀ j,wp (CZ σ) 41273 (sR (sR aC.code)) (cv 41273 j 0 T) G (fQ Tryz.f124 σ K)) (al 0 e) T G) (al 3 e) T G)
noncomputable def aC.J2 (σ:Sig) (K:AV→Hp→Prop) (y0 y3 y4 y5 y8 y13 y15:AV) (H:Hp):Prop:=∀ j:Nat→AV,wp (CZ σ) 41273 (sR (sR aC.code)) ([y0,j 1,j 2,y3,y4,y5,j 6,j 7,y8,j 9,j 10,j 11,j 12,y13,j 14,y15]++jr j 16 82) H (fQ Tryz.f124 σ K)
theorem aC.L0_step {y0 y3 y4 y5 y8 y13 y15:AV} (h:bnd (ah .geq y13 (I 0)) fun x1=>ifB x1 (bnd (ldA true 1 H y8) fun x2=>bnd (ah .sub y3 (I 1)) fun x3=>av Tryz.prog σ c9 [y0,y13,x2,x3,y4,y5] H fun x4 H5=>ifB x4 (K (Bo true) H5) (av Tryz.prog σ cB [y0,y13] H5 fun x6 H7=>aC.L0 σ K y0 y3 y4 y5 y8 x6 y15 H7)) (aC.J2 σ K y0 y3 y4 y5 y8 y13 y15 H)):aC.L0 σ K y0 y3 y4 y5 y8 y13 y15 H :=
 fun j=>lrd (g:=41273) (Eq.mpr (by kernel_rfl) h)
theorem aC.L1_step {y0 y3 y4 y5 y8 y13 y15:AV} (h:bnd (ah .geq y15 (I 0)) fun x1=>ifB x1 (bnd (ldA true 1 H y8) fun x2=>bnd (ah .sub y3 (I 1)) fun x3=>av Tryz.prog σ c9 [y0,y15,x2,x3,y4,y5] H fun x4 H5=>ifB x4 (K (Bo true) H5) (av Tryz.prog σ dj [y0,y15] H5 fun x6 H7=>aC.L1 σ K y0 y3 y4 y5 y8 y13 x6 H7)) (aC.J2 σ K y0 y3 y4 y5 y8 y13 y15 H)):aC.L1 σ K y0 y3 y4 y5 y8 y13 y15 H :=
 fun j=>lrd (g:=41273) (Eq.mpr (by kernel_rfl) h)
theorem aC.J2_step {y0 y3 y4 y5 y8 y13 y15:AV} (h:K (Bo false) H):aC.J2 σ K y0 y3 y4 y5 y8 y13 y15 H :=
 fun j=>Eq.mpr (by kernel_rfl) h
theorem aC.run {a0 a1 a2 a3 a4 a5:AV} (h:cV a2 H fun x1 H2=>bnd (ae x1 0) fun x3=>bnd (ldA false 1 H2 x3) fun x4=>bnd (ah .sub a3 (I 1)) fun x5=>bnd (az 6 x4 x5) fun x6=>bnd (ae x6 0) fun x7=>bnd (ldA false 1 H2 x7) fun x8=>bnd (ah .eql x8 (I 1)) fun x9=>ifB x9 (av Tryz.prog σ cB [a0,a1] H2 fun x10 H11=>aC.L0 σ K a0 a3 a4 a5 x1 x10 (.lit undef) H11) (bnd (ah .eql x8 (I 2)) fun x12=>ifB x12 (av Tryz.prog σ cB [a0,a1] H2 fun x13 H14=>bnd (ah .geq x13 (I 0)) fun x15=>ifB x15 (av Tryz.prog σ cB [a0,a1] H14 fun x16 H17=>kpK (x1,some 1) H14 H17 (bnd (ldA true 1 H17 x1) fun x18=>bnd (ah .sub a3 (I 1)) fun x19=>av Tryz.prog σ c9 [a0,x16,x18,x19,a4,a5] H17 fun x20 H21=>K x20 H21)) (K (Bo false) H14)) (bnd (ah .eql x8 (I 3)) fun x22=>ifB x22 (av Tryz.prog σ dj [a0,a1] H2 fun x23 H24=>bnd (ah .geq x23 (I 0)) fun x25=>ifB x25 (av Tryz.prog σ dj [a0,a1] H24 fun x26 H27=>kpK (x1,some 1) H24 H27 (bnd (ldA true 1 H27 x1) fun x28=>bnd (ah .sub a3 (I 1)) fun x29=>av Tryz.prog σ c9 [a0,x26,x28,x29,a4,a5] H27 fun x30 H31=>K x30 H31)) (K (Bo false) H24)) (bnd (ah .eql x8 (I 4)) fun x32=>ifB x32 (av Tryz.prog σ dj [a0,a1] H2 fun x33 H34=>aC.L1 σ K a0 a3 a4 a5 x1 (.lit undef) x33 H34) (aC.J2 σ K a0 a3 a4 a5 x1 (.lit undef) (.lit undef) H2))))):∃ r H1,au Tryz.prog σ gz [a0,a1,a2,a3,a4,a5] H r H1∧K r H1 :=
 gwp 41273 (fn:=Tryz.f124) (f:=gz) (c:=aC.code) (by kernel_rfl) (by kernel_rfl) (Eq.mpr (by kernel_rfl) h)
noncomputable def s9.code:Code:=aD Tryz.f136
theorem s9.run {a0 a1:AV} (h:bnd (gn .neq a0 (.lit (.pointer none))) fun x1=>ifB x1 (bnd (ah .geq a1 (I 0)) fun x2=>ifB x2 (av Tryz.prog σ iV [a0] H fun x3 H4=>bnd (ah .lss a1 x3) fun x5=>K x5 H4) (K (Bo false) H)) (K (Bo false) H)):∃ r H1,au Tryz.prog σ mZ [a0,a1] H r H1∧K r H1 :=
 gwp 0 (fn:=Tryz.f136) (f:=mZ) (c:=s9.code) (by kernel_rfl) (by kernel_rfl) (Eq.mpr (by kernel_rfl) h)
noncomputable def nO.code:Code:=aD Tryz.f137
theorem nO.run {a0:AV} (h:bnd (dy [.lit (.pointer none),.lit (.slice none 0 0),.lit (.map none)] [(0,1,a0),(2,1,(.mp H.n))]) fun l1=>cV (.agg l1) (H.new (.map [])) fun x2 H3=>K x2 H3):∃ r H1,au Tryz.prog σ md [a0] H r H1∧K r H1 :=
 gwp 0 (fn:=Tryz.f137) (f:=md) (c:=nO.code) (by kernel_rfl) (by kernel_rfl) (Eq.mpr (by kernel_rfl) h)
noncomputable def bG.code:Code:=aD Tryz.f138
noncomputable def bG.Q0 (σ:Sig) (K:AV→Hp→Prop):Exit→List AV→Hp→Prop:=(nx (fQ Tryz.f138 σ K) fun T G=>wp (CZ σ) 7343618 (sR (sR bG.code)) T G (fQ Tryz.f138 σ K))
noncomputable def bG.L0 (σ:Sig) (K:AV→Hp→Prop) (y1 y9 y10 y11 y20 y21 y22:AV) (H:Hp):Prop:=∀ j:Nat→AV,aN (CZ σ) (lB (bB (sR (sL (sR bG.code))))) ([j 0,y1,j 2,j 3,j 4,j 5,j 6,j 7,j 8,y9,y10,y11,j 12,j 13,j 14,j 15,j 16,j 17,j 18,j 19,y20,y21,y22]++jr j 23 10) H (fun e T G=>(bG.Q0 σ K) (al 0 e) T G)
noncomputable def bG.L1 (σ:Sig) (K:AV→Hp→Prop) (y1 y9 y10 y11 y20 y21 y22:AV) (H:Hp):Prop:=∀ j:Nat→AV,aN (CZ σ) (lB (bB (sR (sR (sR (bB (sL (sR (sR (lB (bB (sR (sL (sR bG.code)))))))))))))) ([j 0,y1,j 2,j 3,j 4,j 5,j 6,j 7,j 8,y9,y10,y11,j 12,j 13,j 14,j 15,j 16,j 17,j 18,j 19,y20,y21,y22]++jr j 23 10) H (fun e T G=>(fun e T G=>(nx (nx (fun e T G=>(bG.Q0 σ K) (al 0 e) T G) fun T G=>∀ j,aN (CZ σ) (lB (bB (sR (sL (sR bG.code))))) (cv 7343618 j 0 T) G (fun e T G=>(bG.Q0 σ K) (al 0 e) T G)) fun T G=>wp (CZ σ) 7343618 (sR (sR (sR (lB (bB (sR (sL (sR bG.code)))))))) T G (nx (fun e T G=>(bG.Q0 σ K) (al 0 e) T G) fun T G=>∀ j,aN (CZ σ) (lB (bB (sR (sL (sR bG.code))))) (cv 7343618 j 0 T) G (fun e T G=>(bG.Q0 σ K) (al 0 e) T G))) (al 1 e) T G) (al 2 e) T G)
theorem bG.L0_step {y1 y9 y10 y11 y20 y21 y22:AV} (h:bnd (ah .lss y11 y10) fun x1=>ifB x1 (bnd (az 1 y9 y11) fun x2=>bnd (ldA true 1 H x2) fun x3=>bE [.lit (.slice none 0 0)] H fun x4 H5=>bnd (stA 1 H5 x4 x3) fun H6=>bnd (ae x4 0) fun x7=>bnd (ldA false 1 H6 x7) fun x8=>bnd (aG x8) fun x9=>bnd (ah .gtr x9 (I 50)) fun x10=>ifB x10 (K (Bo false) H6) (bnd (ae x4 0) fun x11=>bnd (ldA false 1 H6 x11) fun x12=>bnd (aG x12) fun x13=>bG.L1 σ K y1 y9 y10 y11 x12 x13 (I 0) H6)) (K (Bo true) H)):bG.L0 σ K y1 y9 y10 y11 y20 y21 y22 H :=
 fun j=>lrd (g:=7343618) (Eq.mpr (by kernel_rfl) h)
theorem bG.L1_step {y1 y9 y10 y11 y20 y21 y22:AV} (h:bnd (ah .lss y22 y21) fun x1=>ifB x1 (bnd (az 6 y20 y22) fun x2=>bnd (ldA true 6 H x2) fun x3=>bE [I 0,.lit (.string ⟨#[]⟩),.lit (.slice none 0 0),.lit (.slice none 0 0),.lit (.slice none 0 0),.lit (.slice none 0 0)] H fun x4 H5=>bnd (stA 6 H5 x4 x3) fun H6=>bnd (ae x4 1) fun x7=>bnd (ldA true 5 H6 x7) fun x8=>av Tryz.prog σ fp [x8,y1] H6 fun x9 H10=>bnd (unR .not x9) fun x11=>ifB x11 (K (Bo false) H10) (bnd (ah .add y22 (I 1)) fun x12=>bG.L1 σ K y1 y9 y10 y11 y20 y21 x12 H10)) (bnd (ah .add y11 (I 1)) fun x13=>bG.L0 σ K y1 y9 y10 x13 y20 y21 y22 H)):bG.L1 σ K y1 y9 y10 y11 y20 y21 y22 H :=
 fun j=>lrd (g:=7343618) (Eq.mpr (by kernel_rfl) h)
theorem bG.run {a0 a1:AV} (h:bnd (aG a0) fun x1=>bG.L0 σ K a1 a0 x1 (I 0) (.lit undef) (.lit undef) (.lit undef) H):∃ r H1,au Tryz.prog σ gH [a0,a1] H r H1∧K r H1 :=
 gwp 7343618 (fn:=Tryz.f138) (f:=gH) (c:=bG.code) (by kernel_rfl) (by kernel_rfl) (Eq.mpr (by kernel_rfl) h)
noncomputable def bZ.code:Code:=aD Tryz.f139
noncomputable def bZ.L0 (σ:Sig) (K:AV→Hp→Prop) (y0 y1 y10 y11 y12:AV) (H:Hp):Prop:=∀ j:Nat→AV,aN (CZ σ) (lB (bB (sR (sL (sR bZ.code))))) ([y0,y1,j 2,j 3,j 4,j 5,j 6,j 7,j 8,j 9,y10,y11,y12]++jr j 13 22) H (fun e T G=>(nx (fQ Tryz.f139 σ K) fun T G=>wp (CZ σ) 7171 (sR (sR bZ.code)) T G (fQ Tryz.f139 σ K)) (al 0 e) T G)
theorem bZ.L0_step {y0 y1 y10 y11 y12:AV} (h:bnd (ah .lss y12 y11) fun x1=>ifB x1 (bnd (az 1 y10 y12) fun x2=>bnd (ldA false 1 H x2) fun x3=>bnd (cb y0) fun x4=>bnd (ae x4 1) fun x5=>bnd (ldA false 1 H x5) fun x6=>bnd (az 1 x6 x3) fun x7=>bnd (ldA false 1 H x7) fun x8=>bnd (aG x8) fun x9=>bnd (ah .gtr x9 (I 0)) fun x10=>ifB x10 (bnd (ah .sub x9 (I 1)) fun x11=>av Tryz.prog σ dH [y0,x3,x11,y1] H fun x12 H13=>ifB x12 (K (Bo true) H13) (bnd (ah .add y12 (I 1)) fun x14=>bZ.L0 σ K y0 y1 y10 y11 x14 H13)) (bnd (ah .add y12 (I 1)) fun x15=>bZ.L0 σ K y0 y1 y10 y11 x15 H)) (K (Bo false) H)):bZ.L0 σ K y0 y1 y10 y11 y12 H :=
 fun j=>lrd (g:=7171) (Eq.mpr (by kernel_rfl) h)
theorem bZ.run {a0 a1 a2:AV} (h:bnd (aG a2) fun x1=>bZ.L0 σ K a0 a1 a2 x1 (I 0) H):∃ r H1,au Tryz.prog σ dY [a0,a1,a2] H r H1∧K r H1 :=
 gwp 7171 (fn:=Tryz.f139) (f:=dY) (c:=bZ.code) (by kernel_rfl) (by kernel_rfl) (Eq.mpr (by kernel_rfl) h)
noncomputable def am.code:Code:=aD Tryz.f140
noncomputable def am.Q0 (σ:Sig) (K:AV→Hp→Prop):Exit→List AV→Hp→Prop:=(nx (fQ Tryz.f140 σ K) fun T G=>wp (CZ σ) 15047182625 (sR (sR (sR am.code))) T G (fQ Tryz.f140 σ K))
noncomputable def am.Q1 (σ:Sig) (K:AV→Hp→Prop):Exit→List AV→Hp→Prop:=(nx (fun e T G=>(am.Q0 σ K) (al 0 e) T G) fun T G=>∀ j,aN (CZ σ) (lB (bB (sR (sL (sR (sR am.code)))))) (cv 15047182625 j 0 T) G (fun e T G=>(am.Q0 σ K) (al 0 e) T G))
noncomputable def am.Q2 (σ:Sig) (K:AV→Hp→Prop):Exit→List AV→Hp→Prop:=(nx (am.Q1 σ K) fun T G=>wp (CZ σ) 15047182625 (sR (sR (sR (lB (bB (sR (sL (sR (sR am.code))))))))) T G (am.Q1 σ K))
noncomputable def am.Q3 (σ:Sig) (K:AV→Hp→Prop):Exit→List AV→Hp→Prop:=(nx (fun e T G=>(am.Q2 σ K) (al 1 e) T G) fun T G=>wp (CZ σ) 15047182625 (sR (sR (sR (bB (sL (sR (sR (lB (bB (sR (sL (sR (sR am.code))))))))))))) T G (fun e T G=>(am.Q2 σ K) (al 1 e) T G))
noncomputable def am.Q4 (σ:Sig) (K:AV→Hp→Prop):Exit→List AV→Hp→Prop:=(nx (fun e T G=>(am.Q3 σ K) (al 2 e) T G) fun T G=>∀ j,aN (CZ σ) (lB (bB (sR (sL (sR (sR (bB (sL (sR (sR (lB (bB (sR (sL (sR (sR am.code)))))))))))))))) (cv 15047182625 j 0 T) G (fun e T G=>(am.Q3 σ K) (al 2 e) T G))
noncomputable def am.L0 (σ:Sig) (K:AV→Hp→Prop) (y0 y5 y8 y11 y14 y15 y16 y21 y22 y23 y31 y32 y33:AV) (H:Hp):Prop:=∀ j:Nat→AV,aN (CZ σ) (lB (bB (sR (sL (sR (sR am.code)))))) ([y0,j 1,j 2,j 3,j 4,y5,j 6,j 7,y8,j 9,j 10,y11,j 12,j 13,y14,y15,y16,j 17,j 18,j 19,j 20,y21,y22,y23,j 24,j 25,j 26,j 27,j 28,j 29,j 30,y31,y32,y33]++jr j 34 38) H (fun e T G=>(am.Q0 σ K) (al 0 e) T G)
noncomputable def am.L1 (σ:Sig) (K:AV→Hp→Prop) (y0 y5 y8 y11 y14 y15 y16 y21 y22 y23 y31 y32 y33:AV) (H:Hp):Prop:=∀ j:Nat→AV,aN (CZ σ) (lB (bB (sR (sL (sR (sR (bB (sL (sR (sR (lB (bB (sR (sL (sR (sR am.code)))))))))))))))) ([y0,j 1,j 2,j 3,j 4,y5,j 6,j 7,y8,j 9,j 10,y11,j 12,j 13,y14,y15,y16,j 17,j 18,j 19,j 20,y21,y22,y23,j 24,j 25,j 26,j 27,j 28,j 29,j 30,y31,y32,y33]++jr j 34 38) H (fun e T G=>(am.Q3 σ K) (al 2 e) T G)
noncomputable def am.L2 (σ:Sig) (K:AV→Hp→Prop) (y0 y5 y8 y11 y14 y15 y16 y21 y22 y23 y31 y32 y33:AV) (H:Hp):Prop:=∀ j:Nat→AV,aN (CZ σ) (lB (bB (sR (sL (sR (sR (bB (sL (sR (sR (lB (bB (sR (sL (sR (sR (bB (sL (sR (sR (lB (bB (sR (sL (sR (sR am.code)))))))))))))))))))))))))) ([y0,j 1,j 2,j 3,j 4,y5,j 6,j 7,y8,j 9,j 10,y11,j 12,j 13,y14,y15,y16,j 17,j 18,j 19,j 20,y21,y22,y23,j 24,j 25,j 26,j 27,j 28,j 29,j 30,y31,y32,y33]++jr j 34 38) H (fun e T G=>(nx (fun e T G=>(nx (am.Q4 σ K) fun T G=>wp (CZ σ) 15047182625 (sR (sR (sR (lB (bB (sR (sL (sR (sR (bB (sL (sR (sR (lB (bB (sR (sL (sR (sR am.code))))))))))))))))))) T G (am.Q4 σ K)) (al 3 e) T G) fun T G=>wp (CZ σ) 15047182625 (sR (sR (sR (bB (sL (sR (sR (lB (bB (sR (sL (sR (sR (bB (sL (sR (sR (lB (bB (sR (sL (sR (sR am.code))))))))))))))))))))))) T G (fun e T G=>(nx (am.Q4 σ K) fun T G=>wp (CZ σ) 15047182625 (sR (sR (sR (lB (bB (sR (sL (sR (sR (bB (sL (sR (sR (lB (bB (sR (sL (sR (sR am.code))))))))))))))))))) T G (am.Q4 σ K)) (al 3 e) T G)) (al 4 e) T G)
theorem am.L0_step {y0 y5 y8 y11 y14 y15 y16 y21 y22 y23 y31 y32 y33:AV} (h:bnd (ah .lss y16 y15) fun x1=>ifB x1 (bnd (az 1 y14 y16) fun x2=>bnd (ldA true 1 H x2) fun x3=>bE [.lit (.slice none 0 0)] H fun x4 H5=>bnd (stA 1 H5 x4 x3) fun H6=>bnd (ae x4 0) fun x7=>bnd (ldA false 1 H6 x7) fun x8=>bnd (aG x8) fun x9=>am.L1 σ K y0 y5 (.lit (.slice none 0 0)) y11 y14 y15 y16 x8 x9 (I 0) y31 y32 y33 H6) (K y5 H)):am.L0 σ K y0 y5 y8 y11 y14 y15 y16 y21 y22 y23 y31 y32 y33 H :=
 fun j=>lrd (g:=15047182625) (Eq.mpr (by kernel_rfl) h)
theorem am.L1_step {y0 y5 y8 y11 y14 y15 y16 y21 y22 y23 y31 y32 y33:AV} (h:bnd (ah .lss y23 y22) fun x1=>ifB x1 (bnd (az 6 y21 y23) fun x2=>bnd (ldA true 6 H x2) fun x3=>bE [I 0,.lit (.string ⟨#[]⟩),.lit (.slice none 0 0),.lit (.slice none 0 0),.lit (.slice none 0 0),.lit (.slice none 0 0)] H fun x4 H5=>bnd (stA 6 H5 x4 x3) fun H6=>bnd (ldA true 6 H6 x4) fun x7=>bnd (dy [I 0,.lit (.string ⟨#[]⟩),.lit (.slice none 0 0),.lit (.slice none 0 0),.lit (.slice none 0 0),.lit (.slice none 0 0),.lit (.slice none 0 0)] [(0,6,x7)]) fun l8=>bE [I 0,.lit (.string ⟨#[]⟩),.lit (.slice none 0 0),.lit (.slice none 0 0),.lit (.slice none 0 0),.lit (.slice none 0 0),.lit (.slice none 0 0)] H6 fun x9 H10=>bnd (stA 7 H10 x9 (.agg l8)) fun H11=>bnd (ae x4 1) fun x12=>bnd (ae x12 4) fun x13=>bnd (ldA false 1 H11 x13) fun x14=>bnd (aG x14) fun x15=>am.L2 σ K y0 y5 y8 x9 y14 y15 y16 y21 y22 y23 x14 x15 (I 0) H11) (bnd (cb y0) fun x16=>bnd (ae x16 1) fun x17=>bnd (ldA false 1 H x17) fun x18=>bnd (aG x18) fun x19=>bnd (cj [.int .i64 0] 1 1 H [(0,1,x19)]) fun p20=>bnd (eA false 1 8 p20.2 y5 p20.1) fun p21=>bnd (cb y0) fun x22=>bnd (ae x22 1) fun x23=>bnd (ldA false 1 p21.2 x23) fun x24=>bnd (cj [.slice none 0 0] 1 1 p21.2 [(0,1,y8)]) fun p25=>bnd (eA false 1 24 p25.2 x24 p25.1) fun p26=>bnd (cb y0) fun x27=>bnd (ae x27 1) fun x28=>bnd (stA 1 p26.2 x28 p26.1) fun H29=>bnd (ah .add y16 (I 1)) fun x30=>am.L0 σ K y0 p21.1 y8 y11 y14 y15 x30 y21 y22 y23 y31 y32 y33 H29)):am.L1 σ K y0 y5 y8 y11 y14 y15 y16 y21 y22 y23 y31 y32 y33 H :=
 fun j=>lrd (g:=15047182625) (Eq.mpr (by kernel_rfl) h)
theorem am.L2_step {y0 y5 y8 y11 y14 y15 y16 y21 y22 y23 y31 y32 y33:AV} (h:bnd (ah .lss y33 y32) fun x1=>ifB x1 (bnd (az 4 y31 y33) fun x2=>bnd (ldA true 4 H x2) fun x3=>bE [I 0,I 0,I 0,.lit (.slice none 0 0)] H fun x4 H5=>bnd (stA 4 H5 x4 x3) fun H6=>bnd (ae y11 6) fun x7=>bnd (ldA false 1 H6 x7) fun x8=>bnd (ae x4 3) fun x9=>bnd (ldA false 1 H6 x9) fun x10=>av Tryz.prog σ d5 [y0,x10] H6 fun x11 H12=>kpK (x7,some 1) H6 H12 (bnd (cj [.slice none 0 0] 1 1 H12 [(0,1,x11)]) fun p13=>kpK (x7,some 1) H12 p13.2 (bnd (eA false 1 24 p13.2 x8 p13.1) fun p14=>bnd (ae y11 6) fun x15=>bnd (stA 1 p14.2 x15 p14.1) fun H16=>bnd (ah .add y33 (I 1)) fun x17=>am.L2 σ K y0 y5 y8 y11 y14 y15 y16 y21 y22 y23 y31 y32 x17 H16))) (bnd (ldA true 7 H y11) fun x18=>bnd (cj [.int .i64 0,.string ⟨#[]⟩,.slice none 0 0,.slice none 0 0,.slice none 0 0,.slice none 0 0,.slice none 0 0] 7 1 H [(0,7,x18)]) fun p19=>bnd (eA false 7 144 p19.2 y8 p19.1) fun p20=>bnd (ah .add y23 (I 1)) fun x21=>am.L1 σ K y0 y5 p20.1 y11 y14 y15 y16 y21 y22 x21 y31 y32 y33 p20.2)):am.L2 σ K y0 y5 y8 y11 y14 y15 y16 y21 y22 y23 y31 y32 y33 H :=
 fun j=>lrd (g:=15047182625) (Eq.mpr (by kernel_rfl) h)
theorem am.run {a0 a1:AV} (h:bnd (aG a1) fun x1=>am.L0 σ K a0 (.lit (.slice none 0 0)) (.lit undef) (.lit undef) a1 x1 (I 0) (.lit undef) (.lit undef) (.lit undef) (.lit undef) (.lit undef) (.lit undef) H):∃ r H1,au Tryz.prog σ d5 [a0,a1] H r H1∧K r H1 :=
 gwp 15047182625 (fn:=Tryz.f140) (f:=d5) (c:=am.code) (by kernel_rfl) (by kernel_rfl) (Eq.mpr (by kernel_rfl) h)
noncomputable def ao.code:Code:=aD Tryz.f141
noncomputable def ao.Q0 (σ:Sig) (K:AV→Hp→Prop):Exit→List AV→Hp→Prop:=(nx (fun e T G=>(fQ Tryz.f141 σ K) (al 0 e) T G) fun T G=>∀ j,aN (CZ σ) (lB (bB (sR (sR (sR (sR (sR ao.code))))))) (cv 8264141837603088367893 j 0 T) G (fun e T G=>(fQ Tryz.f141 σ K) (al 0 e) T G))
noncomputable def ao.Q1 (σ:Sig) (K:AV→Hp→Prop):Exit→List AV→Hp→Prop:=(fun e T G=>(nx (ao.Q0 σ K) fun T G=>∀ j,wp (CZ σ) 8264141837603088367893 (sR (sR (sR (lB (bB (sR (sR (sR (sR (sR ao.code)))))))))) (cv 8264141837603088367893 j 0 T) G (ao.Q0 σ K)) (al 1 e) T G)
noncomputable def ao.J0 (σ:Sig) (K:AV→Hp→Prop) (y0 y2 y4 y8 y46 y47 y48 y70 y71 y72:AV) (H:Hp):Prop:=∀ j:Nat→AV,wp (CZ σ) 8264141837603088367893 (sR (sR (sR (sR ao.code)))) ([y0,j 1,y2,j 3,y4,j 5,j 6,j 7,y8,j 9,j 10,j 11,j 12,j 13,j 14,j 15,j 16,j 17,j 18,j 19,j 20,j 21,j 22,j 23,j 24,j 25,j 26,j 27,j 28,j 29,j 30,j 31,j 32,j 33,j 34,j 35,j 36,j 37,j 38,j 39,j 40,j 41,j 42,j 43,j 44,j 45,y46,y47,y48,j 49,j 50,j 51,j 52,j 53,j 54,j 55,j 56,j 57,j 58,j 59,j 60,j 61,j 62,j 63,j 64,j 65,j 66,j 67,j 68,j 69,y70,y71,y72]++jr j 73 14) H (fQ Tryz.f141 σ K)
noncomputable def ao.L1 (σ:Sig) (K:AV→Hp→Prop) (y0 y2 y4 y8 y46 y47 y48 y70 y71 y72:AV) (H:Hp):Prop:=∀ j:Nat→AV,aN (CZ σ) (lB (bB (sR (sR (sR (sR (sR ao.code))))))) ([y0,j 1,y2,j 3,y4,j 5,j 6,j 7,y8,j 9,j 10,j 11,j 12,j 13,j 14,j 15,j 16,j 17,j 18,j 19,j 20,j 21,j 22,j 23,j 24,j 25,j 26,j 27,j 28,j 29,j 30,j 31,j 32,j 33,j 34,j 35,j 36,j 37,j 38,j 39,j 40,j 41,j 42,j 43,j 44,j 45,y46,y47,y48,j 49,j 50,j 51,j 52,j 53,j 54,j 55,j 56,j 57,j 58,j 59,j 60,j 61,j 62,j 63,j 64,j 65,j 66,j 67,j 68,j 69,y70,y71,y72]++jr j 73 14) H (fun e T G=>(fQ Tryz.f141 σ K) (al 0 e) T G)
noncomputable def ao.J2 (σ:Sig) (K:AV→Hp→Prop) (y0 y2 y4 y8 y46 y47 y48 y70 y71 y72:AV) (H:Hp):Prop:=∀ j:Nat→AV,wp (CZ σ) 8264141837603088367893 (sR (sR (sR (lB (bB (sR (sR (sR (sR (sR ao.code)))))))))) ([y0,j 1,y2,j 3,y4,j 5,j 6,j 7,y8,j 9,j 10,j 11,j 12,j 13,j 14,j 15,j 16,j 17,j 18,j 19,j 20,j 21,j 22,j 23,j 24,j 25,j 26,j 27,j 28,j 29,j 30,j 31,j 32,j 33,j 34,j 35,j 36,j 37,j 38,j 39,j 40,j 41,j 42,j 43,j 44,j 45,y46,y47,y48,j 49,j 50,j 51,j 52,j 53,j 54,j 55,j 56,j 57,j 58,j 59,j 60,j 61,j 62,j 63,j 64,j 65,j 66,j 67,j 68,j 69,y70,y71,y72]++jr j 73 14) H (ao.Q0 σ K)
noncomputable def ao.L3 (σ:Sig) (K:AV→Hp→Prop) (y0 y2 y4 y8 y46 y47 y48 y70 y71 y72:AV) (H:Hp):Prop:=∀ j:Nat→AV,aN (CZ σ) (lB (bB (sR (sL (sR (sR (sR (sR (bB (sL (sR (sR (lB (bB (sR (sR (sR (sR (sR ao.code))))))))))))))))))) ([y0,j 1,y2,j 3,y4,j 5,j 6,j 7,y8,j 9,j 10,j 11,j 12,j 13,j 14,j 15,j 16,j 17,j 18,j 19,j 20,j 21,j 22,j 23,j 24,j 25,j 26,j 27,j 28,j 29,j 30,j 31,j 32,j 33,j 34,j 35,j 36,j 37,j 38,j 39,j 40,j 41,j 42,j 43,j 44,j 45,y46,y47,y48,j 49,j 50,j 51,j 52,j 53,j 54,j 55,j 56,j 57,j 58,j 59,j 60,j 61,j 62,j 63,j 64,j 65,j 66,j 67,j 68,j 69,y70,y71,y72]++jr j 73 14) H (fun e T G=>(nx (ao.Q1 σ K) fun T G=>wp (CZ σ) 8264141837603088367893 (sR (sR (sR (sR (sR (bB (sL (sR (sR (lB (bB (sR (sR (sR (sR (sR ao.code)))))))))))))))) T G (ao.Q1 σ K)) (al 2 e) T G)
theorem ao.J0_step {y0 y2 y4 y8 y46 y47 y48 y70 y71 y72:AV} (h:bnd (ae y4 4) fun x1=>bnd (ldA false 1 H x1) fun x2=>bnd (aG x2) fun x3=>ao.L1 σ K y0 y2 y4 y8 x2 x3 (I 0) y70 y71 y72 H):ao.J0 σ K y0 y2 y4 y8 y46 y47 y48 y70 y71 y72 H :=
 fun j=>Eq.mpr (by kernel_rfl) h
theorem ao.L1_step {y0 y2 y4 y8 y46 y47 y48 y70 y71 y72:AV} (h:bnd (ah .lss y48 y47) fun x1=>ifB x1 (bnd (az 4 y46 y48) fun x2=>bnd (ldA true 4 H x2) fun x3=>bE [I 0,I 0,I 0,.lit (.slice none 0 0)] H fun x4 H5=>bnd (stA 4 H5 x4 x3) fun H6=>bnd (ae x4 0) fun x7=>bnd (ldA false 1 H6 x7) fun x8=>bnd (ah .neq x8 (I 7)) fun x9=>ifB x9 (bnd (ae x4 0) fun x10=>bnd (ldA false 1 H6 x10) fun x11=>bnd (ah .neq x11 (I 8)) fun x12=>ifB x12 (bnd (cb y0) fun x13=>bnd (aX 3 1 x13 (I 1)) fun x14=>bnd (ldA false 1 H6 x14) fun x15=>bnd (ah .add x15 (I 1)) fun x16=>bnd (cb y0) fun x17=>bnd (aX 3 1 x17 (I 1)) fun x18=>bnd (stA 1 H6 x18 x16) fun H19=>ao.J2 σ K y0 y2 y4 y8 y46 y47 y48 y70 y71 y72 H19) (bnd (ah .eql y2 (I 0)) fun x20=>ifB x20 (ao.J2 σ K y0 y2 y4 y8 y46 y47 y48 y70 y71 y72 H6) (bnd (ae x4 3) fun x21=>bnd (ldA false 1 H6 x21) fun x22=>bnd (aG x22) fun x23=>ao.L3 σ K y0 y2 y4 (I 0) y46 y47 y48 x22 x23 (I 0) H6))) (bnd (ah .eql y2 (I 0)) fun x24=>ifB x24 (ao.J2 σ K y0 y2 y4 y8 y46 y47 y48 y70 y71 y72 H6) (bnd (ae x4 3) fun x25=>bnd (ldA false 1 H6 x25) fun x26=>bnd (aG x26) fun x27=>ao.L3 σ K y0 y2 y4 (I 0) y46 y47 y48 x26 x27 (I 0) H6))) (K (.tup []) H)):ao.L1 σ K y0 y2 y4 y8 y46 y47 y48 y70 y71 y72 H :=
 fun j=>lrd (g:=8264141837603088367893) (Eq.mpr (by kernel_rfl) h)
theorem ao.J2_step {y0 y2 y4 y8 y46 y47 y48 y70 y71 y72:AV} (h:bnd (ah .add y48 (I 1)) fun x1=>ao.L1 σ K y0 y2 y4 y8 y46 y47 x1 y70 y71 y72 H):ao.J2 σ K y0 y2 y4 y8 y46 y47 y48 y70 y71 y72 H :=
 fun j=>Eq.mpr (by kernel_rfl) h
theorem ao.L3_step {y0 y2 y4 y8 y46 y47 y48 y70 y71 y72:AV} (h:bnd (ah .lss y72 y71) fun x1=>ifB x1 (bnd (az 1 y70 y72) fun x2=>bnd (ldA true 1 H x2) fun x3=>bE [.lit (.slice none 0 0)] H fun x4 H5=>bnd (stA 1 H5 x4 x3) fun H6=>bnd (ldA true 1 H6 x4) fun x7=>bnd (ah .sub y2 (I 1)) fun x8=>av Tryz.prog σ fP [x7,x8] H6 fun x9 H10=>bnd (wz [y8,x9]) fun x11=>bnd (ah .add y72 (I 1)) fun x12=>ao.L3 σ K y0 y2 y4 x11 y46 y47 y48 y70 y71 x12 H10) (av Tryz.prog σ fD [y0,y8] H fun x13 H14=>ao.J2 σ K y0 y2 y4 y8 y46 y47 y48 y70 y71 y72 H14)):ao.L3 σ K y0 y2 y4 y8 y46 y47 y48 y70 y71 y72 H :=
 fun j=>lrd (g:=8264141837603088367893) (Eq.mpr (by kernel_rfl) h)
theorem ao.run {a0 a1 a2:AV} (h:cV a1 H fun x1 H2=>bnd (cb a0) fun x3=>bnd (aX 3 1 x3 (I 0)) fun x4=>bnd (ldA false 1 H2 x4) fun x5=>bnd (ae x1 1) fun x6=>bnd (ldA false 1 H2 x6) fun x7=>bnd (aG x7) fun x8=>bnd (ah .add x5 x8) fun x9=>bnd (cb a0) fun x10=>bnd (aX 3 1 x10 (I 0)) fun x11=>bnd (stA 1 H2 x11 x9) fun H12=>bnd (cb a0) fun x13=>bnd (aX 3 1 x13 (I 1)) fun x14=>bnd (ldA false 1 H12 x14) fun x15=>bnd (ae x1 2) fun x16=>bnd (ldA false 1 H12 x16) fun x17=>bnd (aG x17) fun x18=>bnd (ae x1 3) fun x19=>bnd (ldA false 1 H12 x19) fun x20=>bnd (aG x20) fun x21=>bnd (ah .add x18 x21) fun x22=>bnd (ah .add x15 x22) fun x23=>bnd (cb a0) fun x24=>bnd (aX 3 1 x24 (I 1)) fun x25=>bnd (stA 1 H12 x25 x23) fun H26=>bnd (ae x1 0) fun x27=>bnd (ldA false 1 H26 x27) fun x28=>bnd (ah .neq x28 (.lit (.string ⟨#[]⟩))) fun x29=>ifB x29 (bnd (cb a0) fun x30=>bnd (aX 3 1 x30 (I 2)) fun x31=>bnd (ldA false 1 H26 x31) fun x32=>bnd (ah .add x32 (I 1)) fun x33=>bnd (cb a0) fun x34=>bnd (aX 3 1 x34 (I 2)) fun x35=>bnd (stA 1 H26 x35 x33) fun H36=>ao.J0 σ K a0 a2 x1 (.lit undef) (.lit undef) (.lit undef) (.lit undef) (.lit undef) (.lit undef) (.lit undef) H36) (ao.J0 σ K a0 a2 x1 (.lit undef) (.lit undef) (.lit undef) (.lit undef) (.lit undef) (.lit undef) (.lit undef) H26)):∃ r H1,au Tryz.prog σ dw [a0,a1,a2] H r H1∧K r H1 :=
 gwp 8264141837603088367893 (fn:=Tryz.f141) (f:=dw) (c:=ao.code) (by kernel_rfl) (by kernel_rfl) (Eq.mpr (by kernel_rfl) h)
noncomputable def bQ.code:Code:=aD Tryz.f142
noncomputable def bQ.L0 (σ:Sig) (K:AV→Hp→Prop) (y3 y6 y7:AV) (H:Hp):Prop:=∀ j:Nat→AV,aN (CZ σ) (lB (bB (sR (sL (sR (sR bQ.code)))))) ([j 0,j 1,j 2,y3,j 4,j 5,y6,y7]++jr j 8 9) H (fun e T G=>(nx (fQ Tryz.f142 σ K) fun T G=>wp (CZ σ) 200 (sR (sR (sR bQ.code))) T G (fQ Tryz.f142 σ K)) (al 0 e) T G)
theorem bQ.L0_step {y3 y6 y7:AV} (h:bnd (ah .lss y7 (I 3)) fun x1=>ifB x1 (bnd (uW false 3 1 y6 y7) fun x2=>bnd (ah .mul y3 (I 256)) fun x3=>av Tryz.prog σ fU [x2,(I 255)] H fun x4 H5=>bnd (ah .add x3 x4) fun x6=>bnd (ah .add y7 (I 1)) fun x7=>bQ.L0 σ K x6 y6 x7 H5) (K y3 H)):bQ.L0 σ K y3 y6 y7 H :=
 fun j=>lrd (g:=200) (Eq.mpr (by kernel_rfl) h)
theorem bQ.run {a0:AV} (h:cV a0 H fun x1 H2=>bnd (ldA true 3 H2 x1) fun x3=>bQ.L0 σ K (I 0) x3 (I 0) H2):∃ r H1,au Tryz.prog σ fj [a0] H r H1∧K r H1 :=
 gwp 200 (fn:=Tryz.f142) (f:=fj) (c:=bQ.code) (by kernel_rfl) (by kernel_rfl) (Eq.mpr (by kernel_rfl) h)
noncomputable def fB.code:Code:=aD Tryz.f146
noncomputable def fB.L0 (σ:Sig) (K:AV→Hp→Prop) (y0 y1 y5:AV) (H:Hp):Prop:=∀ j:Nat→AV,aN (CZ σ) (lB (bB (sR (sL (sR fB.code))))) ([y0,y1,j 2,j 3,j 4,y5]++jr j 6 12) H (fun e T G=>(nx (fQ Tryz.f146 σ K) fun T G=>wp (CZ σ) 35 (sR (sR fB.code)) T G (fQ Tryz.f146 σ K)) (al 0 e) T G)
theorem fB.L0_step {y0 y1 y5:AV} (h:bnd (aG y0) fun x1=>bnd (ah .lss y5 x1) fun x2=>ifB x2 (bnd (az 1 y0 y5) fun x3=>bnd (ldA false 1 H x3) fun x4=>bnd (ah .eql x4 y1) fun x5=>ifB x5 (K (Bo true) H) (bnd (ah .add y5 (I 1)) fun x6=>fB.L0 σ K y0 y1 x6 H)) (K (Bo false) H)):fB.L0 σ K y0 y1 y5 H :=
 fun j=>lrd (g:=35) (Eq.mpr (by kernel_rfl) h)
theorem fB.run {a0 a1:AV} (h:fB.L0 σ K a0 a1 (I 0) H):∃ r H1,au Tryz.prog σ ld [a0,a1] H r H1∧K r H1 :=
 gwp 35 (fn:=Tryz.f146) (f:=ld) (c:=fB.code) (by kernel_rfl) (by kernel_rfl) (Eq.mpr (by kernel_rfl) h)
noncomputable def eB.code:Code:=aD Tryz.f147
noncomputable def eB.L0 (σ:Sig) (K:AV→Hp→Prop) (y2 y3 y5:AV) (H:Hp):Prop:=∀ j:Nat→AV,aN (CZ σ) (lB (bB (sR (sL (sR eB.code))))) ([j 0,j 1,y2,y3,j 4,y5]++jr j 6 103) H (fun e T G=>(nx (fQ Tryz.f147 σ K) fun T G=>wp (CZ σ) 44 (sR (sR eB.code)) T G (fQ Tryz.f147 σ K)) (al 0 e) T G)
theorem eB.L0_step {y2 y3 y5:AV} (h:bnd (ae y2 4) fun x1=>bnd (ldA false 1 H x1) fun x2=>bnd (aG x2) fun x3=>bnd (ah .lss y5 x3) fun x4=>ifB x4 (bnd (ae y2 4) fun x5=>bnd (ldA false 1 H x5) fun x6=>bnd (az 2 x6 y5) fun x7=>bnd (ae x7 0) fun x8=>bnd (ldA false 1 H x8) fun x9=>bnd (ae y3 0) fun x10=>bnd (ldA false 1 H x10) fun x11=>bnd (ah .neq x9 x11) fun x12=>ifB x12 (bnd (ah .add y5 (I 1)) fun x13=>eB.L0 σ K y2 y3 x13 H) (bnd (ae y2 4) fun x14=>bnd (ldA false 1 H x14) fun x15=>bnd (az 2 x15 y5) fun x16=>bnd (ae x16 1) fun x17=>bnd (ldA false 1 H x17) fun x18=>bnd (ae y3 1) fun x19=>bnd (ldA false 1 H x19) fun x20=>bnd (ah .eql x20 (I 0)) fun x21=>ifB x21 (K (Bo true) H) (bnd (ah .eql x20 (I 1)) fun x22=>ifB x22 (bnd (ae y3 2) fun x23=>bnd (ldA false 1 H x23) fun x24=>bnd (ah .eql x18 x24) fun x25=>K x25 H) (bnd (ah .eql x20 (I 2)) fun x26=>ifB x26 (bnd (ae y3 2) fun x27=>bnd (ldA false 1 H x27) fun x28=>av Tryz.prog σ hO [x28] H fun x29 H30=>bnd (aG x29) fun x31=>bnd (ah .eql x31 (I 1)) fun x32=>ifB x32 (bnd (az 1 x29 (I 0)) fun x33=>bnd (ldA false 1 H30 x33) fun x34=>bnd (ae y3 2) fun x35=>bnd (ldA false 1 H30 x35) fun x36=>bnd (ah .eql x34 x36) fun x37=>ifB x37 (av Tryz.prog σ hO [x18] H30 fun x38 H39=>bnd (ae y3 2) fun x40=>kpK (x40,some 1) H30 H39 (bnd (ldA false 1 H39 x40) fun x41=>av Tryz.prog σ ld [x38,x41] H39 fun x42 H43=>K x42 H43)) (K (Bo false) H30)) (K (Bo false) H30)) (bnd (ah .eql x20 (I 3)) fun x44=>ifB x44 (bnd (ae y3 2) fun x45=>bnd (ldA false 1 H x45) fun x46=>bnd (ah .eql x18 x46) fun x47=>ifB x47 (K (Bo true) H) (bnd (ae y3 2) fun x48=>bnd (ldA false 1 H x48) fun x49=>bnd (ah .add x49 (.lit (.string ⟨#[45]⟩))) fun x50=>av Tryz.prog σ ir [x18,x50] H fun x51 H52=>K x51 H52)) (bnd (ah .eql x20 (I 4)) fun x53=>ifB x53 (bnd (ae y3 2) fun x54=>bnd (ldA false 1 H x54) fun x55=>bnd (ah .neq x55 (.lit (.string ⟨#[]⟩))) fun x56=>ifB x56 (bnd (ae y3 2) fun x57=>bnd (ldA false 1 H x57) fun x58=>av Tryz.prog σ ir [x18,x58] H fun x59 H60=>K x59 H60) (K (Bo false) H)) (bnd (ah .eql x20 (I 5)) fun x61=>ifB x61 (bnd (ae y3 2) fun x62=>bnd (ldA false 1 H x62) fun x63=>bnd (ah .neq x63 (.lit (.string ⟨#[]⟩))) fun x64=>ifB x64 (bnd (ae y3 2) fun x65=>bnd (ldA false 1 H x65) fun x66=>av Tryz.prog σ lA [x18,x66] H fun x67 H68=>K x67 H68) (K (Bo false) H)) (bnd (ah .eql x20 (I 6)) fun x69=>ifB x69 (bnd (ae y3 2) fun x70=>bnd (ldA false 1 H x70) fun x71=>bnd (ah .neq x71 (.lit (.string ⟨#[]⟩))) fun x72=>ifB x72 (bnd (ae y3 2) fun x73=>bnd (ldA false 1 H x73) fun x74=>av Tryz.prog σ oT [x18,x74] H fun x75 H76=>K x75 H76) (K (Bo false) H)) (K (Bo false) H))))))))) (K (Bo false) H)):eB.L0 σ K y2 y3 y5 H :=
 fun j=>lrd (g:=44) (Eq.mpr (by kernel_rfl) h)
theorem eB.run {a0 a1:AV} (h:cV a0 H fun x1 H2=>cV a1 H2 fun x3 H4=>eB.L0 σ K x1 x3 (I 0) H4):∃ r H1,au Tryz.prog σ lW [a0,a1] H r H1∧K r H1 :=
 gwp 44 (fn:=Tryz.f147) (f:=lW) (c:=eB.code) (by kernel_rfl) (by kernel_rfl) (Eq.mpr (by kernel_rfl) h)
noncomputable def ci.code:Code:=aD Tryz.f148
noncomputable def ci.J0 (σ:Sig) (K:AV→Hp→Prop) (y0 y1 y3 y6 y55:AV) (H:Hp):Prop:=∀ j:Nat→AV,wp (CZ σ) 36028797018964043 (sR (cE (sR (cE (sR (cE (sR (cE (sR (cE (sR (cE (sR (bB (sR (sL (sR ci.code))))))))))))))))) ([y0,y1,j 2,y3,j 4,j 5,y6,j 7,j 8,j 9,j 10,j 11,j 12,j 13,j 14,j 15,j 16,j 17,j 18,j 19,j 20,j 21,j 22,j 23,j 24,j 25,j 26,j 27,j 28,j 29,j 30,j 31,j 32,j 33,j 34,j 35,j 36,j 37,j 38,j 39,j 40,j 41,j 42,j 43,j 44,j 45,j 46,j 47,j 48,j 49,j 50,j 51,j 52,j 53,j 54,y55]++jr j 56 14) H (fun e T G=>(nx (fQ Tryz.f148 σ K) fun T G=>wp (CZ σ) 36028797018964043 (sR (sR ci.code)) T G (fQ Tryz.f148 σ K)) (al 0 e) T G)
theorem ci.J0_step {y0 y1 y3 y6 y55:AV} (h:ifB y55 (bnd (ae y6 3) fun x1=>bnd (ldA false 1 H x1) fun x2=>bnd (ah .add y3 (I 1)) fun x3=>av Tryz.prog σ d7 [y0,y1,x2,x3] H fun x4 H5=>bnd (ae y6 0) fun x6=>bnd (ldA false 1 H5 x6) fun x7=>bnd (ah .eql x7 (I 8)) fun x8=>bnd (lQ .eql x4 x8) fun x9=>K x9 H5) (K (Bo false) H)):ci.J0 σ K y0 y1 y3 y6 y55 H :=
 fun j=>Eq.mpr (by kernel_rfl) h
theorem ci.run {a0 a1 a2 a3:AV} (h:cV a2 H fun x1 H2=>bnd (ae x1 0) fun x3=>bnd (ldA false 1 H2 x3) fun x4=>bnd (ah .eql x4 (I 1)) fun x5=>ifB x5 (bnd (ah .eql a1 (I 0)) fun x6=>K x6 H2) (bnd (ah .eql x4 (I 2)) fun x7=>ifB x7 (av Tryz.prog σ dZ [a0,a1] H2 fun x8 H9=>bnd (ah .eql x8 (I 1)) fun x10=>K x10 H9) (bnd (ah .eql x4 (I 3)) fun x11=>ifB x11 (av Tryz.prog σ fH [a0,a1] H2 fun x12 H13=>K x12 H13) (bnd (ah .eql x4 (I 4)) fun x14=>ifB x14 (av Tryz.prog σ dZ [a0,a1] H2 fun x15 H16=>bnd (ah .eql x15 (I 1)) fun x17=>ifB x17 (av Tryz.prog σ fH [a0,a1] H16 fun x18 H19=>K x18 H19) (K (Bo false) H16)) (bnd (ah .eql x4 (I 5)) fun x20=>ifB x20 (av Tryz.prog σ dQ [a0,a1] H2 fun x21 H22=>bnd (aG x21) fun x23=>bnd (ah .eql x23 (I 0)) fun x24=>K x24 H22) (bnd (ah .eql x4 (I 6)) fun x25=>ifB x25 (av Tryz.prog σ dZ [a0,a1] H2 fun x26 H27=>bnd (ae x1 1) fun x28=>kpK (x28,some 1) H2 H27 (bnd (ldA false 1 H27 x28) fun x29=>bnd (ae x1 2) fun x30=>kpK (x30,some 1) H2 H27 (bnd (ldA false 1 H27 x30) fun x31=>av Tryz.prog σ mK [x26,x29,x31] H27 fun x32 H33=>K x32 H33))) (bnd (ah .eql x4 (I 7)) fun x34=>ifB x34 (ci.J0 σ K a0 a1 a3 x1 x34 H2) (bnd (ah .eql x4 (I 8)) fun x35=>ci.J0 σ K a0 a1 a3 x1 x35 H2)))))))):∃ r H1,au Tryz.prog σ cA [a0,a1,a2,a3] H r H1∧K r H1 :=
 gwp 36028797018964043 (fn:=Tryz.f148) (f:=cA) (c:=ci.code) (by kernel_rfl) (by kernel_rfl) (Eq.mpr (by kernel_rfl) h)
noncomputable def ce.code:Code:=aD Tryz.f149
noncomputable def ce.L0 (σ:Sig) (K:AV→Hp→Prop) (y0 y1 y5:AV) (H:Hp):Prop:=∀ j:Nat→AV,aN (CZ σ) (lB (bB (sR (sL (sR (sR ce.code)))))) ([y0,y1,j 2,j 3,j 4,y5]++jr j 6 32) H (fun e T G=>(nx (fQ Tryz.f149 σ K) fun T G=>wp (CZ σ) 35 (sR (sR (sR ce.code))) T G (fQ Tryz.f149 σ K)) (al 0 e) T G)
theorem ce.L0_step {y0 y1 y5:AV} (h:bnd (ah .gtr y5 (I 0)) fun x1=>ifB x1 (bnd (cb y0) fun x2=>bnd (ae x2 0) fun x3=>bnd (ldA false 1 H x3) fun x4=>bnd (az 5 x4 y5) fun x5=>bnd (ae x5 0) fun x6=>bnd (ldA false 1 H x6) fun x7=>bnd (cb y0) fun x8=>bnd (ae x8 0) fun x9=>bnd (ldA false 1 H x9) fun x10=>bnd (az 5 x10 y1) fun x11=>bnd (ae x11 0) fun x12=>bnd (ldA false 1 H x12) fun x13=>bnd (ah .eql x7 x13) fun x14=>ifB x14 (K y5 H) (bnd (ah .sub y5 (I 1)) fun x15=>ce.L0 σ K y0 y1 x15 H)) (K (I (-1)) H)):ce.L0 σ K y0 y1 y5 H :=
 fun j=>lrd (g:=35) (Eq.mpr (by kernel_rfl) h)
theorem ce.run {a0 a1:AV} (h:av Tryz.prog σ cY [a0,a1] H fun x1 H2=>bnd (unR .not x1) fun x3=>ifB x3 (K (I (-1)) H2) (bnd (ah .eql a1 (I 0)) fun x4=>ifB x4 (K (I (-1)) H2) (bnd (ah .sub a1 (I 1)) fun x5=>ce.L0 σ K a0 a1 x5 H2))):∃ r H1,au Tryz.prog σ dj [a0,a1] H r H1∧K r H1 :=
 gwp 35 (fn:=Tryz.f149) (f:=dj) (c:=ce.code) (by kernel_rfl) (by kernel_rfl) (Eq.mpr (by kernel_rfl) h)
noncomputable def m_.code:Code:=aD Tryz.f156
theorem m_.run {a0:AV} (h:bnd (cb a0) fun x1=>bnd (ae x1 0) fun x2=>bnd (ldA false 1 H x2) fun x3=>bnd (aG x3) fun x4=>K x4 H):∃ r H1,au Tryz.prog σ iV [a0] H r H1∧K r H1 :=
 gwp 0 (fn:=Tryz.f156) (f:=iV) (c:=m_.code) (by kernel_rfl) (by kernel_rfl) (Eq.mpr (by kernel_rfl) h)
noncomputable def aE.code:Code:=aD Tryz.f157
noncomputable def aE.Q0 (σ:Sig) (K:AV→Hp→Prop):Exit→List AV→Hp→Prop:=(nx (fQ Tryz.f157 σ K) fun T G=>wp (CZ σ) 1794 (sR (sR aE.code)) T G (fQ Tryz.f157 σ K))
noncomputable def aE.L0 (σ:Sig) (K:AV→Hp→Prop) (y1 y8 y9 y10:AV) (H:Hp):Prop:=∀ j:Nat→AV,aN (CZ σ) (lB (bB (sR (sL (sR aE.code))))) ([j 0,y1,j 2,j 3,j 4,j 5,j 6,j 7,y8,y9,y10]++jr j 11 22) H (fun e T G=>(aE.Q0 σ K) (al 0 e) T G)
noncomputable def aE.J1 (σ:Sig) (K:AV→Hp→Prop) (y1 y8 y9 y10:AV) (H:Hp):Prop:=∀ j:Nat→AV,wp (CZ σ) 1794 (sR (sR (sR (lB (bB (sR (sL (sR aE.code)))))))) ([j 0,y1,j 2,j 3,j 4,j 5,j 6,j 7,y8,y9,y10]++jr j 11 22) H (nx (fun e T G=>(aE.Q0 σ K) (al 0 e) T G) fun T G=>∀ j,aN (CZ σ) (lB (bB (sR (sL (sR aE.code))))) (cv 1794 j 0 T) G (fun e T G=>(aE.Q0 σ K) (al 0 e) T G))
theorem aE.L0_step {y1 y8 y9 y10:AV} (h:bnd (ah .lss y10 y9) fun x1=>ifB x1 (bnd (az 4 y8 y10) fun x2=>bnd (ldA true 4 H x2) fun x3=>bE [I 0,I 0,I 0,.lit (.slice none 0 0)] H fun x4 H5=>bnd (stA 4 H5 x4 x3) fun H6=>bnd (ae x4 0) fun x7=>bnd (ldA false 1 H6 x7) fun x8=>bnd (ah .neq x8 (I 7)) fun x9=>ifB x9 (bnd (ae x4 0) fun x10=>bnd (ldA false 1 H6 x10) fun x11=>bnd (ah .neq x11 (I 8)) fun x12=>ifB x12 (aE.J1 σ K y1 y8 y9 y10 H6) (bnd (ah .eql y1 (I 0)) fun x13=>ifB x13 (K (Bo false) H6) (bnd (ae x4 3) fun x14=>bnd (ldA false 1 H6 x14) fun x15=>bnd (ah .sub y1 (I 1)) fun x16=>av Tryz.prog σ gH [x15,x16] H6 fun x17 H18=>bnd (unR .not x17) fun x19=>ifB x19 (K (Bo false) H18) (aE.J1 σ K y1 y8 y9 y10 H18)))) (bnd (ah .eql y1 (I 0)) fun x20=>ifB x20 (K (Bo false) H6) (bnd (ae x4 3) fun x21=>bnd (ldA false 1 H6 x21) fun x22=>bnd (ah .sub y1 (I 1)) fun x23=>av Tryz.prog σ gH [x22,x23] H6 fun x24 H25=>bnd (unR .not x24) fun x26=>ifB x26 (K (Bo false) H25) (aE.J1 σ K y1 y8 y9 y10 H25)))) (K (Bo true) H)):aE.L0 σ K y1 y8 y9 y10 H :=
 fun j=>lrd (g:=1794) (Eq.mpr (by kernel_rfl) h)
theorem aE.J1_step {y1 y8 y9 y10:AV} (h:bnd (ah .add y10 (I 1)) fun x1=>aE.L0 σ K y1 y8 y9 x1 H):aE.J1 σ K y1 y8 y9 y10 H :=
 fun j=>Eq.mpr (by kernel_rfl) h
theorem aE.run {a0 a1:AV} (h:cV a0 H fun x1 H2=>bnd (ae x1 4) fun x3=>bnd (ldA false 1 H2 x3) fun x4=>bnd (aG x4) fun x5=>aE.L0 σ K a1 x4 x5 (I 0) H2):∃ r H1,au Tryz.prog σ fp [a0,a1] H r H1∧K r H1 :=
 gwp 1794 (fn:=Tryz.f157) (f:=fp) (c:=aE.code) (by kernel_rfl) (by kernel_rfl) (Eq.mpr (by kernel_rfl) h)
noncomputable def kT.code:Code:=aD Tryz.f158
theorem kT.run {a0 a1 a2 a3:AV} (h:cV a0 H fun x1 H2=>cV a1 H2 fun x3 H4=>cV a2 H4 fun x5 H6=>cV a3 H6 fun x7 H8=>bnd (ldA false 1 H8 x1) fun x9=>bnd (ldA false 1 H8 x3) fun x10=>bnd (ldA false 1 H8 x5) fun x11=>bnd (ldA false 1 H8 x7) fun x12=>bnd (dy [I 0,I 0,I 0,Bo false] [(0,1,x10),(1,1,x11),(2,1,x12),(3,1,(Bo false))]) fun l13=>av Tryz.prog σ eL [x9,(.agg l13),(.fn iE [x1,x7,x3,x5])] H8 fun x14 H15=>K x14 H15):∃ r H1,au Tryz.prog σ dH [a0,a1,a2,a3] H r H1∧K r H1 :=
 gwp 0 (fn:=Tryz.f158) (f:=dH) (c:=kT.code) (by kernel_rfl) (by kernel_rfl) (Eq.mpr (by kernel_rfl) h)
noncomputable def cu.code:Code:=aD Tryz.f159
noncomputable def cu.L0 (σ:Sig) (K:AV→Hp→Prop) (y0 y1 y4:AV) (H:Hp):Prop:=∀ j:Nat→AV,aN (CZ σ) (lB (bB (sR cu.code))) ([y0,y1,j 2,j 3,y4]++jr j 5 16) H (fun e T G=>(fQ Tryz.f159 σ K) (al 0 e) T G)
theorem cu.L0_step {y0 y1 y4:AV} (h:bnd (ah .geq y4 (I 0)) fun x1=>ifB x1 (bnd (cb y0) fun x2=>bnd (aX 3 1 x2 y4) fun x3=>bnd (ldA false 1 H x3) fun x4=>bnd (ah .rem y1 (I 256)) fun x5=>bnd (ah .add x4 x5) fun x6=>bnd (cb y0) fun x7=>bnd (aX 3 1 x7 y4) fun x8=>bnd (stA 1 H x8 x6) fun H9=>bnd (ah .quo y1 (I 256)) fun x10=>bnd (ah .sub y4 (I 1)) fun x11=>cu.L0 σ K y0 x10 x11 H9) (K (.tup []) H)):cu.L0 σ K y0 y1 y4 H :=
 fun j=>lrd (g:=19) (Eq.mpr (by kernel_rfl) h)
theorem cu.run {a0 a1:AV} (h:cu.L0 σ K a0 a1 (I 2) H):∃ r H1,au Tryz.prog σ fD [a0,a1] H r H1∧K r H1 :=
 gwp 19 (fn:=Tryz.f159) (f:=fD) (c:=cu.code) (by kernel_rfl) (by kernel_rfl) (Eq.mpr (by kernel_rfl) h)
noncomputable def jo.code:Code:=aD Tryz.f160
theorem jo.run {a0 a1:AV} (h:bnd (nG [a0,a1]) fun x1=>K x1 H):∃ r H1,au Tryz.prog σ fU [a0,a1] H r H1∧K r H1 :=
 gwp 0 (fn:=Tryz.f160) (f:=fU) (c:=jo.code) (by kernel_rfl) (by kernel_rfl) (Eq.mpr (by kernel_rfl) h)
noncomputable def aV.code:Code:=aD Tryz.f163
noncomputable def aV.Q0 (σ:Sig) (K:AV→Hp→Prop):Exit→List AV→Hp→Prop:=(nx (fQ Tryz.f163 σ K) fun T G=>wp (CZ σ) 57 (sR (sR (sR (sR aV.code)))) T G (fQ Tryz.f163 σ K))
noncomputable def aV.Q1 (σ:Sig) (K:AV→Hp→Prop):Exit→List AV→Hp→Prop:=(nx (fun e T G=>(aV.Q0 σ K) (al 0 e) T G) fun T G=>∀ j,aN (CZ σ) (lB (bB (sR (sL (sR (sR (sR aV.code))))))) (cv 57 j 0 T) G (fun e T G=>(aV.Q0 σ K) (al 0 e) T G))
noncomputable def aV.L0 (σ:Sig) (K:AV→Hp→Prop) (y0 y3 y4 y5:AV) (H:Hp):Prop:=∀ j:Nat→AV,aN (CZ σ) (lB (bB (sR (sL (sR (sR (sR aV.code))))))) ([y0,j 1,j 2,y3,y4,y5]++jr j 6 29) H (fun e T G=>(aV.Q0 σ K) (al 0 e) T G)
noncomputable def aV.J1 (σ:Sig) (K:AV→Hp→Prop) (y0 y3 y4 y5:AV) (H:Hp):Prop:=∀ j:Nat→AV,wp (CZ σ) 57 (sR (cT (sR (bB (sL (sR (lB (bB (sR (sL (sR (sR (sR aV.code))))))))))))) ([y0,j 1,j 2,y3,y4,y5]++jr j 6 29) H (fun e T G=>(nx (aV.Q1 σ K) fun T G=>∀ j,wp (CZ σ) 57 (sR (sR (lB (bB (sR (sL (sR (sR (sR aV.code))))))))) (cv 57 j 0 T) G (aV.Q1 σ K)) (al 1 e) T G)
noncomputable def aV.J2 (σ:Sig) (K:AV→Hp→Prop) (y0 y3 y4 y5:AV) (H:Hp):Prop:=∀ j:Nat→AV,wp (CZ σ) 57 (sR (sR (lB (bB (sR (sL (sR (sR (sR aV.code))))))))) ([y0,j 1,j 2,y3,y4,y5]++jr j 6 29) H (aV.Q1 σ K)
theorem aV.L0_step {y0 y3 y4 y5:AV} (h:bnd (cZ y0) fun x1=>bnd (ah .leq y5 x1) fun x2=>ifB x2 (bnd (cZ y0) fun x3=>bnd (ah .eql y5 x3) fun x4=>ifB x4 (bnd (ah .gtr y5 y4) fun x5=>ifB x5 (bnd (fM y0 (some y4) (some y5)) fun x6=>bnd (cj [.string ⟨#[]⟩] 1 1 H [(0,1,x6)]) fun p7=>bnd (eA false 1 16 p7.2 y3 p7.1) fun p8=>aV.J1 σ K y0 p8.1 y4 y5 p8.2) (aV.J1 σ K y0 y3 y4 y5 H)) (bnd (vE y0 y5) fun x9=>av Tryz.prog σ ku [x9] H fun x10 H11=>ifB x10 (bnd (ah .gtr y5 y4) fun x12=>ifB x12 (bnd (fM y0 (some y4) (some y5)) fun x13=>bnd (cj [.string ⟨#[]⟩] 1 1 H11 [(0,1,x13)]) fun p14=>bnd (eA false 1 16 p14.2 y3 p14.1) fun p15=>aV.J1 σ K y0 p15.1 y4 y5 p15.2) (aV.J1 σ K y0 y3 y4 y5 H11)) (aV.J2 σ K y0 y3 y4 y5 H11))) (K y3 H)):aV.L0 σ K y0 y3 y4 y5 H :=
 fun j=>lrd (g:=57) (Eq.mpr (by kernel_rfl) h)
theorem aV.J1_step {y0 y3 y4 y5:AV} (h:bnd (ah .add y5 (I 1)) fun x1=>aV.J2 σ K y0 y3 x1 y5 H):aV.J1 σ K y0 y3 y4 y5 H :=
 fun j=>Eq.mpr (by kernel_rfl) h
theorem aV.J2_step {y0 y3 y4 y5:AV} (h:bnd (ah .add y5 (I 1)) fun x1=>aV.L0 σ K y0 y3 y4 x1 H):aV.J2 σ K y0 y3 y4 y5 H :=
 fun j=>Eq.mpr (by kernel_rfl) h
theorem aV.run {a0:AV} (h:aV.L0 σ K a0 (.lit (.slice none 0 0)) (I 0) (I 0) H):∃ r H1,au Tryz.prog σ hO [a0] H r H1∧K r H1 :=
 gwp 57 (fn:=Tryz.f163) (f:=hO) (c:=aV.code) (by kernel_rfl) (by kernel_rfl) (Eq.mpr (by kernel_rfl) h)
noncomputable def ot.code:Code:=aD Tryz.f164
theorem ot.run {a0 a1:AV} (h:bnd (cZ a0) fun x1=>bnd (cZ a1) fun x2=>bnd (ah .geq x1 x2) fun x3=>ifB x3 (bnd (cZ a1) fun x4=>bnd (fM a0 none (some x4)) fun x5=>bnd (ah .eql x5 a1) fun x6=>K x6 H) (K (Bo false) H)):∃ r H1,au Tryz.prog σ ir [a0,a1] H r H1∧K r H1 :=
 gwp 0 (fn:=Tryz.f164) (f:=ir) (c:=ot.code) (by kernel_rfl) (by kernel_rfl) (Eq.mpr (by kernel_rfl) h)
noncomputable def rk.code:Code:=aD Tryz.f165
theorem rk.run {a0 a1:AV} (h:bnd (cZ a0) fun x1=>bnd (cZ a1) fun x2=>bnd (ah .geq x1 x2) fun x3=>ifB x3 (bnd (cZ a0) fun x4=>bnd (cZ a1) fun x5=>bnd (ah .sub x4 x5) fun x6=>bnd (fM a0 (some x6) none) fun x7=>bnd (ah .eql x7 a1) fun x8=>K x8 H) (K (Bo false) H)):∃ r H1,au Tryz.prog σ lA [a0,a1] H r H1∧K r H1 :=
 gwp 0 (fn:=Tryz.f165) (f:=lA) (c:=rk.code) (by kernel_rfl) (by kernel_rfl) (Eq.mpr (by kernel_rfl) h)
noncomputable def gR.code:Code:=aD Tryz.f166
noncomputable def gR.L0 (σ:Sig) (K:AV→Hp→Prop) (y0 y1 y5:AV) (H:Hp):Prop:=∀ j:Nat→AV,aN (CZ σ) (lB (bB (sR (sL (sR gR.code))))) ([y0,y1,j 2,j 3,j 4,y5]++jr j 6 18) H (fun e T G=>(nx (fQ Tryz.f166 σ K) fun T G=>wp (CZ σ) 35 (sR (sR gR.code)) T G (fQ Tryz.f166 σ K)) (al 0 e) T G)
theorem gR.L0_step {y0 y1 y5:AV} (h:bnd (cZ y1) fun x1=>bnd (ah .add y5 x1) fun x2=>bnd (cZ y0) fun x3=>bnd (ah .leq x2 x3) fun x4=>ifB x4 (bnd (cZ y1) fun x5=>bnd (ah .add y5 x5) fun x6=>bnd (fM y0 (some y5) (some x6)) fun x7=>bnd (ah .eql x7 y1) fun x8=>ifB x8 (K (Bo true) H) (bnd (ah .add y5 (I 1)) fun x9=>gR.L0 σ K y0 y1 x9 H)) (K (Bo false) H)):gR.L0 σ K y0 y1 y5 H :=
 fun j=>lrd (g:=35) (Eq.mpr (by kernel_rfl) h)
theorem gR.run {a0 a1:AV} (h:gR.L0 σ K a0 a1 (I 0) H):∃ r H1,au Tryz.prog σ oT [a0,a1] H r H1∧K r H1 :=
 gwp 35 (fn:=Tryz.f166) (f:=oT) (c:=gR.code) (by kernel_rfl) (by kernel_rfl) (Eq.mpr (by kernel_rfl) h)
noncomputable def aT.code:Code:=aD Tryz.f167
noncomputable def aT.Q0 (σ:Sig) (K:AV→Hp→Prop):Exit→List AV→Hp→Prop:=(nx (fQ Tryz.f167 σ K) fun T G=>wp (CZ σ) 99 (sR (sR (sR (sR aT.code)))) T G (fQ Tryz.f167 σ K))
noncomputable def aT.L0 (σ:Sig) (K:AV→Hp→Prop) (y0 y1 y5 y6:AV) (H:Hp):Prop:=∀ j:Nat→AV,aN (CZ σ) (lB (bB (sR (sL (sR (sR (sR aT.code))))))) ([y0,y1,j 2,j 3,j 4,y5,y6]++jr j 7 29) H (fun e T G=>(aT.Q0 σ K) (al 0 e) T G)
noncomputable def aT.J1 (σ:Sig) (K:AV→Hp→Prop) (y0 y1 y5 y6:AV) (H:Hp):Prop:=∀ j:Nat→AV,wp (CZ σ) 99 (sR (sR (lB (bB (sR (sL (sR (sR (sR aT.code))))))))) ([y0,y1,j 2,j 3,j 4,y5,y6]++jr j 7 29) H (nx (fun e T G=>(aT.Q0 σ K) (al 0 e) T G) fun T G=>∀ j,aN (CZ σ) (lB (bB (sR (sL (sR (sR (sR aT.code))))))) (cv 99 j 0 T) G (fun e T G=>(aT.Q0 σ K) (al 0 e) T G))
theorem aT.L0_step {y0 y1 y5 y6:AV} (h:bnd (ah .lss y6 y1) fun x1=>ifB x1 (bnd (cb y0) fun x2=>bnd (ae x2 0) fun x3=>bnd (ldA false 1 H x3) fun x4=>bnd (az 5 x4 y6) fun x5=>bnd (ae x5 0) fun x6=>bnd (ldA false 1 H x6) fun x7=>bnd (cb y0) fun x8=>bnd (ae x8 0) fun x9=>bnd (ldA false 1 H x9) fun x10=>bnd (az 5 x10 y1) fun x11=>bnd (ae x11 0) fun x12=>bnd (ldA false 1 H x12) fun x13=>bnd (ah .eql x7 x13) fun x14=>ifB x14 (bnd (ah .add y5 (I 1)) fun x15=>aT.J1 σ K y0 y1 x15 y6 H) (aT.J1 σ K y0 y1 y5 y6 H)) (K y5 H)):aT.L0 σ K y0 y1 y5 y6 H :=
 fun j=>lrd (g:=99) (Eq.mpr (by kernel_rfl) h)
theorem aT.J1_step {y0 y1 y5 y6:AV} (h:bnd (ah .add y6 (I 1)) fun x1=>aT.L0 σ K y0 y1 y5 x1 H):aT.J1 σ K y0 y1 y5 y6 H :=
 fun j=>Eq.mpr (by kernel_rfl) h
theorem aT.run {a0 a1:AV} (h:av Tryz.prog σ cY [a0,a1] H fun x1 H2=>bnd (unR .not x1) fun x3=>ifB x3 (K (I 0) H2) (aT.L0 σ K a0 a1 (I 1) (I 1) H2)):∃ r H1,au Tryz.prog σ dZ [a0,a1] H r H1∧K r H1 :=
 gwp 99 (fn:=Tryz.f167) (f:=dZ) (c:=aT.code) (by kernel_rfl) (by kernel_rfl) (Eq.mpr (by kernel_rfl) h)
noncomputable def cw.code:Code:=aD Tryz.f168
noncomputable def cw.L0 (σ:Sig) (K:AV→Hp→Prop) (y0 y1 y5:AV) (H:Hp):Prop:=∀ j:Nat→AV,aN (CZ σ) (lB (bB (sR (sL (sR cw.code))))) ([y0,y1,j 2,j 3,j 4,y5]++jr j 6 32) H (fun e T G=>(nx (fQ Tryz.f168 σ K) fun T G=>wp (CZ σ) 35 (sR (sR cw.code)) T G (fQ Tryz.f168 σ K)) (al 0 e) T G)
theorem cw.L0_step {y0 y1 y5:AV} (h:bnd (ah .gtr y1 (I 0)) fun x1=>ifB x1 (bnd (cb y0) fun x2=>bnd (ae x2 0) fun x3=>bnd (ldA false 1 H x3) fun x4=>bnd (aG x4) fun x5=>bnd (ah .lss y5 x5) fun x6=>ifB x6 (bnd (cb y0) fun x7=>bnd (ae x7 0) fun x8=>bnd (ldA false 1 H x8) fun x9=>bnd (az 5 x9 y5) fun x10=>bnd (ae x10 0) fun x11=>bnd (ldA false 1 H x11) fun x12=>bnd (cb y0) fun x13=>bnd (ae x13 0) fun x14=>bnd (ldA false 1 H x14) fun x15=>bnd (az 5 x15 y1) fun x16=>bnd (ae x16 0) fun x17=>bnd (ldA false 1 H x17) fun x18=>bnd (ah .eql x12 x18) fun x19=>ifB x19 (K (Bo false) H) (bnd (ah .add y5 (I 1)) fun x20=>cw.L0 σ K y0 y1 x20 H)) (K (Bo true) H)) (K (Bo true) H)):cw.L0 σ K y0 y1 y5 H :=
 fun j=>lrd (g:=35) (Eq.mpr (by kernel_rfl) h)
theorem cw.run {a0 a1:AV} (h:bnd (ah .add a1 (I 1)) fun x1=>cw.L0 σ K a0 a1 x1 H):∃ r H1,au Tryz.prog σ fH [a0,a1] H r H1∧K r H1 :=
 gwp 35 (fn:=Tryz.f168) (f:=fH) (c:=cw.code) (by kernel_rfl) (by kernel_rfl) (Eq.mpr (by kernel_rfl) h)
noncomputable def aJ.code:Code:=aD Tryz.f169
noncomputable def aJ.Q0 (σ:Sig) (K:AV→Hp→Prop):Exit→List AV→Hp→Prop:=(nx (fQ Tryz.f169 σ K) fun T G=>wp (CZ σ) 99 (sR (sR (sR aJ.code))) T G (fQ Tryz.f169 σ K))
noncomputable def aJ.L0 (σ:Sig) (K:AV→Hp→Prop) (y0 y1 y5 y6:AV) (H:Hp):Prop:=∀ j:Nat→AV,aN (CZ σ) (lB (bB (sR (sL (sR (sR aJ.code)))))) ([y0,y1,j 2,j 3,j 4,y5,y6]++jr j 7 31) H (fun e T G=>(aJ.Q0 σ K) (al 0 e) T G)
noncomputable def aJ.J1 (σ:Sig) (K:AV→Hp→Prop) (y0 y1 y5 y6:AV) (H:Hp):Prop:=∀ j:Nat→AV,wp (CZ σ) 99 (sR (sR (lB (bB (sR (sL (sR (sR aJ.code)))))))) ([y0,y1,j 2,j 3,j 4,y5,y6]++jr j 7 31) H (nx (fun e T G=>(aJ.Q0 σ K) (al 0 e) T G) fun T G=>∀ j,aN (CZ σ) (lB (bB (sR (sL (sR (sR aJ.code)))))) (cv 99 j 0 T) G (fun e T G=>(aJ.Q0 σ K) (al 0 e) T G))
theorem aJ.L0_step {y0 y1 y5 y6:AV} (h:av Tryz.prog σ cY [y0,y1] H fun x1 H2=>ifB x1 (bnd (cb y0) fun x3=>bnd (ae x3 0) fun x4=>bnd (ldA false 1 H2 x4) fun x5=>bnd (aG x5) fun x6=>bnd (ah .lss y6 x6) fun x7=>ifB x7 (bnd (cb y0) fun x8=>bnd (ae x8 0) fun x9=>bnd (ldA false 1 H2 x9) fun x10=>bnd (az 5 x10 y6) fun x11=>bnd (ae x11 0) fun x12=>bnd (ldA false 1 H2 x12) fun x13=>bnd (ah .eql x13 y1) fun x14=>ifB x14 (bnd (cj [.int .i64 0] 1 1 H2 [(0,1,y6)]) fun p15=>bnd (eA false 1 8 p15.2 y5 p15.1) fun p16=>aJ.J1 σ K y0 y1 p16.1 y6 p16.2) (aJ.J1 σ K y0 y1 y5 y6 H2)) (K y5 H2)) (K y5 H2)):aJ.L0 σ K y0 y1 y5 y6 H :=
 fun j=>lrd (g:=99) (Eq.mpr (by kernel_rfl) h)
theorem aJ.J1_step {y0 y1 y5 y6:AV} (h:bnd (ah .add y6 (I 1)) fun x1=>aJ.L0 σ K y0 y1 y5 x1 H):aJ.J1 σ K y0 y1 y5 y6 H :=
 fun j=>Eq.mpr (by kernel_rfl) h
theorem aJ.run {a0 a1:AV} (h:bnd (ah .add a1 (I 1)) fun x1=>aJ.L0 σ K a0 a1 (.lit (.slice none 0 0)) x1 H):∃ r H1,au Tryz.prog σ dQ [a0,a1] H r H1∧K r H1 :=
 gwp 99 (fn:=Tryz.f169) (f:=dQ) (c:=aJ.code) (by kernel_rfl) (by kernel_rfl) (Eq.mpr (by kernel_rfl) h)
noncomputable def tf.code:Code:=aD Tryz.f170
theorem tf.run {a0 a1 a2:AV} (h:bnd (ah .eql a1 (I 0)) fun x1=>ifB x1 (bnd (ah .eql a0 a2) fun x2=>K x2 H) (bnd (ah .gtr a2 (I 1099511627776)) fun x3=>ifB x3 (av Tryz.prog σ iy [a0,a1,a2] H fun x4 H5=>K x4 H5) (bnd (ah .lss a2 (I (-1099511627776))) fun x6=>ifB x6 (av Tryz.prog σ iy [a0,a1,a2] H fun x7 H8=>K x7 H8) (bnd (ah .gtr a1 (I 1099511627776)) fun x9=>ifB x9 (av Tryz.prog σ iy [a0,a1,a2] H fun x10 H11=>K x10 H11) (bnd (ah .lss a1 (I (-1099511627776))) fun x12=>ifB x12 (av Tryz.prog σ iy [a0,a1,a2] H fun x13 H14=>K x13 H14) (bnd (ah .sub a0 a2) fun x15=>bnd (ah .rem x15 a1) fun x16=>bnd (ah .eql x16 (I 0)) fun x17=>ifB x17 (bnd (ah .quo x15 a1) fun x18=>bnd (ah .geq x18 (I 0)) fun x19=>K x19 H) (K (Bo false) H))))))):∃ r H1,au Tryz.prog σ mK [a0,a1,a2] H r H1∧K r H1 :=
 gwp 0 (fn:=Tryz.f170) (f:=mK) (c:=tf.code) (by kernel_rfl) (by kernel_rfl) (Eq.mpr (by kernel_rfl) h)
noncomputable def cy.code:Code:=aD Tryz.f171
noncomputable def cy.L0 (σ:Sig) (K:AV→Hp→Prop) (y0 y1 y2 y3 y9:AV) (H:Hp):Prop:=∀ j:Nat→AV,aN (CZ σ) (lB (bB (sR (sL (sR cy.code))))) ([y0,y1,y2,y3,j 4,j 5,j 6,j 7,j 8,y9]++jr j 10 16) H (fun e T G=>(nx (fQ Tryz.f171 σ K) fun T G=>wp (CZ σ) 527 (sR (sR cy.code)) T G (fQ Tryz.f171 σ K)) (al 0 e) T G)
theorem cy.L0_step {y0 y1 y2 y3 y9:AV} (h:bnd (aG y2) fun x1=>bnd (ah .lss y9 x1) fun x2=>ifB x2 (bnd (az 1 y2 y9) fun x3=>bnd (ldA true 1 H x3) fun x4=>av Tryz.prog σ dP [y0,y1,x4,y3] H fun x5 H6=>ifB x5 (K (Bo true) H6) (bnd (ah .add y9 (I 1)) fun x7=>cy.L0 σ K y0 y1 y2 y3 x7 H6)) (K (Bo false) H)):cy.L0 σ K y0 y1 y2 y3 y9 H :=
 fun j=>lrd (g:=527) (Eq.mpr (by kernel_rfl) h)
theorem cy.run {a0 a1 a2 a3:AV} (h:cy.L0 σ K a0 a1 a2 a3 (I 0) H):∃ r H1,au Tryz.prog σ d7 [a0,a1,a2,a3] H r H1∧K r H1 :=
 gwp 527 (fn:=Tryz.f171) (f:=d7) (c:=cy.code) (by kernel_rfl) (by kernel_rfl) (Eq.mpr (by kernel_rfl) h)
noncomputable def jx.code:Code:=aD Tryz.f173
theorem jx.run {a0 a1 a2:AV} (h:cV a1 H fun x1 H2=>bnd (cb a0) fun x3=>bnd (ae x3 2) fun x4=>bnd (ldA false 1 H2 x4) fun x5=>bnd (ldA true 4 H2 x1) fun x6=>bnd (ko (Bo false) true [.int .i64,.int .i64,.int .i64,.bool] true H2 x5 x6) fun x7=>bnd (exR x7 0) fun x8=>bnd (exR x7 1) fun x9=>ifB x9 (K x8 H2) (fG Tryz.prog σ a2 [] H2 fun x10 H11=>bnd (cb a0) fun x12=>bnd (ae x12 2) fun x13=>bnd (ldA false 1 H11 x13) fun x14=>bnd (ldA true 4 H11 x1) fun x15=>bnd (yT true [.int .i64,.int .i64,.int .i64,.bool] H11 x14 x15 x10) fun H16=>K x10 H16)):∃ r H1,au Tryz.prog σ eL [a0,a1,a2] H r H1∧K r H1 :=
 gwp 0 (fn:=Tryz.f173) (f:=eL) (c:=jx.code) (by kernel_rfl) (by kernel_rfl) (Eq.mpr (by kernel_rfl) h)
noncomputable def jp.code:Code:=aD Tryz.f174
theorem jp.run {a0 a1 a2 a3:AV} (h:bnd (ldA false 1 H a0) fun x1=>bnd (ldA false 1 H a1) fun x2=>bnd (ldA false 1 H a0) fun x3=>bnd (cb x3) fun x4=>bnd (ae x4 1) fun x5=>bnd (ldA false 1 H x5) fun x6=>bnd (ldA false 1 H a2) fun x7=>bnd (az 1 x6 x7) fun x8=>bnd (ldA false 1 H x8) fun x9=>bnd (ldA false 1 H a3) fun x10=>bnd (az 7 x9 x10) fun x11=>bnd (ldA true 7 H x11) fun x12=>av Tryz.prog σ ep [x1,x2,x12] H fun x13 H14=>ifB x13 (bnd (ldA false 1 H14 a3) fun x15=>bnd (ah .eql x15 (I 0)) fun x16=>ifB x16 (K (Bo true) H14) (bnd (ldA false 1 H14 a0) fun x17=>bnd (ldA false 1 H14 a2) fun x18=>bnd (ldA false 1 H14 a3) fun x19=>bnd (ldA false 1 H14 a1) fun x20=>av Tryz.prog σ dt [x17,x18,x19,x20] H14 fun x21 H22=>K x21 H22)) (K (Bo false) H14)):∃ r H1,au Tryz.prog σ iE [a0,a1,a2,a3] H r H1∧K r H1 :=
 gwp 0 (fn:=Tryz.f174) (f:=iE) (c:=jp.code) (by kernel_rfl) (by kernel_rfl) (Eq.mpr (by kernel_rfl) h)
noncomputable def br.code:Code:=aD Tryz.f175
noncomputable def br.L0 (σ:Sig) (K:AV→Hp→Prop) (y0 y1 y5 y19 y20 y21:AV) (H:Hp):Prop:=∀ j:Nat→AV,aN (CZ σ) (lB (bB (sR (sL (sR (sR br.code)))))) ([y0,y1,j 2,j 3,j 4,y5,j 6,j 7,j 8,j 9,j 10,j 11,j 12,j 13,j 14,j 15,j 16,j 17,j 18,y19,y20,y21]++jr j 22 15) H (fun e T G=>(nx (fQ Tryz.f175 σ K) fun T G=>wp (CZ σ) 3670051 (sR (sR (sR br.code))) T G (fQ Tryz.f175 σ K)) (al 0 e) T G)
theorem br.L0_step {y0 y1 y5 y19 y20 y21:AV} (h:bnd (ah .lss y21 y20) fun x1=>ifB x1 (bnd (az 4 y19 y21) fun x2=>bnd (ldA true 4 H x2) fun x3=>bE [I 0,I 0,I 0,.lit (.slice none 0 0)] H fun x4 H5=>bnd (stA 4 H5 x4 x3) fun H6=>bnd (ldA true 4 H6 x4) fun x7=>bnd (ae y5 6) fun x8=>bnd (ldA false 1 H6 x8) fun x9=>bnd (az 1 x9 y21) fun x10=>bnd (ldA false 1 H6 x10) fun x11=>av Tryz.prog σ fd [y0,y1,x7,x11] H6 fun x12 H13=>bnd (unR .not x12) fun x14=>ifB x14 (K (Bo false) H13) (bnd (ah .add y21 (I 1)) fun x15=>br.L0 σ K y0 y1 y5 y19 y20 x15 H13)) (K (Bo true) H)):br.L0 σ K y0 y1 y5 y19 y20 y21 H :=
 fun j=>lrd (g:=3670051) (Eq.mpr (by kernel_rfl) h)
theorem br.run {a0 a1 a2:AV} (h:cV a2 H fun x1 H2=>bnd (ae x1 0) fun x3=>bnd (ae x3 1) fun x4=>bnd (ldA true 5 H2 x4) fun x5=>av Tryz.prog σ fk [a0,a1,x5] H2 fun x6 H7=>bnd (unR .not x6) fun x8=>ifB x8 (K (Bo false) H7) (bnd (ae x1 0) fun x9=>bnd (ae x9 1) fun x10=>bnd (ae x10 4) fun x11=>bnd (ldA false 1 H7 x11) fun x12=>bnd (aG x12) fun x13=>br.L0 σ K a0 a1 x1 x12 x13 (I 0) H7)):∃ r H1,au Tryz.prog σ ep [a0,a1,a2] H r H1∧K r H1 :=
 gwp 3670051 (fn:=Tryz.f175) (f:=ep) (c:=br.code) (by kernel_rfl) (by kernel_rfl) (Eq.mpr (by kernel_rfl) h)
noncomputable def iW.code:Code:=aD Tryz.f176
theorem iW.run {a0 a1 a2 a3:AV} (h:cV a0 H fun x1 H2=>cV a1 H2 fun x3 H4=>cV a2 H4 fun x5 H6=>bnd (ldA false 1 H6 x1) fun x7=>bnd (ldA false 1 H6 x1) fun x8=>bnd (cb x8) fun x9=>bnd (ae x9 1) fun x10=>bnd (ldA false 1 H6 x10) fun x11=>bnd (ldA false 1 H6 x3) fun x12=>bnd (az 1 x11 x12) fun x13=>bnd (ldA false 1 H6 x13) fun x14=>bnd (ldA false 1 H6 x5) fun x15=>bnd (az 7 x14 x15) fun x16=>bnd (ae x16 0) fun x17=>bnd (ae x17 0) fun x18=>bnd (ldA false 1 H6 x18) fun x19=>av Tryz.prog σ fc [x7,a3,x19] H6 fun x20 H21=>bnd (exR x20 0) fun x22=>bnd (exR x20 1) fun x23=>bE [I 0] H21 fun x24 H25=>bE [Bo false] H25 fun x26 H27=>bnd (stA 1 H27 x24 x22) fun H28=>bnd (stA 1 H28 x26 x23) fun H29=>bnd (ldA false 1 H29 x24) fun x30=>bnd (ah .geq x30 (I 0)) fun x31=>ifB x31 (bnd (ldA false 1 H29 x1) fun x32=>bnd (ldA false 1 H29 x3) fun x33=>bnd (ldA false 1 H29 x5) fun x34=>bnd (dy [I 0,I 0,I 0,Bo false] [(0,1,x33),(1,1,x34),(2,1,a3),(3,1,(Bo true))]) fun l35=>av Tryz.prog σ eL [x32,(.agg l35),(.fn gp [x1,x3,x5,x24,x26])] H29 fun x36 H37=>K x36 H37) (K (Bo false) H29)):∃ r H1,au Tryz.prog σ dt [a0,a1,a2,a3] H r H1∧K r H1 :=
 gwp 0 (fn:=Tryz.f176) (f:=dt) (c:=iW.code) (by kernel_rfl) (by kernel_rfl) (Eq.mpr (by kernel_rfl) h)
noncomputable def pB.code:Code:=aD Tryz.f177
theorem pB.run {a0:AV} (h:bnd (ah .eql a0 (.lit (.int .u8 9))) fun x1=>ifB x1 (K (Bo true) H) (bnd (ah .eql a0 (.lit (.int .u8 10))) fun x2=>ifB x2 (K (Bo true) H) (bnd (ah .eql a0 (.lit (.int .u8 12))) fun x3=>ifB x3 (K (Bo true) H) (bnd (ah .eql a0 (.lit (.int .u8 13))) fun x4=>ifB x4 (K (Bo true) H) (bnd (ah .eql a0 (.lit (.int .u8 32))) fun x5=>K x5 H))))):∃ r H1,au Tryz.prog σ ku [a0] H r H1∧K r H1 :=
 gwp 0 (fn:=Tryz.f177) (f:=ku) (c:=pB.code) (by kernel_rfl) (by kernel_rfl) (Eq.mpr (by kernel_rfl) h)
noncomputable def gG.code:Code:=aD Tryz.f178
noncomputable def gG.J0 (σ:Sig) (K:AV→Hp→Prop) (y7 y8:AV) (H:Hp):Prop:=∀ j:Nat→AV,wp (CZ σ) 384 (sR (sR (sR (sR (sR (sR gG.code)))))) ([j 0,j 1,j 2,j 3,j 4,j 5,j 6,y7,y8]++jr j 9 30) H (fQ Tryz.f178 σ K)
theorem gG.J0_step {y7 y8:AV} (h:bnd (ah .rem y7 y8) fun x1=>bnd (ah .eql x1 (.lit (.int .u64 0))) fun x2=>K x2 H):gG.J0 σ K y7 y8 H :=
 fun j=>Eq.mpr (by kernel_rfl) h
theorem gG.run {a0 a1 a2:AV} (h:bnd (ah .eql a2 a0) fun x1=>ifB x1 (K (Bo true) H) (bnd (ah .lss a2 a0) fun x2=>bnd (ah .gtr a1 (I 0)) fun x3=>bnd (lQ .neq x2 x3) fun x4=>ifB x4 (K (Bo false) H) (bnd (f_ .u64 a0) fun x5=>bnd (f_ .u64 a2) fun x6=>bnd (ah .sub x5 x6) fun x7=>bnd (f_ .u64 a1) fun x8=>bnd (ah .lss a1 (I 0)) fun x9=>ifB x9 (bnd (f_ .u64 a2) fun x10=>bnd (f_ .u64 a0) fun x11=>bnd (ah .sub x10 x11) fun x12=>bnd (f_ .u64 a1) fun x13=>bnd (unR .neg x13) fun x14=>gG.J0 σ K x12 x14 H) (gG.J0 σ K x7 x8 H)))):∃ r H1,au Tryz.prog σ iy [a0,a1,a2] H r H1∧K r H1 :=
 gwp 384 (fn:=Tryz.f178) (f:=iy) (c:=gG.code) (by kernel_rfl) (by kernel_rfl) (Eq.mpr (by kernel_rfl) h)
noncomputable def ax.code:Code:=aD Tryz.f179
noncomputable def ax.L0 (σ:Sig) (K:AV→Hp→Prop) (y5 y7 y31 y32 y33 y47 y48 y49 y60 y61 y62:AV) (H:Hp):Prop:=∀ j:Nat→AV,aN (CZ σ) (lB (bB (sR (sL (sR (sR (sR ax.code))))))) ([j 0,j 1,j 2,j 3,j 4,y5,j 6,y7,j 8,j 9,j 10,j 11,j 12,j 13,j 14,j 15,j 16,j 17,j 18,j 19,j 20,j 21,j 22,j 23,j 24,j 25,j 26,j 27,j 28,j 29,j 30,y31,y32,y33,j 34,j 35,j 36,j 37,j 38,j 39,j 40,j 41,j 42,j 43,j 44,j 45,j 46,y47,y48,y49,j 50,j 51,j 52,j 53,j 54,j 55,j 56,j 57,j 58,j 59,y60,y61,y62]++jr j 63 8) H (fun e T G=>(nx (fQ Tryz.f179 σ K) fun T G=>wp (CZ σ) 8071435709698801824 (sR (sR (sR (sR ax.code)))) T G (fQ Tryz.f179 σ K)) (al 0 e) T G)
noncomputable def ax.L1 (σ:Sig) (K:AV→Hp→Prop) (y5 y7 y31 y32 y33 y47 y48 y49 y60 y61 y62:AV) (H:Hp):Prop:=∀ j:Nat→AV,aN (CZ σ) (lB (bB (sR (sL (sR (sR (sR (sR ax.code)))))))) ([j 0,j 1,j 2,j 3,j 4,y5,j 6,y7,j 8,j 9,j 10,j 11,j 12,j 13,j 14,j 15,j 16,j 17,j 18,j 19,j 20,j 21,j 22,j 23,j 24,j 25,j 26,j 27,j 28,j 29,j 30,y31,y32,y33,j 34,j 35,j 36,j 37,j 38,j 39,j 40,j 41,j 42,j 43,j 44,j 45,j 46,y47,y48,y49,j 50,j 51,j 52,j 53,j 54,j 55,j 56,j 57,j 58,j 59,y60,y61,y62]++jr j 63 8) H (fun e T G=>(nx (fQ Tryz.f179 σ K) fun T G=>wp (CZ σ) 8071435709698801824 (sR (sR (sR (sR (sR ax.code))))) T G (fQ Tryz.f179 σ K)) (al 2 e) T G)
noncomputable def ax.L2 (σ:Sig) (K:AV→Hp→Prop) (y5 y7 y31 y32 y33 y47 y48 y49 y60 y61 y62:AV) (H:Hp):Prop:=∀ j:Nat→AV,aN (CZ σ) (lB (bB (sR (sL (sR (sR (sR (sR (sR ax.code))))))))) ([j 0,j 1,j 2,j 3,j 4,y5,j 6,y7,j 8,j 9,j 10,j 11,j 12,j 13,j 14,j 15,j 16,j 17,j 18,j 19,j 20,j 21,j 22,j 23,j 24,j 25,j 26,j 27,j 28,j 29,j 30,y31,y32,y33,j 34,j 35,j 36,j 37,j 38,j 39,j 40,j 41,j 42,j 43,j 44,j 45,j 46,y47,y48,y49,j 50,j 51,j 52,j 53,j 54,j 55,j 56,j 57,j 58,j 59,y60,y61,y62]++jr j 63 8) H (fun e T G=>(nx (fQ Tryz.f179 σ K) fun T G=>wp (CZ σ) 8071435709698801824 (sR (sR (sR (sR (sR (sR ax.code)))))) T G (fQ Tryz.f179 σ K)) (al 4 e) T G)
theorem ax.L0_step {y5 y7 y31 y32 y33 y47 y48 y49 y60 y61 y62:AV} (h:bnd (ah .lss y33 y32) fun x1=>ifB x1 (bnd (az 1 y31 y33) fun x2=>bnd (ldA false 1 H x2) fun x3=>bnd (ah .eql x3 (.lit (.string ⟨#[]⟩))) fun x4=>ifB x4 (K (Bo false) H) (bnd (ae y7 2) fun x5=>bnd (ldA false 1 H x5) fun x6=>bnd (ah .neq x3 x6) fun x7=>ifB x7 (K (Bo false) H) (bnd (ah .add y33 (I 1)) fun x8=>ax.L0 σ K y5 y7 y31 y32 x8 y47 y48 y49 y60 y61 y62 H))) (bnd (ae y5 2) fun x9=>bnd (ldA false 1 H x9) fun x10=>bnd (aG x10) fun x11=>ax.L1 σ K y5 y7 y31 y32 y33 x10 x11 (I 0) y60 y61 y62 H)):ax.L0 σ K y5 y7 y31 y32 y33 y47 y48 y49 y60 y61 y62 H :=
 fun j=>lrd (g:=8071435709698801824) (Eq.mpr (by kernel_rfl) h)
theorem ax.L1_step {y5 y7 y31 y32 y33 y47 y48 y49 y60 y61 y62:AV} (h:bnd (ah .lss y49 y48) fun x1=>ifB x1 (bnd (az 1 y47 y49) fun x2=>bnd (ldA false 1 H x2) fun x3=>bnd (ae y7 3) fun x4=>bnd (ldA false 1 H x4) fun x5=>av Tryz.prog σ lR [x5,x3] H fun x6 H7=>bnd (unR .not x6) fun x8=>ifB x8 (K (Bo false) H7) (bnd (ah .add y49 (I 1)) fun x9=>ax.L1 σ K y5 y7 y31 y32 y33 y47 y48 x9 y60 y61 y62 H7)) (bnd (ae y5 3) fun x10=>bnd (ldA false 1 H x10) fun x11=>bnd (aG x11) fun x12=>ax.L2 σ K y5 y7 y31 y32 y33 y47 y48 y49 x11 x12 (I 0) H)):ax.L1 σ K y5 y7 y31 y32 y33 y47 y48 y49 y60 y61 y62 H :=
 fun j=>lrd (g:=8071435709698801824) (Eq.mpr (by kernel_rfl) h)
theorem ax.L2_step {y5 y7 y31 y32 y33 y47 y48 y49 y60 y61 y62:AV} (h:bnd (ah .lss y62 y61) fun x1=>ifB x1 (bnd (az 3 y60 y62) fun x2=>bnd (ldA true 3 H x2) fun x3=>bE [.lit (.string ⟨#[]⟩),I 0,.lit (.string ⟨#[]⟩)] H fun x4 H5=>bnd (stA 3 H5 x4 x3) fun H6=>bnd (ldA true 5 H6 y7) fun x7=>bnd (ldA true 3 H6 x4) fun x8=>av Tryz.prog σ kq [x7,x8] H6 fun x9 H10=>bnd (unR .not x9) fun x11=>ifB x11 (K (Bo false) H10) (bnd (ah .add y62 (I 1)) fun x12=>ax.L2 σ K y5 y7 y31 y32 y33 y47 y48 y49 y60 y61 x12 H10)) (K (Bo true) H)):ax.L2 σ K y5 y7 y31 y32 y33 y47 y48 y49 y60 y61 y62 H :=
 fun j=>lrd (g:=8071435709698801824) (Eq.mpr (by kernel_rfl) h)
theorem ax.run {a0 a1 a2:AV} (h:cV a2 H fun x1 H2=>bnd (cb a0) fun x3=>bnd (ae x3 0) fun x4=>bnd (ldA false 1 H2 x4) fun x5=>av Tryz.prog σ fW [x5,a1] H2 fun x6 H7=>bE [I 0,.lit (.string ⟨#[]⟩),.lit (.string ⟨#[]⟩),.lit (.slice none 0 0),.lit (.slice none 0 0)] H7 fun x8 H9=>bnd (stA 5 H9 x8 x6) fun H10=>bnd (ae x1 0) fun x11=>bnd (ldA false 1 H10 x11) fun x12=>bnd (ah .neq x12 (.lit (.string ⟨#[]⟩))) fun x13=>ifB x13 (bnd (ae x1 0) fun x14=>bnd (ldA false 1 H10 x14) fun x15=>bnd (ae x8 1) fun x16=>bnd (ldA false 1 H10 x16) fun x17=>bnd (ah .neq x15 x17) fun x18=>ifB x18 (K (Bo false) H10) (bnd (ae x1 1) fun x19=>bnd (ldA false 1 H10 x19) fun x20=>bnd (aG x20) fun x21=>ax.L0 σ K x1 x8 x20 x21 (I 0) (.lit undef) (.lit undef) (.lit undef) (.lit undef) (.lit undef) (.lit undef) H10)) (bnd (ae x1 1) fun x22=>bnd (ldA false 1 H10 x22) fun x23=>bnd (aG x23) fun x24=>ax.L0 σ K x1 x8 x23 x24 (I 0) (.lit undef) (.lit undef) (.lit undef) (.lit undef) (.lit undef) (.lit undef) H10)):∃ r H1,au Tryz.prog σ fk [a0,a1,a2] H r H1∧K r H1 :=
 gwp 8071435709698801824 (fn:=Tryz.f179) (f:=fk) (c:=ax.code) (by kernel_rfl) (by kernel_rfl) (Eq.mpr (by kernel_rfl) h)
noncomputable def iC.code:Code:=aD Tryz.f180
theorem iC.run {a0 a1 a2 a3:AV} (h:cV a2 H fun x1 H2=>bnd (ae x1 0) fun x3=>bnd (ldA false 1 H2 x3) fun x4=>bnd (ah .eql x4 (I 1)) fun x5=>ifB x5 (bnd (cb a0) fun x6=>bnd (ae x6 0) fun x7=>bnd (ldA false 1 H2 x7) fun x8=>av Tryz.prog σ d6 [x8,a1] H2 fun x9 H10=>bnd (ah .lss x9 (I 0)) fun x11=>K x11 H10) (bnd (ah .eql x4 (I 2)) fun x12=>ifB x12 (bnd (cb a0) fun x13=>bnd (ae x13 0) fun x14=>bnd (ldA false 1 H2 x14) fun x15=>av Tryz.prog σ dF [x15,a1] H2 fun x16 H17=>bnd (ah .eql x16 (I 1)) fun x18=>K x18 H17) (bnd (ah .eql x4 (I 3)) fun x19=>ifB x19 (av Tryz.prog σ eN [a0,a1] H2 fun x20 H21=>K x20 H21) (bnd (ah .eql x4 (I 4)) fun x22=>ifB x22 (bnd (cb a0) fun x23=>bnd (ae x23 0) fun x24=>bnd (ldA false 1 H2 x24) fun x25=>av Tryz.prog σ dF [x25,a1] H2 fun x26 H27=>bnd (ah .eql x26 (I 1)) fun x28=>ifB x28 (av Tryz.prog σ eN [a0,a1] H27 fun x29 H30=>K x29 H30) (K (Bo false) H27)) (bnd (ah .eql x4 (I 5)) fun x31=>ifB x31 (bnd (cb a0) fun x32=>bnd (ae x32 0) fun x33=>bnd (ldA false 1 H2 x33) fun x34=>av Tryz.prog σ fA [x34,a1,(I 0)] H2 fun x35 H36=>bnd (ah .lss x35 (I 0)) fun x37=>K x37 H36) (bnd (ah .eql x4 (I 6)) fun x38=>ifB x38 (bnd (cb a0) fun x39=>bnd (ae x39 0) fun x40=>bnd (ldA false 1 H2 x40) fun x41=>av Tryz.prog σ dF [x41,a1] H2 fun x42 H43=>bnd (ae x1 1) fun x44=>kpK (x44,some 1) H2 H43 (bnd (ldA false 1 H43 x44) fun x45=>bnd (ae x1 2) fun x46=>kpK (x46,some 1) H2 H43 (bnd (ldA false 1 H43 x46) fun x47=>av Tryz.prog σ lE [x42,x45,x47] H43 fun x48 H49=>K x48 H49))) (bnd (ah .eql x4 (I 7)) fun x50=>ifB x50 (av Tryz.prog σ dY [a0,a1,a3] H2 fun x51 H52=>bnd (unR .not x51) fun x53=>K x53 H52) (bnd (ah .eql x4 (I 8)) fun x54=>ifB x54 (av Tryz.prog σ dY [a0,a1,a3] H2 fun x55 H56=>K x55 H56) (K (Bo false) H2))))))))):∃ r H1,au Tryz.prog σ fd [a0,a1,a2,a3] H r H1∧K r H1 :=
 gwp 0 (fn:=Tryz.f180) (f:=fd) (c:=iC.code) (by kernel_rfl) (by kernel_rfl) (Eq.mpr (by kernel_rfl) h)
noncomputable def aW.code:Code:=aD Tryz.f181
noncomputable def aW.J0 (σ:Sig) (K:AV→Hp→Prop) (y0 y1 y2 y8 y9 y20:AV) (H:Hp):Prop:=∀ j:Nat→AV,wp (CZ σ) 1049351 (sR (bB (sR (sL (sR aW.code))))) ([y0,y1,y2,j 3,j 4,j 5,j 6,j 7,y8,y9,j 10,j 11,j 12,j 13,j 14,j 15,j 16,j 17,j 18,j 19,y20]++jr j 21 10) H (fun e T G=>(nx (fQ Tryz.f181 σ K) fun T G=>wp (CZ σ) 1049351 (sR (sR aW.code)) T G (fQ Tryz.f181 σ K)) (al 0 e) T G)
noncomputable def aW.J1 (σ:Sig) (K:AV→Hp→Prop) (y0 y1 y2 y8 y9 y20:AV) (H:Hp):Prop:=∀ j:Nat→AV,wp (CZ σ) 1049351 (sR (cE (sR (bB (sR (sL (sR aW.code))))))) ([y0,y1,y2,j 3,j 4,j 5,j 6,j 7,y8,y9,j 10,j 11,j 12,j 13,j 14,j 15,j 16,j 17,j 18,j 19,y20]++jr j 21 10) H (fun e T G=>(nx (fQ Tryz.f181 σ K) fun T G=>wp (CZ σ) 1049351 (sR (sR aW.code)) T G (fQ Tryz.f181 σ K)) (al 0 e) T G)
theorem aW.J0_step {y0 y1 y2 y8 y9 y20:AV} (h:ifB y9 (bnd (cb y0) fun x1=>bnd (ae x1 0) fun x2=>bnd (ldA false 1 H x2) fun x3=>av Tryz.prog σ d6 [x3,y1] H fun x4 H5=>bnd (ah .eql y2 (I 1)) fun x6=>K (.tup [x4,x6]) H5) (bnd (ah .eql y8 (I 3)) fun x7=>ifB x7 (aW.J1 σ K y0 y1 y2 y8 y9 x7 H) (bnd (ah .eql y8 (I 4)) fun x8=>aW.J1 σ K y0 y1 y2 y8 y9 x8 H))):aW.J0 σ K y0 y1 y2 y8 y9 y20 H :=
 fun j=>Eq.mpr (by kernel_rfl) h
theorem aW.J1_step {y0 y1 y2 y8 y9 y20:AV} (h:ifB y20 (bnd (cb y0) fun x1=>bnd (ae x1 0) fun x2=>bnd (ldA false 1 H x2) fun x3=>av Tryz.prog σ gu [x3,y1] H fun x4 H5=>bnd (ah .eql y2 (I 4)) fun x6=>K (.tup [x4,x6]) H5) (K (.tup [(I (-1)),(Bo false)]) H)):aW.J1 σ K y0 y1 y2 y8 y9 y20 H :=
 fun j=>Eq.mpr (by kernel_rfl) h
theorem aW.run {a0 a1 a2:AV} (h:bnd (ah .eql a2 (I 1)) fun x1=>ifB x1 (aW.J0 σ K a0 a1 a2 a2 x1 (.lit undef) H) (bnd (ah .eql a2 (I 2)) fun x2=>aW.J0 σ K a0 a1 a2 a2 x2 (.lit undef) H)):∃ r H1,au Tryz.prog σ fc [a0,a1,a2] H r H1∧K r H1 :=
 gwp 1049351 (fn:=Tryz.f181) (f:=fc) (c:=aW.code) (by kernel_rfl) (by kernel_rfl) (Eq.mpr (by kernel_rfl) h)
noncomputable def ic.code:Code:=aD Tryz.f182
theorem ic.run {a0 a1 a2 a3 a4:AV} (h:bnd (ldA false 1 H a0) fun x1=>bnd (ldA false 1 H a1) fun x2=>bnd (ldA false 1 H a2) fun x3=>bnd (ah .sub x3 (I 1)) fun x4=>bnd (ldA false 1 H a3) fun x5=>av Tryz.prog σ dH [x1,x2,x4,x5] H fun x6 H7=>ifB x6 (K (Bo true) H7) (bnd (ldA false 1 H7 a4) fun x8=>ifB x8 (bnd (ldA false 1 H7 a0) fun x9=>bnd (ldA false 1 H7 a1) fun x10=>bnd (ldA false 1 H7 a2) fun x11=>bnd (ldA false 1 H7 a3) fun x12=>av Tryz.prog σ dt [x9,x10,x11,x12] H7 fun x13 H14=>K x13 H14) (K (Bo false) H7))):∃ r H1,au Tryz.prog σ gp [a0,a1,a2,a3,a4] H r H1∧K r H1 :=
 gwp 0 (fn:=Tryz.f182) (f:=gp) (c:=ic.code) (by kernel_rfl) (by kernel_rfl) (Eq.mpr (by kernel_rfl) h)
noncomputable def mo.code:Code:=aD Tryz.f183
theorem mo.run {a0 a1:AV} (h:bE [I 0,.lit (.string ⟨#[]⟩),.lit (.string ⟨#[]⟩),.lit (.slice none 0 0),.lit (.slice none 0 0)] H fun x1 H2=>av Tryz.prog σ dN [a0,a1] H2 fun x3 H4=>bnd (nz true 0 5 x3) fun x5=>bnd (stA 5 H4 x1 x5) fun H6=>bnd (ldA true 5 H6 x1) fun r7=>K r7 H6):∃ r H1,au Tryz.prog σ fW [a0,a1] H r H1∧K r H1 :=
 gwp 0 (fn:=Tryz.f183) (f:=fW) (c:=mo.code) (by kernel_rfl) (by kernel_rfl) (Eq.mpr (by kernel_rfl) h)
noncomputable def eC.code:Code:=aD Tryz.f184
noncomputable def eC.L0 (σ:Sig) (K:AV→Hp→Prop) (y1 y7 y8 y9:AV) (H:Hp):Prop:=∀ j:Nat→AV,aN (CZ σ) (lB (bB (sR (sL (sR eC.code))))) ([j 0,y1,j 2,j 3,j 4,j 5,j 6,y7,y8,y9]++jr j 10 7) H (fun e T G=>(nx (fQ Tryz.f184 σ K) fun T G=>wp (CZ σ) 898 (sR (sR eC.code)) T G (fQ Tryz.f184 σ K)) (al 0 e) T G)
theorem eC.L0_step {y1 y7 y8 y9:AV} (h:bnd (ah .lss y9 y8) fun x1=>ifB x1 (bnd (az 1 y7 y9) fun x2=>bnd (ldA false 1 H x2) fun x3=>bnd (ah .eql x3 y1) fun x4=>ifB x4 (K (Bo true) H) (bnd (ah .add y9 (I 1)) fun x5=>eC.L0 σ K y1 y7 y8 x5 H)) (K (Bo false) H)):eC.L0 σ K y1 y7 y8 y9 H :=
 fun j=>lrd (g:=898) (Eq.mpr (by kernel_rfl) h)
theorem eC.run {a0 a1:AV} (h:bnd (aG a0) fun x1=>eC.L0 σ K a1 a0 x1 (I 0) H):∃ r H1,au Tryz.prog σ lR [a0,a1] H r H1∧K r H1 :=
 gwp 898 (fn:=Tryz.f184) (f:=lR) (c:=eC.code) (by kernel_rfl) (by kernel_rfl) (Eq.mpr (by kernel_rfl) h)
noncomputable def dz.code:Code:=aD Tryz.f185
noncomputable def dz.L0 (σ:Sig) (K:AV→Hp→Prop) (y3 y8 y9 y10:AV) (H:Hp):Prop:=∀ j:Nat→AV,aN (CZ σ) (lB (bB (sR (sL (sR dz.code))))) ([j 0,j 1,j 2,y3,j 4,j 5,j 6,j 7,y8,y9,y10]++jr j 11 13) H (fun e T G=>(nx (fQ Tryz.f185 σ K) fun T G=>wp (CZ σ) 1800 (sR (sR dz.code)) T G (fQ Tryz.f185 σ K)) (al 0 e) T G)
theorem dz.L0_step {y3 y8 y9 y10:AV} (h:bnd (ah .lss y10 y9) fun x1=>ifB x1 (bnd (az 2 y8 y10) fun x2=>bnd (ldA true 2 H x2) fun x3=>bE [.lit (.string ⟨#[]⟩),.lit (.string ⟨#[]⟩)] H fun x4 H5=>bnd (stA 2 H5 x4 x3) fun H6=>bnd (ae x4 0) fun x7=>bnd (ldA false 1 H6 x7) fun x8=>bnd (ae y3 0) fun x9=>bnd (ldA false 1 H6 x9) fun x10=>bnd (ah .eql x8 x10) fun x11=>ifB x11 (bnd (ae x4 1) fun x12=>bnd (ldA false 1 H6 x12) fun x13=>bnd (ldA true 3 H6 y3) fun x14=>av Tryz.prog σ mR [x13,x14] H6 fun x15 H16=>K x15 H16) (bnd (ah .add y10 (I 1)) fun x17=>dz.L0 σ K y3 y8 y9 x17 H6)) (K (Bo false) H)):dz.L0 σ K y3 y8 y9 y10 H :=
 fun j=>lrd (g:=1800) (Eq.mpr (by kernel_rfl) h)
theorem dz.run {a0 a1:AV} (h:cV a0 H fun x1 H2=>cV a1 H2 fun x3 H4=>bnd (ae x1 4) fun x5=>bnd (ldA false 1 H4 x5) fun x6=>bnd (aG x6) fun x7=>dz.L0 σ K x3 x6 x7 (I 0) H4):∃ r H1,au Tryz.prog σ kq [a0,a1] H r H1∧K r H1 :=
 gwp 1800 (fn:=Tryz.f185) (f:=kq) (c:=dz.code) (by kernel_rfl) (by kernel_rfl) (Eq.mpr (by kernel_rfl) h)
noncomputable def jW.code:Code:=aD Tryz.f186
theorem jW.run {a0 a1:AV} (h:bnd (ah .lss a1 (I 0)) fun x1=>ifB x1 (K (I (-1)) H) (bnd (cb a0) fun x2=>bnd (ae x2 0) fun x3=>bnd (ldA false 1 H x3) fun x4=>bnd (aG x4) fun x5=>bnd (ah .geq a1 x5) fun x6=>ifB x6 (K (I (-1)) H) (bnd (cb a0) fun x7=>bnd (ae x7 0) fun x8=>bnd (ldA false 1 H x8) fun x9=>bnd (az 9 x9 a1) fun x10=>bnd (ae x10 0) fun x11=>bnd (ae x11 0) fun x12=>bnd (ldA false 1 H x12) fun x13=>K x13 H))):∃ r H1,au Tryz.prog σ d6 [a0,a1] H r H1∧K r H1 :=
 gwp 0 (fn:=Tryz.f186) (f:=d6) (c:=jW.code) (by kernel_rfl) (by kernel_rfl) (Eq.mpr (by kernel_rfl) h)
noncomputable def kZ.code:Code:=aD Tryz.f187
theorem kZ.run {a0 a1:AV} (h:av Tryz.prog σ dN [a0,a1] H fun x1 H2=>bnd (nz false 7 1 x1) fun x3=>K x3 H2):∃ r H1,au Tryz.prog σ dF [a0,a1] H r H1∧K r H1 :=
 gwp 0 (fn:=Tryz.f187) (f:=dF) (c:=kZ.code) (by kernel_rfl) (by kernel_rfl) (Eq.mpr (by kernel_rfl) h)
noncomputable def ju.code:Code:=aD Tryz.f188
theorem ju.run {a0 a1:AV} (h:bnd (cb a0) fun x1=>bnd (ae x1 0) fun x2=>bnd (ldA false 1 H x2) fun x3=>av Tryz.prog σ d6 [x3,a1] H fun x4 H5=>bnd (ah .lss x4 (I 0)) fun x6=>ifB x6 (K (Bo true) H5) (bnd (cb a0) fun x7=>bnd (ae x7 0) fun x8=>bnd (ldA false 1 H5 x8) fun x9=>bnd (cb a0) fun x10=>bnd (ae x10 0) fun x11=>bnd (ldA false 1 H5 x11) fun x12=>av Tryz.prog σ dF [x12,a1] H5 fun x13 H14=>kpK (x8,some 1) H5 H14 (av Tryz.prog σ fA [x9,x4,x13] H14 fun x15 H16=>bnd (ah .lss x15 (I 0)) fun x17=>K x17 H16))):∃ r H1,au Tryz.prog σ eN [a0,a1] H r H1∧K r H1 :=
 gwp 0 (fn:=Tryz.f188) (f:=eN) (c:=ju.code) (by kernel_rfl) (by kernel_rfl) (Eq.mpr (by kernel_rfl) h)
noncomputable def kO.code:Code:=aD Tryz.f189
theorem kO.run {a0 a1 a2:AV} (h:av Tryz.prog σ dN [a0,a1] H fun x1 H2=>bnd (nz false 5 1 x1) fun x3=>bnd (aG x3) fun x4=>bnd (ah .lss a2 x4) fun x5=>ifB x5 (bnd (az 1 x3 a2) fun x6=>bnd (ldA false 1 H2 x6) fun x7=>K x7 H2) (K (I (-1)) H2)):∃ r H1,au Tryz.prog σ fA [a0,a1,a2] H r H1∧K r H1 :=
 gwp 0 (fn:=Tryz.f189) (f:=fA) (c:=kO.code) (by kernel_rfl) (by kernel_rfl) (Eq.mpr (by kernel_rfl) h)
noncomputable def q_.code:Code:=aD Tryz.f190
theorem q_.run {a0 a1 a2:AV} (h:bnd (ah .eql a1 (I 0)) fun x1=>ifB x1 (bnd (ah .eql a0 a2) fun x2=>K x2 H) (bnd (ah .gtr a1 (I 0)) fun x3=>ifB x3 (bnd (ah .leq a2 a0) fun x4=>ifB x4 (bnd (f_ .u64 a0) fun x5=>bnd (f_ .u64 a2) fun x6=>bnd (ah .sub x5 x6) fun x7=>bnd (f_ .u64 a1) fun x8=>bnd (ah .rem x7 x8) fun x9=>bnd (ah .eql x9 (.lit (.int .u64 0))) fun x10=>K x10 H) (K (Bo false) H)) (bnd (ah .geq a2 a0) fun x11=>ifB x11 (bnd (f_ .u64 a2) fun x12=>bnd (f_ .u64 a0) fun x13=>bnd (ah .sub x12 x13) fun x14=>bnd (f_ .u64 a1) fun x15=>bnd (unR .neg x15) fun x16=>bnd (ah .rem x14 x16) fun x17=>bnd (ah .eql x17 (.lit (.int .u64 0))) fun x18=>K x18 H) (K (Bo false) H)))):∃ r H1,au Tryz.prog σ lE [a0,a1,a2] H r H1∧K r H1 :=
 gwp 0 (fn:=Tryz.f190) (f:=lE) (c:=q_.code) (by kernel_rfl) (by kernel_rfl) (Eq.mpr (by kernel_rfl) h)
noncomputable def jV.code:Code:=aD Tryz.f191
theorem jV.run {a0 a1:AV} (h:av Tryz.prog σ dN [a0,a1] H fun x1 H2=>bnd (nz false 8 1 x1) fun x3=>K x3 H2):∃ r H1,au Tryz.prog σ gu [a0,a1] H r H1∧K r H1 :=
 gwp 0 (fn:=Tryz.f191) (f:=gu) (c:=jV.code) (by kernel_rfl) (by kernel_rfl) (Eq.mpr (by kernel_rfl) h)
noncomputable def uc.code:Code:=aD Tryz.f192
theorem uc.run {a0 a1:AV} (h:cV a1 H fun x1 H2=>bnd (ae x1 2) fun x3=>bnd (ldA false 1 H2 x3) fun x4=>bnd (ah .neq x4 (.lit (.string ⟨#[]⟩))) fun x5=>bnd (ae x1 1) fun x6=>bnd (ldA false 1 H2 x6) fun x7=>bnd (ah .eql x7 (I 0)) fun x8=>ifB x8 (K (Bo true) H2) (bnd (ah .eql x7 (I 1)) fun x9=>ifB x9 (bnd (ae x1 2) fun x10=>bnd (ldA false 1 H2 x10) fun x11=>bnd (ah .eql a0 x11) fun x12=>K x12 H2) (bnd (ah .eql x7 (I 2)) fun x13=>ifB x13 (ifB x5 (bnd (ae x1 2) fun x14=>bnd (ldA false 1 H2 x14) fun x15=>av Tryz.prog σ kz [a0,x15] H2 fun x16 H17=>K x16 H17) (K (Bo false) H2)) (bnd (ah .eql x7 (I 3)) fun x18=>ifB x18 (bnd (ae x1 2) fun x19=>bnd (ldA false 1 H2 x19) fun x20=>bnd (ah .eql a0 x20) fun x21=>ifB x21 (K (Bo true) H2) (bnd (ae x1 2) fun x22=>bnd (ldA false 1 H2 x22) fun x23=>bnd (ah .add x23 (.lit (.string ⟨#[45]⟩))) fun x24=>av Tryz.prog σ ee [a0,x24] H2 fun x25 H26=>K x25 H26)) (bnd (ah .eql x7 (I 4)) fun x27=>ifB x27 (ifB x5 (bnd (ae x1 2) fun x28=>bnd (ldA false 1 H2 x28) fun x29=>av Tryz.prog σ ee [a0,x29] H2 fun x30 H31=>K x30 H31) (K (Bo false) H2)) (bnd (ah .eql x7 (I 5)) fun x32=>ifB x32 (ifB x5 (bnd (ae x1 2) fun x33=>bnd (ldA false 1 H2 x33) fun x34=>av Tryz.prog σ fl [a0,x34] H2 fun x35 H36=>K x35 H36) (K (Bo false) H2)) (bnd (ah .eql x7 (I 6)) fun x37=>ifB x37 (ifB x5 (bnd (ae x1 2) fun x38=>bnd (ldA false 1 H2 x38) fun x39=>av Tryz.prog σ kV [a0,x39] H2 fun x40 H41=>K x40 H41) (K (Bo false) H2)) (K (Bo false) H2)))))))):∃ r H1,au Tryz.prog σ mR [a0,a1] H r H1∧K r H1 :=
 gwp 0 (fn:=Tryz.f192) (f:=mR) (c:=uc.code) (by kernel_rfl) (by kernel_rfl) (Eq.mpr (by kernel_rfl) h)
noncomputable def bM.code:Code:=aD Tryz.f193
noncomputable def bM.R0 (j:Nat→AV) (y3 y4:AV):mw:=⟨([j 0,j 1,j 2,y3,y4]++jr j 5 7),rP (bB (sR (sL (sR bM.code)))),rA (bB (sR (sL (sR bM.code)))),rB (bB (sR (sL (sR bM.code))))⟩
theorem bM.R0_round {j:Nat→AV} {y3 y4 p0:AV} {id:Nat} (hl:H.get id=some (.loop (bM.R0 j y3 y4) .ready none)) (h:H.get id=some (.loop (bM.R0 j y3 y4) .ready none)∧(bnd (some (H.set id (some (.loop (bM.R0 j y3 y4) .busy none)))) fun H1=>bnd (ldA false 1 H1 y3) fun x2=>bnd (ah .eql p0 x2) fun x3=>ifB x3 (bnd (stA 1 H1 y4 (Bo true)) fun H4=>ib id (bM.R0 j y3 y4) K .ret H4) (ib id (bM.R0 j y3 y4) K .normal H1))):fG Tryz.prog σ (.yl id) [p0] H K :=
 lH (CZ σ) mixed 24 hl (by kernel_rfl) (by kernel_rfl) (by kernel_rfl) (Eq.mpr (by kernel_rfl) h)
theorem bM.run {a0 a1:AV} (h:cV a1 H fun x1 H2=>bE [Bo false] H2 fun x3 H4=>av Tryz.prog σ l9 [a0] H4 fun x5 H6=>∀ j:Nat→AV,mh Tryz.prog σ x5 (bM.R0 j x1 x3) H6 (fun H7=>bnd (stA 1 H7 x3 (Bo false)) fun H9=>bnd (ldA false 1 H9 x3) fun r10=>K r10 H9) (fun H7=>bnd (ldA false 1 H7 x3) fun r11=>K r11 H7) (fun i8 H7=>False)):∃ r H1,au Tryz.prog σ kz [a0,a1] H r H1∧K r H1 :=
 gwp 24 (fn:=Tryz.f193) (f:=kz) (c:=bM.code) (by kernel_rfl) (by kernel_rfl) (Eq.mpr (by kernel_rfl) h)
noncomputable def iT.code:Code:=aD Tryz.f194
theorem iT.run {a0 a1:AV} (h:av Tryz.prog σ cR [a0,a1] H fun x1 H2=>K x1 H2):∃ r H1,au Tryz.prog σ ee [a0,a1] H r H1∧K r H1 :=
 gwp 0 (fn:=Tryz.f194) (f:=ee) (c:=iT.code) (by kernel_rfl) (by kernel_rfl) (Eq.mpr (by kernel_rfl) h)
noncomputable def iX.code:Code:=aD Tryz.f195
theorem iX.run {a0 a1:AV} (h:av Tryz.prog σ cP [a0,a1] H fun x1 H2=>K x1 H2):∃ r H1,au Tryz.prog σ fl [a0,a1] H r H1∧K r H1 :=
 gwp 0 (fn:=Tryz.f195) (f:=fl) (c:=iX.code) (by kernel_rfl) (by kernel_rfl) (Eq.mpr (by kernel_rfl) h)
noncomputable def nP.code:Code:=aD Tryz.f197
theorem nP.run {a0:AV} (h:cV a0 H fun x1 H2=>K (.fn kg [x1]) H2):∃ r H1,au Tryz.prog σ l9 [a0] H r H1∧K r H1 :=
 gwp 0 (fn:=Tryz.f197) (f:=l9) (c:=nP.code) (by kernel_rfl) (by kernel_rfl) (Eq.mpr (by kernel_rfl) h)
noncomputable def dE.code:Code:=aD Tryz.f198
theorem dE.run {a0 a1:AV} (h:bnd (cZ a0) fun x1=>bnd (cZ a1) fun x2=>bnd (ah .geq x1 x2) fun x3=>ifB x3 (bnd (cZ a1) fun x4=>bnd (fM a0 none (some x4)) fun x5=>bnd (ah .eql x5 a1) fun x6=>K x6 H) (K (Bo false) H)):∃ r H1,au Tryz.prog σ cR [a0,a1] H r H1∧K r H1 :=
 gwp 0 (fn:=Tryz.f198) (f:=cR) (c:=dE.code) (by kernel_rfl) (by kernel_rfl) (Eq.mpr (by kernel_rfl) h)
noncomputable def dD.code:Code:=aD Tryz.f199
theorem dD.run {a0 a1:AV} (h:bnd (cZ a0) fun x1=>bnd (cZ a1) fun x2=>bnd (ah .geq x1 x2) fun x3=>ifB x3 (bnd (cZ a0) fun x4=>bnd (cZ a1) fun x5=>bnd (ah .sub x4 x5) fun x6=>bnd (fM a0 (some x6) none) fun x7=>bnd (ah .eql x7 a1) fun x8=>K x8 H) (K (Bo false) H)):∃ r H1,au Tryz.prog σ cP [a0,a1] H r H1∧K r H1 :=
 gwp 0 (fn:=Tryz.f199) (f:=cP) (c:=dD.code) (by kernel_rfl) (by kernel_rfl) (Eq.mpr (by kernel_rfl) h)
noncomputable def aR.code:Code:=aD Tryz.f201
noncomputable def aR.Q0 (σ:Sig) (K:AV→Hp→Prop):Exit→List AV→Hp→Prop:=(nx (fun e T G=>(fQ Tryz.f201 σ K) (al 0 e) T G) fun T G=>∀ j,aN (CZ σ) (lB (bB aR.code)) (cv 11 j 0 T) G (fun e T G=>(fQ Tryz.f201 σ K) (al 0 e) T G))
noncomputable def aR.L0 (σ:Sig) (K:AV→Hp→Prop) (y0 y1 y3:AV) (H:Hp):Prop:=∀ j:Nat→AV,aN (CZ σ) (lB (bB aR.code)) ([y0,y1,j 2,y3]++jr j 4 32) H (fun e T G=>(fQ Tryz.f201 σ K) (al 0 e) T G)
noncomputable def aR.L1 (σ:Sig) (K:AV→Hp→Prop) (y0 y1 y3:AV) (H:Hp):Prop:=∀ j:Nat→AV,aN (CZ σ) (lB (bB (sL (sR (bB (sR (lB (bB aR.code)))))))) ([y0,y1,j 2,y3]++jr j 4 32) H (fun e T G=>(nx (fun e T G=>(aR.Q0 σ K) (al 1 e) T G) fun T G=>wp (CZ σ) 11 (sR (sR (bB (sR (lB (bB aR.code)))))) T G (fun e T G=>(aR.Q0 σ K) (al 1 e) T G)) (al 2 e) T G)
theorem aR.L0_step {y0 y1 y3:AV} (h:bnd (ldA false 1 H y1) fun x1=>bnd (ah .neq x1 (.lit (.string ⟨#[]⟩))) fun x2=>ifB x2 (aR.L1 σ K y0 y1 (I 0) H) (K (.tup []) H)):aR.L0 σ K y0 y1 y3 H :=
 fun j=>lrd (g:=11) (Eq.mpr (by kernel_rfl) h)
theorem aR.L1_step {y0 y1 y3:AV} (h:bnd (ldA false 1 H y1) fun x1=>bnd (cZ x1) fun x2=>bnd (ah .lss y3 x2) fun x3=>ifB x3 (bnd (ldA false 1 H y1) fun x4=>bnd (vE x4 y3) fun x5=>av Tryz.prog σ jF [x5] H fun x6 H7=>bnd (unR .not x6) fun x8=>ifB x8 (bnd (ah .add y3 (I 1)) fun x9=>aR.L1 σ K y0 y1 x9 H7) (bnd (ah .gtr y3 (I 0)) fun x10=>ifB x10 (bnd (ldA false 1 H7 y1) fun x11=>bnd (fM x11 none (some y3)) fun x12=>fG Tryz.prog σ y0 [x12] H7 fun x13 H14=>bnd (unR .not x13) fun x15=>ifB x15 (K (.tup []) H14) (bnd (ldA false 1 H14 y1) fun x16=>bnd (ah .add y3 (I 1)) fun x17=>bnd (ldA false 1 H14 y1) fun x18=>bnd (cZ x18) fun x19=>bnd (nG [x17,x19]) fun x20=>bnd (fM x16 (some x20) none) fun x21=>bnd (stA 1 H14 y1 x21) fun H22=>aR.L0 σ K y0 y1 y3 H22)) (bnd (ldA false 1 H7 y1) fun x23=>bnd (ah .add y3 (I 1)) fun x24=>bnd (ldA false 1 H7 y1) fun x25=>bnd (cZ x25) fun x26=>bnd (nG [x24,x26]) fun x27=>bnd (fM x23 (some x27) none) fun x28=>bnd (stA 1 H7 y1 x28) fun H29=>aR.L0 σ K y0 y1 y3 H29))) (bnd (ah .gtr y3 (I 0)) fun x30=>ifB x30 (bnd (ldA false 1 H y1) fun x31=>bnd (fM x31 none (some y3)) fun x32=>fG Tryz.prog σ y0 [x32] H fun x33 H34=>bnd (unR .not x33) fun x35=>ifB x35 (K (.tup []) H34) (bnd (ldA false 1 H34 y1) fun x36=>bnd (ah .add y3 (I 1)) fun x37=>bnd (ldA false 1 H34 y1) fun x38=>bnd (cZ x38) fun x39=>bnd (nG [x37,x39]) fun x40=>bnd (fM x36 (some x40) none) fun x41=>bnd (stA 1 H34 y1 x41) fun H42=>aR.L0 σ K y0 y1 y3 H42)) (bnd (ldA false 1 H y1) fun x43=>bnd (ah .add y3 (I 1)) fun x44=>bnd (ldA false 1 H y1) fun x45=>bnd (cZ x45) fun x46=>bnd (nG [x44,x46]) fun x47=>bnd (fM x43 (some x47) none) fun x48=>bnd (stA 1 H y1 x48) fun H49=>aR.L0 σ K y0 y1 y3 H49))):aR.L1 σ K y0 y1 y3 H :=
 fun j=>lrd (g:=11) (Eq.mpr (by kernel_rfl) h)
theorem aR.run {a0 a1:AV} (h:aR.L0 σ K a0 a1 (.lit undef) H):∃ r H1,au Tryz.prog σ kg [a0,a1] H r H1∧K r H1 :=
 gwp 11 (fn:=Tryz.f201) (f:=kg) (c:=aR.code) (by kernel_rfl) (by kernel_rfl) (Eq.mpr (by kernel_rfl) h)
noncomputable def n_.code:Code:=aD Tryz.f202
theorem n_.run {a0:AV} (h:bnd (ah .eql a0 (.lit (.int .u8 9))) fun x1=>ifB x1 (K (Bo true) H) (bnd (ah .eql a0 (.lit (.int .u8 10))) fun x2=>ifB x2 (K (Bo true) H) (bnd (ah .eql a0 (.lit (.int .u8 12))) fun x3=>ifB x3 (K (Bo true) H) (bnd (ah .eql a0 (.lit (.int .u8 13))) fun x4=>ifB x4 (K (Bo true) H) (bnd (ah .eql a0 (.lit (.int .u8 32))) fun x5=>K x5 H))))):∃ r H1,au Tryz.prog σ jF [a0] H r H1∧K r H1 :=
 gwp 0 (fn:=Tryz.f202) (f:=jF) (c:=n_.code) (by kernel_rfl) (by kernel_rfl) (Eq.mpr (by kernel_rfl) h)
end Go.Proofs.YthdcghnjndhecaaGreat.Ev
namespace Go.Proofs.YthdcghnjndhecaaGreat.Ev
set_option linter.unusedVariables false
set_option linter.unusedSimpArgs false
variable {σ:Sig}
def jm (c:UInt8):UInt8:=if 65≤c.toNat∧c.toNat≤90 then UInt8.ofNat (c.toNat+32) else c
def pM (s:ByteArray):ByteArray:=⟨(s.data.toList.map jm).toArray⟩
def oH (c:UInt8):AV:=.lit (.int .u8 c.toNat)
theorem wr8 {n:Int} (h0:0≤n) (h1:n≤255):wr .u8 n=n:=by
 unfold wr
 simp [IntKind.wrap,IntKind.signed,IntKind.bits]
 omega
theorem tR:∀ (l:List UInt8),nK (l.map oH)=some l
 | []=>rfl
 | c::l=>by
  have ih:=tR l
  rw [List.map_cons]
  show (nK (l.map oH)).map (UInt8.ofNat ((c.toNat:Int)).toNat::·)=_
  rw [ih]
  simp
theorem JN (l:List UInt8):(l.map oH).all AV.one=true:=by
 rw [List.all_map,List.all_eq_true]
 intro x _; rfl
theorem Aw {H:Hp} {id:Nat} {l:List UInt8} {n:Nat} {ex:Bool} (hg:H.get id=some (.cells (l.map oH) ex)) (hn:n=l.length):lO H (.sl id 0 1 n none)=some (Sx ⟨l.toArray⟩):=by
 subst hn
 simp only [lO,jk,hg]
 have e:List.take l.length (l.map oH)=l.map oH:=by
  have:=List.take_length (l:=l.map oH)
  rwa [List.length_map] at this
 simp only [List.drop_zero,Nat.mul_one,mj,e,List.length_map,decide_true,Bool.and_self,cond_true,JN,tR]
 rfl
theorem uo {l:List UInt8} {k:Nat} {c:UInt8} (h:l[k]?=some c) (v:UInt8) (hv:v=jm c):(l.set k v).take (k+1)++((l.set k v).drop (k+1)).map jm=l.take k++(l.drop k).map jm:=by
 subst hv
 obtain ⟨hlt,rfl⟩:=List.getElem?_eq_some_iff.1 h
 rw [List.drop_eq_getElem_cons hlt,List.take_succ_eq_append_getElem (by simpa using hlt),List.drop_set_of_lt (by omega),List.take_set_of_le (by omega)]
 simp
 rw [List.drop_eq_getElem_cons (i:=k) (l:=List.map jm l) (by simpa using hlt)]
 simp
theorem qd {l:List UInt8} {k:Nat} {c:UInt8} (h:l[k]?=some c) (hv:jm c=c):l.take (k+1)++(l.drop (k+1)).map jm=l.take k++(l.drop k).map jm:=by
 have:=uo h c hv.symm
 rwa [show l.set k c=l from by
  obtain ⟨hlt,rfl⟩:=List.getElem?_eq_some_iff.1 h
  simp] at this
theorem KC {K:AV→Hp→Prop} {n id:Nat} (hn:n<9000000000000000000):∀ (d k:Nat) (l:List UInt8) (H:Hp) (ex:Bool),H.get id=some (.cells (l.map oH) ex)→l.length=n→n - k=d→k≤n→(∀ H,K (Sx ⟨(l.take k++(l.drop k).map jm).toArray⟩) H) →
  bR.L0 σ K (.sl id 0 1 n none) (.sl id 0 1 n none) (I n) (I k) H:=by
 intro d
 induction d with
 | zero =>
  intro k l H ex hg hl hd hk hK
  have e:k=n:=by omega
  subst e
  refine bR.L0_step ?_
  simp [Aw hg hl.symm]
  simpa [← hl] using hK H
 | succ d ih =>
  intro k l H ex hg hl hd hk hK
  have hlt:k<n:=by omega
  have hlt':k<l.length:=by omega
  have hget:l[k]?=some l[k]:=List.getElem?_eq_getElem hlt'
  have hc:=(l[k]).toNat_lt
  refine bR.L0_step ?_
  simp [hlt,nW,hg,pQ hlt',oH]
  have next:∀ (l':List UInt8) (H':Hp),H'.get id=some (.cells (l'.map oH) ex)→l'.length=n→l'.take (k+1)++(l'.drop (k+1)).map jm=l.take k++(l.drop k).map jm→bR.J1 σ K (.sl id 0 1 n none) (.sl id 0 1 n none) (I n) (I k) H':=by
   intro l' H' hg' hl' he
   refine bR.J1_step ?_
   simp
   rw [bq (Nat.lt_trans hlt hn)]
   exact ih (k+1) l' H' ex hg' hl' (by omega) (by omega) (by rw [he]; exact hK)
  split
  ·split
   ·rename_i h1 h2
    have e1:wr .u8 ((l[k].toNat:Int)+97)=(l[k].toNat:Int)+97:=wr8 (by omega) (by omega)
    have e2:wr .u8 ((l[k].toNat:Int)+97 - 65)=((jm l[k]).toNat:Int):=by
     rw [wr8 (by omega) (by omega)]
     unfold jm
     rw [if_pos ⟨by omega,by omega⟩]
     simp; omega
    rw [e1,e2]
    have e3:(k:Int).toNat=k:=by omega
    rw [if_pos (show k+1≤l.length from hlt'),aa]
    have e4:AV.lit (.int .u8 (jm l[k]).toNat)=oH (jm l[k]):=rfl
    rw [e4,zT _ hlt']
    exact next (l.set k (jm l[k])) _ (by simp) (by simpa using hl) (uo hget _ rfl)
   ·rename_i h1 h2
    exact next l H hg hl (qd hget (by unfold jm; rw [if_neg (by omega)]))
  ·rename_i h1
   exact next l H hg hl (qd hget (by unfold jm; rw [if_neg (by omega)]))
theorem tB (s:ByteArray) (hs:s.data.size<9000000000000000000) (H:Hp):au Tryz.prog σ jf [Sx s] H (Sx (pM s)) H:=by
 refine bg (fun K hK=>bR.run ?_) rfl rfl H
 simp only [iH,aa,rq]
 refine KC hs _ 0 s.data.toList _ false (by simp [oH]) (by simp) rfl (Nat.zero_le _) fun H=>?_
 simpa [pM] using hK H
theorem CB {K:AV→Hp→Prop} {n id:Nat} (hn:n<9000000000000000000):∀ (d k:Nat) (l:List UInt8) (H:Hp) (ex:Bool),H.get id=some (.cells (l.map oH) ex)→l.length=n→n - k=d→k≤n→(∀ H,K (Sx ⟨(l.take k++(l.drop k).map jm).toArray⟩) H) →
  bT.L0 σ K (.sl id 0 1 n none) (I k) H:=by
 intro d
 induction d with
 | zero =>
  intro k l H ex hg hl hd hk hK
  have e:k=n:=by omega
  subst e
  refine bT.L0_step ?_
  simp [Aw hg hl.symm]
  simpa [← hl] using hK H
 | succ d ih =>
  intro k l H ex hg hl hd hk hK
  have hlt:k<n:=by omega
  have hlt':k<l.length:=by omega
  have hget:l[k]?=some l[k]:=List.getElem?_eq_getElem hlt'
  have hc:=(l[k]).toNat_lt
  refine bT.L0_step ?_
  simp [hlt,nW,hg,pQ hlt',oH]
  have next:∀ (l':List UInt8) (H':Hp),H'.get id=some (.cells (l'.map oH) ex)→l'.length=n→l'.take (k+1)++(l'.drop (k+1)).map jm=l.take k++(l.drop k).map jm→bT.J1 σ K (.sl id 0 1 n none) (I k) H':=by
   intro l' H' hg' hl' he
   refine bT.J1_step ?_
   simp
   rw [bq (Nat.lt_trans hlt hn)]
   exact ih (k+1) l' H' ex hg' hl' (by omega) (by omega) (by rw [he]; exact hK)
  split
  ·split
   ·rename_i h1 h2
    have e2:wr .u8 ((l[k].toNat:Int)+32)=((jm l[k]).toNat:Int):=by
     rw [wr8 (by omega) (by omega)]
     unfold jm
     rw [if_pos ⟨by omega,by omega⟩]
     simp; omega
    rw [e2]
    rw [if_pos (show k+1≤l.length from hlt'),aa]
    have e4:AV.lit (.int .u8 (jm l[k]).toNat)=oH (jm l[k]):=rfl
    rw [e4,zT _ hlt']
    exact next (l.set k (jm l[k])) _ (by simp) (by simpa using hl) (uo hget _ rfl)
   ·rename_i h1 h2
    exact next l H hg hl (qd hget (by unfold jm; rw [if_neg (by omega)]))
  ·rename_i h1
   exact next l H hg hl (qd hget (by unfold jm; rw [if_neg (by omega)]))
theorem uP (s:ByteArray) (hs:s.data.size<9000000000000000000) (H:Hp):au Tryz.prog σ iP [Sx s] H (Sx (pM s)) H:=by
 refine bg (fun K hK=>bT.run ?_) rfl rfl H
 simp only [iH,aa,rq]
 refine CB hs _ 0 s.data.toList _ false (by simp [oH]) (by simp) rfl (Nat.zero_le _) fun H=>?_
 simpa [pM] using hK H
end Go.Proofs.YthdcghnjndhecaaGreat.Ev
namespace Go.Proofs.YthdcghnjndhecaaGreat.Ev
set_option linter.unusedVariables false
set_option linter.unusedSimpArgs false
variable {σ:Sig}
theorem au.imm0 {P:Program} {f sz:Nat} {r:AV} {H H':Hp} (h:∀ (a:Option Addr) (c:Nat),au P σ f [.lit (.slice a 0 c)] H r H'):au P σ f [.imm sz []] H r H':=by
 refine ⟨(h none 0).1,fun B w0 E w vs hσ hst hxs=>?_⟩
 have hl:=hxs.len
 have hv:vs[0]?=some (vs[0]'(by simp at hl; omega)):=Array.getElem?_eq_getElem _
 have hr:=hxs.at_ 0 _ _ rfl hv
 have:∃ a c,vs[0]'(by simp at hl; omega)=.slice a 0 c:=by
  generalize vs[0]'(by simp at hl; omega)=v at hr
  cases hr with
  | immE=>exact ⟨_,_,rfl⟩
  | imm val hn=>subst hn; exact ⟨_,_,rfl⟩
 obtain ⟨a,c,e⟩:=this
 refine (h a c).2 B w0 E w vs hσ hst ⟨by simpa using hl,fun i x v hx hv'=>?_⟩
 match i with
 | 0 =>
  simp at hx; subst hx
  rw [hv] at hv'
  cases hv'
  rw [e]; exact .lit _
 | i+1=>simp at hx
theorem zn (H:Hp):au Tryz.prog σ bJ [cG []] H (cG []) H:=by
 refine au.imm0 fun a c=>?_
 cases a with
 | none =>
  have run:∃ r H1,au Tryz.prog σ bJ [.lit (.slice none 0 c)] Hp.empty r H1∧r=.lit (.slice none 0 0):=cX.run (by simp)
  obtain ⟨r,H1,hg,rfl⟩:=run
  exact hg.frzR rfl .nil H
 | some a =>
  have run:∃ r H1,au Tryz.prog σ bJ [.lit (.slice (some a) 0 c)] Hp.empty r H1∧Fz H1 r (cG []):=by
   refine cX.run ?_
   simp [cj,dy,eA,jk,mj,j8,oZ]
   exact .sl (cs:=[]) (ex:=true) (fun _ _=>.any) (by simp) rfl (by simp) (by simp) (by simp)
  obtain ⟨r,H1,hg,hf⟩:=run
  exact hg.frzR rfl hf H
theorem B1 (H:Hp):au Tryz.prog σ bY [.imm 2 []] H (.imm 2 []) H:=by
 refine au.imm0 fun a c=>?_
 cases a with
 | none =>
  have run:∃ r H1,au Tryz.prog σ bY [.lit (.slice none 0 c)] Hp.empty r H1∧r=.lit (.slice none 0 0):=ct.run (by simp)
  obtain ⟨r,H1,hg,rfl⟩:=run
  exact hg.frzR rfl .nil H
 | some a =>
  have run:∃ r H1,au Tryz.prog σ bY [.lit (.slice (some a) 0 c)] Hp.empty r H1∧Fz H1 r (.imm 2 []):=by
   refine ct.run ?_
   simp [cj,dy,eA,jk,mj,j8,oZ]
   exact .sl (cs:=[]) (ex:=true) (fun _ _=>.any) (by simp) rfl (by simp) (by simp) (by simp)
  obtain ⟨r,H1,hg,hf⟩:=run
  exact hg.frzR rfl hf H
theorem Br {sz bytes:Nat} {z:List Value} {H:Hp} {rows:List (List AV)} (hr:rows≠[]) (h2:∀ row ∈ rows,row.length=sz) (hone:rows.flatten.all AV.one=true) (hb:rows.length*bytes≤140737488355328) (hn:rows.length≤4611686018427387904)
  {K:AV × Hp→Prop} (h:K (.sl (H.n+1) 0 sz rows.length none,(H.new (.cells [] true)).new (.cells rows.flatten false))) :
  bnd (cj z sz 0 H []) fun p=>bnd (eA false sz bytes p.2 p.1 (.imm sz rows)) K:=by
 have h0:rows.length≠0:=by cases rows<;>simp at hr ⊢
 have e:oZ z 0=[]:=by simp [oZ]
 simp only [cj,dy,Nat.zero_mul,e,List.length_nil,mj,decide_true,cond_true,aa]
 simp only [eA,j8,cond_true,vY,hone,mj,h0,decide_false,cond_false,rp]
 simp [hb,hn,h0]
 exact h
theorem BV (l:List ByteArray) (hb:l.length*16≤140737488355328) (H:Hp):au Tryz.prog σ bJ [cG l] H (cG l) H:=by
 cases l with
 | nil=>exact zn H
 | cons s l =>
  have run:∃ r H1,au Tryz.prog σ bJ [cG (s::l)] Hp.empty r H1∧Fz H1 r (cG (s::l)):=by
   refine cX.run ?_
   simp only [cG,List.map_cons,Pm,aa,ai,Bool.false_eq_true,if_false]
   refine Br (rows:=[Sx s]::l.map fun s=>[Sx s]) (K:=fun q=>Fz q.2 q.1 (.imm 1 ([Sx s]::l.map fun s=>[Sx s]))) (by simp) (fun row hrow=>?_) ?_ (by simpa using hb) (by simp at hb ⊢; omega) ?_
   ·rw [← List.map_cons (f:=fun s=>[Sx s])] at hrow
    obtain ⟨x,_,rfl⟩:=List.mem_map.1 hrow; rfl
   ·rw [← List.map_cons (f:=fun s=>[Sx s]),List.all_eq_true]
    intro x hx
    obtain ⟨row,hrow,hx⟩:=List.mem_flatten.1 hx
    obtain ⟨x,_,rfl⟩:=List.mem_map.1 hrow
    simp at hx; subst hx; rfl
   ·refine Fz.rows (cs:=([Sx s]::l.map fun s=>[Sx s]).flatten) (ex:=false) (by simp) (fun row hrow=>?_) ?_ ?_
    ·rw [← List.map_cons (f:=fun s=>[Sx s])] at hrow
     obtain ⟨x,_,rfl⟩:=List.mem_map.1 hrow; rfl
    ·rw [List.drop_zero]
     refine List.take_of_length_le ?_
     rw [c4 (sz:=1)]
     ·simp
     ·intro row hrow
      rw [← List.map_cons (f:=fun s=>[Sx s])] at hrow
      obtain ⟨x,_,rfl⟩:=List.mem_map.1 hrow; rfl
    ·rw [← List.map_cons (f:=fun s=>[Sx s])]; exact bC _ (fun _=>rfl) _
  obtain ⟨r,H1,hg,hf⟩:=run
  exact hg.frzR (by simp [aK]) hf H
def jP (p:ByteArray × ByteArray):ByteArray × ByteArray:=(pM p.1,p.2)
def bv (n:Nd):Nd:={ n with tag:=pM n.tag,attrs:=n.attrs.map jP }
structure lX (n:Nd):Prop where
 parent:i64 n.parent
 tag:n.tag.data.size≤reachBytes
 classes:n.classes.length*16≤reachBytes
 attrs:n.attrs.length*32≤reachBytes
 names:∀ p ∈ n.attrs,p.1.data.size≤reachBytes
theorem eJ:reachBytes=140737488351232:=rfl
@[simp] theorem Tk (H:Hp) (id off:Nat) (l:List ByteArray):stA 1 H (.ptr id off) (cG l)=stO 1 off [cG l] H id (H.get id):=j4 1 H id off _ rfl rfl
theorem iN {rows:List (ByteArray × ByteArray)}:∀ row ∈ rows.map cF,row.length=2:=by
 intro row hrow
 obtain ⟨x,_,rfl⟩:=List.mem_map.1 hrow; rfl
theorem By {rows:List (ByteArray × ByteArray)}:(rows.map cF).flatten.all AV.one=true:=by
 rw [List.all_eq_true]
 intro x hx
 obtain ⟨row,hrow,hx⟩:=List.mem_flatten.1 hx
 obtain ⟨x,_,rfl⟩:=List.mem_map.1 hrow
 simp [cF] at hx
 rcases hx with rfl | rfl<;>rfl
theorem vt (n:Nd) (hn:lX n) {H:Hp} {K:AV→Hp→Prop}
  (h0:n.attrs=[]→∀ H',H'.n ≥ H.n→(∀ j,j<H.n→H'.get j=H.get j)→K (.agg (aY n)) H')
  (h1:n.attrs≠[]→∀ H' id,H'.n ≥ H.n→(∀ j,j<H.n→H'.get j=H.get j)→H.n≤id→id<H'.n→H'.get id=some (.cells (n.attrs.map cF).flatten false) →
   K (.agg [I n.parent,Sx n.tag,Sx n.id,cG n.classes,.sl id 0 2 n.attrs.length none]) H') :
  av Tryz.prog σ iU [.agg (aY n)] H K:=by
 have hc:=hn.classes
 have ha:=hn.attrs
 rw [eJ] at hc ha
 have nlt:∀ {j:Nat},j<H.n→j≠H.n∧j≠H.n+1∧j≠H.n+2∧j≠H.n+3:=fun h=>by omega
 refine pr.run ?_
 simp [aY]
 refine ak (BV _ (by omega) _) ?_
 simp
 by_cases he:n.attrs=[]
 ·rw [he]
  refine ak (B1 _) ?_
  have e:aY n=[I n.parent,Sx n.tag,Sx n.id,cG n.classes,.imm 2 []]:=by simp [aY,he]
  rw [e] at h0
  simp [dg]
  exact h0 he _ (by simp; omega) (fun j hj=>by have:=nlt hj; simp [this])
 ·obtain ⟨p,ps,hps⟩:=List.exists_cons_of_ne_nil he
  refine ct.run ?_
  rw [hps,List.map_cons]
  simp only [Pm,aa,ai,Bool.false_eq_true,if_false]
  rw [← List.map_cons,← hps]
  refine Br (rows:=n.attrs.map cF) (by simpa using he) iN By (by simpa using Nat.le_trans ha (by omega)) (by simp; omega) ?_
  have q1:¬ (H.n=H.n+1+1+1):=by omega
  have q2:¬ (H.n=H.n+1+1):=by omega
  have q3:¬ (H.n+1=H.n+1+1+1):=by omega
  simp [dg,q1,q2,q3]
  refine h1 he _ _ ?_ (fun j hj=>?_) ?_ ?_ ?_
  ·simp; omega
  ·have:=nlt hj
   have q4:j≠H.n+1+1:=by omega
   have q5:j≠H.n+1+1+1:=by omega
   simp [this,q4,q5]
  ·omega
  ·simp
  ·have q6:¬ (H.n+1+1=H.n):=by omega
   have q7:¬ (H.n+1+1+1=H.n):=by omega
   have q8:¬ (H.n+1+1+1=H.n+1):=by omega
   have q9:¬ (H.n+1+1=H.n+1):=by omega
   simp [q6,q7,q8,q9]
theorem KA {l l0:List (ByteArray × ByteArray)} {k:Nat} (hk:k<l0.length) (hl:l.length=l0.length) (h1:l.take k=(l0.take k).map jP) (h2:l.drop k=l0.drop k) :
  ∃ hk':k<l.length,l[k]=l0[k]∧(l.set k (jP l0[k])).take (k+1)=(l0.take (k+1)).map jP∧(l.set k (jP l0[k])).drop (k+1)=l0.drop (k+1):=by
 have hk':k<l.length:=by omega
 rw [List.drop_eq_getElem_cons hk',List.drop_eq_getElem_cons hk] at h2
 have h3:=List.cons.inj h2
 refine ⟨hk',h3.1,?_,?_⟩
 ·rw [List.take_succ_eq_append_getElem (by simpa using hk'),List.take_succ_eq_append_getElem hk,List.map_append,← h1,List.take_set_of_le (by omega)]
  simp
 ·rw [List.drop_set_of_lt (by omega)]; exact h3.2
theorem Nr (n:Nd) (hn:lX n) {K:AV→Hp→Prop} {id b1 b2:Nat} {par tg idd cl:AV} (h12:b1≠b2) (hi1:id≠b1) (hi2:id≠b2) (ho:[par,tg,idd,cl].all AV.one=true):∀ (d k:Nat) (l:List (ByteArray × ByteArray)) (H:Hp),H.get b1=some (.cells [par,tg,idd,cl,.sl id 0 2 n.attrs.length none] true)→(∃ cs,H.get b2=some (.cells cs true)∧cs.length=5) →
  H.get id=some (.cells (l.map cF).flatten false)→l.length=n.attrs.length→n.attrs.length - k=d→k≤n.attrs.length→l.take k=(n.attrs.take k).map jP→l.drop k=n.attrs.drop k →
  (∀ H',H'.get id=some (.cells ((n.attrs.map jP).map cF).flatten false)→K (.agg [par,tg,idd,cl,.sl id 0 2 n.attrs.length none]) H') →
  c_.L0 σ K (.ptr b1 0) (.ptr b2 0) (I n.attrs.length) (I k) H:=by
 have ha:=hn.attrs
 rw [eJ] at ha
 intro d
 induction d with
 | zero =>
  intro k l H g1 g2 gi hl hd hk h1 h2 hK
  obtain ⟨cs,g2,hcs⟩:=g2
  have e:k=n.attrs.length:=by omega
  subst e
  have el:l=n.attrs.map jP:=by
   rw [← hl,List.take_length,hl,List.take_length] at h1
   exact h1
  refine c_.L0_step ?_
  simp [g1,g2,dg,hcs]
  simp at ho
  simp [ho,bj,hcs,dg]
  refine hK _ ?_
  simp [hi2,gi,el]
 | succ d ih =>
  intro k l H g1 g2 gi hl hd hk h1 h2 hK
  have hlt:k<n.attrs.length:=by omega
  obtain ⟨hlt',hlk,h3,h4⟩:=KA hlt hl h1 h2
  have hsz:(n.attrs[k]).1.data.size<9000000000000000000:=by
   have:=hn.names _ (List.getElem_mem hlt)
   rw [eJ] at this
   omega
  have hdrop:((l.map cF).flatten).drop (k*2)=cF n.attrs[k]++((l.map cF).drop (k+1)).flatten:=by
   rw [kE iN (by simpa using hlt'),List.getElem_map,hlk]
  refine c_.L0_step ?_
  simp [g1,hlt,nW,gi,hdrop,cF]
  refine ak (tB _ hsz _) ?_
  have hlen:k*2+1≤((l.map cF).flatten).length:=by
   rw [c4 iN,List.length_map]; omega
  simp [g1,gi]
  rw [if_pos (by simpa using hlen),aa,bq (by omega)]
  refine ih (k+1) (l.set k (jP n.attrs[k])) _ (by simp [Ne.symm hi1,g1]) ?_ ?_ (by simpa using hl) (by omega) (by omega) h3 h4 hK
  ·obtain ⟨cs,g2,hcs⟩:=g2
   exact ⟨cs,by simp [Ne.symm hi2,g2],hcs⟩
  ·simp
   have:=i6 (sz:=2) (xs:=[Sx (pM n.attrs[k].1)]) (k:=0) (by simp) (rows:=l.map cF) (w:=k) iN (by simpa using hlt')
   rw [Nat.add_zero] at this
   rw [this]
   congr 3
   simp [cF,jP,hlk]
theorem N6 (n:Nd) (hn:lX n) (H:Hp):au Tryz.prog σ iq [.agg (aY n)] H (.agg (aY (bv n))) H:=by
 have ht:n.tag.data.size<9000000000000000000:=by
  have:=hn.tag
  rw [eJ] at this; omega
 obtain ⟨Q,hQ⟩:∃ Q:AV→Hp→Prop,∀ r H1,Q r H1 ↔ Fz H1 r (.agg (aY (bv n))):=⟨_,fun _ _=>Iff.rfl⟩
 have run:∃ r H1,au Tryz.prog σ iq [.agg (aY n)] Hp.empty r H1∧Q r H1:=by
  refine c_.run ?_
  simp
  refine vt n hn (fun he H' hn' hs=>?_) (fun he H' id hn' hs hid hid' hg=>?_)
  ·have e0:H'.get Hp.empty.n=some (.cells (aY n) true):=by rw [hs _ (by simp; omega)]; simp
   have e1:H'.get (Hp.empty.n+1)=some (.cells [I 0,Sx ⟨#[]⟩,Sx ⟨#[]⟩,.lit (.slice none 0 0),.lit (.slice none 0 0)] true):=by rw [hs _ (by simp)]; simp
   generalize Hp.empty.n=z at e0 e1 ⊢
   simp [e0,e1,aY,he,bj]
   refine ak (tB _ ht _) ?_
   simp [e0,e1,bj]
   refine c_.L0_step ?_
   simp [e0,e1,dg,bj]
   rw [hQ]
   have e2:aY (bv n)=[I n.parent,Sx (pM n.tag),Sx n.id,cG n.classes,.imm 2 []]:=by simp [bv,aY,he]
   rw [e2]
   exact .refl (by simp [aK,bt,eU])
  ·have e0:H'.get Hp.empty.n=some (.cells (aY n) true):=by rw [hs _ (by simp; omega)]; simp
   have e1:H'.get (Hp.empty.n+1)=some (.cells [I 0,Sx ⟨#[]⟩,Sx ⟨#[]⟩,.lit (.slice none 0 0),.lit (.slice none 0 0)] true):=by rw [hs _ (by simp)]; simp
   have hid:Hp.empty.n+2≤id:=by simpa using hid
   generalize Hp.empty.n=z at e0 e1 hid ⊢
   have d1:id≠z:=by omega
   have d2:id≠z+1:=by omega
   simp [e0,e1,aY,bj]
   refine ak (tB _ ht _) ?_
   simp [e0,e1,bj]
   refine Nr n hn (id:=id) (by omega) d1 d2 ?_ _ 0 n.attrs _ (by rw [ay,if_pos rfl]) ⟨_,by simp [e1]; rfl,rfl⟩ (by simp [d1,hg]) rfl rfl (Nat.zero_le _) (by simp) rfl fun H2 h2=>?_
   ·simp
   rw [hQ]
   refine .aggL (.cons (.refl rfl) (.cons (.refl rfl) (.cons (.refl rfl) (.cons (.refl (mz _)) (.cons ?_ .nil)))))
   have:=Fz.rows (cap:=none) h2 (rows:=(n.attrs.map jP).map cF) (off:=0) iN (by rw [List.drop_zero]; exact List.take_of_length_le (by rw [c4 iN]; exact Nat.le_refl _)) (bC _ (fun _=>rfl) _)
   simpa [bv] using this
 obtain ⟨r,H1,hg,hf⟩:=run
 rw [hQ] at hf
 exact hg.frzR (by simp [aK,bt,iR]) hf H
end Go.Proofs.YthdcghnjndhecaaGreat.Ev
namespace Go.Proofs.YthdcghnjndhecaaGreat.Ev
set_option linter.unusedVariables false
set_option linter.unusedSimpArgs false
variable {σ:Sig}
theorem pi {α β:Type} {f:α→β} {l:List α} {k:Nat} (h:k<l.length):(l.take (k+1)).map f=(l.take k).map f++[f l[k]]:=by
 rw [List.take_succ_eq_append_getElem h,List.map_append]; rfl
theorem LJ (n:Nd) (hn:lX n) {K:AV→Hp→Prop} {b1 b2:Nat} {par tg idd cl:AV} {cr:List (List AV)} (h12:b1≠b2) (ho:[par,tg,idd].all AV.one=true) (ho1:AV.one cl=true):∀ (d k:Nat) (y:AV) (H:Hp),b1<H.n→b2<H.n→H.get b1=some (.cells [par,tg,idd,cl,.imm 2 (n.attrs.map cF)] true)→(∃ cs,H.get b2=some (.cells cs true)∧cs.length=5) →
  Gs 1 H cl cr→Gs 2 H y ((n.attrs.take k).map fun p=>cF (jP p))→¬ own cl b1→¬ own cl b2→¬ own y b1→¬ own y b2→(∀ j,own cl j→¬ own y j)→n.attrs.length - k=d→k≤n.attrs.length →
  (∀ y' H',Gs 1 H' cl cr→Gs 2 H' y' (n.attrs.map fun p=>cF (jP p))→K (.agg [par,tg,idd,cl,y']) H') →
  c5.L0 σ K (.ptr b1 0) (.ptr b2 0) y (I k) H:=by
 have ha:=hn.attrs
 rw [eJ] at ha
 intro d
 induction d with
 | zero =>
  intro k y H l1 l2 g1 g2 gc gy c1 c2 y1 y2 hd' hd hk hK
  obtain ⟨cs,g2,hcs⟩:=g2
  have e:k=n.attrs.length:=by omega
  subst e
  rw [List.take_length] at gy
  refine c5.L0_step ?_
  simp at ho
  have o5:=gy.one
  simp [g1,gy.st (id:=b1) (off:=4) g1 (by simp),dg,g2,hcs,Ne.symm h12,ho,ho1,o5,bj]
  refine hK _ _ (gc.keep (fun j hj=>?_) (by simp)) (gy.keep (fun j hj=>?_) (by simp))
  ·have:j≠b1:=fun e=>c1 (e ▸ hj)
   have:j≠b2:=fun e=>c2 (e ▸ hj)
   simp [*]
  ·have:j≠b1:=fun e=>y1 (e ▸ hj)
   have:j≠b2:=fun e=>y2 (e ▸ hj)
   simp [*]
 | succ d ih =>
  intro k y H l1 l2 g1 g2 gc gy c1 c2 y1 y2 hd' hd hk hK
  have hlt:k<n.attrs.length:=by omega
  have hget:n.attrs[k]?=some n.attrs[k]:=List.getElem?_eq_getElem hlt
  have hsz:(n.attrs[k]).1.data.size<9000000000000000000:=by
   have:=hn.names _ (List.getElem_mem hlt)
   rw [eJ] at this
   omega
  refine c5.L0_step ?_
  simp [g1,hlt,bm hget,cF]
  refine ak (uP _ hsz _) ?_
  simp [g1,bm hget,cF,dy,mj,rp]
  refine fY gy rfl rfl rfl (by simp; omega) (by simp; omega) fun y' H' gy' f=>?_
  have n1:∀ {j:Nat},j<H.n→¬ own y j→¬ own y' j:=fun hj hy h=>by
   rcases f.mine _ h with h | h
   ·exact hy h
   ·omega
  rw [bq (by omega)]
  refine ih (k+1) y' H' (Nat.lt_of_lt_of_le l1 f.grow) (Nat.lt_of_lt_of_le l2 f.grow) (by rw [f.same _ l1 y1]; exact g1) ?_ (gc.keep (fun j hj=>f.same j (gc.lt hj) (hd' j hj)) f.grow) ?_ c1 c2 (n1 l1 y1) (n1 l2 y2) (fun j hj=>n1 (gc.lt hj) (hd' j hj)) (by omega) (by omega) hK
  ·obtain ⟨cs,g2,hcs⟩:=g2
   exact ⟨cs,by rw [f.same _ l2 y2]; exact g2,hcs⟩
  ·rw [pi hlt]
   exact gy'
theorem M5 (n:Nd) (hn:lX n) (H:Hp):au Tryz.prog σ gF [.agg (aY n)] H (.agg (aY (bv n))) H:=by
 have ht:n.tag.data.size<9000000000000000000:=by
  have:=hn.tag
  rw [eJ] at this; omega
 have hc:=hn.classes
 rw [eJ] at hc
 obtain ⟨Q,hQ⟩:∃ Q:AV→Hp→Prop,∀ r H1,Q r H1 ↔ Fz H1 r (.agg (aY (bv n))):=⟨_,fun _ _=>Iff.rfl⟩
 have run:∃ r H1,au Tryz.prog σ gF [.agg (aY n)] Hp.empty r H1∧Q r H1:=by
  refine c5.run ?_
  simp [aY]
  refine ak (uP _ ht _) ?_
  simp
  refine v7 (rows2:=n.classes.map fun s=>[Sx s]) .nil rfl vY (fun row hrow=>?_) ?_ (by simp; omega) (by simp; omega) fun cl H2 gc f=>?_
  ·obtain ⟨x,_,rfl⟩:=List.mem_map.1 hrow; rfl
  ·rw [List.all_eq_true]
   intro x hx
   obtain ⟨row,hrow,hx⟩:=List.mem_flatten.1 hx
   obtain ⟨x,_,rfl⟩:=List.mem_map.1 hrow
   simp at hx; subst hx; rfl
  ·have f0:=f.same Hp.empty.n (by simp; omega) (fun h=>h)
   have f1:=f.same (Hp.empty.n+1) (by simp) (fun h=>h)
   have fm:=f.mine
   have fg:=f.grow
   simp at f0 f1 fg
   have c1:¬ own cl Hp.empty.n:=fun h=>by
    rcases fm _ h with h | h
    ·exact h
    ·have h:=h.1; simp at h; omega
   have c2:¬ own cl (Hp.empty.n+1):=fun h=>by
    rcases fm _ h with h | h
    ·exact h
    ·have h:=h.1; simp at h; omega
   clear fm f
   generalize Hp.empty.n=z at f0 f1 fg c1 c2 ⊢
   simp at gc
   simp [f0,gc.st (id:=z) (off:=3) f0 (by simp)]
   refine LJ n hn (by omega) ?_ gc.one _ 0 _ _ (by simp; omega) (by simp; omega) (by rw [ay,if_pos rfl]) ⟨_,by simp [f1]; rfl,rfl⟩ (gc.keep (fun j hj=>?_) (by simp)) .nil c1 c2 (fun h=>h) (fun h=>h) (fun j _ h=>h) rfl (Nat.zero_le _) fun y' H' g1 g2=>?_
   ·simp
   ·have:j≠z:=fun e=>c1 (e ▸ hj)
    simp [this]
   ·rw [hQ]
    refine .aggL (.cons (.refl rfl) (.cons (.refl rfl) (.cons (.refl rfl) (.cons ?_ (.cons ?_ .nil)))))
    ·exact g1.fz (bC _ (fun _=>rfl) _)
    ·have:=g2.fz (bC _ (fun _=>rfl) _)
     rw [show (bv n).attrs.map cF=n.attrs.map fun p=>cF (jP p) by simp [bv,Function.comp_def]]
     exact this
 obtain ⟨r,H1,hg,hf⟩:=run
 rw [hQ] at hf
 exact hg.frzR (by simp [aK,bt,iR]) hf H
end Go.Proofs.YthdcghnjndhecaaGreat.Ev
namespace Go.Proofs.YthdcghnjndhecaaGreat.Ev
set_option linter.unusedVariables false
set_option linter.unusedSimpArgs false
variable {σ:Sig}
theorem rD {z:List Value} {sz bytes:Nat} {H:Hp} {x y:AV} {rows:List (List AV)} {C:AV × Hp→Prop} (hC:C (.sl H.n 0 sz 1 (some 1),H.new (.cells y.cells true))) (hx:Gs sz H x rows) (hl:y.cells.length=sz) (ha:y.isAny=false) (hone:y.cells.all AV.one=true)
  (hb:(rows.length+1)*bytes≤140737488355328) (hn:rows.length+1≤4611686018427387904) {K:AV × Hp→Prop} (h:∀ x' H',Gs sz H' x' (rows++[y.cells])→Fr H x H' x'→K (x',H')) :
  bnd (cj z sz 1 H [(0,sz,y)]) fun p=>C p∧bnd (eA false sz bytes p.2 x p.1) K:=by
 have:=fY (z:=z) hx hl ha hone hb hn h
 rw [wI hl ha,aa] at this ⊢
 exact ⟨hC,this⟩
structure oJ (L:List Nd) (d:List Nat) (H:Hp) (t m:Nat) (sl:AV) (ch:List AV):Prop where
 tlt:t<H.n
 tg:H.get t=some (.cells [sl] true)
 len:ch.length=m
 rows:Gs 9 H sl (eO L d ch bv)
 kid:∀ (i:Nat) (c:AV),ch[i]?=some c→Gs 1 H c ((fe L m i).map fun j:Nat=>[I j])
 nt:¬ own sl t
 nk:∀ (i:Nat) (c:AV),ch[i]?=some c→¬ own c t
 ns:∀ (i:Nat) (c:AV),ch[i]?=some c→∀ j,own c j→¬ own sl j
 nd:∀ (i i':Nat) (c c':AV),i≠i'→ch[i]?=some c→ch[i']?=some c'→∀ j,own c j→¬ own c' j
theorem O6 {L:List Nd} {d:List Nat} {N:Nat} (hB:cQ L N d) {m:Nat} (hm:m<N) (hN:N≤4096) {H:Hp} {t x7:Nat} {sl:AV} {ch:List AV} {y6 y7:AV}
  (tlt:t<H.n) (tg:H.get t=some (.cells [sl] true)) (len:ch.length=m) (rows:Gs 9 H sl (eO L d ch bv)) (kid:∀ (i:Nat) (c:AV),ch[i]?=some c→Gs 1 H c ((fe L (m+1) i).map fun j:Nat=>[I j]))
  (nt:¬ own sl t) (nk:∀ (i:Nat) (c:AV),ch[i]?=some c→¬ own c t) (ns:∀ (i:Nat) (c:AV),ch[i]?=some c→∀ j,own c j→¬ own sl j)
  (nd:∀ (i i':Nat) (c c':AV),i≠i'→ch[i]?=some c→ch[i']?=some c'→∀ j,own c j→¬ own c' j)
  (hx7:H.get x7=some (.cells (jj L d m (.lit (.slice none 0 0)) bv) true)) {K:AV→Hp→Prop} (h:∀ H' sl' ch',oJ L d H' t (m+1) sl' ch'→K (I 0) H'):bf.J1 σ K (.ptr t 0) (.ptr x7 0) y6 y7 H:=by
 refine bf.J1_step ?_
 simp [tg,hx7]
 simp only [dg (It L d m (.lit (.slice none 0 0)) bv),aa]
 have ht':t≠H.n:=by omega
 refine rD (y:=.agg (jj L d m (.lit (.slice none 0 0)) bv)) (bytes:=136) (by simp [ht',tg]) rows rfl rfl (by simp [jj,aY]) (by rw [gd]; omega) (by rw [gd]; omega) fun sl' H' g f=>?_
 have e1:H'.get t=some (.cells [sl] true):=by rw [f.same t tlt nt]; exact tg
 have sown:∀ j,own sl' j→own sl j∨(H.n≤j∧j<H'.n):=f.mine
 have nt':¬ own sl' t:=fun h=>by
  rcases sown t h with h | h
  ·exact nt h
  ·omega
 have kl:∀ (i:Nat) (c:AV),ch[i]?=some c→∀ j,own c j→j<H.n:=fun i c hc j hj=>(kid i c hc).lt hj
 simp [g.st (id:=t) (off:=0) e1 (by simp)]
 have cnew:∀ {i:Nat} {c:AV},(ch++[AV.lit (.slice none 0 0)])[i]?=some c→ch[i]?=some c∨(i=m∧c=.lit (.slice none 0 0)):=by
  intro i c hc
  by_cases hi:i<ch.length
  ·rw [List.getElem?_append_left hi] at hc; exact .inl hc
  ·rw [List.getElem?_append_right (by omega)] at hc
   have hl:=(List.getElem?_eq_some_iff.1 hc).1
   simp at hl
   have:i=m:=by omega
   subst this
   simp [len] at hc
   exact .inr ⟨rfl,hc.symm⟩
 refine h _ sl' (ch++[.lit (.slice none 0 0)]) ⟨?_,?_,?_,?_,?_,nt',?_,?_,?_⟩
 ·simp; have:=f.grow; omega
 ·simp
 ·simp [len]
 ·rw [Co,len]
  refine g.keep (fun j hj=>?_) (by simp)
  have:j≠t:=fun e=>nt' (e ▸ hj)
  simp [this]
 ·intro i c hc
  rcases cnew hc with hc | ⟨rfl,rfl⟩
  ·refine (kid i c hc).keep (fun j hj=>?_) (by simp; exact f.grow)
   have:j≠t:=fun e=>nk i c hc (e ▸ hj)
   simp [this]
   exact f.same j (kl i c hc j hj) (ns i c hc j hj)
  ·rw [AT hB (by omega) (Nat.le_refl _)]
   exact .nil
 ·intro i c hc
  rcases cnew hc with hc | ⟨rfl,rfl⟩
  ·exact nk i c hc
  ·exact fun h=>h
 ·intro i c hc j hj h
  rcases cnew hc with hc | ⟨rfl,rfl⟩
  ·rcases sown j h with h | h
   ·exact ns i c hc j hj h
   ·have:=kl i c hc j hj; omega
  ·exact hj
 ·intro i i' c c' hne hc hc' j hj hj'
  rcases cnew hc with hc | ⟨rfl,rfl⟩
  ·rcases cnew hc' with hc' | ⟨rfl,rfl⟩
   ·exact nd i i' c c' hne hc hc' j hj hj'
   ·exact hj'
  ·exact hj
theorem Pg {L:List Nd} {d:List Nat} {N:Nat} (hB:cQ L N d) {m p:Nat} (hm:m<N) (hN:N≤4096) (hm0:0<m) (hp:par L m=p) (hpm:p<m) {H:Hp} {t x7 id:Nat} {ch:List AV}
  (hT:oJ L d H t m (.sl id 0 9 m none) ch) (hx7:H.get x7=some (.cells (jj L d m (.lit (.slice none 0 0)) bv) true)) (hn7:x7<H.n) (h7t:x7≠t) (h7s:x7≠id) (h7c:∀ (i:Nat) (c:AV),ch[i]?=some c→¬ own c x7)
  {K:AV→Hp→Prop} (h:∀ H' sl' ch',oJ L d H' t (m+1) sl' ch'→K (I 0) H'):bf.J0 σ K (.ptr t 0) (.ptr x7 0) (I m) (.ptr id (p*9)) H:=by
 have hl:=hT.len
 obtain ⟨c,hc⟩:=bp (l:=ch) (k:=p) (by omega)
 have hg:∃ ex,H.get id=some (.cells (eO L d ch bv).flatten ex)∧id<H.n:=by
  have:=hT.rows
  have hlen:=gd L d ch bv
  generalize eO L d ch bv=rr at this hlen
  cases this with
  | sl hlt hg hsz=>exact ⟨_,hg,hlt⟩
 obtain ⟨ex,hg,hidn⟩:=hg
 obtain ⟨r5,h5⟩:=oL (L:=L) (d:=d) (low:=bv) hc 5 (by omega)
 have hgc:=hT.kid p c hc
 have hlast:fe L (m+1) p=fe L m p++[m]:=by rw [iM,if_pos ⟨hm0,hp⟩]
 have hkl:(fe L m p).length≤m:=by
  have:=List.length_filter_le (fun j:Nat=>decide (0<j)&&decide (par L j=(p:Int))) (List.range m)
  simp at this
  unfold fe
  omega
 refine bf.J0_step ?_
 simp [hg,h5,jj,aY]
 refine fY hgc rfl rfl rfl (by simp; omega) (by simp; omega) fun c' H' g f=>?_
 have cid:¬ own c id:=fun h=>(hT.ns p c hc id h) rfl
 have e1:H'.get id=some (.cells (eO L d ch bv).flatten ex):=by rw [f.same id hidn cid]; exact hg
 have hlen:p*9+5<(eO L d ch bv).flatten.length:=by
  rw [c4 qH,gd]; omega
 simp [g.st (id:=id) (off:=p*9+5) e1 hlen]
 have hput:=Ci (L:=L) (d:=d) (low:=bv) (c':=c') hc
 rw [pU hlen] at hput
 rw [hput]
 have kl:∀ (i:Nat) (c:AV),ch[i]?=some c→∀ j,own c j→j<H.n:=fun i c hc j hj=>(hT.kid i c hc).lt hj
 have cown:∀ j,own c' j→own c j∨(H.n≤j∧j<H'.n):=f.mine
 have cset:∀ {i:Nat} {x:AV},(ch.set p c')[i]?=some x→(i≠p∧ch[i]?=some x)∨(i=p∧x=c'):=by
  intro i x hx
  rw [List.getElem?_set] at hx
  split at hx
  ·rename_i he
   split at hx
   ·cases hx; exact .inr ⟨he.symm,rfl⟩
   ·cases hx
  ·rename_i he; exact .inl ⟨fun e=>he e.symm,hx⟩
 have cid':¬ own c' id:=fun h=>by
  rcases cown id h with h | h
  ·exact cid h
  ·omega
 have ct':¬ own c' t:=fun h=>by
  rcases cown t h with h | h
  ·exact hT.nk p c hc h
  ·have:=hT.tlt; omega
 have idt:id≠t:=fun e=>hT.nt e
 refine O6 hB hm hN (sl:=.sl id 0 9 m none) (ch:=ch.set p c') ?_ ?_ (by simpa using hl) ?_ ?_ hT.nt ?_ ?_ ?_ ?_ h
 ·simp; have:=f.grow; have:=hT.tlt; omega
 ·simp [Ne.symm idt]
  rw [f.same t hT.tlt (hT.nk p c hc)]; exact hT.tg
 ·have:m=(eO L d (ch.set p c') bv).length:=by rw [gd]; simpa using hl.symm
  conv=>arg 3; rw [this]
  exact .sl (ex:=ex) (by simp; have:=f.grow; omega) (by simp) qH
 ·intro i x hx
  rcases cset hx with ⟨hne,hx⟩ | ⟨rfl,rfl⟩
  ·rw [iM,if_neg (fun h=>hne (by have:=h.2; rw [hp] at this; omega)),List.append_nil]
   refine (hT.kid i x hx).keep (fun j hj=>?_) (by simp; exact f.grow)
   have:j≠id:=fun e=>hT.ns i x hx j hj e.symm
   simp [this]
   exact f.same j (kl i x hx j hj) (hT.nd i p x c hne hx hc j hj)
  ·rw [hlast,List.map_append]
   refine Gs.keep (H:=H') g (fun j hj=>?_) (by simp)
   have:j≠id:=fun e=>cid' (e ▸ hj)
   simp [this]
 ·intro i x hx
  rcases cset hx with ⟨hne,hx⟩ | ⟨rfl,rfl⟩
  ·exact hT.nk i x hx
  ·exact ct'
 ·intro i x hx j hj h
  rcases cset hx with ⟨hne,hx⟩ | ⟨rfl,rfl⟩
  ·exact hT.ns i x hx j hj h
  ·exact cid' (by have h:id=j:=h; rw [h]; exact hj)
 ·intro i i' x x' hne hx hx' j hj hj'
  rcases cset hx with ⟨h1,hx⟩ | ⟨rfl,rfl⟩
  ·rcases cset hx' with ⟨h2,hx'⟩ | ⟨rfl,rfl⟩
   ·exact hT.nd i i' x x' hne hx hx' j hj hj'
   ·rename_i h3
    rcases cown j hj' with h | h
    ·exact hT.nd i i' x c hne h3 hc j hj h
    ·have:=kl i x h3 j hj; omega
  ·rcases cset hx' with ⟨h2,hx'⟩ | ⟨h3,rfl⟩
   ·rcases cown j hj with h | h
    ·exact hT.nd i i' c x' hne hc hx' j h hj'
    ·have:=kl i' x' hx' j hj'; omega
   ·exact hne h3.symm
 ·simp [h7s]
  rw [f.same x7 hn7 (h7c p c hc)]; exact hx7
theorem oJ.new {L:List Nd} {d:List Nat} {H:Hp} {t m:Nat} {sl:AV} {ch:List AV} (h:oJ L d H t m sl ch) {H':Hp} (hs:∀ j,j<H.n→H'.get j=H.get j) (hn:H.n≤H'.n):oJ L d H' t m sl ch :=
 ⟨Nat.lt_of_lt_of_le h.tlt hn,by rw [hs t h.tlt]; exact h.tg,h.len,h.rows.keep (fun j hj=>hs j (h.rows.lt hj)) hn,fun i c hc=>(h.kid i c hc).keep (fun j hj=>hs j ((h.kid i c hc).lt hj)) hn,h.nt,h.nk,h.ns,h.nd⟩
theorem B5 {L:List Nd} {m p:Nat} (hp:par L m=p) {j:Nat} {l:List Nat} (e:fe L m p=l++[j]):dA L m=j∧dq L m=(l.length:Int)+1+1:=by
 rw [qN hp] at e
 unfold dA dq qu
 rw [e]
 simp
theorem Po {L : List Nd} {d : List Nat} {N : Nat} (hB : cQ L N d) (hW : ∀ n ∈ L, lX n) {m : Nat} (hm : m < N) (hN : N ≤ 4096) {H : Hp} {t : Nat} {sl : AV} {ch : List AV} (hT : oJ L d H t m sl ch)
    {K:AV→Hp→Prop} (h:∀ H' sl' ch',oJ L d H' t (m+1) sl' ch'→K (I 0) H'):av Tryz.prog σ jb [.ptr t 0,.agg (aY (bV L m))] H K:=by
  have hmL:m<L.length:=Nat.lt_of_lt_of_le hm hB.le
  have hnd:bV L m ∈ L:=by
    unfold bV
    rw [List.getD_eq_getElem?_getD,List.getElem?_eq_getElem hmL]
    exact List.getElem_mem hmL
  have hlow:=N6 (σ:=σ) _ (hW _ hnd)
  have htn:=hT.tlt
  have t1:t≠H.n:=by omega
  have t2:t≠H.n+1:=by omega
  have hlen:=hT.rows.len
  rw [gd,hT.len] at hlen
  refine bf.run ?_
  simp
  refine ak (hlow _) ?_
  have eb:∀ c:AV,dy [I 0,Sx ⟨#[]⟩,Sx ⟨#[]⟩,.lit (.slice none 0 0),.lit (.slice none 0 0),.lit (.slice none 0 0),I 0,I 0,I 0] [(0,5,.agg (aY (bv (bV L m)))),(7,1,I 1),(8,1,I (-1))]=some (aY (bv (bV L m))++[.lit (.slice none 0 0),I 0,I 1,I (-1)]):=by
    intro c
    simp [dy,mj,rp,aY,bO]
  rw [eb .any]
  have hnew:∀ (a b:Blk),oJ L d ((H.new a).new b) t m sl ch:=fun a b=>hT.new (fun j hj=>by
    have:j≠H.n:=by omega
    have:j≠H.n+1:=by omega
    simp [*]) (by simp; omega)
  by_cases h0:m=0
  · subst h0
    have hr:=hB.root (by omega)
    have hpar:(bV L 0).parent=-1:=hr.1
    simp [t1,t2,hT.tg,hlen,aY,hpar,bj]
    have hT2 := hT.new (H' := ((H.new (.cells [I (-1), Sx (bV L 0).tag, Sx (bV L 0).id, cG (bV L 0).classes, .imm 2 (List.map cF (bV L 0).attrs)] true)).new
          (.cells [I 0,Sx ⟨#[]⟩,Sx ⟨#[]⟩,.lit (.slice none 0 0),.lit (.slice none 0 0),.lit (.slice none 0 0),I 0,I 0,I 0] true)).set (H.n+1)
      (some (.cells (aY (bv (bV L 0))++[.lit (.slice none 0 0),I 0,I 1,I (-1)]) true))) (fun j hj=>by
        have a1:j≠H.n:=by omega
        have a2:j≠H.n+1:=by omega
        simp [a1,a2]) (by simp; omega)
    have hd0:d.getD 0 0=0:=by rw [List.getD_eq_getElem?_getD,hr.2]; rfl
    refine O6 hB hm hN hT2.tlt hT2.tg hT2.len hT2.rows (fun i c hc=>?_) hT2.nt hT2.nk hT2.ns hT2.nd ?_ h
    · rw [iM,if_neg (by omega),List.append_nil]; exact hT2.kid i c hc
    · unfold jj
      rw [hd0]
      simp [dq,qg,dA,qu]
  · obtain ⟨p,x,hp,hpm,hx,hdx,h256⟩:=hB.step m (by omega) hm
    have hpar:(bV L m).parent=p:=hp
    have hm0:¬ ((m:Int)=0):=by omega
    have hm1:(0:Int)<m:=by omega
    have hp1:¬ ((p:Int)<0):=by omega
    have hp2:¬ ((m:Int)≤p):=by omega
    have hmn:¬ (m=0):=h0
    have hmp:0<m:=by omega
    obtain ⟨id,ex,rfl,hg,hidn⟩:∃ id ex,sl=.sl id 0 9 m none∧H.get id=some (.cells (eO L d ch bv).flatten ex)∧id<H.n:=by
      have:=hT.rows
      have hl:=gd L d ch bv
      rw [hT.len] at hl
      generalize eO L d ch bv=rr at this hl
      cases this with
      | nil=>simp at hl; omega
      | sl hlt hg hsz=>exact ⟨_,_,by rw [hl],hg,hlt⟩
    obtain ⟨c,hc⟩:=bp (l:=ch) (k:=p) (by rw [hT.len]; exact hpm)
    obtain ⟨r5,h5⟩:=oL (L:=L) (d:=d) (low:=bv) hc 5 (by omega)
    obtain ⟨r6,h6⟩:=oL (L:=L) (d:=d) (low:=bv) hc 6 (by omega)
    have hdp:d.getD p 0=x:=by rw [List.getD_eq_getElem?_getD,hx]; rfl
    have hdm:d.getD m 0=x+1:=by rw [List.getD_eq_getElem?_getD,hdx]; rfl
    simp only [jj,hdp] at h5 h6
    have i1:id≠H.n:=by omega
    have i2:id≠H.n+1:=by omega
    have hpi:(p:Int)<m:=by omega
    have e256:¬ ((256:Int)<(x:Int)+1):=by omega
    simp [t1,t2,hT.tg,hlen,aY,hpar,bj,hm0,hm1,hp1,hp2,hmn,hmp,nW,hpi,i1,i2,hg,h5,h6]
    have ew:wr .i64 ((x:Int)+1)=((x+1:Nat):Int):=by rw [cM (by omega) (by omega)]; rfl
    have e256':¬ ((256:Int)<((x+1:Nat):Int)):=by omega
    rw [ew,if_neg e256']
    have hG : ∃ G : Hp, G = ((((H.new (.cells [I p, Sx (bV L m).tag, Sx (bV L m).id, cG (bV L m).classes, .imm 2 (List.map cF (bV L m).attrs)] true)).new
        (.cells [I 0,Sx ⟨#[]⟩,Sx ⟨#[]⟩,.lit (.slice none 0 0),.lit (.slice none 0 0),.lit (.slice none 0 0),I 0,I 0,I 0] true)).set (H.n+1)
        (some (.cells [I (bv (bV L m)).parent,Sx (bv (bV L m)).tag,Sx (bv (bV L m)).id,cG (bv (bV L m)).classes,.imm 2 (List.map cF (bv (bV L m)).attrs),.lit (.slice none 0 0),I 0,I 1,I (-1)] true))).set (H.n+1)
        (some (.cells [I (bv (bV L m)).parent,Sx (bv (bV L m)).tag,Sx (bv (bV L m)).id,cG (bv (bV L m)).classes,.imm 2 (List.map cF (bv (bV L m)).attrs),.lit (.slice none 0 0),I ((x+1:Nat):Int),I 1,I (-1)] true))):=⟨_,rfl⟩
    obtain ⟨G,eG⟩:=hG
    rw [← eG]
    have G1:∀ j,j<H.n→G.get j=H.get j:=fun j hj=>by
      have a1:j≠H.n:=by omega
      have a2:j≠H.n+1:=by omega
      rw [eG]; simp [a1,a2]
    have G2:G.get (H.n+1)=some (.cells [I (bv (bV L m)).parent,Sx (bv (bV L m)).tag,Sx (bv (bV L m)).id,cG (bv (bV L m)).classes,.imm 2 (List.map cF (bv (bV L m)).attrs),.lit (.slice none 0 0),I ((x+1:Nat):Int),I 1,I (-1)] true):=by rw [eG]; simp
    have G3:G.n=H.n+2:=by rw [eG]; rfl
    clear eG
    have hTG:=hT.new (H':=G) G1 (by omega)
    have hgG:G.get id=some (.cells (eO L d ch bv).flatten ex):=by rw [G1 id hidn]; exact hg
    have hgc:=hTG.kid p c hc
    have hkl:=hgc.len
    rw [List.length_map] at hkl
    have own7:∀ (i:Nat) (c:AV),ch[i]?=some c→¬ own c (H.n+1):=fun i c hc hj=>by
      have:=(hT.kid i c hc).lt hj; omega
    have hpl:(fe L m p).length≤m:=by
      have:=List.length_filter_le (fun j:Nat=>decide (0<j)&&decide (par L j=(p:Int))) (List.range m)
      simp at this
      unfold fe
      omega
    rcases List.eq_nil_or_concat (fe L m p) with hk | ⟨l,j,hk⟩
    · rw [hk] at hkl
      simp [hkl]
      have hs:qg L m=[]:=by rw [← qN hp]; exact hk
      refine Pg hB hm hN hmp hp hpm hTG ?_ (by omega) (by omega) (by omega) own7 h
      rw [G2]
      unfold jj
      rw [hdm]
      simp [dq,dA,qu,hs,aY]
    · rw [List.concat_eq_append] at hk
      rw [hk,List.length_append,List.length_singleton] at hkl
      have hll:l.length+1≤m:=by rw [hk] at hpl; simpa using hpl
      obtain ⟨cid,cex,rfl,hcg⟩:∃ cid cex,c=.sl cid 0 1 (l.length+1) none∧G.get cid=some (.cells (((l++[j]).map fun j:Nat=>[I j]).flatten) cex):=by
        rw [hk] at hgc
        generalize hr:((l++[j]).map fun j:Nat=>[I (j:Int)])=rr at hgc
        have hrl:rr.length=l.length+1:=by rw [← hr]; simp
        cases hgc with
        | nil=>simp at hrl
        | sl hlt hg hsz=>exact ⟨_,_,by rw [hrl],hg⟩
      have hd:((l.map fun j:Nat=>[I (j:Int)]).flatten++[I (j:Int)]).drop l.length=[I (j:Int)]:=by
        have:(l.map fun j:Nat=>[I (j:Int)]).flatten.length=l.length:=by
          rw [c4 (sz:=1) (fun row hrow=>by obtain ⟨x,_,rfl⟩:=List.mem_map.1 hrow; rfl)]; simp
        rw [List.drop_append_of_le_length (by omega),List.drop_of_length_le (by omega)]
        rfl
      have e1:wr .i64 (((l.length+1:Nat):Int)+1)=(l.length:Int)+1+1:=by rw [cM (by omega) (by omega)]; omega
      have e2:wr .i64 (((l.length+1:Nat):Int) - 1)=(l.length:Int):=by rw [cM (by omega) (by omega)]; omega
      have e3:(0:Int)<((l.length+1:Nat):Int):=by omega
      have e4:(l.length:Int)<((l.length+1:Nat):Int):=by omega
      simp only [hkl,aa,eI,ai,e3,decide_true,if_true,bF,ki,e1,e2]
      rw [nW (by omega) e4]
      have cid7:cid≠H.n+1:=fun e=>own7 p _ hc e
      have id7:id≠H.n+1:=i2
      have hs:=B5 hp hk
      simp [hcg,hd,G2,cid7,hgG,h5,aY,id7]
      refine Pg hB hm hN hmp hp hpm (hT.new (fun j hj=>?_) ?_) ?_ ?_ (by omega) (by omega) own7 h
      · have a2:j≠H.n+1:=by omega
        simp [a2,G1 j hj]
      · simp; omega
      · simp [jj,aY]
        rw [← List.getD_eq_getElem?_getD,hdm,hs.1,hs.2]
        simp
      · simp; omega
theorem Cx {L:List Nd} {d:List Nat} (hB:cQ L L.length d) (hW:∀ n ∈ L,lX n) (hN:L.length≤4096) {t:Nat} {K:AV→Hp→Prop} (h:∀ H sl ch,oJ L d H t L.length sl ch→K (.tup [.ptr t 0,I 0]) H) :
  ∀ (k m:Nat) (H:Hp) (sl:AV) (ch:List AV),L.length - m=k→m≤L.length→oJ L d H t m sl ch→gQ.L0 σ K (.ptr t 0) (nds L) (I L.length) (I m) H:=by
 intro k
 induction k with
 | zero =>
  intro m H sl ch hk hm hT
  have:m=L.length:=by omega
  subst this
  refine gQ.L0_step ?_
  simp
  exact h H sl ch hT
 | succ k ih =>
  intro m H sl ch hk hm hT
  have hlt:m<L.length:=by omega
  have hget:L[m]?=some (bV L m):=by
   unfold bV
   rw [List.getD_eq_getElem?_getD,List.getElem?_eq_getElem hlt]; rfl
  refine gQ.L0_step ?_
  simp [nds,hlt,bm hget,bj]
  refine Po hB hW hlt hN (hT.new (fun j hj=>?_) ?_) fun H' sl' ch' hT'=>?_
  ·have a1:j≠H.n:=by omega
   simp [a1]
  ·simp
  ·simp
   rw [bq (by omega)]
   exact ih (m+1) H' sl' ch' (by omega) (by omega) hT'
def elC (L:List Nd) (i:Nat):AV:=.imm 1 ((fe L L.length i).map fun j:Nat=>[I j])
def elE (L:List Nd) (d:List Nat) (i:Nat):List AV:=jj L d i (elC L i) bv
def cx (L:List Nd) (d:List Nat):AV:=.ip [.imm 9 ((List.range L.length).map (elE L d))]
theorem Dq (L:List Nd) (i:Nat):bt (elC L i)=true:=by unfold elC; simp only [bt]; exact bC _ (fun _=>rfl) _
theorem ry:∀ {a b:List AV},aK a=true→aK b=true→aK (a++b)=true
 | [],b,_,h=>h
 | x::a,b,ha,hb=>by
  simp only [aK,Bool.and_eq_true] at ha
  simp only [List.cons_append,aK,ha.1,ry ha.2 hb,Bool.and_self]
theorem xa (L:List Nd) (d:List Nat) (i:Nat):aK (elE L d i)=true:=by
 unfold elE jj
 exact ry (iR _) (by simp only [aK,Dq,bt,Bool.and_self])
theorem cU (L:List Nd) (d:List Nat):bt (cx L d)=true:=by
 unfold cx
 simp only [bt,aK,bC _ (xa L d),Bool.and_self]
theorem OC {L:List Nd} {d:List Nat} {H:Hp} {ch:List AV} (hl:ch.length=L.length) (hk:∀ (i:Nat) (c:AV),ch[i]?=some c→Gs 1 H c ((fe L L.length i).map fun j:Nat=>[I j])) {sl:AV} (hg:Gs 9 H sl (eO L d ch bv)) :
  Fz H sl (.imm 9 ((List.range L.length).map (elE L d))):=by
 generalize hr:eO L d ch bv=rr at hg
 have hrl:rr.length=L.length:=by rw [← hr,gd,hl]
 cases hg with
 | nil =>
  have:L.length=0:=by simpa using hrl.symm
  rw [this]; exact .nil
 | sl hlt hg hsz =>
  have rowAt:∀ (i:Nat) (row:List AV),((List.range L.length).map (elE L d))[i]?=some row→∃ c,ch[i]?=some c∧row=elE L d i:=by
   intro i row h
   rw [List.getElem?_map,Option.map_eq_some_iff] at h
   obtain ⟨x,hx,rfl⟩:=h
   have hi:=(List.getElem?_eq_some_iff.1 hx).1
   simp at hi
   rw [List.getElem?_range hi] at hx
   cases hx
   obtain ⟨c,hc⟩:=bp (l:=ch) (k:=i) (by omega)
   exact ⟨c,hc,rfl⟩
  refine .sl (fun i j=>(jj L d i (ch.getD i .any) bv).getD j .any) hg (by simp [hrl]) (fun i row h=>?_) (fun i row j y h hj=>?_) (fun i row j y h hj=>?_)
  ·obtain ⟨c,_,rfl⟩:=rowAt i row h; rfl
  ·obtain ⟨c,hc,rfl⟩:=rowAt i row h
   have hj9:j<9:=by have:=(List.getElem?_eq_some_iff.1 hj).1; simpa [elE] using this
   have e:=ru (L:=L) (d:=d) (low:=bv) hc
   rw [hr] at e
   have hcd:ch.getD i .any=c:=by rw [List.getD_eq_getElem?_getD,hc]; rfl
   rw [Nat.zero_add]
   have hz:(jj L d i c bv)[j]?=some ((jj L d i c bv).getD j .any):=by
    rw [List.getD_eq_getElem?_getD,List.getElem?_eq_getElem (by simpa using hj9)]; rfl
   rw [hcd,rJ hsz i _ j _ e hz]
  ·obtain ⟨c,hc,rfl⟩:=rowAt i row h
   have hcd:ch.getD i .any=c:=by rw [List.getD_eq_getElem?_getD,hc]; rfl
   rw [hcd]
   have hcs:=hk i c hc
   have h5:=hcs.fz (bC _ (fun _=>rfl) _)
   have hL:FzL H (jj L d i c bv) (elE L d i):=by
    unfold elE jj aY
    exact .cons (.refl rfl) (.cons (.refl rfl) (.cons (.refl rfl) (.cons (.refl (mz _)) (.cons (.refl (by simp only [bt]; exact bC _ (fun _=>rfl) _)) (.cons h5 (.cons (.refl rfl) (.cons (.refl rfl) (.cons (.refl rfl) .nil))))))))
   obtain ⟨x,hx,hf⟩:=hL.get.2 j y hj
   rw [List.getD_eq_getElem?_getD,hx]
   exact hf
theorem vh {L:List Nd} {d:List Nat} (hB:cQ L L.length d) (hW:∀ n ∈ L,lX n) (hN:L.length≤4096) (H:Hp):au Tryz.prog σ kC [nds L] H (.tup [cx L d,I 0]) H:=by
 obtain ⟨Q,hQ⟩:∃ Q:AV→Hp→Prop,∀ r H1,Q r H1 ↔ Fz H1 r (.tup [cx L d,I 0]):=⟨_,fun _ _=>Iff.rfl⟩
 have run:∃ r H1,au Tryz.prog σ kC [nds L] Hp.empty r H1∧Q r H1:=by
  refine gQ.run ?_
  have h1:¬ ((4096:Int)<(L.length:Int)):=by omega
  simp [h1,dy]
  refine Cx hB hW hN (fun H sl ch hT=>?_) _ 0 _ (.lit (.slice none 0 0)) [] rfl (Nat.zero_le _) ⟨by simp,by simp,rfl,.nil,fun i c h=>by simp at h,fun h=>h,fun i c h=>by simp at h,fun i c h=>by simp at h,fun i i' c c' _ h=>by simp at h⟩
  rw [hQ]
  have hr:=OC hT.len hT.kid hT.rows
  refine .tup rfl fun j x y hx hy=>?_
  match j with
  | 0 =>
   simp at hx hy
   subst hx; subst hy
   refine .ptr (fun _=>sl) hT.tg (fun j y hj=>?_) (fun j y hj=>?_)
   ·have:j=0:=by have:=(List.getElem?_eq_some_iff.1 hj).1; simp at this; omega
    subst this; simp
   ·have:j=0:=by have:=(List.getElem?_eq_some_iff.1 hj).1; simp at this; omega
    subst this
    simp at hj
    rw [← hj]; exact hr
  | 1=>simp at hx hy; subst hx; subst hy; exact .refl rfl
  | j+2=>simp at hx
 obtain ⟨r,H1,hg,hf⟩:=run
 rw [hQ] at hf
 exact hg.frzR (by simp [aK]) hf H
end Go.Proofs.YthdcghnjndhecaaGreat.Ev
namespace Go.Proofs.YthdcghnjndhecaaGreat.Ev
set_option linter.unusedVariables false
set_option linter.unusedSimpArgs false
variable {σ:Sig}
def ud (x:Nat):List AV:=[I (x:Int)]
structure S6 (L:List Nd) (H:Hp) (t m:Nat) (d:List Nat) (n e:AV):Prop where
 tlt:t<H.n
 tg:H.get t=some (.cells [n,e] true)
 rn:Gs 5 H n ((L.take m).map fun x=>aY (bv x))
 re:Gs 1 H e (d.map ud)
 nt:¬ own n t
 et:¬ own e t
 ne:∀ j,own n j→¬ own e j
theorem cQ.uniq {L:List Nd} {m N:Nat} {d d':List Nat} (h:cQ L m d) (h':cQ L N d') (hm:m≤N):∀ (n i:Nat),i<n→i<m→d[i]?=d'[i]?:=by
 intro n
 induction n with
 | zero=>intro i hi; omega
 | succ n ih =>
  intro i hi him
  by_cases h0:i=0
  ·subst h0
   rw [(h.root (by omega)).2,(h'.root (by omega)).2]
  ·obtain ⟨p,x,e1,e2,e3,e4,_⟩:=h.step i (by omega) him
   obtain ⟨p',x',f1,f2,f3,f4,_⟩:=h'.step i (by omega) (by omega)
   have:p=p':=by omega
   subst this
   have:=ih p (by omega) (by omega)
   rw [e3,f3] at this
   cases this
   rw [e4,f4]
theorem Bv {L:List Nd} (hW:∀ n ∈ L,lX n) (hN:L.length≤4096) {t:Nat} {K:AV→Hp→Prop} (hErr:(∀ d,¬ cQ L L.length d)→∀ e:Int,e≠0→∀ H,K (.tup [.lit (.pointer none),I e]) H)
  (h:∀ H d n e,cQ L L.length d→S6 L H t L.length d n e→K (.tup [.ptr t 0,I 0]) H) :
  ∀ (k m:Nat) (H:Hp) (d:List Nat) (n e y7:AV),L.length - m=k→m≤L.length→cQ L m d→S6 L H t m d n e→bP.L0 σ K (nds L) (.ptr t 0) (I m) y7 H:=by
 intro k
 induction k with
 | zero =>
  intro m H d n e y7 hk hm hB hR
  have:m=L.length:=by omega
  subst this
  refine bP.L0_step ?_
  simp
  exact h H d n e hB hR
 | succ k ih =>
  intro m H d n e y7 hk hm hB hR
  have hlt:m<L.length:=by omega
  have hLm:L[m]=bV L m:=by
   unfold bV
   rw [List.getD_eq_getElem?_getD,List.getElem?_eq_getElem hlt]; rfl
  have hget:L[m]?=some (bV L m):=by rw [List.getElem?_eq_getElem hlt,hLm]
  have hmem:bV L m ∈ L:=List.mem_of_getElem? hget
  have hdl:=hB.len
  have next:∀ x:Nat,(x≤256→cQ L (m+1) (d++[x]))→(256<x→∀ d,¬ cQ L L.length d)→bP.J1 σ K (nds L) (.ptr t 0) (I m) (I (x:Int)) H:=by
   intro x hx hx'
   refine bP.J1_step ?_
   simp
   split
   ·rename_i hx256
    exact hErr (hx' (by omega)) 11 (by decide) H
   ·rename_i hx256
    have hB':=hx (by omega)
    simp [hR.tg,nds,bm hget]
    refine ak (M5 _ (hW _ hmem) _) ?_
    simp [hR.tg]
    have t1:t≠H.n:=by have:=hR.tlt; omega
    refine rD (y:=.agg (aY (bv (bV L m)))) (by simp [t1,hR.tg]) hR.rn rfl rfl (by simp) (by simp; omega) (by simp; omega) fun n' H' g f=>?_
    have ht':H'.get t=some (.cells [n,e] true):=by rw [f.same t hR.tlt hR.nt]; exact hR.tg
    have nt':¬ own n' t:=fun h=>by
     rcases f.mine t h with h | h
     ·exact hR.nt h
     ·have:=hR.tlt; omega
    have hre:Gs 1 H' e (d.map ud):=hR.re.keep (fun j hj=>f.same j (hR.re.lt hj) (fun h=>hR.ne j h hj)) f.grow
    have hne:∀ j,own n' j→¬ own e j:=fun j h h'=>by
     rcases f.mine j h with h | h
     ·exact hR.ne j h h'
     ·have:=hR.re.lt h'; omega
    simp [g.st (id:=t) (off:=0) ht' (by simp)]
    have hre2:Gs 1 (H'.set t (some (.cells [n',e] true))) e (d.map ud):=hre.keep (fun j hj=>by
     have:j≠t:=fun h=>hR.et (h ▸ hj)
     simp [this]) (by simp)
    refine fY hre2 rfl rfl rfl (by simp; omega) (by simp; omega) fun e' H2 g2 f2=>?_
    have tl2:t<(H'.set t (some (.cells [n',e] true))).n:=by simp; have:=f.grow; have:=hR.tlt; omega
    have ht2:H2.get t=some (.cells [n',e] true):=by rw [f2.same t tl2 hR.et]; simp
    have et':¬ own e' t:=fun h=>by
     rcases f2.mine t h with h | h
     ·exact hR.et h
     ·omega
    simp [g2.st (id:=t) (off:=1) ht2 (by simp)]
    rw [bq (by omega)]
    have hg2n:=f2.grow
    simp at hg2n
    refine ih (m+1) _ (d++[x]) n' e' _ (by omega) (by omega) hB' ⟨?_,?_,?_,?_,nt',et',?_⟩
    ·simp; have:=f.grow; have:=hR.tlt; omega
    ·simp
    ·rw [pi hlt,hLm]
     refine g.keep (fun j hj=>?_) (by simp; omega)
     have a1:j≠t:=fun h=>nt' (h ▸ hj)
     have a2:j<(H'.set t (some (.cells [n',e] true))).n:=by simp; exact g.lt hj
     have:=f2.same j a2 (hne j hj)
     simp [a1] at this ⊢
     exact this
    ·rw [List.map_append]
     refine Gs.keep (H:=H2) g2 (fun j hj=>?_) (by simp)
     have a1:j≠t:=fun h=>et' (h ▸ hj)
     simp [a1]
    ·intro j hj h'
     rcases f2.mine j h' with h | h
     ·exact hne j hj h
     ·have:=g.lt hj; simp at h; omega
  refine bP.L0_step ?_
  simp [nds,hlt,bm hget]
  have hpar:(bV L m).parent=par L m:=rfl
  rw [hpar]
  by_cases h0:m=0
  ·subst h0
   simp
   split
   ·rename_i hp
    rw [show (AV.imm 5 (L.map aY))=nds L from rfl]
    refine next 0 (fun _=>?_) (fun h=>by omega)
    have hd:d=[]:=List.length_eq_zero_iff.1 hdl
    subst hd
    exact .first hlt hp
   ·rename_i hp
    exact hErr (fun d' hB'=>hp (hB'.root hlt).1) 10 (by decide) H
  ·have hm1:¬ ((m:Int)=0):=by omega
   have hm2:(0:Int)<m:=by omega
   have hm3:0<m:=by omega
   simp [h0,hm1,hm2,hm3]
   split
   ·rename_i hp
    exact hErr (fun d' hB'=>by obtain ⟨p,x,e1,e2,_⟩:=hB'.step m hm3 hlt; omega) 10 (by decide) H
   split
   ·rename_i _ hp
    exact hErr (fun d' hB'=>by obtain ⟨p,x,e1,e2,_⟩:=hB'.step m hm3 hlt; omega) 10 (by decide) H
   ·rename_i hp1 hp2
    obtain ⟨p,hp⟩:∃ p:Nat,par L m=p:=⟨(par L m).toNat,by omega⟩
    rw [hp] at hp2 ⊢
    have hpm:p<m:=by omega
    obtain ⟨x,hx⟩:=bp (l:=d) (k:=p) (by omega)
    obtain ⟨id,ex,he,hg⟩:∃ id ex,e=.sl id 0 1 d.length none∧H.get id=some (.cells (d.map ud).flatten ex):=by
     have:=hR.re
     generalize hr:d.map ud=rr at this
     have hrl:rr.length=d.length:=by rw [← hr]; simp
     cases this with
     | nil=>simp at hrl; omega
     | sl hlt hg hsz=>exact ⟨_,_,by rw [hrl],hg⟩
    have hdrop:∃ r,((d.map ud).flatten).drop p=I (x:Int)::r:=by
     have h1:∀ r ∈ d.map ud,r.length=1:=fun r hr=>by obtain ⟨y,_,rfl⟩:=List.mem_map.1 hr; rfl
     have h2:=kE h1 (w:=p) (by simp; omega)
     rw [Nat.mul_one] at h2
     have h3:(d.map ud)[p]'(by simp; omega)=ud x:=by
      rw [List.getElem_map]
      rw [List.getElem?_eq_getElem (by omega)] at hx
      rw [Option.some.inj hx]
     rw [h3] at h2
     exact ⟨_,h2⟩
    obtain ⟨r,hdrop⟩:=hdrop
    have e1:wr .i64 ((x:Int)+1)=((x+1:Nat):Int):=by
     have:x≤256:=by
      by_cases hp0:p=0
      ·subst hp0
       have:=(hB.root hm3).2
       rw [hx] at this
       cases this
       omega
      ·obtain ⟨_,y,_,_,_,h4,h5⟩:=hB.step p (by omega) hpm
       rw [hx] at h4
       cases h4
       omega
     rw [cM (by omega) (by omega)]; rfl
    simp [hR.tg,he]
    rw [nW (by omega) (by omega)]
    simp [hg,hdrop]
    rw [e1,show (AV.imm 5 (L.map aY))=nds L from rfl]
    have:=next (x+1) (fun h256=>hB.next hm3 hlt hp hpm hx h256) fun h d' hB'=>by
     obtain ⟨p',x',f1,f2,f3,f4,f5⟩:=hB'.step m hm3 hlt
     have e2:p=p':=by omega
     subst e2
     have e3:=hB.uniq hB' (by omega) (p+1) p (by omega) hpm
     rw [hx,f3] at e3
     cases e3
     omega
    exact this
def dl (L:List Nd) (d:List Nat):AV:=.ip [nds (L.map bv),.imm 1 (d.map ud)]
theorem dC (L:List Nd) (d:List Nat):bt (dl L d)=true:=by
 unfold dl
 simp only [bt,aK,Kh,bC _ (show ∀ x,aK (ud x)=true from fun _=>rfl),Bool.and_self]
theorem Bw (L:List Nd) (hW:∀ n ∈ L,lX n):((L.length≤4096→∀ d,¬ cQ L L.length d)∧∃ e:Int,e≠0∧∀ H,au Tryz.prog σ iD [nds L] H (.tup [.lit (.pointer none),I e]) H) ∨
  (∃ d,L.length≤4096∧cQ L L.length d∧∀ H,au Tryz.prog σ iD [nds L] H (.tup [dl L d,I 0]) H):=by
 by_cases hN:L.length≤4096
 ·obtain ⟨Q,hQ⟩:∃ Q:AV→Hp→Prop,∀ r H1,Q r H1 ↔ (((∀ d,¬ cQ L L.length d)∧∃ e:Int,e≠0∧r=.tup [.lit (.pointer none),I e])∨∃ d,cQ L L.length d∧Fz H1 r (.tup [dl L d,I 0])):=⟨_,fun _ _=>Iff.rfl⟩
  have run:∃ r H1,au Tryz.prog σ iD [nds L] Hp.empty r H1∧Q r H1:=by
   refine bP.run ?_
   have h1:¬ ((4096:Int)<(L.length:Int)):=by omega
   simp [h1,dy]
   refine Bv hW hN (fun hnb e he H=>by rw [hQ]; exact .inl ⟨hnb,e,he,rfl⟩) (fun H d n e hB hR=>?_) _ 0 _ [] (.lit (.slice none 0 0)) (.lit (.slice none 0 0)) _ rfl (Nat.zero_le _) (cQ.nil L)
    ⟨by simp,by simp,by simpa using Gs.nil,.nil,fun h=>h,fun h=>h,fun j h=>h.elim⟩
   rw [hQ]
   refine .inr ⟨d,hB,.tup rfl fun j x y hx hy=>?_⟩
   have rn:=hR.rn
   rw [List.take_length] at rn
   match j with
   | 0 =>
    simp at hx hy
    subst hx; subst hy
    have f1:=rn.fz (bC _ (fun x=>iR (bv x)) _)
    have f2:=hR.re.fz (bC _ (fun _=>rfl) _)
    refine .ptr (fun j=>[n,e].getD j .any) hR.tg (fun j y hj=>?_) (fun j y hj=>?_)
    ·have hl:=(List.getElem?_eq_some_iff.1 hj).1
     match j with
     | 0=>simp
     | 1=>simp
     | j+2=>simp at hl; omega
    ·match j with
     | 0=>simp at hj; rw [← hj]; simpa [nds,Function.comp_def] using f1
     | 1=>simp at hj; rw [← hj]; exact f2
     | j+2=>simp at hj
   | 1=>simp at hx hy; subst hx; subst hy; exact .refl rfl
   | j+2=>simp at hx
  obtain ⟨r,H1,hg,hf⟩:=run
  rw [hQ] at hf
  rcases hf with ⟨hnb,e,he,rfl⟩ | ⟨d,hB,hf⟩
  ·exact .inl ⟨fun _=>hnb,e,he,fun H=>hg.over (by simp [aK]) (by simp [iG,jH]) H⟩
  ·exact .inr ⟨d,hN,hB,fun H=>hg.frzR (by simp [aK]) hf H⟩
 ·have run:∃ r H1,au Tryz.prog σ iD [nds L] Hp.empty r H1∧r=.tup [.lit (.pointer none),I 3]:=by
   refine bP.run ?_
   have h1:((4096:Int)<(L.length:Int)):=by omega
   simp [h1]
  obtain ⟨r,H1,hg,rfl⟩:=run
  exact .inl ⟨fun h=>absurd h hN,3,by decide,fun H=>hg.over (by simp [aK]) (by simp [iG,jH]) H⟩
end Go.Proofs.YthdcghnjndhecaaGreat.Ev
namespace Go.Proofs.YthdcghnjndhecaaGreat.Ev
set_option linter.unusedVariables false
set_option linter.unusedSimpArgs false
variable {σ:Sig}
theorem uX {n k:Nat} (h:k<n):(List.range n)[k]?=some k:=by
 rw [List.getElem?_range h]
theorem xr (L:List Nd) (d:List Nat) (hN:L.length≤4096) {e:Nat} (he:e<L.length) (H:Hp):au Tryz.prog σ dN [cx L d,I (e:Int)] H (.agg (elE L d e)) H:=by
 obtain ⟨Q,hQ⟩:∃ Q:AV→Hp→Prop,∀ r H1,Q r H1 ↔ r=.agg (elE L d e):=⟨_,fun _ _=>Iff.rfl⟩
 have run:∃ r H1,au Tryz.prog σ dN [cx L d,I (e:Int)] Hp.empty r H1∧Q r H1:=by
  refine nR.run ?_
  have h1:¬ ((e:Int)<0):=by omega
  have h2:¬ ((L.length:Int)≤e):=by omega
  have h3:¬ (L.length≤e):=by omega
  have hl:(elE L d e).length=9:=rfl
  have ho:(elE L d e).all AV.one=true:=by simp [elE,jj,aY,elC]
  have ho':∀ x ∈ elE L d e,AV.one x=true:=List.all_eq_true.1 ho
  simp [cx,h1,h2,h3,bm (uX he)]
  simp only [dg hl,aa]
  simp [hl,bj]
  rw [if_pos ho',aa]
  simp [dg hl,hQ]
 obtain ⟨r,H1,hg,hr⟩:=run
 rw [hQ] at hr
 subst hr
 exact hg.frzR (by simp [aK,cU,bt]) (.refl (by simp only [bt]; exact xa L d e)) H
theorem M0 (L:List Nd) (d:List Nat) (hN:L.length≤4096) {e:Nat} (he:e<L.length) (H:Hp):au Tryz.prog σ fW [cx L d,I (e:Int)] H (.agg (aY (bv (bV L e)))) H:=by
 obtain ⟨Q,hQ⟩:∃ Q:AV→Hp→Prop,∀ r H1,Q r H1 ↔ r=.agg (aY (bv (bV L e))):=⟨_,fun _ _=>Iff.rfl⟩
 have run:∃ r H1,au Tryz.prog σ fW [cx L d,I (e:Int)] Hp.empty r H1∧Q r H1:=by
  refine mo.run ?_
  simp
  refine ak (xr L d hN he _) ?_
  have:(elE L d e).take 5=aY (bv (bV L e)):=rfl
  simp [this,bj,hQ]
  rw [bj (by simp),rM]
  rfl
 obtain ⟨r,H1,hg,hr⟩:=run
 rw [hQ] at hr
 subst hr
 exact hg.frzR (by simp [aK,cU,bt]) (.refl (by simp only [bt]; exact iR _)) H
theorem rz (L:List Nd) (d:List Nat) (hN:L.length≤4096) {e:Nat} (he:e<L.length) (H:Hp):au Tryz.prog σ d6 [cx L d,I (e:Int)] H (I (par L e)) H:=by
 refine bg (fun K hK=>jW.run ?_) (by simp [aK,cU,bt]) rfl H
 have h1:¬ ((e:Int)<0):=by omega
 have h2:¬ ((L.length:Int)≤e):=by omega
 have h3:¬ (L.length≤e):=by omega
 simp [cx,h1,h2,h3,bm (uX he),elE,jj,aY]
 exact hK _
theorem pP (L:List Nd) (d:List Nat) (hN:L.length≤4096) {e:Nat} (he:e<L.length) (H:Hp):au Tryz.prog σ dF [cx L d,I (e:Int)] H (I (dq L e)) H:=by
 refine bg (fun K hK=>kZ.run ?_) (by simp [aK,cU,bt]) rfl H
 refine ak (xr L d hN he _) ?_
 simp [elE,jj,aY]
 exact hK _
theorem CD (L:List Nd) (d:List Nat) (hN:L.length≤4096) {e:Nat} (he:e<L.length) (H:Hp):au Tryz.prog σ gu [cx L d,I (e:Int)] H (I (dA L e)) H:=by
 refine bg (fun K hK=>jV.run ?_) (by simp [aK,cU,bt]) rfl H
 refine ak (xr L d hN he _) ?_
 simp [elE,jj,aY]
 exact hK _
def nX (L:List Nd) (e k:Nat):Int:=match (fe L L.length e)[k]? with | some j=>j | none=>-1
theorem wR (L:List Nd) (d:List Nat) (hN:L.length≤4096) {e k:Nat} (he:e<L.length) (H:Hp):au Tryz.prog σ fA [cx L d,I (e:Int),I (k:Int)] H (I (nX L e k)) H:=by
 refine bg (fun K hK=>kO.run ?_) (by simp [aK,cU,bt]) rfl H
 refine ak (xr L d hN he _) ?_
 simp [elE,jj,aY,elC]
 split
 ·rename_i h
  have hget:(fe L L.length e)[k]?=some (fe L L.length e)[k]:=List.getElem?_eq_getElem h
  simp [bm hget]
  have:=hK Hp.empty
  simpa [nX,hget] using this
 ·rename_i h
  have hget:(fe L L.length e)[k]?=none:=List.getElem?_eq_none (by omega)
  have:=hK Hp.empty
  simpa [nX,hget] using this
theorem P_ (L:List Nd) (d:List Nat) (H:Hp):au Tryz.prog σ iV [cx L d] H (I (L.length:Int)) H:=by
 refine bg (fun K hK=>m_.run ?_) (by simp [aK,cU]) rfl H
 simp [cx]
 exact hK _
theorem SV (L:List Nd) (d:List Nat) (e:Int) (H:Hp):au Tryz.prog σ mZ [cx L d,I e] H (Bo (decide (0≤e)&&decide (e<L.length))) H:=by
 refine bg (fun K hK=>s9.run ?_) (by simp [aK,cU,bt]) rfl H
 have e1:gn .neq (cx L d) (.lit (.pointer none))=some (Bo true):=rfl
 rw [e1]
 simp
 split
 ·rename_i h
  refine ak (P_ L d _) ?_
  simp
  simpa [h] using hK Hp.empty
 ·rename_i h
  simpa [h] using hK Hp.empty
def nZ (L:List Nd) (e:Nat):Bool:=decide (par L e<0)||decide (nX L (par L e).toNat (dq L e).toNat<0)
theorem ma {L:List Nd} {N:Nat} {d:List Nat} (hB:cQ L N d) {e:Nat} (he:e<N):par L e=-1∨∃ p:Nat,par L e=p∧p<e:=by
 by_cases h0:e=0
 ·subst h0; exact .inl (hB.root he).1
 ·obtain ⟨p,x,h1,h2,_⟩:=hB.step e (by omega) he
  exact .inr ⟨p,h1,h2⟩
end Go.Proofs.YthdcghnjndhecaaGreat.Ev
namespace Go.Proofs.YthdcghnjndhecaaGreat.Ev
set_option linter.unusedVariables false
set_option linter.unusedSimpArgs false
variable {σ:Sig}
def qB (σ:Sig):Prop:=∀ (s t:ByteArray) (H:Hp),s.data.size<4294967281→au Tryz.prog σ kV [Sx s,Sx t] H (Bo (decide (0≤Go.Lib.index (tl s) (tl t)))) H
theorem yd (c:UInt8) (H:Hp):au Tryz.prog σ jF [.lit (.int .u8 c.toNat)] H (Bo (wht c)) H:=by
  refine bg (fun K hK=>n_.run ?_) (by simp [aK,bt]) rfl H
  have hK:=hK Hp.empty
  simp only [fh,aa,ai,decide_eq_true_eq]
  split
  · rename_i h
    rwa [show wht c = true by have : c.toNat = 9 := by omega
                              simp [wht,this]] at hK
  rename_i h9
  split
  · rename_i h
    rwa [show wht c = true by have : c.toNat = 10 := by omega
                              simp [wht,this]] at hK
  rename_i h10
  split
  · rename_i h
    rwa [show wht c = true by have : c.toNat = 12 := by omega
                              simp [wht,this]] at hK
  rename_i h12
  split
  · rename_i h
    rwa [show wht c = true by have : c.toNat = 13 := by omega
                              simp [wht,this]] at hK
  rename_i h13
  have e:wht c=decide ((c.toNat:Int)=32):=by
    have a9:¬ c.toNat=9:=by omega
    have a10:¬ c.toNat=10:=by omega
    have a12:¬ c.toNat=12:=by omega
    have a13:¬ c.toNat=13:=by omega
    by_cases h:c.toNat=32
    · simp [wht,h]
    · have h':¬ ((c.toNat:Int)=32):=by omega
      simp [wht,a9,a10,a12,a13,h,h']
  rwa [e] at hK
theorem OW (s p:ByteArray) (H:Hp):au Tryz.prog σ cR [Sx s,Sx p] H (Bo (vP (tl s) (tl p))) H:=by
 refine bg (fun K hK=>dE.run ?_) (by simp [aK,bt]) rfl H
 simp only [fN,aa,im,ai,decide_eq_true_eq]
 split
 ·rename_i h
  rw [wx (by omega),aa]
  simp only [ml,aa]
  have:=w9 (tl s) (tl p) (by rw [cS,cS]; omega)
  rw [cS,pj] at this
  rw [this]
  exact hK _
 ·rename_i h
  have:=xE (s:=tl s) (p:=tl p) (by rw [cS,cS]; omega)
  rw [this] at hK
  exact hK _
theorem IJ (s p:ByteArray) (H:Hp):au Tryz.prog σ ee [Sx s,Sx p] H (Bo (vP (tl s) (tl p))) H :=
 bg (fun K hK=>iT.run (ak (OW s p _) (hK _))) (by simp [aK,bt]) rfl H
theorem Mz (s p:ByteArray) (hs:s.data.size<9000000000000000000) (H:Hp):au Tryz.prog σ cP [Sx s,Sx p] H (Bo (yD (tl s) (tl p))) H:=by
 refine bg (fun K hK=>dD.run ?_) (by simp [aK,bt]) rfl H
 simp only [fN,aa,im,ai,decide_eq_true_eq]
 split
 ·rename_i h
  simp only [ki,aa]
  have e:wr .i64 ((s.data.size:Int) - p.data.size)=((s.data.size - p.data.size:Nat):Int):=by rw [cM (by omega) (by omega)]; omega
  rw [e,wq (by omega),aa]
  simp only [ml,aa]
  have:=yA (tl s) (tl p) (by rw [cS,cS]; omega)
  rw [cS,cS,pj] at this
  rw [this]
  exact hK _
 ·rename_i h
  have:=w7 (s:=tl s) (p:=tl p) (by rw [cS,cS]; omega)
  rw [this] at hK
  exact hK _
theorem RO (s p:ByteArray) (hs:s.data.size<9000000000000000000) (H:Hp):au Tryz.prog σ fl [Sx s,Sx p] H (Bo (yD (tl s) (tl p))) H :=
 bg (fun K hK=>iX.run (ak (Mz s p hs _) (hK _))) (by simp [aK,bt]) rfl H
def j6 (l:List ByteArray) (s:ByteArray):Bool:=l.any fun x=>decide (x=s)
theorem Qi {l:List ByteArray} (hl:l.length≤reachBytes) {s:ByteArray} {K:AV→Hp→Prop}:∀ (m k:Nat) (H:Hp),l.length - m=k→m≤l.length→(∀ H,K (Bo (j6 (l.drop m) s)) H)→eC.L0 σ K (Sx s) (cG l) (I l.length) (I m) H:=by
 intro m k
 revert m
 induction k with
 | zero =>
  intro m H hk hm hK
  have:m=l.length:=by omega
  subst this
  refine eC.L0_step ?_
  simp
  simpa [j6] using hK H
 | succ k ih =>
  intro m H hk hm hK
  have hlt:m<l.length:=by omega
  obtain ⟨x,hx⟩:=bp hlt
  rw [bK hx] at hK
  refine eC.L0_step ?_
  simp [cG,hlt,bm hx]
  split
  ·rename_i h
   have:=hK H
   simpa [j6,h] using this
  ·rename_i h
   rw [cn hlt hl (by decide)]
   refine ih (m+1) H (by omega) (by omega) fun H'=>?_
   have:=hK H'
   simpa [j6,h] using this
theorem Ro (l:List ByteArray) (hl:l.length≤reachBytes) (s:ByteArray) (H:Hp):au Tryz.prog σ lR [cG l,Sx s] H (Bo (j6 l s)) H:=by
 refine bg (fun K hK=>eC.run ?_) (by simp [aK,bt]) rfl H
 simp
 exact Qi hl 0 _ _ rfl (Nat.zero_le _) (by simpa using hK)
section
attribute [local irreducible] aR.L0 aR.L1
theorem Ao {js:Nat→AV} {K:AV→Hp→Prop} {H:Hp} {w t:ByteArray} {b:AV} (g0:H.get 0=some (.cells [Sx t] true)) (g1:H.get 1=some (.cells [b] true)) (g3:H.get 3=some (.loop (bM.R0 js (.ptr 0 0) (.ptr 1 0)) .ready none))
  (hT:w=t→K (Bo false) (((H.set 3 (some (.loop (bM.R0 js (.ptr 0 0) (.ptr 1 0)) .busy none))).set 1 (some (.cells [Bo true] true))).set 3 (some (.loop (bM.R0 js (.ptr 0 0) (.ptr 1 0)) .done (some .ret)))))
  (hF:w≠t→K (Bo true) ((H.set 3 (some (.loop (bM.R0 js (.ptr 0 0) (.ptr 1 0)) .busy none))).set 3 (some (.loop (bM.R0 js (.ptr 0 0) (.ptr 1 0)) .ready none)))):fG Tryz.prog σ (.yl 3) [Sx w] H K:=by
 refine bM.R0_round g3 ⟨g3,?_⟩
 simp only [aa,aL,ay]
 simp only [show ¬ ((0:Nat)=3) by decide,if_false,g0,aM,List.drop_zero,jL,aa,ml,ai,decide_eq_true_eq]
 split
 ·rename_i h
  simp only [wB,ay,show ¬ ((1:Nat)=3) by decide,if_false,g1,de]
  rw [if_pos (by simp),aa]
  refine ⟨by simp,?_⟩
  simpa using hT h
 ·rename_i h
  exact ⟨by simp,hF h⟩
theorem ld2 {H:Hp} {id:Nat} {x:AV} (g:H.get id=some (.cells [x] true)):ldA false 1 H (.ptr id 0)=some x:=by simp [g]
theorem JZ {js:Nat→AV} {K:AV→Hp→Prop} {t:ByteArray} {b:AV} {N:Nat} (hN:N<9000000000000000000):∀ (f:Nat) (l:List UInt8) (H:Hp) (y3:AV),l.length<f→l.length≤N→H.get 0=some (.cells [Sx t] true)→H.get 1=some (.cells [b] true)→H.get 2=some (.cells [Sx (mk l)] true)→H.get 3=some (.loop (bM.R0 js (.ptr 0 0) (.ptr 1 0)) .ready none) →
  (tl t ∈ eH l→∀ H,H.get 1=some (.cells [Bo true] true)→H.get 3=some (.loop (bM.R0 js (.ptr 0 0) (.ptr 1 0)) .done (some .ret))→K (.tup []) H) →
  (tl t ∉ eH l→∀ H,H.get 1=some (.cells [b] true)→H.get 3=some (.loop (bM.R0 js (.ptr 0 0) (.ptr 1 0)) .ready none)→K (.tup []) H) →
  aR.L0 σ K (.yl 3) (.ptr 2 0) y3 H:=by
 intro f
 induction f with
 | zero=>intro l H y3 h; omega
 | succ f ih =>
  intro l H y3 hf hlN g0 g1 g2 g3 hT hF
  refine aR.L0_step ?_
  simp only [ld2 g2,aa,nv,ai]
  by_cases hl:l=[]
  ·subst hl
   simp only [show (mk []=(⟨#[]⟩:ByteArray)) from rfl,decide_true,Bool.not_true,Bool.false_eq_true,if_false]
   exact hF (by simp [lj]) H g1 g3
  ·have hmk:¬ (mk l=⟨#[]⟩):=fun h=>hl (zL (h.trans (show (⟨#[]⟩:ByteArray)=mk [] from rfl)))
   have hpos:0<l.length:=List.length_pos_iff.2 hl
   simp only [hmk,decide_false,Bool.not_false,if_true]
   have hwl:=Jl l
   rw [mH hl] at hT hF
   have hsz:(mk l).data.size=l.length:=Nl l
   have rest:∀ (H:Hp),H.get 0=some (.cells [Sx t] true)→H.get 1=some (.cells [b] true)→H.get 2=some (.cells [Sx (mk l)] true)→H.get 3=some (.loop (bM.R0 js (.ptr 0 0) (.ptr 1 0)) .ready none) →
     (wl l=0∨tl t≠l.take (wl l)) →
     bnd (ldA false 1 H (.ptr 2 0)) fun x23=>bnd (ah .add (I (wl l:Nat)) (I 1)) fun x24=>bnd (ldA false 1 H (.ptr 2 0)) fun x25=>bnd (cZ x25) fun x26=>bnd (nG [x24,x26]) fun x27=>bnd (fM x23 (some x27) none) fun x28=>bnd (stA 1 H (.ptr 2 0) x28) fun H29=>aR.L0 σ K (.yl 3) (.ptr 2 0) (I (wl l:Nat)) H29:=by
    intro H g0 g1 g2 g3 hno
    simp only [ld2 g2,aa,bF,fN,hsz]
    rw [bq (by omega)]
    have hmin:nG [I ((wl l+1:Nat):Int),I (l.length:Int)]=some (I ((min (wl l+1) l.length:Nat):Int)):=by
     simp only [nG,toI,List.foldl,kA]
     congr 2
     split
     ·congr 2; omega
     ·congr 2; omega
    rw [hmin,aa,wq (by rw [hsz]; omega),aa]
    simp only [RM,g2,de]
    rw [if_pos (by simp),aa,od]
    have hdrop:l.drop (min (wl l+1) l.length)=l.drop (wl l+1):=by
     by_cases h:wl l+1≤l.length
     ·rw [Nat.min_eq_left h]
     ·rw [Nat.min_eq_right (by omega),List.drop_of_length_le (Nat.le_refl _),List.drop_of_length_le (by omega)]
    rw [hdrop]
    refine ih (l.drop (wl l+1)) _ _ (by simp; omega) (by simp; omega) (by simp [g0]) (by simp [g1]) (by simp) (by simp [g3]) (fun h=>hT ?_) (fun h=>hF ?_)
    ·split
     ·rename_i h0; rw [h0] at h; exact h
     ·exact List.mem_cons_of_mem _ h
    ·split
     ·rename_i h0; rw [h0] at h; exact h
     ·rename_i h0
      rcases hno with h1 | h1
      ·exact absurd h1 h0
      ·intro hm
       rcases List.mem_cons.1 hm with h2 | h2
       ·exact h1 h2
       ·exact h h2
   have stop:∀ (H:Hp),H.get 0=some (.cells [Sx t] true)→H.get 1=some (.cells [b] true)→H.get 2=some (.cells [Sx (mk l)] true)→H.get 3=some (.loop (bM.R0 js (.ptr 0 0) (.ptr 1 0)) .ready none) →
     bnd (ah .gtr (I (wl l:Nat)) (I 0)) fun x10=>ifB x10 (bnd (ldA false 1 H (.ptr 2 0)) fun x11=>bnd (fM x11 none (some (I (wl l:Nat)))) fun x12=>fG Tryz.prog σ (.yl 3) [x12] H fun x13 H14=>bnd (unR .not x13) fun x15=>ifB x15 (K (.tup []) H14) (bnd (ldA false 1 H14 (.ptr 2 0)) fun x16=>bnd (ah .add (I (wl l:Nat)) (I 1)) fun x17=>bnd (ldA false 1 H14 (.ptr 2 0)) fun x18=>bnd (cZ x18) fun x19=>bnd (nG [x17,x19]) fun x20=>bnd (fM x16 (some x20) none) fun x21=>bnd (stA 1 H14 (.ptr 2 0) x21) fun H22=>aR.L0 σ K (.yl 3) (.ptr 2 0) (I (wl l:Nat)) H22))
      (bnd (ldA false 1 H (.ptr 2 0)) fun x23=>bnd (ah .add (I (wl l:Nat)) (I 1)) fun x24=>bnd (ldA false 1 H (.ptr 2 0)) fun x25=>bnd (cZ x25) fun x26=>bnd (nG [x24,x26]) fun x27=>bnd (fM x23 (some x27) none) fun x28=>bnd (stA 1 H (.ptr 2 0) x28) fun H29=>aR.L0 σ K (.yl 3) (.ptr 2 0) (I (wl l:Nat)) H29):=by
    intro H g0 g1 g2 g3
    simp only [eI,aa,ai,decide_eq_true_eq]
    split
    ·rename_i h0
     have h0':wl l≠0:=by omega
     rw [if_neg h0'] at hT hF
     simp only [ld2 g2,aa]
     rw [wx (by rw [hsz]; omega),aa,od]
     refine Ao g0 g1 g3 (fun he=>?_) (fun he=>?_)
     ·simp only [eM,aa,ai,Bool.not_false,if_true]
      refine hT ?_ _ (by simp) (by simp)
      rw [← he,od]; simp
     ·simp only [eM,aa,ai,Bool.not_true,Bool.false_eq_true,if_false]
      refine rest _ ?_ ?_ ?_ ?_ (.inr fun h=>he ?_)
      ·simp [g0]
      ·simp [g1]
      ·simp [g2]
      ·simp
      ·rw [← h,pj]
    ·rename_i h0
     exact rest H g0 g1 g2 g3 (.inl (by omega))
   have L1:∀ (m k:Nat) (H:Hp),wl l - k=m→k≤wl l→H.get 0=some (.cells [Sx t] true)→H.get 1=some (.cells [b] true)→H.get 2=some (.cells [Sx (mk l)] true)→H.get 3=some (.loop (bM.R0 js (.ptr 0 0) (.ptr 1 0)) .ready none)→aR.L1 σ K (.yl 3) (.ptr 2 0) (I (k:Int)) H:=by
    intro m
    induction m with
    | zero =>
     intro k H hm hk g0 g1 g2 g3
     have:k=wl l:=by omega
     subst this
     refine aR.L1_step ?_
     simp only [ld2 g2,aa,fN,hsz,a_,ai,decide_eq_true_eq]
     split
     ·rename_i hlt
      obtain ⟨c,hc⟩:=bp (l:=l) (k:=wl l) (by omega)
      rw [yX (by rw [od]; exact hc),aa]
      refine ak (yd c H) ?_
      rw [O9 hc]
      simp only [eM,aa,ai,Bool.not_true,Bool.false_eq_true,if_false]
      exact stop H g0 g1 g2 g3
     ·have:=stop H g0 g1 g2 g3
      simp only [ld2 g2,aa] at this
      exact this
    | succ m ihm =>
     intro k H hm hk g0 g1 g2 g3
     obtain ⟨c,hc,hw⟩:=KG (l:=l) (k:=k) (by omega)
     have hkl:=(List.getElem?_eq_some_iff.1 hc).1
     refine aR.L1_step ?_
     have h1:(k:Int)<l.length:=by omega
     simp only [ld2 g2,aa,fN,hsz,a_,ai,decide_eq_true_eq,h1,if_true]
     rw [yX (by rw [od]; exact hc),aa]
     refine ak (yd c H) ?_
     rw [hw]
     simp only [eM,aa,ai,Bool.not_false,if_true,bF]
     rw [bq (by omega)]
     exact ihm (k+1) H (by omega) (by omega) g0 g1 g2 g3
   exact L1 _ 0 H rfl (Nat.zero_le _) g0 g1 g2 g3
end
def pc (s t:ByteArray):Bool:=decide (tl t ∈ eH (tl s))
theorem MR (s t:ByteArray) (hs:s.data.size<9000000000000000000) (H:Hp):au Tryz.prog σ kz [Sx s,Sx t] H (Bo (pc s t)) H:=by
 refine bg (fun K hK=>bM.run ?_) (by simp [aK,bt]) rfl H
 have hbx:∀ (x:ByteArray) (H:Hp) (K:AV→Hp→Prop),cV (Sx x) H K=K (.ptr H.n 0) (H.new (.cells [Sx x] true)):=fun x H K=>tD rfl rfl H K
 rw [hbx]
 simp only [bA]
 refine nP.run ?_
 rw [hbx]
 intro js
 simp only [rU]
 refine aR.run ?_
 refine JZ (js:=js) (t:=t) (b:=Bo false) (N:=(tl s).length) (by rw [cS]; exact hs) ((tl s).length+1) (tl s) _ _ (by omega) (Nat.le_refl _) (by simp [Hp.empty]) (by simp [Hp.empty]) (by simp [Hp.empty]) (by simp [Hp.empty]) (fun hm H g1 g3=>?_) (fun hm H g1 g3=>?_)
 ·have e3:H.get (((Hp.empty.new (Blk.cells [Sx t] true)).new (Blk.cells [AV.lit (Value.bool false)] true)).new (Blk.cells [Sx s] true)).n=some (.loop (bM.R0 js (.ptr 0 0) (.ptr 1 0)) .done (some .ret)):=g3
  rw [e3,IL]
  have g1':(H.set (((Hp.empty.new (Blk.cells [Sx t] true)).new (Blk.cells [AV.lit (Value.bool false)] true)).new (Blk.cells [Sx s] true)).n none).get (Hp.empty.new (Blk.cells [Sx t] true)).n=some (.cells [Bo true] true):=by
   rw [ay,if_neg (by simp [Hp.empty])]; exact g1
  rw [ld2 g1',aa]
  have:=hK (H.set (((Hp.empty.new (Blk.cells [Sx t] true)).new (Blk.cells [AV.lit (Value.bool false)] true)).new (Blk.cells [Sx s] true)).n none)
  simpa [pc,hm] using this
 ·have e3:H.get (((Hp.empty.new (Blk.cells [Sx t] true)).new (Blk.cells [AV.lit (Value.bool false)] true)).new (Blk.cells [Sx s] true)).n=some (.loop (bM.R0 js (.ptr 0 0) (.ptr 1 0)) .ready none):=g3
  rw [e3,pt]
  have g1':(H.set (((Hp.empty.new (Blk.cells [Sx t] true)).new (Blk.cells [AV.lit (Value.bool false)] true)).new (Blk.cells [Sx s] true)).n none).get (Hp.empty.new (Blk.cells [Sx t] true)).n=some (.cells [Bo false] true):=by
   rw [ay,if_neg (by simp [Hp.empty])]; exact g1
  rw [wB,g1',de,if_pos (by simp),aa,ld2 (x:=Bo false) (by simp),aa]
  have hw:pc s t=false:=by simp [pc,hm]
  rw [hw] at hK
  exact hK _
def emp:ByteArray:=⟨#[]⟩
def soB (s:ByteArray) (a:At):Bool :=
 if a.op=0 then true else if a.op=1 then decide (s=a.text) else if a.op=2 then !decide (a.text=emp)&&pc s a.text
 else if a.op=3 then decide (s=a.text)||vP (tl s) (tl a.text++[45]) else if a.op=4 then !decide (a.text=emp)&&vP (tl s) (tl a.text)
 else if a.op=5 then !decide (a.text=emp)&&yD (tl s) (tl a.text) else if a.op=6 then !decide (a.text=emp)&&decide (0≤Go.Lib.index (tl s) (tl a.text)) else false
structure OB (a:At):Prop where
 text:a.text.data.size≤reachBytes
theorem S_ (hC:qB σ) (s:ByteArray) (hs:s.data.size<4294967281) (a:At) (ha:OB a) (H:Hp):au Tryz.prog σ mR [Sx s,.agg (dS a)] H (Bo (soB s a)) H:=by
 refine bg (fun K hK=>uc.run ?_) (by simp [aK,bt,sS]) rfl H
 have ht:=ha.text
 rw [eJ] at ht
 have g:∀ {H:Hp} {j:Nat},True:=fun {_ _}=>trivial
 simp [dS]
 unfold soB at hK
 split
 ·rename_i h; simp [h] at hK; exact hK _
 rename_i h0
 simp only [h0,if_false] at hK
 split
 ·rename_i h
  have:=hK (Hp.empty.new (.cells (dS a) true))
  rw [if_pos h] at this
  simpa [dS] using this
 rename_i h1
 simp only [h1,if_false] at hK
 split
 ·rename_i h
  simp only [h,if_true] at hK
  split
  ·rename_i he
   have he':a.text=emp:=he
   simp [he'] at hK
   exact hK _
  ·rename_i he
   have he':¬ (a.text=emp):=he
   simp [he'] at hK
   exact ak (MR s a.text (by omega) _) (hK _)
 rename_i h2
 simp only [h2,if_false] at hK
 split
 ·rename_i h
  simp only [h,if_true] at hK
  split
  ·rename_i he
   simp [he] at hK
   exact hK _
  ·rename_i he
   simp [he] at hK
   rw [HY (by show a.text.data.size+1≤_; omega),aa]
   have:=IJ (σ:=σ) s (mk (tl a.text++tl ⟨#[45]⟩))
   rw [od] at this
   exact ak (this _) (hK _)
 rename_i h3
 simp only [h3,if_false] at hK
 split
 ·rename_i h
  simp only [h,if_true] at hK
  split
  ·rename_i he
   have he':a.text=emp:=he
   simp [he'] at hK
   exact hK _
  ·rename_i he
   have he':¬ (a.text=emp):=he
   simp [he'] at hK
   exact ak (IJ s a.text _) (hK _)
 rename_i h4
 simp only [h4,if_false] at hK
 split
 ·rename_i h
  simp only [h,if_true] at hK
  split
  ·rename_i he
   have he':a.text=emp:=he
   simp [he'] at hK
   exact hK _
  ·rename_i he
   have he':¬ (a.text=emp):=he
   simp [he'] at hK
   exact ak (RO s a.text (by omega) _) (hK _)
 rename_i h5
 simp only [h5,if_false] at hK
 split
 ·rename_i h
  simp only [h,if_true] at hK
  split
  ·rename_i he
   have he':a.text=emp:=he
   simp [he'] at hK
   exact hK _
  ·rename_i he
   have he':¬ (a.text=emp):=he
   simp [he'] at hK
   exact ak (hC s a.text _ hs) (hK _)
 ·rename_i h
  simp [h] at hK
  exact hK _
def fL (l:List (ByteArray × ByteArray)) (a:At):Bool:=match l.find? fun p=>decide (p.1=a.name) with
 | some p=>soB p.2 a
 | none=>false
theorem MK (hC:qB σ) {l:List (ByteArray × ByteArray)} (hl:l.length≤reachBytes) (ht:∀ p ∈ l,p.2.data.size<4294967281) {a:At} (ha:OB a) {K:AV→Hp→Prop} {y3:Nat}:∀ (m k:Nat) (H:Hp),l.length - m=k→m≤l.length→y3<H.n→H.get y3=some (.cells (dS a) true)→(∀ H,K (Bo (fL (l.drop m) a)) H)→dz.L0 σ K (.ptr y3 0) (.imm 2 (l.map cF)) (I l.length) (I m) H:=by
 intro m k
 revert m
 induction k with
 | zero =>
  intro m H hk hm hn hg hK
  have:m=l.length:=by omega
  subst this
  refine dz.L0_step ?_
  simp
  simpa [fL] using hK H
 | succ k ih =>
  intro m H hk hm hn hg hK
  have hlt:m<l.length:=by omega
  obtain ⟨x,hx⟩:=bp hlt
  have hxl:=ht x (List.mem_of_getElem? hx)
  rw [bK hx] at hK
  have hny:y3≠H.n:=by omega
  have h1:(m:Int)<l.length:=by omega
  refine dz.L0_step ?_
  have hlx:ldL true 2 (cF x)=some (.agg (cF x)):=rfl
  simp only [a_,h1,decide_true,aa,ai,if_true,bm hx,dX,hlx,bA]
  simp [cF,hny,hg,bj]
  simp only [dS,jL,aa,ml,ai,decide_eq_true_eq]
  split
  ·rename_i h
   refine ak (S_ hC x.2 hxl a ha _) ?_
   have:fL (x::l.drop (m+1)) a=soB x.2 a:=by simp [fL,h]
   rw [this] at hK
   exact hK _
  ·rename_i h
   rw [cn hlt hl (by decide)]
   refine ih (m+1) _ (by omega) (by omega) (by simp; omega) (by simp [hny,hg,dS]) fun H'=>?_
   have:fL (x::l.drop (m+1)) a=fL (l.drop (m+1)) a:=by simp [fL,h]
   rw [this] at hK
   exact hK _
theorem O1 (hC:qB σ) (n:Nd) (hl:n.attrs.length≤reachBytes) (ht:∀ p ∈ n.attrs,p.2.data.size<4294967281) (a:At) (ha:OB a) (H:Hp):au Tryz.prog σ kq [.agg (aY n),.agg (dS a)] H (Bo (fL n.attrs a)) H:=by
 refine bg (fun K hK=>dz.run ?_) (by simp [aK,bt,sS,iR]) rfl H
 simp [aY]
 exact MK hC hl ht ha 0 _ _ rfl (Nat.zero_le _) (by simp) (by simp) (by simpa using hK)
end Go.Proofs.YthdcghnjndhecaaGreat.Ev
namespace Go.Proofs.YthdcghnjndhecaaGreat.Ev
set_option linter.unusedVariables false
set_option linter.unusedSimpArgs false
variable {σ:Sig}
structure SmN (n:Nd):Prop where
 classes:n.classes.length≤reachBytes
 attrs:n.attrs.length≤reachBytes
 texts:∀ p ∈ n.attrs,p.2.data.size<4294967281
structure vM (c:Cp):Prop where
 ids:c.ids.length≤reachBytes
 classes:c.classes.length≤reachBytes
 attrs:c.attrs.length≤reachBytes
 texts:∀ a ∈ c.attrs,OB a
 ps:c.pseudos.length≤reachBytes
def qD (n:Nd) (c:Cp):Bool:=decide (c.tag=emp)||decide (c.tag=n.tag)
def idB (n:Nd) (x:ByteArray):Bool:=!decide (x=emp)&&decide (x=n.id)
def me (n:Nd) (c:Cp):Bool:=qD n c&&(c.ids.all (idB n)&&(c.classes.all (j6 n.classes)&&c.attrs.all (fL n.attrs)))
section
attribute [local irreducible] ax.L0 ax.L1 ax.L2
theorem G0 (hC:qB σ) {n:Nd} (hn:SmN n) {c:Cp} (hc:vM c) {K:AV→Hp→Prop} {b7:Nat} {y5 y31 y32 y33 y47 y48 y49:AV}:∀ (m k:Nat) (H:Hp),c.attrs.length - m=k→m≤c.attrs.length→b7<H.n→H.get b7=some (.cells (aY n) true)→(∀ H,K (Bo ((c.attrs.drop m).all (fL n.attrs))) H) →
  ax.L2 σ K y5 (.ptr b7 0) y31 y32 y33 y47 y48 y49 (.imm 3 (c.attrs.map dS)) (I c.attrs.length) (I m) H:=by
 intro m k
 revert m
 induction k with
 | zero =>
  intro m H hk hm hb hg hK
  have:m=c.attrs.length:=by omega
  subst this
  refine ax.L2_step ?_
  simp
  simpa using hK H
 | succ k ih =>
  intro m H hk hm hb hg hK
  have hlt:m<c.attrs.length:=by omega
  obtain ⟨x,hx⟩:=bp hlt
  rw [bK hx] at hK
  have h1:(m:Int)<c.attrs.length:=by omega
  have hny:b7≠H.n:=by omega
  refine ax.L2_step ?_
  simp only [a_,h1,decide_true,aa,ai,if_true,bm hx,dX,EA,bA]
  simp [dS,hny,hg,bj]
  have e1:ldL true 3 [Sx x.name,I x.op,Sx x.text]=some (.agg (dS x)):=rfl
  rw [e1,aa]
  refine ak (O1 hC n hn.attrs hn.texts x (hc.texts x (List.mem_of_getElem? hx)) _) ?_
  simp only [eM,aa,ai]
  cases hb2:fL n.attrs x with
  | false =>
   simp
   simp [hb2] at hK
   exact hK _
  | true =>
   simp
   rw [cn hlt hc.attrs (by decide)]
   refine ih (m+1) _ (by omega) (by omega) (by simp; omega) (by simp [hny,hg]) fun H'=>?_
   simp [hb2] at hK
   simpa using hK H'
theorem JO (hC:qB σ) {n:Nd} (hn:SmN n) {c:Cp} (hc:vM c) {K:AV→Hp→Prop} {b5 b7:Nat} {y31 y32 y33 y60 y61 y62:AV}:∀ (m k:Nat) (H:Hp),c.classes.length - m=k→m≤c.classes.length→b7<H.n→H.get b7=some (.cells (aY n) true)→H.get b5=some (.cells (bU c) true)→(∀ H,K (Bo ((c.classes.drop m).all (j6 n.classes)&&c.attrs.all (fL n.attrs))) H) →
  ax.L1 σ K (.ptr b5 0) (.ptr b7 0) y31 y32 y33 (cG c.classes) (I c.classes.length) (I m) y60 y61 y62 H:=by
 intro m k
 revert m
 induction k with
 | zero =>
  intro m H hk hm hb hg hg5 hK
  have:m=c.classes.length:=by omega
  subst this
  refine ax.L1_step ?_
  simp [hg5]
  exact G0 hC hn hc 0 _ H rfl (Nat.zero_le _) hb hg (by simpa using hK)
 | succ k ih =>
  intro m H hk hm hb hg hg5 hK
  have hlt:m<c.classes.length:=by omega
  obtain ⟨x,hx⟩:=bp hlt
  rw [bK hx] at hK
  refine ax.L1_step ?_
  have h1:(m:Int)<c.classes.length:=by omega
  simp [h1,cG,bm hx,hg]
  refine ak (Ro n.classes hn.classes x _) ?_
  simp only [eM,aa,ai]
  cases hb2:j6 n.classes x with
  | false =>
   simp
   simp [hb2] at hK
   exact hK _
  | true =>
   simp
   rw [cn hlt hc.classes (by decide)]
   refine ih (m+1) _ (by omega) (by omega) hb hg hg5 fun H'=>?_
   simp [hb2] at hK
   simpa using hK H'
theorem C1 (hC:qB σ) {n:Nd} (hn:SmN n) {c:Cp} (hc:vM c) {K:AV→Hp→Prop} {b5 b7:Nat} {y47 y48 y49 y60 y61 y62:AV}:∀ (m k:Nat) (H:Hp),c.ids.length - m=k→m≤c.ids.length→b7<H.n→H.get b7=some (.cells (aY n) true)→H.get b5=some (.cells (bU c) true)→(∀ H,K (Bo ((c.ids.drop m).all (idB n)&&(c.classes.all (j6 n.classes)&&c.attrs.all (fL n.attrs)))) H) →
  ax.L0 σ K (.ptr b5 0) (.ptr b7 0) (cG c.ids) (I c.ids.length) (I m) y47 y48 y49 y60 y61 y62 H:=by
 intro m k
 revert m
 induction k with
 | zero =>
  intro m H hk hm hb hg hg5 hK
  have:m=c.ids.length:=by omega
  subst this
  refine ax.L0_step ?_
  simp [hg5]
  exact JO hC hn hc 0 _ H rfl (Nat.zero_le _) hb hg hg5 (by simpa using hK)
 | succ k ih =>
  intro m H hk hm hb hg hg5 hK
  have hlt:m<c.ids.length:=by omega
  obtain ⟨x,hx⟩:=bp hlt
  rw [bK hx] at hK
  refine ax.L0_step ?_
  have h1:(m:Int)<c.ids.length:=by omega
  simp [h1,cG,bm hx,hg]
  split
  ·rename_i h
   have h':x=emp:=h
   simp [idB,h'] at hK
   exact hK _
  ·rename_i h
   have h':¬ (x=emp):=h
   split
   ·rename_i h2
    have h3:idB n x=true:=by simp [idB,h',← h2]
    simp [h3] at hK
    rw [cn hlt hc.ids (by decide)]
    exact ih (m+1) _ (by omega) (by omega) hb hg hg5 fun H'=>by simpa using hK H'
   ·rename_i h2
    simp [idB,h',h2] at hK
    exact hK _
end
theorem Eg (hC:qB σ) {L:List Nd} {d:List Nat} (hN:L.length≤4096) {e:Nat} (he:e<L.length) (hn:SmN (bv (bV L e))) {c:Cp} (hc:vM c) (r:List AV) (hr:aK r=true) (H:Hp) :
  au Tryz.prog σ fk [.ip (cx L d::r),I (e:Int),.agg (bU c)] H (Bo (me (bv (bV L e)) c)) H:=by
 refine bg (fun K hK=>ax.run ?_) (by simp [aK,bt,cU,m5,hr]) rfl H
 simp
 refine ak (M0 L d hN he _) ?_
 have hgo:∀ H b5 b7,b7<H.n→H.get b7=some (.cells (aY (bv (bV L e))) true)→H.get b5=some (.cells (bU c) true)→qD (bv (bV L e)) c=true→ax.L0 σ K (.ptr b5 0) (.ptr b7 0) (cG c.ids) (I c.ids.length) (I 0) (.lit undef) (.lit undef) (.lit undef) (.lit undef) (.lit undef) (.lit undef) H:=by
  intro H b5 b7 hb hg hg5 ht
  unfold me at hK
  rw [ht,Bool.true_and] at hK
  exact C1 hC hn hc 0 _ H rfl (Nat.zero_le _) hb hg hg5 (by simpa using hK)
 have hov:bO [I 0,Sx ⟨#[]⟩,Sx ⟨#[]⟩,.lit (.slice none 0 0),.lit (.slice none 0 0)] 0 (aY (bv (bV L e)))=aY (bv (bV L e)):=bj (by simp)
 simp [hov]
 split
 ·rename_i h
  exact hgo _ _ _ (by simp) (by simp) (by simp) (by simp [qD,show c.tag=emp from h])
 ·rename_i h
  have h':¬ (c.tag=emp):=h
  split
  ·rename_i h2
   refine hgo _ _ _ (by simp) (by simp) (by simp) ?_
   simp [qD,h2]
  ·rename_i h2
   have:qD (bv (bV L e)) c=false:=by simp [qD,h',h2]
   unfold me at hK
   rw [this,Bool.false_and] at hK
   exact hK _
def uH (p a b:Int):Bool:=if a=0 then decide (p=b) else if 0<a then decide (b≤p)&&decide ((p - b) % a=0) else decide (p≤b)&&decide ((b - p) % (-a)=0)
theorem wrU (n:Int):wr .u64 n=n % 18446744073709551616:=by
 unfold wr
 simp [IntKind.wrap,IntKind.signed,IntKind.bits]
theorem EW {n:Int} (h0:0≤n) (h1:n<18446744073709551616):wr .u64 n=n:=by rw [wrU]; omega
theorem Mq (a b:Int):wr .u64 (wr .u64 a - wr .u64 b)=(a - b) % 18446744073709551616:=by
 rw [wrU,wrU,wrU]
 omega
theorem QO {p a b:Int} (hp:i64 p) (ha:i64 a) (hb:i64 b) (H:Hp):au Tryz.prog σ lE [I p,I a,I b] H (Bo (uH p a b)) H:=by
 refine bg (fun K hK=>q_.run ?_) (by simp [aK,bt]) rfl H
 unfold i64 at hp ha hb
 unfold uH at hK
 simp
 split
 ·rename_i h
  rw [if_pos h] at hK
  exact hK _
 rename_i h0
 rw [if_neg h0] at hK
 split
 ·rename_i h1
  rw [if_pos h1] at hK
  split
  ·rename_i h2
   have e1:wr .u64 a=a:=EW (by omega) (by omega)
   have e2:(p - b) % 18446744073709551616=p - b:=by omega
   rw [Mq,e1,e2,o7 _ _ _ h0,aa,fh,aa]
   have e3:(p - b).tmod a=(p - b) % a:=Int.tmod_eq_emod_of_nonneg (by omega)
   rw [e3]
   simpa [h2] using hK Hp.empty
  ·rename_i h2
   simpa [h2] using hK Hp.empty
 ·rename_i h1
  rw [if_neg h1] at hK
  split
  ·rename_i h2
   have e1:wr .u64 (-wr .u64 a)=-a:=by rw [wrU,wrU]; omega
   have e2:(b - p) % 18446744073709551616=b - p:=by omega
   have h3:(-a)≠0:=by omega
   rw [Mq,e2]
   rw [e1,o7 _ _ _ h3,aa,fh,aa]
   have e3:(b - p).tmod (-a)=(b - p) % (-a):=Int.tmod_eq_emod_of_nonneg (by omega)
   rw [e3]
   simpa [h2] using hK Hp.empty
  ·rename_i h2
   simpa [h2] using hK Hp.empty
theorem G6 (L:List Nd) (e:Nat):(qg L e).length≤e:=by
 have:=List.length_filter_le (fun j:Nat=>decide (0<j)&&decide (par L j=par L e)) (List.range e)
 simp at this
 unfold qg; omega
theorem uy (L:List Nd) (e:Nat):1≤dq L e∧dq L e≤(e:Int)+1:=by
 have:=G6 L e
 unfold dq; omega
theorem x_ {L:List Nd} {d:List Nat} (hB:cQ L L.length d) (hN:L.length≤4096) {e:Nat} (he:e<L.length) (r:List AV) (hr:aK r=true) (H:Hp):au Tryz.prog σ eN [.ip (cx L d::r),I (e:Int)] H (Bo (nZ L e)) H:=by
 refine bg (fun K hK=>ju.run ?_) (by simp [aK,bt,cU,hr]) rfl H
 simp
 refine ak (rz L d hN he _) ?_
 simp
 unfold nZ at hK
 split
 ·rename_i h
  simpa [h] using hK Hp.empty
 ·rename_i h
  refine ak (pP L d hN he _) ?_
  rcases ma hB he with h1 | ⟨p,h1,h2⟩
  ·omega
  ·have hpl:=uy L e
   obtain ⟨k,hk⟩:∃ k:Nat,dq L e=k:=⟨(dq L e).toNat,by omega⟩
   rw [h1,hk] at hK ⊢
   refine ak (wR L d hN (by omega) _) ?_
   have h3:¬ ((p:Int)<0):=by omega
   simp
   simpa [h3] using hK Hp.empty
def cm (L:List Nd) (e:Nat) (k:Int):Int:=if k=1∨k=2 then par L e else if k=3∨k=4 then dA L e else -1
def nF (k:Int):Bool:=decide (k=1)||decide (k=4)
theorem BY {L:List Nd} {d:List Nat} (hN:L.length≤4096) {e:Nat} (he:e<L.length) (k:Int) (r:List AV) (hr:aK r=true) (H:Hp):au Tryz.prog σ fc [.ip (cx L d::r),I (e:Int),I k] H (.tup [I (cm L e k),Bo (nF k)]) H:=by
 refine bg (fun K hK=>aW.run ?_) (by simp [aK,bt,cU,hr]) (by simp [iG,jH]) H
 have j0:∀ (b:Bool) (H:Hp),(b=true→k=1∨k=2)→(b=false→¬ (k=1∨k=2))→aW.J0 σ K (.ip (cx L d::r)) (I (e:Int)) (I k) (I k) (Bo b) (.lit undef) H:=by
  intro b H h1 h2
  refine aW.J0_step ?_
  cases b with
  | true =>
   have h:=h1 rfl
   simp
   refine ak (rz L d hN he _) ?_
   have h4:¬ (k=4):=by omega
   simpa [cm,nF,h,h4] using hK H
  | false =>
   have h:=h2 rfl
   have j1:∀ (c:Bool),(c=true→k=3∨k=4)→(c=false→¬ (k=3∨k=4))→aW.J1 σ K (.ip (cx L d::r)) (I (e:Int)) (I k) (I k) (Bo false) (Bo c) H:=by
    intro c h3 h4
    refine aW.J1_step ?_
    have h5:¬ (k=1):=by omega
    cases c with
    | true =>
     have h6:=h3 rfl
     simp
     refine ak (CD L d hN he _) ?_
     have h7:cm L e k=dA L e:=by unfold cm; rw [if_neg h,if_pos h6]
     have h8:nF k=decide (k=4):=by unfold nF; simp [h5]
     rw [h7,h8] at hK
     exact hK H
    | false =>
     have h6:=h4 rfl
     have h7:cm L e k=-1:=by unfold cm; rw [if_neg h,if_neg h6]
     have h8:nF k=false:=by unfold nF; simp; omega
     rw [h7,h8] at hK
     exact hK H
   simp
   split
   ·rename_i h3
    exact j1 (decide (k=3)) (fun _=>.inl h3) (fun h=>by simp [h3] at h)
   ·rename_i h3
    refine j1 _ (fun h=>.inr (by simpa using h)) (fun h=>?_)
    simp at h
    omega
 simp
 split
 ·rename_i h
  exact j0 (decide (k=1)) _ (fun _=>.inl h) (fun h'=>by simp [h] at h')
 ·rename_i h
  refine j0 _ _ (fun h=>.inr (by simpa using h)) (fun h'=>?_)
  simp at h'
  omega
end Go.Proofs.YthdcghnjndhecaaGreat.Ev

/- The walks, part 4: the evaluator, the functions, the laws. Conditions: none. -/
import Derived.Test.YtegioimlblnajaaGreatZ3
namespace Go.Proofs.YtegioimlblnajaaGreat.Ev
set_option maxRecDepth 100000
set_option maxHeartbeats 4000000
set_option linter.unusedVariables false
variable {σ:Sig} {K:AV→Hp→Prop} {H:Hp}
noncomputable def aV.code:Code:=ar Tryz.f10
noncomputable def aV.L0 (σ:Sig) (K:AV→Hp→Prop) (y2 y9 y12:AV) (H:Hp):Prop:=∀ j:Nat→AV,co (CZ σ) (lB (bB (sR (sL (sR (sR (sR (sR (sR (sR aV.code)))))))))) [j 0,j 1,y2,j 3,j 4,j 5,j 6,j 7,j 8,y9,j 10,j 11,y12,j 13,j 14,j 15,j 16,j 17,j 18,j 19,j 20,j 21,j 22,j 23,j 24,j 25,j 26,j 27,j 28,j 29,j 30,j 31,j 32,j 33,j 34,j 35,j 36,j 37,j 38,j 39,j 40,j 41,j 42,j 43,j 44,j 45,j 46,j 47,j 48,j 49,j 50,j 51,j 52,j 53,j 54,j 55,j 56,j 57,j 58,j 59,j 60,j 61,j 62,j 63,j 64,j 65,j 66,j 67,j 68,j 69,j 70,j 71,j 72,j 73,j 74,j 75,j 76,j 77,j 78,j 79,j 80,j 81,j 82,j 83,j 84,j 85,j 86,j 87,j 88,j 89,j 90,j 91,j 92,j 93,j 94,j 95,j 96,j 97,j 98] H (fun e T G=>(nx (fQ Tryz.f10 σ K) fun T G=>wp (CZ σ) 4612 (sR (sR (sR (sR (sR (sR (sR aV.code))))))) T G (fQ Tryz.f10 σ K)) (aI 0 e) T G)
theorem aV.L0_step {y2 y9 y12:AV} (h:bnd (aj .lss y12 (I 8)) fun x1=>ifB x1 (ai Tryz.prog σ da [y9,y2] H fun x2 H3=>bnd (aj .eql x2 (I 2)) fun x4=>ifB x4 (K (Bo false) H3) (bnd (cR [I 0,I 0] [(0,1,y2),(1,1,(I 0))]) fun l5=>ai Tryz.prog σ bj [y9,(.agg l5)] H3 fun x6 H7=>bnd (aj .add y12 (I 1)) fun x8=>aV.L0 σ K y2 y9 x8 H7)) (ai Tryz.prog σ da [y9,y2] H fun x9 H10=>bnd (aj .eql x9 (I 2)) fun x11=>ifB x11 (ai Tryz.prog σ dg [y9,(I 0)] H10 fun x12 H13=>bnd (aj .eql x12 (I 0)) fun x14=>bnd (cR [I 0,I 0] [(0,1,y2),(1,1,(I 0))]) fun l15=>ai Tryz.prog σ bj [y9,(.agg l15)] H13 fun x16 H17=>bnd (cR [I 0,I 0] [(0,1,y2),(1,1,(I 0))]) fun l18=>ai Tryz.prog σ bj [y9,(.agg l18)] H17 fun x19 H20=>ifB x14 (ai Tryz.prog σ cB [y9,(I 0)] H20 fun x21 H22=>ifB x21 (ai Tryz.prog σ dA [y9,(I 0)] H22 fun x23 H24=>bnd (aj .eql x23 (I 0)) fun x25=>ifB x25 (ai Tryz.prog σ dO [y9] H24 fun x26 H27=>bnd (aj .eql x26 (I 1)) fun x28=>ifB x28 (ai Tryz.prog σ dw [y9,y2] H27 fun x29 H30=>bnd (cw [.int .i64 0] 1 1 H30 [(0,1,(I 0))]) fun p31=>ai Tryz.prog σ fN [x29,p31.1] p31.2 fun x32 H33=>K x32 H33) (K (Bo false) H27)) (K (Bo false) H24)) (K (Bo false) H22)) (K (Bo false) H20)) (bnd (cR [I 0,I 0] [(0,1,y2),(1,1,(I 0))]) fun l34=>ai Tryz.prog σ bj [y9,(.agg l34)] H10 fun x35 H36=>bnd (cR [I 0,I 0] [(0,1,y2),(1,1,(I 0))]) fun l37=>ai Tryz.prog σ bj [y9,(.agg l37)] H36 fun x38 H39=>K (Bo false) H39))):aV.L0 σ K y2 y9 y12 H :=
 fun j=>lrd (g:=4612) (Eq.mpr (by kernel_rfl) h)
theorem aV.run {a0 a1 a2:AV} (h:ai Tryz.prog σ hI [] H fun x1 H2=>ai Tryz.prog σ hO [a0,(.lit (.slice none 0 0)),a1] H2 fun x3 H4=>bnd (unR .not x1) fun x5=>ifB x5 (K x1 H4) (bnd (unR .not x3) fun x6=>ifB x6 (K x1 H4) (bnd (aM a0) fun x7=>bnd (aj .eql x7 (I 0)) fun x8=>ifB x8 (K x1 H4) (bnd (aj .lss a2 (I 1)) fun x9=>ifB x9 (K x1 H4) (bnd (aj .geq a2 a1) fun x10=>ifB x10 (K x1 H4) (ai Tryz.prog σ iF [a0,(.lit (.slice none 0 0)),a1] H4 fun x11 H12=>bnd (exR x11 0) fun x13=>bnd (exR x11 1) fun x14=>bnd (exR x11 2) fun x15=>bnd (unR .not x15) fun x16=>ifB x16 (K (Bo false) H12) (aV.L0 σ K a2 x13 (I 0) H12))))))):∃ r H1,aq Tryz.prog σ eO [a0,a1,a2] H r H1∧K r H1 :=
 gwp 4612 (fn:=Tryz.f10) (f:=eO) (c:=aV.code) (by kernel_rfl) (by kernel_rfl) (Eq.mpr (by kernel_rfl) h)
noncomputable def bC.code:Code:=ar Tryz.f15
noncomputable def bC.L0 (σ:Sig) (K:AV→Hp→Prop) (y3 y5:AV) (H:Hp):Prop:=∀ j:Nat→AV,co (CZ σ) (lB (bB (sR (sL (sR (sR (sR (sR bC.code)))))))) [j 0,j 1,j 2,y3,j 4,y5,j 6,j 7,j 8,j 9,j 10,j 11,j 12,j 13,j 14,j 15,j 16,j 17,j 18,j 19,j 20,j 21,j 22,j 23,j 24,j 25,j 26,j 27,j 28,j 29,j 30,j 31,j 32,j 33,j 34,j 35,j 36,j 37,j 38,j 39,j 40,j 41,j 42,j 43,j 44,j 45,j 46,j 47,j 48,j 49,j 50,j 51,j 52,j 53,j 54,j 55,j 56,j 57,j 58,j 59,j 60,j 61] H (fun e T G=>(nx (fQ Tryz.f15 σ K) fun T G=>wp (CZ σ) 40 (sR (sR (sR (sR (sR bC.code))))) T G (fQ Tryz.f15 σ K)) (aI 0 e) T G)
theorem bC.L0_step {y3 y5:AV} (h:bnd (aj .lss y5 (I 9)) fun x1=>ifB x1 (bnd (cR [I 0,I 0] []) fun l2=>ai Tryz.prog σ bj [y3,(.agg l2)] H fun x3 H4=>bnd (unR .not x3) fun x5=>ifB x5 (K (Bo false) H4) (ai Tryz.prog σ dc [y3] H4 fun x6 H7=>bnd (aj .eql y5 (I 8)) fun x8=>bnd (kX .neq x6 x8) fun x9=>ifB x9 (K (Bo false) H7) (bnd (aj .add y5 (I 1)) fun x10=>bC.L0 σ K y3 x10 H7))) (ai Tryz.prog σ dK [y3,(I 0)] H fun x11 H12=>bnd (exR x11 0) fun x13=>bnd (exR x11 1) fun x14=>cY [I 0,I 0,I 0,I 0,I 0,I 0,I 0,I 0] H12 fun x15 H16=>bnd (stA 8 H16 x15 x13) fun H17=>ai Tryz.prog σ gh [x14] H17 fun x18 H19=>bnd (aj .eql x18 (I 0)) fun x20=>ifB x20 (bnd (jm 8 1 x15 (I 1)) fun x21=>bnd (ldA false 1 H19 x21) fun x22=>bnd (aj .eql x22 (I 16000)) fun x23=>ifB x23 (bnd (cR [I 0,I 0] []) fun l24=>ai Tryz.prog σ bj [y3,(.agg l24)] H19 fun x25 H26=>bnd (unR .not x25) fun x27=>K x27 H26) (K (Bo false) H19)) (K (Bo false) H19))):bC.L0 σ K y3 y5 H :=
 fun j=>lrd (g:=40) (Eq.mpr (by kernel_rfl) h)
theorem bC.run (h:bnd (cR [I 0,.lit (.string ⟨#[]⟩),.lit (.string ⟨#[]⟩),.lit (.slice none 0 0),.lit (.slice none 0 0)] [(0,1,(I (-1))),(1,1,(.lit (.string ⟨#[97]⟩)))]) fun l1=>bnd (cw [.int .i64 0,.string ⟨#[]⟩,.string ⟨#[]⟩,.slice none 0 0,.slice none 0 0] 5 1 H [(0,5,(.agg l1))]) fun p2=>ai Tryz.prog σ iL [p2.1] p2.2 fun x3 H4=>bnd (exR x3 0) fun x5=>bnd (exR x3 1) fun x6=>ai Tryz.prog σ iX [x5,(.lit (.slice none 0 0)),(I 1)] H4 fun x7 H8=>bnd (exR x7 0) fun x9=>bnd (exR x7 1) fun x10=>ai Tryz.prog σ gh [x10] H8 fun x11 H12=>bnd (aj .neq x11 (I 0)) fun x13=>ifB x13 (K (Bo false) H12) (bnd (fB .eql x9 (.lit (.pointer none))) fun x14=>ifB x14 (K (Bo false) H12) (bC.L0 σ K x9 (I 0) H12))):∃ r H1,aq Tryz.prog σ hI [] H r H1∧K r H1 :=
 gwp 40 (fn:=Tryz.f15) (f:=hI) (c:=bC.code) (by kernel_rfl) (by kernel_rfl) (Eq.mpr (by kernel_rfl) h)
noncomputable def gY.code:Code:=ar Tryz.f16
theorem gY.run {a0 a1 a2:AV} (h:ai Tryz.prog σ eh [a1] H fun x1 H2=>ifB x1 (ai Tryz.prog σ dk [a0] H2 fun x3 H4=>bnd (exR x3 0) fun x5=>bnd (exR x3 1) fun x6=>bnd (unR .not (Bo true)) fun x7=>ifB x7 (bnd (aj .eql x6 (I 0)) fun x8=>ifB x8 (bnd (aj .geq a2 (I 1)) fun x9=>ifB x9 (bnd (aj .leq a2 (I 64)) fun x10=>K x10 H4) (K (Bo false) H4)) (K (Bo false) H4)) (K (Bo false) H4)) (ai Tryz.prog σ iT [a0] H2 fun x11 H12=>ai Tryz.prog σ dk [a0] H12 fun x13 H14=>bnd (exR x13 0) fun x15=>bnd (exR x13 1) fun x16=>bnd (unR .not x11) fun x17=>ifB x17 (bnd (aj .eql x16 (I 0)) fun x18=>ifB x18 (bnd (aj .geq a2 (I 1)) fun x19=>ifB x19 (bnd (aj .leq a2 (I 64)) fun x20=>K x20 H14) (K (Bo false) H14)) (K (Bo false) H14)) (K (Bo false) H14))):∃ r H1,aq Tryz.prog σ hO [a0,a1,a2] H r H1∧K r H1 :=
 gwp 0 (fn:=Tryz.f16) (f:=hO) (c:=gY.code) (by kernel_rfl) (by kernel_rfl) (Eq.mpr (by kernel_rfl) h)
noncomputable def lQ.code:Code:=ar Tryz.f17
theorem lQ.run {a0 a1 a2:AV} (h:ai Tryz.prog σ eh [a1] H fun x1 H2=>ifB x1 (ai Tryz.prog σ dk [a0] H2 fun x3 H4=>bnd (exR x3 0) fun x5=>bnd (exR x3 1) fun x6=>K (.tup [(.lit (.pointer none)),(.lit (.pointer none)),(Bo false)]) H4) (ai Tryz.prog σ iT [a0] H2 fun x7 H8=>ai Tryz.prog σ dk [a0] H8 fun x9 H10=>bnd (exR x9 0) fun x11=>bnd (exR x9 1) fun x12=>ifB x7 (K (.tup [(.lit (.pointer none)),(.lit (.pointer none)),(Bo false)]) H10) (bnd (aj .neq x12 (I 0)) fun x13=>ifB x13 (K (.tup [(.lit (.pointer none)),(.lit (.pointer none)),(Bo false)]) H10) (bnd (aj .lss a2 (I 1)) fun x14=>ifB x14 (K (.tup [(.lit (.pointer none)),(.lit (.pointer none)),(Bo false)]) H10) (bnd (aj .gtr a2 (I 64)) fun x15=>ifB x15 (K (.tup [(.lit (.pointer none)),(.lit (.pointer none)),(Bo false)]) H10) (ai Tryz.prog σ iL [a0] H10 fun x16 H17=>bnd (exR x16 0) fun x18=>bnd (exR x16 1) fun x19=>ai Tryz.prog σ iX [x18,a1,a2] H17 fun x20 H21=>bnd (exR x20 0) fun x22=>bnd (exR x20 1) fun x23=>ai Tryz.prog σ ey [x11,a1,a2] H21 fun x24 H25=>bnd (exR x24 0) fun x26=>bnd (exR x24 1) fun x27=>ai Tryz.prog σ gh [x23] H25 fun x28 H29=>bnd (aj .eql x28 (I 0)) fun x30=>K (.tup [x22,x26,x30]) H29)))))):∃ r H1,aq Tryz.prog σ iF [a0,a1,a2] H r H1∧K r H1 :=
 gwp 0 (fn:=Tryz.f17) (f:=iF) (c:=lQ.code) (by kernel_rfl) (by kernel_rfl) (Eq.mpr (by kernel_rfl) h)
noncomputable def gt.code:Code:=ar Tryz.f18
theorem gt.run {a0 a1:AV} (h:dN a1 H fun x1 H2=>bnd (ao a0) fun x3=>bnd (ab x3 9) fun x4=>bnd (stA 1 H2 x4 (.lit (.slice none 0 0))) fun H5=>ai Tryz.prog σ dc [a0] H5 fun x6 H7=>ifB x6 (K (Bo false) H7) (bnd (ab x1 0) fun x8=>bnd (ldA false 1 H7 x8) fun x9=>ai Tryz.prog σ cL [a0,x9] H7 fun x10 H11=>bnd (unR .not x10) fun x12=>ifB x12 (K (Bo false) H11) (ai Tryz.prog σ gM [] H11 fun x13 H14=>bnd (ao a0) fun x15=>bnd (ab x15 5) fun x16=>kpK (x16,some 1) H11 H14 (bnd (ldA false 1 H14 x16) fun x17=>bnd (ab x1 0) fun x18=>kpK (x18,some 1) H11 H14 (bnd (ldA false 1 H14 x18) fun x19=>bnd (aw 1 x17 x19) fun x20=>kpK (x20,some 1) H11 H14 (bnd (ldA false 1 H14 x20) fun x21=>bnd (ao x21) fun x22=>bnd (ab x22 0) fun x23=>kpK (x23,some 1) H11 H14 (bnd (ldA false 1 H14 x23) fun x24=>bnd (tL false 5 1 x13 x24) fun x25=>bnd (ab x1 0) fun x26=>kpK (x26,some 1) H11 H14 (bnd (ldA false 1 H14 x26) fun x27=>kpK (x1,some 2) H11 H14 (bnd (ldA true 2 H14 x1) fun x28=>jd Tryz.prog σ x25 [a0,x27,x28] H14 fun x29 H30=>K (Bo true) H30))))))))):∃ r H1,aq Tryz.prog σ bj [a0,a1] H r H1∧K r H1 :=
 gwp 0 (fn:=Tryz.f18) (f:=bj) (c:=gt.code) (by kernel_rfl) (by kernel_rfl) (Eq.mpr (by kernel_rfl) h)
noncomputable def aR.code:Code:=ar Tryz.f21
noncomputable def aR.Q0 (σ:Sig) (K:AV→Hp→Prop):Exit→List AV→Hp→Prop:=(nx (fQ Tryz.f21 σ K) fun T G=>wp (CZ σ) 177 (sR (sR (sR (sR aR.code)))) T G (fQ Tryz.f21 σ K))
noncomputable def aR.L0 (σ:Sig) (K:AV→Hp→Prop) (y0 y4 y5 y7:AV) (H:Hp):Prop:=∀ j:Nat→AV,co (CZ σ) (lB (bB (sR (sL (sR (sR (sR aR.code))))))) [y0,j 1,j 2,j 3,y4,y5,j 6,y7,j 8,j 9,j 10,j 11,j 12,j 13,j 14,j 15,j 16,j 17,j 18,j 19,j 20,j 21,j 22,j 23,j 24,j 25,j 26,j 27,j 28,j 29,j 30,j 31,j 32,j 33,j 34,j 35,j 36,j 37,j 38,j 39,j 40,j 41,j 42,j 43,j 44,j 45,j 46,j 47,j 48,j 49,j 50,j 51,j 52,j 53,j 54,j 55,j 56,j 57,j 58,j 59,j 60,j 61,j 62,j 63,j 64,j 65,j 66,j 67,j 68,j 69,j 70,j 71,j 72,j 73,j 74,j 75,j 76,j 77,j 78,j 79] H (fun e T G=>(aR.Q0 σ K) (aI 0 e) T G)
noncomputable def aR.J1 (σ:Sig) (K:AV→Hp→Prop) (y0 y4 y5 y7:AV) (H:Hp):Prop:=∀ j:Nat→AV,wp (CZ σ) 177 (sR (sR (sR (sR (bB (sL (sR (lB (bB (sR (sL (sR (sR (sR aR.code)))))))))))))) [y0,j 1,j 2,j 3,y4,y5,j 6,y7,j 8,j 9,j 10,j 11,j 12,j 13,j 14,j 15,j 16,j 17,j 18,j 19,j 20,j 21,j 22,j 23,j 24,j 25,j 26,j 27,j 28,j 29,j 30,j 31,j 32,j 33,j 34,j 35,j 36,j 37,j 38,j 39,j 40,j 41,j 42,j 43,j 44,j 45,j 46,j 47,j 48,j 49,j 50,j 51,j 52,j 53,j 54,j 55,j 56,j 57,j 58,j 59,j 60,j 61,j 62,j 63,j 64,j 65,j 66,j 67,j 68,j 69,j 70,j 71,j 72,j 73,j 74,j 75,j 76,j 77,j 78,j 79] H (fun e T G=>(nx (nx (fun e T G=>(aR.Q0 σ K) (aI 0 e) T G) fun T G=>∀ j,co (CZ σ) (lB (bB (sR (sL (sR (sR (sR aR.code))))))) (ga 177 j 0 T) G (fun e T G=>(aR.Q0 σ K) (aI 0 e) T G)) fun T G=>wp (CZ σ) 177 (sR (sR (lB (bB (sR (sL (sR (sR (sR aR.code))))))))) T G (nx (fun e T G=>(aR.Q0 σ K) (aI 0 e) T G) fun T G=>∀ j,co (CZ σ) (lB (bB (sR (sL (sR (sR (sR aR.code))))))) (ga 177 j 0 T) G (fun e T G=>(aR.Q0 σ K) (aI 0 e) T G))) (aI 1 e) T G)
theorem aR.L0_step {y0 y4 y5 y7:AV} (h:bnd (aM y0) fun x1=>bnd (aj .lss y5 x1) fun x2=>ifB x2 (bnd (aw 5 y0 y5) fun x3=>bnd (ab x3 0) fun x4=>bnd (ldA false 1 H x4) fun x5=>bnd (aj .eql y5 (I 0)) fun x6=>ifB x6 (bnd (aj .neq x5 (I (-1))) fun x7=>ifB x7 (K (.tup [(.lit (.pointer none)),(I 10)]) H) (bnd (aj .gtr y5 (I 0)) fun x8=>ifB x8 (bnd (aj .lss x5 (I 0)) fun x9=>ifB x9 (K (.tup [(.lit (.pointer none)),(I 10)]) H) (bnd (aj .geq x5 y5) fun x10=>ifB x10 (K (.tup [(.lit (.pointer none)),(I 10)]) H) (bnd (aj .gtr y5 (I 0)) fun x11=>ifB x11 (bnd (ao y4) fun x12=>bnd (ab x12 1) fun x13=>bnd (ldA false 1 H x13) fun x14=>bnd (aw 1 x14 x5) fun x15=>bnd (ldA false 1 H x15) fun x16=>bnd (aj .add x16 (I 1)) fun x17=>aR.J1 σ K y0 y4 y5 x17 H) (aR.J1 σ K y0 y4 y5 (I 0) H)))) (bnd (aj .gtr y5 (I 0)) fun x18=>ifB x18 (bnd (ao y4) fun x19=>bnd (ab x19 1) fun x20=>bnd (ldA false 1 H x20) fun x21=>bnd (aw 1 x21 x5) fun x22=>bnd (ldA false 1 H x22) fun x23=>bnd (aj .add x23 (I 1)) fun x24=>aR.J1 σ K y0 y4 y5 x24 H) (aR.J1 σ K y0 y4 y5 (I 0) H)))) (bnd (aj .gtr y5 (I 0)) fun x25=>ifB x25 (bnd (aj .lss x5 (I 0)) fun x26=>ifB x26 (K (.tup [(.lit (.pointer none)),(I 10)]) H) (bnd (aj .geq x5 y5) fun x27=>ifB x27 (K (.tup [(.lit (.pointer none)),(I 10)]) H) (bnd (aj .gtr y5 (I 0)) fun x28=>ifB x28 (bnd (ao y4) fun x29=>bnd (ab x29 1) fun x30=>bnd (ldA false 1 H x30) fun x31=>bnd (aw 1 x31 x5) fun x32=>bnd (ldA false 1 H x32) fun x33=>bnd (aj .add x33 (I 1)) fun x34=>aR.J1 σ K y0 y4 y5 x34 H) (aR.J1 σ K y0 y4 y5 (I 0) H)))) (bnd (aj .gtr y5 (I 0)) fun x35=>ifB x35 (bnd (ao y4) fun x36=>bnd (ab x36 1) fun x37=>bnd (ldA false 1 H x37) fun x38=>bnd (aw 1 x38 x5) fun x39=>bnd (ldA false 1 H x39) fun x40=>bnd (aj .add x40 (I 1)) fun x41=>aR.J1 σ K y0 y4 y5 x41 H) (aR.J1 σ K y0 y4 y5 (I 0) H)))) (K (.tup [y4,(I 0)]) H)):aR.L0 σ K y0 y4 y5 y7 H :=
 fun j=>lrd (g:=177) (Eq.mpr (by kernel_rfl) h)
theorem aR.J1_step {y0 y4 y5 y7:AV} (h:bnd (aj .gtr y7 (I 256)) fun x1=>ifB x1 (K (.tup [(.lit (.pointer none)),(I 11)]) H) (bnd (ao y4) fun x2=>bnd (ab x2 0) fun x3=>bnd (ldA false 1 H x3) fun x4=>bnd (aw 5 y0 y5) fun x5=>bnd (ldA true 5 H x5) fun x6=>ai Tryz.prog σ eT [x6] H fun x7 H8=>kpK (x3,some 1) H H8 (bnd (cw [.int .i64 0,.string ⟨#[]⟩,.string ⟨#[]⟩,.slice none 0 0,.slice none 0 0] 5 1 H8 [(0,5,x7)]) fun p9=>kpK (x3,some 1) H8 p9.2 (bnd (eC false 5 88 p9.2 x4 p9.1) fun p10=>bnd (ao y4) fun x11=>bnd (ab x11 0) fun x12=>bnd (stA 1 p10.2 x12 p10.1) fun H13=>bnd (ao y4) fun x14=>bnd (ab x14 1) fun x15=>bnd (ldA false 1 H13 x15) fun x16=>bnd (cw [.int .i64 0] 1 1 H13 [(0,1,y7)]) fun p17=>bnd (eC false 1 8 p17.2 x16 p17.1) fun p18=>bnd (ao y4) fun x19=>bnd (ab x19 1) fun x20=>bnd (stA 1 p18.2 x20 p18.1) fun H21=>bnd (aj .add y5 (I 1)) fun x22=>aR.L0 σ K y0 y4 x22 y7 H21)))):aR.J1 σ K y0 y4 y5 y7 H :=
 fun j=>Eq.mpr (by kernel_rfl) h
theorem aR.run {a0:AV} (h:bnd (aM a0) fun x1=>bnd (aj .gtr x1 (I 4096)) fun x2=>ifB x2 (K (.tup [(.lit (.pointer none)),(I 3)]) H) (bnd (cR [.lit (.slice none 0 0),.lit (.slice none 0 0)] []) fun l3=>dN (.agg l3) H fun x4 H5=>aR.L0 σ K a0 x4 (I 0) (.lit undef) H5)):∃ r H1,aq Tryz.prog σ dk [a0] H r H1∧K r H1 :=
 gwp 177 (fn:=Tryz.f21) (f:=dk) (c:=aR.code) (by kernel_rfl) (by kernel_rfl) (Eq.mpr (by kernel_rfl) h)
noncomputable def fV.code:Code:=ar Tryz.f23
theorem fV.run {a0 a1:AV} (h:cY [I 0,I 0,I 0,I 0,I 0,I 0,I 0,I 0] H fun x1 H2=>ai Tryz.prog σ cB [a0,a1] H2 fun x3 H4=>bnd (unR .not x3) fun x5=>ifB x5 (bnd (cR [I 0,I 0,I 0,I 0,I 0,I 0,I 0,I 0] []) fun l6=>bnd (stA 8 H4 x1 (.agg l6)) fun H7=>bnd (ldA true 8 H7 x1) fun r8=>K (.tup [r8,(I 6)]) H7) (bnd (ao a0) fun x9=>bnd (ab x9 3) fun x10=>bnd (ao a0) fun x11=>bnd (ab x11 7) fun x12=>bnd (ldA false 1 H4 x12) fun x13=>bnd (aw 1 x13 a1) fun x14=>bnd (ldA false 1 H4 x14) fun x15=>ai Tryz.prog σ dF [x10,x15] H4 fun x16 H17=>bnd (exR x16 0) fun x18=>bnd (exR x16 1) fun x19=>bnd (stA 8 H17 x1 x18) fun H20=>bnd (ldA true 8 H20 x1) fun r21=>K (.tup [r21,x19]) H20)):∃ r H1,aq Tryz.prog σ dK [a0,a1] H r H1∧K r H1 :=
 gwp 0 (fn:=Tryz.f23) (f:=dK) (c:=fV.code) (by kernel_rfl) (by kernel_rfl) (Eq.mpr (by kernel_rfl) h)
noncomputable def nf.code:Code:=ar Tryz.f24
theorem nf.run {a0:AV} (h:K a0 H):∃ r H1,aq Tryz.prog σ gh [a0] H r H1∧K r H1 :=
 gwp 0 (fn:=Tryz.f24) (f:=gh) (c:=nf.code) (by kernel_rfl) (by kernel_rfl) (Eq.mpr (by kernel_rfl) h)
noncomputable def eL.code:Code:=ar Tryz.f26
theorem eL.run {a0:AV} (h:bnd (ao a0) fun x1=>bnd (ab x1 6) fun x2=>bnd (ldA false 1 H x2) fun x3=>bnd (aj .eql x3 (I 0)) fun x4=>K x4 H):∃ r H1,aq Tryz.prog σ dc [a0] H r H1∧K r H1 :=
 gwp 0 (fn:=Tryz.f26) (f:=dc) (c:=eL.code) (by kernel_rfl) (by kernel_rfl) (Eq.mpr (by kernel_rfl) h)
noncomputable def ef.code:Code:=ar Tryz.f27
theorem ef.run {a0 a1:AV} (h:bnd (aj .geq a1 (I 0)) fun x1=>ifB x1 (bnd (ao a0) fun x2=>bnd (ab x2 8) fun x3=>bnd (ldA false 1 H x3) fun x4=>bnd (aM x4) fun x5=>bnd (aj .lss a1 x5) fun x6=>ifB x6 (bnd (ao a0) fun x7=>bnd (ab x7 8) fun x8=>bnd (ldA false 1 H x8) fun x9=>bnd (aw 1 x9 a1) fun x10=>bnd (ldA false 1 H x10) fun x11=>K x11 H) (K (Bo false) H)) (K (Bo false) H)):∃ r H1,aq Tryz.prog σ cB [a0,a1] H r H1∧K r H1 :=
 gwp 0 (fn:=Tryz.f27) (f:=cB) (c:=ef.code) (by kernel_rfl) (by kernel_rfl) (Eq.mpr (by kernel_rfl) h)
noncomputable def fw.code:Code:=ar Tryz.f28
theorem fw.run {a0 a1:AV} (h:bnd (aj .lss a1 (I 0)) fun x1=>ifB x1 (K (I (-1)) H) (bnd (ao a0) fun x2=>bnd (ab x2 7) fun x3=>bnd (ldA false 1 H x3) fun x4=>bnd (aM x4) fun x5=>bnd (aj .geq a1 x5) fun x6=>ifB x6 (K (I (-1)) H) (bnd (ao a0) fun x7=>bnd (ab x7 7) fun x8=>bnd (ldA false 1 H x8) fun x9=>bnd (aw 1 x9 a1) fun x10=>bnd (ldA false 1 H x10) fun x11=>K x11 H))):∃ r H1,aq Tryz.prog σ dA [a0,a1] H r H1∧K r H1 :=
 gwp 0 (fn:=Tryz.f28) (f:=dA) (c:=fw.code) (by kernel_rfl) (by kernel_rfl) (Eq.mpr (by kernel_rfl) h)
noncomputable def gG.code:Code:=ar Tryz.f30
theorem gG.run {a0:AV} (h:bnd (ao a0) fun x1=>bnd (ab x1 3) fun x2=>ai Tryz.prog σ f_ [x2] H fun x3 H4=>K x3 H4):∃ r H1,aq Tryz.prog σ dO [a0] H r H1∧K r H1 :=
 gwp 0 (fn:=Tryz.f30) (f:=dO) (c:=gG.code) (by kernel_rfl) (by kernel_rfl) (Eq.mpr (by kernel_rfl) h)
noncomputable def fy.code:Code:=ar Tryz.f32
theorem fy.run {a0 a1:AV} (h:ai Tryz.prog σ cL [a0,a1] H fun x1 H2=>bnd (unR .not x1) fun x3=>ifB x3 (K (.lit (.slice none 0 0)) H2) (bnd (ao a0) fun x4=>bnd (ab x4 5) fun x5=>bnd (ldA false 1 H2 x5) fun x6=>bnd (aw 1 x6 a1) fun x7=>bnd (ldA false 1 H2 x7) fun x8=>bnd (ao x8) fun x9=>bnd (ab x9 2) fun x10=>bnd (ldA false 1 H2 x10) fun x11=>ai Tryz.prog σ c0 [x11] H2 fun x12 H13=>K x12 H13)):∃ r H1,aq Tryz.prog σ dw [a0,a1] H r H1∧K r H1 :=
 gwp 0 (fn:=Tryz.f32) (f:=dw) (c:=fy.code) (by kernel_rfl) (by kernel_rfl) (Eq.mpr (by kernel_rfl) h)
noncomputable def eV.code:Code:=ar Tryz.f34
theorem eV.run {a0 a1:AV} (h:ai Tryz.prog σ cL [a0,a1] H fun x1 H2=>bnd (unR .not x1) fun x3=>ifB x3 (K (I 0) H2) (bnd (ao a0) fun x4=>bnd (ab x4 5) fun x5=>bnd (ldA false 1 H2 x5) fun x6=>bnd (aw 1 x6 a1) fun x7=>bnd (ldA false 1 H2 x7) fun x8=>bnd (ao x8) fun x9=>bnd (ab x9 1) fun x10=>bnd (ldA false 1 H2 x10) fun x11=>ai Tryz.prog σ eP [x11] H2 fun x12 H13=>bnd (ao a0) fun x14=>bnd (ab x14 5) fun x15=>kpK (x15,some 1) H2 H13 (bnd (ldA false 1 H13 x15) fun x16=>bnd (aw 1 x16 a1) fun x17=>kpK (x17,some 1) H2 H13 (bnd (ldA false 1 H13 x17) fun x18=>bnd (ao x18) fun x19=>bnd (ab x19 3) fun x20=>bnd (ab x20 0) fun x21=>kpK (x21,some 1) H2 H13 (bnd (ldA false 1 H13 x21) fun x22=>bnd (aM x22) fun x23=>bnd (aj .add x12 x23) fun x24=>K x24 H13))))):∃ r H1,aq Tryz.prog σ dg [a0,a1] H r H1∧K r H1 :=
 gwp 0 (fn:=Tryz.f34) (f:=dg) (c:=eV.code) (by kernel_rfl) (by kernel_rfl) (Eq.mpr (by kernel_rfl) h)
noncomputable def gz.code:Code:=ar Tryz.f37
theorem gz.run {a0 a1:AV} (h:ai Tryz.prog σ cL [a0,a1] H fun x1 H2=>bnd (unR .not x1) fun x3=>ifB x3 (K (I (-1)) H2) (bnd (ao a0) fun x4=>bnd (ab x4 5) fun x5=>bnd (ldA false 1 H2 x5) fun x6=>bnd (aw 1 x6 a1) fun x7=>bnd (ldA false 1 H2 x7) fun x8=>bnd (ao x8) fun x9=>bnd (ab x9 0) fun x10=>bnd (ldA false 1 H2 x10) fun x11=>K x11 H2)):∃ r H1,aq Tryz.prog σ da [a0,a1] H r H1∧K r H1 :=
 gwp 0 (fn:=Tryz.f37) (f:=da) (c:=gz.code) (by kernel_rfl) (by kernel_rfl) (Eq.mpr (by kernel_rfl) h)
noncomputable def ay.code:Code:=ar Tryz.f38
noncomputable def ay.Q0 (σ:Sig) (K:AV→Hp→Prop):Exit→List AV→Hp→Prop:=(nx (fQ Tryz.f38 σ K) fun T G=>wp (CZ σ) 57 (sR (sR ay.code)) T G (fQ Tryz.f38 σ K))
noncomputable def ay.Q1 (σ:Sig) (K:AV→Hp→Prop):Exit→List AV→Hp→Prop:=(nx (fun e T G=>(ay.Q0 σ K) (aI 0 e) T G) fun T G=>∀ j,co (CZ σ) (lB (bB (sR (sL (sR ay.code))))) (ga 57 j 0 T) G (fun e T G=>(ay.Q0 σ K) (aI 0 e) T G))
noncomputable def ay.Q2 (σ:Sig) (K:AV→Hp→Prop):Exit→List AV→Hp→Prop:=(fun e T G=>(nx (ay.Q1 σ K) fun T G=>wp (CZ σ) 57 (sR (sR (lB (bB (sR (sL (sR ay.code))))))) T G (ay.Q1 σ K)) (aI 1 e) T G)
noncomputable def ay.L0 (σ:Sig) (K:AV→Hp→Prop) (y0 y3 y4 y5:AV) (H:Hp):Prop:=∀ j:Nat→AV,co (CZ σ) (lB (bB (sR (sL (sR ay.code))))) [y0,j 1,j 2,y3,y4,y5,j 6,j 7,j 8,j 9,j 10,j 11,j 12,j 13,j 14,j 15,j 16,j 17,j 18,j 19,j 20,j 21,j 22,j 23,j 24,j 25,j 26,j 27,j 28,j 29,j 30,j 31,j 32,j 33,j 34,j 35,j 36,j 37,j 38,j 39,j 40,j 41,j 42,j 43,j 44,j 45,j 46,j 47,j 48,j 49,j 50,j 51,j 52,j 53,j 54,j 55,j 56,j 57,j 58,j 59,j 60,j 61,j 62,j 63,j 64,j 65,j 66,j 67,j 68,j 69,j 70,j 71,j 72,j 73,j 74,j 75,j 76,j 77,j 78,j 79,j 80,j 81,j 82,j 83,j 84,j 85,j 86,j 87,j 88,j 89,j 90,j 91,j 92,j 93,j 94,j 95,j 96,j 97,j 98,j 99,j 100,j 101,j 102,j 103,j 104,j 105,j 106,j 107,j 108,j 109,j 110,j 111,j 112,j 113,j 114,j 115,j 116] H (fun e T G=>(ay.Q0 σ K) (aI 0 e) T G)
noncomputable def ay.L1 (σ:Sig) (K:AV→Hp→Prop) (y0 y3 y4 y5:AV) (H:Hp):Prop:=∀ j:Nat→AV,co (CZ σ) (lB (bB (sR (sL (sR (bB (sL (sR (lB (bB (sR (sL (sR ay.code))))))))))))) [y0,j 1,j 2,y3,y4,y5,j 6,j 7,j 8,j 9,j 10,j 11,j 12,j 13,j 14,j 15,j 16,j 17,j 18,j 19,j 20,j 21,j 22,j 23,j 24,j 25,j 26,j 27,j 28,j 29,j 30,j 31,j 32,j 33,j 34,j 35,j 36,j 37,j 38,j 39,j 40,j 41,j 42,j 43,j 44,j 45,j 46,j 47,j 48,j 49,j 50,j 51,j 52,j 53,j 54,j 55,j 56,j 57,j 58,j 59,j 60,j 61,j 62,j 63,j 64,j 65,j 66,j 67,j 68,j 69,j 70,j 71,j 72,j 73,j 74,j 75,j 76,j 77,j 78,j 79,j 80,j 81,j 82,j 83,j 84,j 85,j 86,j 87,j 88,j 89,j 90,j 91,j 92,j 93,j 94,j 95,j 96,j 97,j 98,j 99,j 100,j 101,j 102,j 103,j 104,j 105,j 106,j 107,j 108,j 109,j 110,j 111,j 112,j 113,j 114,j 115,j 116] H (fun e T G=>(nx (ay.Q2 σ K) fun T G=>wp (CZ σ) 57 (sR (sR (bB (sL (sR (lB (bB (sR (sL (sR ay.code)))))))))) T G (ay.Q2 σ K)) (aI 2 e) T G)
noncomputable def ay.L2 (σ:Sig) (K:AV→Hp→Prop) (y0 y3 y4 y5:AV) (H:Hp):Prop:=∀ j:Nat→AV,co (CZ σ) (lB (bB (sR (sR (sR (bB (sL (sR (lB (bB (sR (sL (sR ay.code))))))))))))) [y0,j 1,j 2,y3,y4,y5,j 6,j 7,j 8,j 9,j 10,j 11,j 12,j 13,j 14,j 15,j 16,j 17,j 18,j 19,j 20,j 21,j 22,j 23,j 24,j 25,j 26,j 27,j 28,j 29,j 30,j 31,j 32,j 33,j 34,j 35,j 36,j 37,j 38,j 39,j 40,j 41,j 42,j 43,j 44,j 45,j 46,j 47,j 48,j 49,j 50,j 51,j 52,j 53,j 54,j 55,j 56,j 57,j 58,j 59,j 60,j 61,j 62,j 63,j 64,j 65,j 66,j 67,j 68,j 69,j 70,j 71,j 72,j 73,j 74,j 75,j 76,j 77,j 78,j 79,j 80,j 81,j 82,j 83,j 84,j 85,j 86,j 87,j 88,j 89,j 90,j 91,j 92,j 93,j 94,j 95,j 96,j 97,j 98,j 99,j 100,j 101,j 102,j 103,j 104,j 105,j 106,j 107,j 108,j 109,j 110,j 111,j 112,j 113,j 114,j 115,j 116] H (fun e T G=>(ay.Q2 σ K) (aI 4 e) T G)
theorem ay.L0_step {y0 y3 y4 y5:AV} (h:bnd (aM y0) fun x1=>bnd (aj .lss y3 x1) fun x2=>ifB x2 (bnd (aj .lss y3 (I 100)) fun x3=>ifB x3 (bnd (aw 5 y0 y3) fun x4=>bnd (ab x4 3) fun x5=>bnd (ldA false 1 H x5) fun x6=>bnd (aM x6) fun x7=>bnd (aj .gtr x7 (I 8)) fun x8=>ifB x8 (K (Bo true) H) (bnd (aw 5 y0 y3) fun x9=>bnd (ab x9 4) fun x10=>bnd (ldA false 1 H x10) fun x11=>bnd (aM x11) fun x12=>bnd (aj .gtr x12 (I 8)) fun x13=>ifB x13 (K (Bo true) H) (bnd (aw 5 y0 y3) fun x14=>bnd (ab x14 1) fun x15=>bnd (ldA false 1 H x15) fun x16=>bnd (kT x16) fun x17=>bnd (aj .gtr x17 (I 60)) fun x18=>ifB x18 (K (Bo true) H) (bnd (aw 5 y0 y3) fun x19=>bnd (ab x19 2) fun x20=>bnd (ldA false 1 H x20) fun x21=>bnd (kT x21) fun x22=>bnd (aj .gtr x22 (I 60)) fun x23=>ifB x23 (K (Bo true) H) (ay.L1 σ K y0 y3 (I 0) y5 H))))) (bnd (aM y0) fun x24=>bnd (aj .gtr x24 (I 40)) fun x25=>ifB x25 (bnd (aM y0) fun x26=>bnd (aj .leq x26 (I 4096)) fun x27=>ifB x27 (K (Bo true) H) (bnd (aM y0) fun x28=>bnd (aj .gtr x28 (I 4100)) fun x29=>K x29 H)) (bnd (aM y0) fun x30=>bnd (aj .gtr x30 (I 4100)) fun x31=>K x31 H))) (bnd (aM y0) fun x32=>bnd (aj .gtr x32 (I 40)) fun x33=>ifB x33 (bnd (aM y0) fun x34=>bnd (aj .leq x34 (I 4096)) fun x35=>ifB x35 (K (Bo true) H) (bnd (aM y0) fun x36=>bnd (aj .gtr x36 (I 4100)) fun x37=>K x37 H)) (bnd (aM y0) fun x38=>bnd (aj .gtr x38 (I 4100)) fun x39=>K x39 H))):ay.L0 σ K y0 y3 y4 y5 H :=
 fun j=>lrd (g:=57) (Eq.mpr (by kernel_rfl) h)
theorem ay.L1_step {y0 y3 y4 y5:AV} (h:bnd (aw 5 y0 y3) fun x1=>bnd (ab x1 3) fun x2=>bnd (ldA false 1 H x2) fun x3=>bnd (aM x3) fun x4=>bnd (aj .lss y4 x4) fun x5=>ifB x5 (bnd (aw 5 y0 y3) fun x6=>bnd (ab x6 3) fun x7=>bnd (ldA false 1 H x7) fun x8=>bnd (aw 1 x8 y4) fun x9=>bnd (ldA false 1 H x9) fun x10=>bnd (kT x10) fun x11=>bnd (aj .gtr x11 (I 60)) fun x12=>ifB x12 (K (Bo true) H) (bnd (aj .add y4 (I 1)) fun x13=>ay.L1 σ K y0 y3 x13 y5 H)) (ay.L2 σ K y0 y3 y4 (I 0) H)):ay.L1 σ K y0 y3 y4 y5 H :=
 fun j=>lrd (g:=57) (Eq.mpr (by kernel_rfl) h)
theorem ay.L2_step {y0 y3 y4 y5:AV} (h:bnd (aw 5 y0 y3) fun x1=>bnd (ab x1 4) fun x2=>bnd (ldA false 1 H x2) fun x3=>bnd (aM x3) fun x4=>bnd (aj .lss y5 x4) fun x5=>ifB x5 (bnd (aw 5 y0 y3) fun x6=>bnd (ab x6 4) fun x7=>bnd (ldA false 1 H x7) fun x8=>bnd (aw 2 x8 y5) fun x9=>bnd (ab x9 0) fun x10=>bnd (ldA false 1 H x10) fun x11=>bnd (kT x11) fun x12=>bnd (aj .gtr x12 (I 60)) fun x13=>ifB x13 (K (Bo true) H) (bnd (aw 5 y0 y3) fun x14=>bnd (ab x14 4) fun x15=>bnd (ldA false 1 H x15) fun x16=>bnd (aw 2 x16 y5) fun x17=>bnd (ab x17 1) fun x18=>bnd (ldA false 1 H x18) fun x19=>bnd (kT x19) fun x20=>bnd (aj .gtr x20 (I 100)) fun x21=>ifB x21 (K (Bo true) H) (bnd (aj .add y5 (I 1)) fun x22=>ay.L2 σ K y0 y3 y4 x22 H))) (bnd (aj .add y3 (I 1)) fun x23=>ay.L0 σ K y0 x23 y4 y5 H)):ay.L2 σ K y0 y3 y4 y5 H :=
 fun j=>lrd (g:=57) (Eq.mpr (by kernel_rfl) h)
theorem ay.run {a0:AV} (h:ay.L0 σ K a0 (I 0) (.lit undef) (.lit undef) H):∃ r H1,aq Tryz.prog σ iT [a0] H r H1∧K r H1 :=
 gwp 57 (fn:=Tryz.f38) (f:=iT) (c:=ay.code) (by kernel_rfl) (by kernel_rfl) (Eq.mpr (by kernel_rfl) h)
noncomputable def e_.code:Code:=ar Tryz.f39
noncomputable def e_.L0 (σ:Sig) (K:AV→Hp→Prop) (y4 y13 y14 y15:AV) (H:Hp):Prop:=∀ j:Nat→AV,co (CZ σ) (lB (bB (sR (sL (sR (sR (sR e_.code))))))) [j 0,j 1,j 2,j 3,y4,j 5,j 6,j 7,j 8,j 9,j 10,j 11,j 12,y13,y14,y15,j 16,j 17,j 18,j 19,j 20,j 21,j 22,j 23,j 24,j 25,j 26] H (fun e T G=>(nx (fQ Tryz.f39 σ K) fun T G=>wp (CZ σ) 57360 (sR (sR (sR (sR e_.code)))) T G (fQ Tryz.f39 σ K)) (aI 0 e) T G)
theorem e_.L0_step {y4 y13 y14 y15:AV} (h:bnd (aj .lss y15 y14) fun x1=>ifB x1 (bnd (aw 5 y13 y15) fun x2=>bnd (ldA true 5 H x2) fun x3=>cY [I 0,.lit (.string ⟨#[]⟩),.lit (.string ⟨#[]⟩),.lit (.slice none 0 0),.lit (.slice none 0 0)] H fun x4 H5=>bnd (stA 5 H5 x4 x3) fun H6=>bnd (ldA true 5 H6 x4) fun x7=>ai Tryz.prog σ gF [y4,x7] H6 fun x8 H9=>bnd (aj .neq x8 (I 0)) fun x10=>ifB x10 (K (.tup [(.lit (.pointer none)),x8]) H9) (bnd (aj .add y15 (I 1)) fun x11=>e_.L0 σ K y4 y13 y14 x11 H9)) (K (.tup [y4,(I 0)]) H)):e_.L0 σ K y4 y13 y14 y15 H :=
 fun j=>lrd (g:=57360) (Eq.mpr (by kernel_rfl) h)
theorem e_.run {a0:AV} (h:bnd (aM a0) fun x1=>bnd (aj .gtr x1 (I 4096)) fun x2=>ifB x2 (K (.tup [(.lit (.pointer none)),(I 3)]) H) (bnd (cR [.lit (.slice none 0 0)] []) fun l3=>dN (.agg l3) H fun x4 H5=>bnd (aM a0) fun x6=>e_.L0 σ K x4 a0 x6 (I 0) H5)):∃ r H1,aq Tryz.prog σ iL [a0] H r H1∧K r H1 :=
 gwp 57360 (fn:=Tryz.f39) (f:=iL) (c:=e_.code) (by kernel_rfl) (by kernel_rfl) (Eq.mpr (by kernel_rfl) h)
noncomputable def aH.code:Code:=ar Tryz.f40
noncomputable def aH.L0 (σ:Sig) (K:AV→Hp→Prop) (y2 y8 y9 y41 y42 y54 y55:AV) (H:Hp):Prop:=∀ j:Nat→AV,co (CZ σ) (lB (bB (sR (sL (sR (sR (sR (sR aH.code)))))))) [j 0,j 1,y2,j 3,j 4,j 5,j 6,j 7,y8,y9,j 10,j 11,j 12,j 13,j 14,j 15,j 16,j 17,j 18,j 19,j 20,j 21,j 22,j 23,j 24,j 25,j 26,j 27,j 28,j 29,j 30,j 31,j 32,j 33,j 34,j 35,j 36,j 37,j 38,j 39,j 40,y41,y42,j 43,j 44,j 45,j 46,j 47,j 48,j 49,j 50,j 51,j 52,j 53,y54,y55,j 56,j 57,j 58,j 59,j 60,j 61,j 62,j 63,j 64,j 65,j 66,j 67,j 68,j 69,j 70,j 71,j 72,j 73,j 74,j 75,j 76,j 77,j 78,j 79,j 80,j 81,j 82,j 83,j 84,j 85,j 86,j 87,j 88,j 89,j 90,j 91] H (fun e T G=>(nx (fQ Tryz.f40 σ K) fun T G=>wp (CZ σ) 54049792598213380 (sR (sR (sR (sR (sR aH.code))))) T G (fQ Tryz.f40 σ K)) (aI 0 e) T G)
noncomputable def aH.L1 (σ:Sig) (K:AV→Hp→Prop) (y2 y8 y9 y41 y42 y54 y55:AV) (H:Hp):Prop:=∀ j:Nat→AV,co (CZ σ) (lB (bB (sR (sL (sR (sR (sR (sR (sR aH.code))))))))) [j 0,j 1,y2,j 3,j 4,j 5,j 6,j 7,y8,y9,j 10,j 11,j 12,j 13,j 14,j 15,j 16,j 17,j 18,j 19,j 20,j 21,j 22,j 23,j 24,j 25,j 26,j 27,j 28,j 29,j 30,j 31,j 32,j 33,j 34,j 35,j 36,j 37,j 38,j 39,j 40,y41,y42,j 43,j 44,j 45,j 46,j 47,j 48,j 49,j 50,j 51,j 52,j 53,y54,y55,j 56,j 57,j 58,j 59,j 60,j 61,j 62,j 63,j 64,j 65,j 66,j 67,j 68,j 69,j 70,j 71,j 72,j 73,j 74,j 75,j 76,j 77,j 78,j 79,j 80,j 81,j 82,j 83,j 84,j 85,j 86,j 87,j 88,j 89,j 90,j 91] H (fun e T G=>(nx (fQ Tryz.f40 σ K) fun T G=>wp (CZ σ) 54049792598213380 (sR (sR (sR (sR (sR (sR aH.code)))))) T G (fQ Tryz.f40 σ K)) (aI 2 e) T G)
noncomputable def aH.L2 (σ:Sig) (K:AV→Hp→Prop) (y2 y8 y9 y41 y42 y54 y55:AV) (H:Hp):Prop:=∀ j:Nat→AV,co (CZ σ) (lB (bB (sR (sR (cT (sR (sL (sR (sR (sR (sR (sR (sR aH.code))))))))))))) [j 0,j 1,y2,j 3,j 4,j 5,j 6,j 7,y8,y9,j 10,j 11,j 12,j 13,j 14,j 15,j 16,j 17,j 18,j 19,j 20,j 21,j 22,j 23,j 24,j 25,j 26,j 27,j 28,j 29,j 30,j 31,j 32,j 33,j 34,j 35,j 36,j 37,j 38,j 39,j 40,y41,y42,j 43,j 44,j 45,j 46,j 47,j 48,j 49,j 50,j 51,j 52,j 53,y54,y55,j 56,j 57,j 58,j 59,j 60,j 61,j 62,j 63,j 64,j 65,j 66,j 67,j 68,j 69,j 70,j 71,j 72,j 73,j 74,j 75,j 76,j 77,j 78,j 79,j 80,j 81,j 82,j 83,j 84,j 85,j 86,j 87,j 88,j 89,j 90,j 91] H (fun e T G=>(nx (fQ Tryz.f40 σ K) fun T G=>∀ j,wp (CZ σ) 54049792598213380 (sR (sR (sR (sR (sR (sR (sR aH.code))))))) (ga 54049792598213380 j 0 T) G (fQ Tryz.f40 σ K)) (aI 4 e) T G)
noncomputable def aH.J3 (σ:Sig) (K:AV→Hp→Prop) (y2 y8 y9 y41 y42 y54 y55:AV) (H:Hp):Prop:=∀ j:Nat→AV,wp (CZ σ) 54049792598213380 (sR (sR (sR (sR (sR (sR (sR aH.code))))))) [j 0,j 1,y2,j 3,j 4,j 5,j 6,j 7,y8,y9,j 10,j 11,j 12,j 13,j 14,j 15,j 16,j 17,j 18,j 19,j 20,j 21,j 22,j 23,j 24,j 25,j 26,j 27,j 28,j 29,j 30,j 31,j 32,j 33,j 34,j 35,j 36,j 37,j 38,j 39,j 40,y41,y42,j 43,j 44,j 45,j 46,j 47,j 48,j 49,j 50,j 51,j 52,j 53,y54,y55,j 56,j 57,j 58,j 59,j 60,j 61,j 62,j 63,j 64,j 65,j 66,j 67,j 68,j 69,j 70,j 71,j 72,j 73,j 74,j 75,j 76,j 77,j 78,j 79,j 80,j 81,j 82,j 83,j 84,j 85,j 86,j 87,j 88,j 89,j 90,j 91] H (fQ Tryz.f40 σ K)
theorem aH.L0_step {y2 y8 y9 y41 y42 y54 y55:AV} (h:bnd (aj .lss y42 y41) fun x1=>ifB x1 (bnd (ao y8) fun x2=>bnd (ab x2 7) fun x3=>bnd (ldA false 1 H x3) fun x4=>bnd (cw [.int .i64 0] 1 1 H [(0,1,(I (-1)))]) fun p5=>bnd (eC false 1 8 p5.2 x4 p5.1) fun p6=>bnd (ao y8) fun x7=>bnd (ab x7 7) fun x8=>bnd (stA 1 p6.2 x8 p6.1) fun H9=>bnd (aj .add y42 (I 1)) fun x10=>aH.L0 σ K y2 y8 y9 y41 x10 y54 y55 H9) (aH.L1 σ K y2 y8 y9 y41 y42 y2 (I 0) H)):aH.L0 σ K y2 y8 y9 y41 y42 y54 y55 H :=
 fun j=>lrd (g:=54049792598213380) (Eq.mpr (by kernel_rfl) h)
theorem aH.L1_step {y2 y8 y9 y41 y42 y54 y55:AV} (h:bnd (aj .lss y55 y54) fun x1=>ifB x1 (bnd (ao y8) fun x2=>bnd (ab x2 5) fun x3=>bnd (ldA false 1 H x3) fun x4=>ai Tryz.prog σ ji [(I 16)] H fun x5 H6=>kpK (x3,some 1) H H6 (ai Tryz.prog σ nj [(I 8)] H6 fun x7 H8=>kpK (x3,some 1) H6 H8 (bnd (cR [I 0,.lit (.pointer none),.lit (.pointer none),.lit (.slice none 0 0),I 0,I 0,I 0] [(1,1,x5),(2,1,x7),(6,1,(I (-1)))]) fun l9=>dN (.agg l9) H8 fun x10 H11=>kpK (x3,some 1) H8 H11 (bnd (cw [.pointer none] 1 1 H11 [(0,1,x10)]) fun p12=>kpK (x3,some 1) H11 p12.2 (bnd (eC false 1 8 p12.2 x4 p12.1) fun p13=>bnd (ao y8) fun x14=>bnd (ab x14 5) fun x15=>bnd (stA 1 p13.2 x15 p13.1) fun H16=>bnd (aj .add y55 (I 1)) fun x17=>aH.L1 σ K y2 y8 y9 y41 y42 y54 x17 H16))))) (bnd (ao y8) fun x18=>bnd (ab x18 6) fun x19=>bnd (ldA false 1 H x19) fun x20=>bnd (aj .gtr x20 (I 0)) fun x21=>ifB x21 (bnd (ao y8) fun x22=>bnd (ab x22 5) fun x23=>bnd (ldA false 1 H x23) fun x24=>bnd (aw 1 x24 (I 0)) fun x25=>bnd (ldA false 1 H x25) fun x26=>bnd (ao x26) fun x27=>bnd (ab x27 1) fun x28=>bnd (ldA false 1 H x28) fun x29=>ai Tryz.prog σ de [x29,(I 0),(I 1),(I 0)] H fun x30 H31=>aH.L2 σ K y2 y8 x29 y41 y42 y54 y55 H31) (aH.J3 σ K y2 y8 y9 y41 y42 y54 y55 H))):aH.L1 σ K y2 y8 y9 y41 y42 y54 y55 H :=
 fun j=>lrd (g:=54049792598213380) (Eq.mpr (by kernel_rfl) h)
theorem aH.L2_step {y2 y8 y9 y41 y42 y54 y55:AV} (h:ai Tryz.prog σ cX [y9,(I 0)] H fun x1 H2=>ifB x1 (ai Tryz.prog σ ci [y9,(I 0)] H2 fun x3 H4=>aH.L2 σ K y2 y8 y9 y41 y42 y54 y55 H4) (aH.J3 σ K y2 y8 y9 y41 y42 y54 y55 H2)):aH.L2 σ K y2 y8 y9 y41 y42 y54 y55 H :=
 fun j=>lrd (g:=54049792598213380) (Eq.mpr (by kernel_rfl) h)
theorem aH.J3_step {y2 y8 y9 y41 y42 y54 y55:AV} (h:K (.tup [y8,(I 0)]) H):aH.J3 σ K y2 y8 y9 y41 y42 y54 y55 H :=
 fun j=>Eq.mpr (by kernel_rfl) h
theorem aH.run {a0 a1 a2:AV} (h:bnd (fB .eql a0 (.lit (.pointer none))) fun x1=>ifB x1 (K (.tup [(.lit (.pointer none)),(I 1)]) H) (bnd (aj .lss a2 (I 1)) fun x2=>ifB x2 (K (.tup [(.lit (.pointer none)),(I 1)]) H) (bnd (aj .gtr a2 (I 64)) fun x3=>ifB x3 (K (.tup [(.lit (.pointer none)),(I 1)]) H) (ai Tryz.prog σ eH [a1] H fun x4 H5=>ai Tryz.prog σ eU [a0] H5 fun x6 H7=>ai Tryz.prog σ eU [a0] H7 fun x8 H9=>bnd (lE [.bool false] 1 1 H9 x8 x8) fun p10=>bnd (cR [.lit (.pointer none),.lit (.slice none 0 0),.lit (.slice none 0 0),.lit (.slice none 0 0),I 0,.lit (.slice none 0 0),I 0,.lit (.slice none 0 0),.lit (.slice none 0 0),.lit (.slice none 0 0)] [(0,1,a0),(1,1,x4),(6,1,x6),(8,1,p10.1)]) fun l11=>dN (.agg l11) p10.2 fun x12 H13=>bnd (ao x12) fun x14=>bnd (ab x14 1) fun x15=>bnd (ldA false 1 H13 x15) fun x16=>ai Tryz.prog σ fj [x16] H13 fun x17 H18=>bnd (ao x12) fun x19=>bnd (ab x19 2) fun x20=>bnd (stA 1 H18 x20 x17) fun H21=>bnd (ao x12) fun x22=>bnd (ab x22 6) fun x23=>bnd (ldA false 1 H21 x23) fun x24=>aH.L0 σ K a2 x12 (.lit undef) x24 (I 0) (.lit undef) (.lit undef) H21)))):∃ r H1,aq Tryz.prog σ iX [a0,a1,a2] H r H1∧K r H1 :=
 gwp 54049792598213380 (fn:=Tryz.f40) (f:=iX) (c:=aH.code) (by kernel_rfl) (by kernel_rfl) (Eq.mpr (by kernel_rfl) h)
noncomputable def ck.code:Code:=ar Tryz.f42
noncomputable def ck.L0 (σ:Sig) (K:AV→Hp→Prop) (y0 y1 y5:AV) (H:Hp):Prop:=∀ j:Nat→AV,co (CZ σ) (lB (bB (sR (sL (sR (sR ck.code)))))) [y0,y1,j 2,j 3,j 4,y5,j 6,j 7,j 8,j 9,j 10,j 11,j 12,j 13,j 14,j 15,j 16,j 17,j 18,j 19,j 20,j 21,j 22,j 23,j 24,j 25] H (fun e T G=>(nx (fQ Tryz.f42 σ K) fun T G=>wp (CZ σ) 35 (sR (sR (sR ck.code))) T G (fQ Tryz.f42 σ K)) (aI 0 e) T G)
theorem ck.L0_step {y0 y1 y5:AV} (h:bnd (aM y0) fun x1=>bnd (aj .lss y5 x1) fun x2=>ifB x2 (bnd (aw 1 y0 y5) fun x3=>bnd (ldA false 1 H x3) fun x4=>bnd (aw 1 y1 y5) fun x5=>bnd (ldA false 1 H x5) fun x6=>bnd (aj .neq x4 x6) fun x7=>ifB x7 (K (Bo false) H) (bnd (aj .add y5 (I 1)) fun x8=>ck.L0 σ K y0 y1 x8 H)) (K (Bo true) H)):ck.L0 σ K y0 y1 y5 H :=
 fun j=>lrd (g:=35) (Eq.mpr (by kernel_rfl) h)
theorem ck.run {a0 a1:AV} (h:bnd (aM a0) fun x1=>bnd (aM a1) fun x2=>bnd (aj .neq x1 x2) fun x3=>ifB x3 (K (Bo false) H) (ck.L0 σ K a0 a1 (I 0) H)):∃ r H1,aq Tryz.prog σ fN [a0,a1] H r H1∧K r H1 :=
 gwp 35 (fn:=Tryz.f42) (f:=fN) (c:=ck.code) (by kernel_rfl) (by kernel_rfl) (Eq.mpr (by kernel_rfl) h)
noncomputable def al.code:Code:=ar Tryz.f43
noncomputable def al.L0 (σ:Sig) (K:AV→Hp→Prop) (y0 y2 y8 y9 y10:AV) (H:Hp):Prop:=∀ j:Nat→AV,co (CZ σ) (lB (bB (sR (sL (sR (sR (sR al.code))))))) [y0,j 1,y2,j 3,j 4,j 5,j 6,j 7,y8,y9,y10,j 11,j 12,j 13,j 14,j 15,j 16,j 17,j 18,j 19,j 20,j 21,j 22,j 23,j 24,j 25,j 26,j 27,j 28,j 29,j 30,j 31,j 32,j 33,j 34,j 35,j 36,j 37,j 38,j 39,j 40,j 41,j 42,j 43,j 44,j 45,j 46,j 47,j 48,j 49,j 50,j 51,j 52,j 53,j 54,j 55,j 56,j 57,j 58,j 59,j 60,j 61,j 62,j 63,j 64,j 65,j 66,j 67,j 68,j 69,j 70,j 71,j 72,j 73,j 74,j 75,j 76,j 77,j 78,j 79,j 80,j 81,j 82,j 83,j 84,j 85,j 86,j 87,j 88,j 89,j 90,j 91,j 92,j 93,j 94,j 95,j 96,j 97,j 98,j 99,j 100,j 101,j 102] H (fun e T G=>(nx (fQ Tryz.f43 σ K) fun T G=>wp (CZ σ) 1797 (sR (sR (sR (sR al.code)))) T G (fQ Tryz.f43 σ K)) (aI 0 e) T G)
noncomputable def al.L1 (σ:Sig) (K:AV→Hp→Prop) (y0 y2 y8 y9 y10:AV) (H:Hp):Prop:=∀ j:Nat→AV,co (CZ σ) (lB (bB (sR (sL (sR (sR (sR (sR al.code)))))))) [y0,j 1,y2,j 3,j 4,j 5,j 6,j 7,y8,y9,y10,j 11,j 12,j 13,j 14,j 15,j 16,j 17,j 18,j 19,j 20,j 21,j 22,j 23,j 24,j 25,j 26,j 27,j 28,j 29,j 30,j 31,j 32,j 33,j 34,j 35,j 36,j 37,j 38,j 39,j 40,j 41,j 42,j 43,j 44,j 45,j 46,j 47,j 48,j 49,j 50,j 51,j 52,j 53,j 54,j 55,j 56,j 57,j 58,j 59,j 60,j 61,j 62,j 63,j 64,j 65,j 66,j 67,j 68,j 69,j 70,j 71,j 72,j 73,j 74,j 75,j 76,j 77,j 78,j 79,j 80,j 81,j 82,j 83,j 84,j 85,j 86,j 87,j 88,j 89,j 90,j 91,j 92,j 93,j 94,j 95,j 96,j 97,j 98,j 99,j 100,j 101,j 102] H (fun e T G=>(nx (fQ Tryz.f43 σ K) fun T G=>wp (CZ σ) 1797 (sR (sR (sR (sR (sR al.code))))) T G (fQ Tryz.f43 σ K)) (aI 2 e) T G)
noncomputable def al.J2 (σ:Sig) (K:AV→Hp→Prop) (y0 y2 y8 y9 y10:AV) (H:Hp):Prop:=∀ j:Nat→AV,wp (CZ σ) 1797 (sR (sR (sR (sR (sR (sR al.code)))))) [y0,j 1,y2,j 3,j 4,j 5,j 6,j 7,y8,y9,y10,j 11,j 12,j 13,j 14,j 15,j 16,j 17,j 18,j 19,j 20,j 21,j 22,j 23,j 24,j 25,j 26,j 27,j 28,j 29,j 30,j 31,j 32,j 33,j 34,j 35,j 36,j 37,j 38,j 39,j 40,j 41,j 42,j 43,j 44,j 45,j 46,j 47,j 48,j 49,j 50,j 51,j 52,j 53,j 54,j 55,j 56,j 57,j 58,j 59,j 60,j 61,j 62,j 63,j 64,j 65,j 66,j 67,j 68,j 69,j 70,j 71,j 72,j 73,j 74,j 75,j 76,j 77,j 78,j 79,j 80,j 81,j 82,j 83,j 84,j 85,j 86,j 87,j 88,j 89,j 90,j 91,j 92,j 93,j 94,j 95,j 96,j 97,j 98,j 99,j 100,j 101,j 102] H (fQ Tryz.f43 σ K)
theorem al.L0_step {y0 y2 y8 y9 y10:AV} (h:bnd (aj .lss y9 y2) fun x1=>ifB x1 (bnd (ao y8) fun x2=>bnd (ab x2 3) fun x3=>bnd (ldA false 1 H x3) fun x4=>ai Tryz.prog σ ff [(I 16)] H fun x5 H6=>kpK (x3,some 1) H H6 (ai Tryz.prog σ eY [(I 8)] H6 fun x7 H8=>kpK (x3,some 1) H6 H8 (bnd (cR [I 0,I 0,I 0,I 0,.lit (.pointer none),.lit (.pointer none),.lit (.slice none 0 0),.lit (.slice none 0 0)] [(4,1,x5),(5,1,x7)]) fun l9=>bnd (cw [.int .i64 0,.int .i64 0,.int .i64 0,.int .i64 0,.pointer none,.pointer none,.slice none 0 0,.slice none 0 0] 8 1 H8 [(0,8,(.agg l9))]) fun p10=>kpK (x3,some 1) H8 p10.2 (bnd (eC false 8 96 p10.2 x4 p10.1) fun p11=>bnd (ao y8) fun x12=>bnd (ab x12 3) fun x13=>bnd (stA 1 p11.2 x13 p11.1) fun H14=>bnd (aj .add y9 (I 1)) fun x15=>al.L0 σ K y0 y2 y8 x15 y10 H14)))) (al.L1 σ K y0 y2 y8 y9 (I 0) H)):al.L0 σ K y0 y2 y8 y9 y10 H :=
 fun j=>lrd (g:=1797) (Eq.mpr (by kernel_rfl) h)
theorem al.L1_step {y0 y2 y8 y9 y10:AV} (h:bnd (ao y0) fun x1=>bnd (ab x1 0) fun x2=>bnd (ldA false 1 H x2) fun x3=>bnd (aM x3) fun x4=>bnd (aj .lss y10 x4) fun x5=>ifB x5 (bnd (ao y8) fun x6=>bnd (ab x6 6) fun x7=>bnd (ldA false 1 H x7) fun x8=>bnd (cw [.int .i64 0] 1 1 H [(0,1,(I (-1)))]) fun p9=>bnd (eC false 1 8 p9.2 x8 p9.1) fun p10=>bnd (ao y8) fun x11=>bnd (ab x11 6) fun x12=>bnd (stA 1 p10.2 x12 p10.1) fun H13=>bnd (ao y8) fun x14=>bnd (ab x14 7) fun x15=>bnd (ldA false 1 H13 x15) fun x16=>bnd (cw [.bool false] 1 1 H13 [(0,1,(Bo false))]) fun p17=>bnd (eC false 1 1 p17.2 x16 p17.1) fun p18=>bnd (ao y8) fun x19=>bnd (ab x19 7) fun x20=>bnd (stA 1 p18.2 x20 p18.1) fun H21=>bnd (aj .add y10 (I 1)) fun x22=>al.L1 σ K y0 y2 y8 y9 x22 H21) (bnd (ao y0) fun x23=>bnd (ab x23 0) fun x24=>bnd (ldA false 1 H x24) fun x25=>bnd (aM x25) fun x26=>bnd (aj .gtr x26 (I 0)) fun x27=>ifB x27 (bnd (ao y8) fun x28=>bnd (ab x28 3) fun x29=>bnd (ldA false 1 H x29) fun x30=>bnd (aw 8 x30 (I 0)) fun x31=>bnd (ab x31 4) fun x32=>bnd (ldA false 1 H x32) fun x33=>bnd (ao x33) fun x34=>bnd (ab x34 3) fun x35=>bnd (ldA false 1 H x35) fun x36=>bnd (aw 1 x36 (I 0)) fun x37=>bnd (stA 1 H x37 (I 0)) fun H38=>bnd (ao y8) fun x39=>bnd (ab x39 3) fun x40=>bnd (ldA false 1 H38 x40) fun x41=>bnd (aw 8 x41 (I 0)) fun x42=>bnd (ab x42 4) fun x43=>bnd (ldA false 1 H38 x43) fun x44=>bnd (ao x44) fun x45=>bnd (ab x45 2) fun x46=>bnd (stA 1 H38 x46 (I 1)) fun H47=>al.J2 σ K y0 y2 y8 y9 y10 H47) (al.J2 σ K y0 y2 y8 y9 y10 H))):al.L1 σ K y0 y2 y8 y9 y10 H :=
 fun j=>lrd (g:=1797) (Eq.mpr (by kernel_rfl) h)
theorem al.J2_step {y0 y2 y8 y9 y10:AV} (h:K (.tup [y8,(I 0)]) H):al.J2 σ K y0 y2 y8 y9 y10 H :=
 fun j=>Eq.mpr (by kernel_rfl) h
theorem al.run {a0 a1 a2:AV} (h:bnd (fB .eql a0 (.lit (.pointer none))) fun x1=>ifB x1 (K (.tup [(.lit (.pointer none)),(I 1)]) H) (bnd (aj .lss a2 (I 1)) fun x2=>ifB x2 (K (.tup [(.lit (.pointer none)),(I 1)]) H) (bnd (aj .gtr a2 (I 64)) fun x3=>ifB x3 (K (.tup [(.lit (.pointer none)),(I 1)]) H) (ai Tryz.prog σ dE [a1] H fun x4 H5=>bnd (ao a0) fun x6=>bnd (ab x6 0) fun x7=>kpK (x7,some 1) H H5 (bnd (ldA false 1 H5 x7) fun x8=>bnd (aM x8) fun x9=>bnd (cR [.lit (.pointer none),.lit (.slice none 0 0),.lit (.slice none 0 0),.lit (.slice none 0 0),I 0,.lit (.slice none 0 0),.lit (.slice none 0 0),.lit (.slice none 0 0),.lit (.slice none 0 0)] [(0,1,a0),(1,1,a1),(2,1,x4),(4,1,x9)]) fun l10=>dN (.agg l10) H5 fun x11 H12=>al.L0 σ K a0 a2 x11 (I 0) (.lit undef) H12))))):∃ r H1,aq Tryz.prog σ ey [a0,a1,a2] H r H1∧K r H1 :=
 gwp 1797 (fn:=Tryz.f43) (f:=ey) (c:=al.code) (by kernel_rfl) (by kernel_rfl) (Eq.mpr (by kernel_rfl) h)
noncomputable def bQ.code:Code:=ar Tryz.f47
noncomputable def bQ.L0 (σ:Sig) (K:AV→Hp→Prop) (y0 y3 y4 y5 y6:AV) (H:Hp):Prop:=∀ j:Nat→AV,co (CZ σ) (lB (bB (sR (sL (sR (sR (sR bQ.code))))))) [y0,j 1,j 2,y3,y4,y5,y6,j 7,j 8,j 9,j 10,j 11,j 12,j 13,j 14,j 15,j 16,j 17,j 18,j 19,j 20,j 21,j 22,j 23,j 24,j 25,j 26,j 27,j 28,j 29,j 30,j 31,j 32,j 33,j 34,j 35,j 36,j 37,j 38,j 39,j 40,j 41,j 42,j 43,j 44,j 45,j 46,j 47,j 48,j 49,j 50,j 51,j 52,j 53,j 54,j 55,j 56,j 57,j 58,j 59,j 60,j 61,j 62] H (fun e T G=>(nx (fQ Tryz.f47 σ K) fun T G=>wp (CZ σ) 121 (sR (sR (sR (sR bQ.code)))) T G (fQ Tryz.f47 σ K)) (aI 0 e) T G)
noncomputable def bQ.L1 (σ:Sig) (K:AV→Hp→Prop) (y0 y3 y4 y5 y6:AV) (H:Hp):Prop:=∀ j:Nat→AV,co (CZ σ) (lB (bB (sR (sL (sR (sR (sR (sR (sR bQ.code))))))))) [y0,j 1,j 2,y3,y4,y5,y6,j 7,j 8,j 9,j 10,j 11,j 12,j 13,j 14,j 15,j 16,j 17,j 18,j 19,j 20,j 21,j 22,j 23,j 24,j 25,j 26,j 27,j 28,j 29,j 30,j 31,j 32,j 33,j 34,j 35,j 36,j 37,j 38,j 39,j 40,j 41,j 42,j 43,j 44,j 45,j 46,j 47,j 48,j 49,j 50,j 51,j 52,j 53,j 54,j 55,j 56,j 57,j 58,j 59,j 60,j 61,j 62] H (fun e T G=>(nx (fQ Tryz.f47 σ K) fun T G=>wp (CZ σ) 121 (sR (sR (sR (sR (sR (sR bQ.code)))))) T G (fQ Tryz.f47 σ K)) (aI 2 e) T G)
theorem bQ.L0_step {y0 y3 y4 y5 y6:AV} (h:bnd (aM y0) fun x1=>bnd (aj .lss y4 x1) fun x2=>ifB x2 (bnd (aw 2 y0 y4) fun x3=>bnd (ab x3 0) fun x4=>bnd (ldA false 1 H x4) fun x5=>bnd (aM x5) fun x6=>bnd (aj .gtr x6 (I 8)) fun x7=>ifB x7 (K (Bo true) H) (bnd (aw 2 y0 y4) fun x8=>bnd (ab x8 1) fun x9=>bnd (ldA false 1 H x9) fun x10=>bnd (aM x10) fun x11=>bnd (aj .gtr x11 (I 30)) fun x12=>ifB x12 (K (Bo true) H) (bnd (aw 2 y0 y4) fun x13=>bnd (ab x13 0) fun x14=>bnd (ldA false 1 H x14) fun x15=>bnd (eC false 1 24 H y3 x15) fun p16=>bnd (aj .add y4 (I 1)) fun x17=>bQ.L0 σ K y0 p16.1 x17 y5 y6 p16.2))) (bQ.L1 σ K y0 y3 y4 (I 0) (I 0) H)):bQ.L0 σ K y0 y3 y4 y5 y6 H :=
 fun j=>lrd (g:=121) (Eq.mpr (by kernel_rfl) h)
theorem bQ.L1_step {y0 y3 y4 y5 y6:AV} (h:bnd (aM y3) fun x1=>bnd (aj .lss y6 x1) fun x2=>ifB x2 (bnd (aj .add y6 (I 1)) fun x3=>bnd (qr 1 y3 (some y6) (some x3) none) fun x4=>ai Tryz.prog σ rK [x4] H fun x5 H6=>ifB x5 (K (Bo true) H6) (bnd (aw 1 y3 y6) fun x7=>bnd (ab x7 0) fun x8=>bnd (ldA false 1 H6 x8) fun x9=>bnd (aM x9) fun x10=>bnd (aj .add y5 x10) fun x11=>bnd (aj .add y6 (I 1)) fun x12=>bQ.L1 σ K y0 y3 y4 x11 x12 H6)) (bnd (aj .gtr y5 (I 120)) fun x13=>K x13 H)):bQ.L1 σ K y0 y3 y4 y5 y6 H :=
 fun j=>lrd (g:=121) (Eq.mpr (by kernel_rfl) h)
theorem bQ.run {a0:AV} (h:bnd (aM a0) fun x1=>bnd (aj .gtr x1 (I 30)) fun x2=>ifB x2 (K (Bo true) H) (bQ.L0 σ K a0 (.lit (.slice none 0 0)) (I 0) (.lit undef) (.lit undef) H)):∃ r H1,aq Tryz.prog σ eh [a0] H r H1∧K r H1 :=
 gwp 121 (fn:=Tryz.f47) (f:=eh) (c:=bQ.code) (by kernel_rfl) (by kernel_rfl) (Eq.mpr (by kernel_rfl) h)
noncomputable def fP.code:Code:=ar Tryz.f54
theorem fP.run {a0 a1:AV} (h:bnd (aj .geq a1 (I 0)) fun x1=>ifB x1 (bnd (ao a0) fun x2=>bnd (ab x2 5) fun x3=>bnd (ldA false 1 H x3) fun x4=>bnd (aM x4) fun x5=>bnd (aj .lss a1 x5) fun x6=>K x6 H) (K (Bo false) H)):∃ r H1,aq Tryz.prog σ cL [a0,a1] H r H1∧K r H1 :=
 gwp 0 (fn:=Tryz.f54) (f:=cL) (c:=fP.code) (by kernel_rfl) (by kernel_rfl) (Eq.mpr (by kernel_rfl) h)
noncomputable def lV.code:Code:=ar Tryz.f55
theorem lV.run (h:cY [.lit (.nilFunc),.lit (.nilFunc),.lit (.nilFunc),.lit (.nilFunc),.lit (.nilFunc)] H fun x1 H2=>bnd (cR [.lit (.nilFunc),.lit (.nilFunc),.lit (.nilFunc),.lit (.nilFunc),.lit (.nilFunc)] [(0,1,(.fn bK [])),(1,1,(.fn bG [])),(2,1,(.fn bF [])),(3,1,(.fn bp [])),(4,1,(.fn bL []))]) fun l3=>bnd (stA 5 H2 x1 (.agg l3)) fun H4=>bnd (ldA true 5 H4 x1) fun r5=>K r5 H4):∃ r H1,aq Tryz.prog σ gM [] H r H1∧K r H1 :=
 gwp 0 (fn:=Tryz.f55) (f:=gM) (c:=lV.code) (by kernel_rfl) (by kernel_rfl) (Eq.mpr (by kernel_rfl) h)
noncomputable def cq.code:Code:=ar Tryz.f56
noncomputable def cq.L0 (σ:Sig) (K:AV→Hp→Prop) (y1 y2 y3 y4:AV) (H:Hp):Prop:=∀ j:Nat→AV,co (CZ σ) (lB (bB (sR (sL (sR (sR (sR (sR cq.code)))))))) [j 0,y1,y2,y3,y4,j 5,j 6,j 7,j 8,j 9,j 10,j 11,j 12,j 13,j 14,j 15,j 16,j 17,j 18,j 19,j 20,j 21,j 22,j 23,j 24,j 25,j 26,j 27,j 28,j 29,j 30,j 31,j 32,j 33,j 34,j 35,j 36,j 37,j 38,j 39] H (fun e T G=>(nx (fQ Tryz.f56 σ K) fun T G=>wp (CZ σ) 30 (sR (sR (sR (sR (sR cq.code))))) T G (fQ Tryz.f56 σ K)) (aI 0 e) T G)
theorem cq.L0_step {y1 y2 y3 y4:AV} (h:bnd (ab y1 4) fun x1=>bnd (ldA false 1 H x1) fun x2=>bnd (aM x2) fun x3=>bnd (aj .lss y4 x3) fun x4=>ifB x4 (bnd (ab y1 4) fun x5=>bnd (ldA false 1 H x5) fun x6=>bnd (aw 2 x6 y4) fun x7=>bnd (ab x7 0) fun x8=>bnd (ldA false 1 H x8) fun x9=>ai Tryz.prog σ gu [x9] H fun x10 H11=>bnd (ab y1 4) fun x12=>kpK (x12,some 1) H H11 (bnd (ldA false 1 H11 x12) fun x13=>bnd (aw 2 x13 y4) fun x14=>bnd (ab x14 1) fun x15=>kpK (x15,some 1) H H11 (bnd (ldA false 1 H11 x15) fun x16=>bnd (cR [.lit (.string ⟨#[]⟩),.lit (.string ⟨#[]⟩)] [(0,1,x10),(1,1,x16)]) fun l17=>bnd (cw [.string ⟨#[]⟩,.string ⟨#[]⟩] 2 1 H11 [(0,2,(.agg l17))]) fun p18=>bnd (eC false 2 32 p18.2 y3 p18.1) fun p19=>bnd (aj .add y4 (I 1)) fun x20=>cq.L0 σ K y1 y2 p19.1 x20 p19.2))) (bnd (ab y1 4) fun x21=>bnd (stA 1 H x21 y3) fun H22=>bnd (ldA true 5 H22 y1) fun x23=>bnd (stA 5 H22 y2 x23) fun H24=>bnd (ldA true 5 H24 y2) fun r25=>K r25 H24)):cq.L0 σ K y1 y2 y3 y4 H :=
 fun j=>lrd (g:=30) (Eq.mpr (by kernel_rfl) h)
theorem cq.run {a0:AV} (h:dN a0 H fun x1 H2=>cY [I 0,.lit (.string ⟨#[]⟩),.lit (.string ⟨#[]⟩),.lit (.slice none 0 0),.lit (.slice none 0 0)] H2 fun x3 H4=>bnd (ab x1 1) fun x5=>bnd (ldA false 1 H4 x5) fun x6=>ai Tryz.prog σ gu [x6] H4 fun x7 H8=>bnd (ab x1 1) fun x9=>bnd (stA 1 H8 x9 x7) fun H10=>bnd (ab x1 3) fun x11=>bnd (ldA false 1 H10 x11) fun x12=>bnd (eC false 1 16 H10 (.lit (.slice none 0 0)) x12) fun p13=>bnd (ab x1 3) fun x14=>bnd (stA 1 p13.2 x14 p13.1) fun H15=>cq.L0 σ K x1 x3 (.lit (.slice none 0 0)) (I 0) H15):∃ r H1,aq Tryz.prog σ eT [a0] H r H1∧K r H1 :=
 gwp 30 (fn:=Tryz.f56) (f:=eT) (c:=cq.code) (by kernel_rfl) (by kernel_rfl) (Eq.mpr (by kernel_rfl) h)
noncomputable def ij.code:Code:=ar Tryz.f59
theorem ij.run {a0 a1:AV} (h:cY [I 0,I 0,I 0,I 0,I 0,I 0,I 0,I 0] H fun x1 H2=>ai Tryz.prog σ dT [a0,a1] H2 fun x3 H4=>bnd (unR .not x3) fun x5=>ifB x5 (bnd (cR [I 0,I 0,I 0,I 0,I 0,I 0,I 0,I 0] []) fun l6=>bnd (stA 8 H4 x1 (.agg l6)) fun H7=>bnd (ldA true 8 H7 x1) fun r8=>K (.tup [r8,(I 6)]) H7) (bnd (ao a0) fun x9=>bnd (ab x9 0) fun x10=>bnd (ldA false 1 H4 x10) fun x11=>bnd (aw 9 x11 a1) fun x12=>bnd (ab x12 0) fun x13=>bnd (ldA true 8 H4 x13) fun x14=>bnd (stA 8 H4 x1 x14) fun H15=>bnd (ldA true 8 H15 x1) fun r16=>K (.tup [r16,(I 0)]) H15)):∃ r H1,aq Tryz.prog σ dF [a0,a1] H r H1∧K r H1 :=
 gwp 0 (fn:=Tryz.f59) (f:=dF) (c:=ij.code) (by kernel_rfl) (by kernel_rfl) (Eq.mpr (by kernel_rfl) h)
noncomputable def gj.code:Code:=ar Tryz.f61
theorem gj.run {a0 a1:AV} (h:bnd (aj .lss a1 (I 0)) fun x1=>ifB x1 (K (I 0) H) (bnd (ao a0) fun x2=>bnd (ab x2 0) fun x3=>bnd (ldA false 1 H x3) fun x4=>bnd (aM x4) fun x5=>bnd (aj .geq a1 x5) fun x6=>ifB x6 (K (I 0) H) (bnd (ao a0) fun x7=>bnd (ab x7 0) fun x8=>bnd (ldA false 1 H x8) fun x9=>bnd (aw 9 x9 a1) fun x10=>bnd (ab x10 8) fun x11=>bnd (ldA false 1 H x11) fun x12=>K x12 H))):∃ r H1,aq Tryz.prog σ dQ [a0,a1] H r H1∧K r H1 :=
 gwp 0 (fn:=Tryz.f61) (f:=dQ) (c:=gj.code) (by kernel_rfl) (by kernel_rfl) (Eq.mpr (by kernel_rfl) h)
noncomputable def g6.code:Code:=ar Tryz.f62
theorem g6.run {a0:AV} (h:bnd (ao a0) fun x1=>bnd (ab x1 1) fun x2=>bnd (ldA false 1 H x2) fun x3=>K x3 H):∃ r H1,aq Tryz.prog σ f_ [a0] H r H1∧K r H1 :=
 gwp 0 (fn:=Tryz.f62) (f:=f_) (c:=g6.code) (by kernel_rfl) (by kernel_rfl) (Eq.mpr (by kernel_rfl) h)
end Go.Proofs.YtegioimlblnajaaGreat.Ev
namespace Go.Proofs.YtegioimlblnajaaGreat.Ev
set_option maxRecDepth 100000
set_option maxHeartbeats 4000000
set_option linter.unusedVariables false
variable {σ:Sig} {K:AV→Hp→Prop} {H:Hp}
noncomputable def bt.code:Code:=ar Tryz.f68
noncomputable def bt.R0 (j:Nat→AV) (y3:AV):li:=⟨[j 0,j 1,j 2,y3,j 4,j 5,j 6,j 7,j 8,j 9,j 10,j 11,j 12,j 13,j 14,j 15],rP (bB (sR (sL (sR (sR bt.code))))),rA (bB (sR (sL (sR (sR bt.code))))),rB (bB (sR (sL (sR (sR bt.code)))))⟩
theorem bt.R0_round {j:Nat→AV} {y3 p0:AV} {id:Nat} (hl:H.get id=some (.loop (bt.R0 j y3) .ready none)) (h:cY [I 0,I 0] H fun x1 H2=>bnd (stA 2 H2 x1 p0) fun H3=>H3.get id=some (.loop (bt.R0 j y3) .ready none)∧(bnd (some (H3.set id (some (.loop (bt.R0 j y3) .busy none)))) fun H4=>bnd (ldA false 1 H4 y3) fun x5=>bnd (ab x1 0) fun x6=>bnd (ldA false 1 H4 x6) fun x7=>bnd (cw [.int .i64 0] 1 1 H4 [(0,1,x7)]) fun p8=>bnd (eC false 1 8 p8.2 x5 p8.1) fun p9=>bnd (stA 1 p9.2 y3 p9.1) fun H10=>t9 id (bt.R0 j y3) K .normal H10)):jd Tryz.prog σ (.yl id) [p0] H K :=
 sH (CZ σ) vt 8 hl (by kernel_rfl) (by kernel_rfl) (by kernel_rfl) (Eq.mpr (by kernel_rfl) h)
theorem bt.run {a0:AV} (h:cY [.lit (.slice none 0 0)] H fun x1 H2=>bnd (ao a0) fun x3=>bnd (ab x3 1) fun x4=>ai Tryz.prog σ dZ [x4] H2 fun x5 H6=>∀ j:Nat→AV,pg Tryz.prog σ x5 (bt.R0 j x1) H6 (fun H7=>bnd (ldA false 1 H7 x1) fun x9=>K x9 H7) (fun H7=>K (.lit (.slice none 0 0)) H7) (fun i8 H7=>False)):∃ r H1,aq Tryz.prog σ c0 [a0] H r H1∧K r H1 :=
 gwp 8 (fn:=Tryz.f68) (f:=c0) (c:=bt.code) (by kernel_rfl) (by kernel_rfl) (Eq.mpr (by kernel_rfl) h)
noncomputable def ir.code:Code:=ar Tryz.f70
theorem ir.run {a0:AV} (h:bnd (ao a0) fun x1=>bnd (ab x1 2) fun x2=>bnd (ldA false 1 H x2) fun x3=>bnd (ao a0) fun x4=>bnd (ab x4 1) fun x5=>bnd (ldA false 1 H x5) fun x6=>bnd (aj .sub x3 x6) fun x7=>bnd (qo [(I 0),x7]) fun x8=>K x8 H):∃ r H1,aq Tryz.prog σ eP [a0] H r H1∧K r H1 :=
 gwp 0 (fn:=Tryz.f70) (f:=eP) (c:=ir.code) (by kernel_rfl) (by kernel_rfl) (Eq.mpr (by kernel_rfl) h)
noncomputable def aB.code:Code:=ar Tryz.f71
noncomputable def aB.J0 (σ:Sig) (K:AV→Hp→Prop) (y0 y5 y6 y7:AV) (H:Hp):Prop:=∀ j:Nat→AV,wp (CZ σ) 225 (sR (sR (sR (cT (sR (cE (sR (bB (sL (sR (sR (sR aB.code)))))))))))) [y0,j 1,j 2,j 3,j 4,y5,y6,y7,j 8,j 9,j 10,j 11,j 12,j 13,j 14,j 15,j 16,j 17,j 18,j 19,j 20,j 21,j 22,j 23,j 24,j 25,j 26,j 27,j 28,j 29,j 30,j 31,j 32,j 33,j 34,j 35,j 36,j 37,j 38,j 39,j 40,j 41,j 42,j 43,j 44,j 45,j 46,j 47,j 48,j 49,j 50,j 51,j 52,j 53,j 54,j 55,j 56,j 57,j 58,j 59,j 60,j 61,j 62,j 63,j 64,j 65,j 66,j 67,j 68,j 69,j 70,j 71,j 72,j 73,j 74,j 75,j 76,j 77,j 78,j 79,j 80,j 81,j 82,j 83,j 84,j 85,j 86,j 87,j 88,j 89,j 90,j 91,j 92,j 93,j 94,j 95,j 96,j 97] H (fun e T G=>(nx (fQ Tryz.f71 σ K) fun T G=>∀ j,wp (CZ σ) 225 (sR (sR (sR (sR aB.code)))) (ga 225 j 0 T) G (fQ Tryz.f71 σ K)) (aI 0 e) T G)
noncomputable def aB.J1 (σ:Sig) (K:AV→Hp→Prop) (y0 y5 y6 y7:AV) (H:Hp):Prop:=∀ j:Nat→AV,wp (CZ σ) 225 (sR (sR (sR (sR aB.code)))) [y0,j 1,j 2,j 3,j 4,y5,y6,y7,j 8,j 9,j 10,j 11,j 12,j 13,j 14,j 15,j 16,j 17,j 18,j 19,j 20,j 21,j 22,j 23,j 24,j 25,j 26,j 27,j 28,j 29,j 30,j 31,j 32,j 33,j 34,j 35,j 36,j 37,j 38,j 39,j 40,j 41,j 42,j 43,j 44,j 45,j 46,j 47,j 48,j 49,j 50,j 51,j 52,j 53,j 54,j 55,j 56,j 57,j 58,j 59,j 60,j 61,j 62,j 63,j 64,j 65,j 66,j 67,j 68,j 69,j 70,j 71,j 72,j 73,j 74,j 75,j 76,j 77,j 78,j 79,j 80,j 81,j 82,j 83,j 84,j 85,j 86,j 87,j 88,j 89,j 90,j 91,j 92,j 93,j 94,j 95,j 96,j 97] H (fQ Tryz.f71 σ K)
theorem aB.J0_step {y0 y5 y6 y7:AV} (h:bnd (ao y7) fun x1=>bnd (ab x1 5) fun x2=>bnd (ldA false 1 H x2) fun x3=>bnd (cw [.int .i64 0] 1 1 H [(0,1,y6)]) fun p4=>bnd (eC false 1 8 p4.2 x3 p4.1) fun p5=>bnd (ao y7) fun x6=>bnd (ab x6 5) fun x7=>bnd (stA 1 p5.2 x7 p5.1) fun H8=>aB.J1 σ K y0 y5 y6 y7 H8):aB.J0 σ K y0 y5 y6 y7 H :=
 fun j=>Eq.mpr (by kernel_rfl) h
theorem aB.J1_step {y0 y5 y6 y7:AV} (h:bnd (ao y0) fun x1=>bnd (ab x1 0) fun x2=>bnd (ldA false 1 H x2) fun x3=>bnd (ldA true 9 H y5) fun x4=>bnd (cw [.int .i64 0,.string ⟨#[]⟩,.string ⟨#[]⟩,.slice none 0 0,.slice none 0 0,.slice none 0 0,.int .i64 0,.int .i64 0,.int .i64 0] 9 1 H [(0,9,x4)]) fun p5=>kpK (x2,some 1) H p5.2 (bnd (eC false 9 136 p5.2 x3 p5.1) fun p6=>bnd (ao y0) fun x7=>bnd (ab x7 0) fun x8=>bnd (stA 1 p6.2 x8 p6.1) fun H9=>K (I 0) H9)):aB.J1 σ K y0 y5 y6 y7 H :=
 fun j=>Eq.mpr (by kernel_rfl) h
theorem aB.run {a0 a1:AV} (h:dN a1 H fun x1 H2=>bnd (ldA true 5 H2 x1) fun x3=>ai Tryz.prog σ fI [x3] H2 fun x4 H5=>bnd (cR [I 0,.lit (.string ⟨#[]⟩),.lit (.string ⟨#[]⟩),.lit (.slice none 0 0),.lit (.slice none 0 0),.lit (.slice none 0 0),I 0,I 0,I 0] [(0,5,x4),(7,1,(I 1)),(8,1,(I (-1)))]) fun l6=>cY [I 0,.lit (.string ⟨#[]⟩),.lit (.string ⟨#[]⟩),.lit (.slice none 0 0),.lit (.slice none 0 0),.lit (.slice none 0 0),I 0,I 0,I 0] H5 fun x7 H8=>bnd (stA 9 H8 x7 (.agg l6)) fun H9=>bnd (ao a0) fun x10=>bnd (ab x10 0) fun x11=>bnd (ldA false 1 H9 x11) fun x12=>bnd (aM x12) fun x13=>bnd (aj .eql x13 (I 0)) fun x14=>ifB x14 (bnd (ab x1 0) fun x15=>bnd (ldA false 1 H9 x15) fun x16=>bnd (aj .neq x16 (I (-1))) fun x17=>ifB x17 (K (I 10) H9) (bnd (aj .gtr x13 (I 0)) fun x18=>ifB x18 (bnd (ab x1 0) fun x19=>bnd (ldA false 1 H9 x19) fun x20=>bnd (aj .lss x20 (I 0)) fun x21=>ifB x21 (K (I 10) H9) (bnd (ab x1 0) fun x22=>bnd (ldA false 1 H9 x22) fun x23=>bnd (aj .geq x23 x13) fun x24=>ifB x24 (K (I 10) H9) (bnd (aj .gtr x13 (I 0)) fun x25=>ifB x25 (bnd (ao a0) fun x26=>bnd (ab x26 0) fun x27=>bnd (ldA false 1 H9 x27) fun x28=>bnd (ab x1 0) fun x29=>bnd (ldA false 1 H9 x29) fun x30=>bnd (aw 9 x28 x30) fun x31=>bnd (ao x31) fun x32=>bnd (ab x32 6) fun x33=>bnd (ldA false 1 H9 x33) fun x34=>bnd (aj .add x34 (I 1)) fun x35=>bnd (ab x7 6) fun x36=>bnd (stA 1 H9 x36 x35) fun H37=>bnd (ab x7 6) fun x38=>bnd (ldA false 1 H37 x38) fun x39=>bnd (aj .gtr x39 (I 256)) fun x40=>ifB x40 (K (I 11) H37) (bnd (ao x31) fun x41=>bnd (ab x41 5) fun x42=>bnd (ldA false 1 H37 x42) fun x43=>bnd (aM x43) fun x44=>bnd (aj .gtr x44 (I 0)) fun x45=>ifB x45 (bnd (aj .add x44 (I 1)) fun x46=>bnd (ao x31) fun x47=>bnd (ab x47 5) fun x48=>bnd (ldA false 1 H37 x48) fun x49=>bnd (aj .sub x44 (I 1)) fun x50=>bnd (aw 1 x49 x50) fun x51=>bnd (ldA false 1 H37 x51) fun x52=>bnd (ab x7 7) fun x53=>bnd (stA 1 H37 x53 x46) fun H54=>kpK (x51,some 1) H37 H54 (kpK (x48,some 1) H37 H54 (bnd (ab x7 8) fun x55=>bnd (stA 1 H54 x55 x52) fun H56=>aB.J0 σ K a0 x7 x13 x31 H56))) (aB.J0 σ K a0 x7 x13 x31 H37))) (aB.J1 σ K a0 x7 x13 (.lit undef) H9)))) (bnd (aj .gtr x13 (I 0)) fun x57=>ifB x57 (bnd (ao a0) fun x58=>bnd (ab x58 0) fun x59=>bnd (ldA false 1 H9 x59) fun x60=>bnd (ab x1 0) fun x61=>bnd (ldA false 1 H9 x61) fun x62=>bnd (aw 9 x60 x62) fun x63=>bnd (ao x63) fun x64=>bnd (ab x64 6) fun x65=>bnd (ldA false 1 H9 x65) fun x66=>bnd (aj .add x66 (I 1)) fun x67=>bnd (ab x7 6) fun x68=>bnd (stA 1 H9 x68 x67) fun H69=>bnd (ab x7 6) fun x70=>bnd (ldA false 1 H69 x70) fun x71=>bnd (aj .gtr x71 (I 256)) fun x72=>ifB x72 (K (I 11) H69) (bnd (ao x63) fun x73=>bnd (ab x73 5) fun x74=>bnd (ldA false 1 H69 x74) fun x75=>bnd (aM x75) fun x76=>bnd (aj .gtr x76 (I 0)) fun x77=>ifB x77 (bnd (aj .add x76 (I 1)) fun x78=>bnd (ao x63) fun x79=>bnd (ab x79 5) fun x80=>bnd (ldA false 1 H69 x80) fun x81=>bnd (aj .sub x76 (I 1)) fun x82=>bnd (aw 1 x81 x82) fun x83=>bnd (ldA false 1 H69 x83) fun x84=>bnd (ab x7 7) fun x85=>bnd (stA 1 H69 x85 x78) fun H86=>kpK (x83,some 1) H69 H86 (kpK (x80,some 1) H69 H86 (bnd (ab x7 8) fun x87=>bnd (stA 1 H86 x87 x84) fun H88=>aB.J0 σ K a0 x7 x13 x63 H88))) (aB.J0 σ K a0 x7 x13 x63 H69))) (aB.J1 σ K a0 x7 x13 (.lit undef) H9)))) (bnd (aj .gtr x13 (I 0)) fun x89=>ifB x89 (bnd (ab x1 0) fun x90=>bnd (ldA false 1 H9 x90) fun x91=>bnd (aj .lss x91 (I 0)) fun x92=>ifB x92 (K (I 10) H9) (bnd (ab x1 0) fun x93=>bnd (ldA false 1 H9 x93) fun x94=>bnd (aj .geq x94 x13) fun x95=>ifB x95 (K (I 10) H9) (bnd (aj .gtr x13 (I 0)) fun x96=>ifB x96 (bnd (ao a0) fun x97=>bnd (ab x97 0) fun x98=>bnd (ldA false 1 H9 x98) fun x99=>bnd (ab x1 0) fun x100=>bnd (ldA false 1 H9 x100) fun x101=>bnd (aw 9 x99 x101) fun x102=>bnd (ao x102) fun x103=>bnd (ab x103 6) fun x104=>bnd (ldA false 1 H9 x104) fun x105=>bnd (aj .add x105 (I 1)) fun x106=>bnd (ab x7 6) fun x107=>bnd (stA 1 H9 x107 x106) fun H108=>bnd (ab x7 6) fun x109=>bnd (ldA false 1 H108 x109) fun x110=>bnd (aj .gtr x110 (I 256)) fun x111=>ifB x111 (K (I 11) H108) (bnd (ao x102) fun x112=>bnd (ab x112 5) fun x113=>bnd (ldA false 1 H108 x113) fun x114=>bnd (aM x114) fun x115=>bnd (aj .gtr x115 (I 0)) fun x116=>ifB x116 (bnd (aj .add x115 (I 1)) fun x117=>bnd (ao x102) fun x118=>bnd (ab x118 5) fun x119=>bnd (ldA false 1 H108 x119) fun x120=>bnd (aj .sub x115 (I 1)) fun x121=>bnd (aw 1 x120 x121) fun x122=>bnd (ldA false 1 H108 x122) fun x123=>bnd (ab x7 7) fun x124=>bnd (stA 1 H108 x124 x117) fun H125=>kpK (x122,some 1) H108 H125 (kpK (x119,some 1) H108 H125 (bnd (ab x7 8) fun x126=>bnd (stA 1 H125 x126 x123) fun H127=>aB.J0 σ K a0 x7 x13 x102 H127))) (aB.J0 σ K a0 x7 x13 x102 H108))) (aB.J1 σ K a0 x7 x13 (.lit undef) H9)))) (bnd (aj .gtr x13 (I 0)) fun x128=>ifB x128 (bnd (ao a0) fun x129=>bnd (ab x129 0) fun x130=>bnd (ldA false 1 H9 x130) fun x131=>bnd (ab x1 0) fun x132=>bnd (ldA false 1 H9 x132) fun x133=>bnd (aw 9 x131 x133) fun x134=>bnd (ao x134) fun x135=>bnd (ab x135 6) fun x136=>bnd (ldA false 1 H9 x136) fun x137=>bnd (aj .add x137 (I 1)) fun x138=>bnd (ab x7 6) fun x139=>bnd (stA 1 H9 x139 x138) fun H140=>bnd (ab x7 6) fun x141=>bnd (ldA false 1 H140 x141) fun x142=>bnd (aj .gtr x142 (I 256)) fun x143=>ifB x143 (K (I 11) H140) (bnd (ao x134) fun x144=>bnd (ab x144 5) fun x145=>bnd (ldA false 1 H140 x145) fun x146=>bnd (aM x146) fun x147=>bnd (aj .gtr x147 (I 0)) fun x148=>ifB x148 (bnd (aj .add x147 (I 1)) fun x149=>bnd (ao x134) fun x150=>bnd (ab x150 5) fun x151=>bnd (ldA false 1 H140 x151) fun x152=>bnd (aj .sub x147 (I 1)) fun x153=>bnd (aw 1 x152 x153) fun x154=>bnd (ldA false 1 H140 x154) fun x155=>bnd (ab x7 7) fun x156=>bnd (stA 1 H140 x156 x149) fun H157=>kpK (x154,some 1) H140 H157 (kpK (x151,some 1) H140 H157 (bnd (ab x7 8) fun x158=>bnd (stA 1 H157 x158 x155) fun H159=>aB.J0 σ K a0 x7 x13 x134 H159))) (aB.J0 σ K a0 x7 x13 x134 H140))) (aB.J1 σ K a0 x7 x13 (.lit undef) H9)))):∃ r H1,aq Tryz.prog σ gF [a0,a1] H r H1∧K r H1 :=
 gwp 225 (fn:=Tryz.f71) (f:=gF) (c:=aB.code) (by kernel_rfl) (by kernel_rfl) (Eq.mpr (by kernel_rfl) h)
noncomputable def c9.code:Code:=ar Tryz.f72
noncomputable def c9.L0 (σ:Sig) (K:AV→Hp→Prop) (y3 y8 y9 y10:AV) (H:Hp):Prop:=∀ j:Nat→AV,co (CZ σ) (lB (bB (sR (sL (sR (sR c9.code)))))) [j 0,j 1,j 2,y3,j 4,j 5,j 6,j 7,y8,y9,y10,j 11,j 12,j 13,j 14,j 15,j 16,j 17,j 18,j 19,j 20,j 21,j 22,j 23,j 24,j 25,j 26] H (fun e T G=>(nx (fQ Tryz.f72 σ K) fun T G=>wp (CZ σ) 1800 (sR (sR (sR c9.code))) T G (fQ Tryz.f72 σ K)) (aI 0 e) T G)
theorem c9.L0_step {y3 y8 y9 y10:AV} (h:bnd (aj .lss y10 y9) fun x1=>ifB x1 (bnd (aw 2 y8 y10) fun x2=>bnd (ldA true 2 H x2) fun x3=>cY [.lit (.slice none 0 0),.lit (.slice none 0 0)] H fun x4 H5=>bnd (stA 2 H5 x4 x3) fun H6=>bnd (ab x4 0) fun x7=>bnd (ldA false 1 H6 x7) fun x8=>ai Tryz.prog σ nC [x8] H6 fun x9 H10=>bnd (ab x4 1) fun x11=>kpK (x11,some 1) H6 H10 (bnd (ldA false 1 H10 x11) fun x12=>ai Tryz.prog σ g5 [x12] H10 fun x13 H14=>bnd (cR [.lit (.slice none 0 0),.lit (.slice none 0 0)] [(0,1,x9),(1,1,x13)]) fun l15=>bnd (aw 2 y3 y10) fun x16=>bnd (stA 2 H14 x16 (.agg l15)) fun H17=>bnd (aj .add y10 (I 1)) fun x18=>c9.L0 σ K y3 y8 y9 x18 H17)) (K y3 H)):c9.L0 σ K y3 y8 y9 y10 H :=
 fun j=>lrd (g:=1800) (Eq.mpr (by kernel_rfl) h)
theorem c9.run {a0:AV} (h:ai Tryz.prog σ cN [a0] H fun x1 H2=>bnd (aM x1) fun x3=>c9.L0 σ K x1 x1 x3 (I 0) H2):∃ r H1,aq Tryz.prog σ eH [a0] H r H1∧K r H1 :=
 gwp 1800 (fn:=Tryz.f72) (f:=eH) (c:=c9.code) (by kernel_rfl) (by kernel_rfl) (Eq.mpr (by kernel_rfl) h)
noncomputable def jP.code:Code:=ar Tryz.f73
theorem jP.run {a0:AV} (h:bnd (ao a0) fun x1=>bnd (ab x1 0) fun x2=>bnd (ldA false 1 H x2) fun x3=>bnd (aM x3) fun x4=>K x4 H):∃ r H1,aq Tryz.prog σ eU [a0] H r H1∧K r H1 :=
 gwp 0 (fn:=Tryz.f73) (f:=eU) (c:=jP.code) (by kernel_rfl) (by kernel_rfl) (Eq.mpr (by kernel_rfl) h)
noncomputable def dn.code:Code:=ar Tryz.f74
noncomputable def dn.L0 (σ:Sig) (K:AV→Hp→Prop) (y3 y6 y7 y8:AV) (H:Hp):Prop:=∀ j:Nat→AV,co (CZ σ) (lB (bB (sR (sL (sR (sR dn.code)))))) [j 0,j 1,j 2,y3,j 4,j 5,y6,y7,y8,j 9,j 10,j 11,j 12,j 13,j 14,j 15,j 16,j 17,j 18] H (fun e T G=>(nx (fQ Tryz.f74 σ K) fun T G=>wp (CZ σ) 456 (sR (sR (sR dn.code))) T G (fQ Tryz.f74 σ K)) (aI 0 e) T G)
theorem dn.L0_step {y3 y6 y7 y8:AV} (h:bnd (aj .lss y8 y7) fun x1=>ifB x1 (bnd (aw 2 y6 y8) fun x2=>bnd (ldA true 2 H x2) fun x3=>cY [.lit (.slice none 0 0),.lit (.slice none 0 0)] H fun x4 H5=>bnd (stA 2 H5 x4 x3) fun H6=>bnd (ab x4 0) fun x7=>bnd (ldA false 1 H6 x7) fun x8=>ai Tryz.prog σ i7 [x8,(.fn qz [])] H6 fun x9 H10=>bnd (eC false 1 24 H10 y3 x9) fun p11=>bnd (aj .add y8 (I 1)) fun x12=>dn.L0 σ K p11.1 y6 y7 x12 p11.2) (K y3 H)):dn.L0 σ K y3 y6 y7 y8 H :=
 fun j=>lrd (g:=456) (Eq.mpr (by kernel_rfl) h)
theorem dn.run {a0:AV} (h:bnd (aM a0) fun x1=>dn.L0 σ K (.lit (.slice none 0 0)) a0 x1 (I 0) H):∃ r H1,aq Tryz.prog σ fj [a0] H r H1∧K r H1 :=
 gwp 456 (fn:=Tryz.f74) (f:=fj) (c:=dn.code) (by kernel_rfl) (by kernel_rfl) (Eq.mpr (by kernel_rfl) h)
noncomputable def m5.code:Code:=ar Tryz.f75
theorem m5.run {a0:AV} (h:bnd (qo [(I 1),a0]) fun x1=>bnd (s5 [x1,(I 1024)]) fun x2=>bnd (lE [.int .i64 0] 1 8 H x2 x2) fun p3=>bnd (cR [.lit (.slice none 0 0),I 0,I 0,.lit (.pointer none),.lit (.pointer none),.lit (.pointer none),.lit (.pointer none),.lit (.pointer none),.lit (.pointer none),.lit (.pointer none),.lit (.pointer none),.lit (.pointer none),.lit (.pointer none),.lit (.pointer none),.lit (.pointer none),.lit (.pointer none),.lit (.pointer none),.lit (.pointer none),.lit (.pointer none),.lit (.pointer none),.lit (.pointer none),.lit (.pointer none),.lit (.pointer none),.lit (.pointer none),.lit (.pointer none),.lit (.pointer none),.lit (.pointer none),.lit (.pointer none),.lit (.pointer none),.lit (.pointer none),.lit (.pointer none),.lit (.pointer none),.lit (.pointer none),.lit (.pointer none),.lit (.pointer none),.lit (.pointer none),.lit (.pointer none),.lit (.pointer none),.lit (.pointer none),.lit (.pointer none),.lit (.pointer none),.lit (.pointer none),.lit (.pointer none),.lit (.pointer none),.lit (.pointer none),.lit (.pointer none),.lit (.pointer none),.lit (.pointer none),.lit (.pointer none),.lit (.pointer none),.lit (.pointer none),.lit (.pointer none),.lit (.pointer none),.lit (.pointer none),.lit (.pointer none),.lit (.pointer none),.lit (.pointer none),.lit (.pointer none),.lit (.pointer none),.lit (.pointer none),.lit (.pointer none),.lit (.pointer none),.lit (.pointer none),.lit (.pointer none),.lit (.pointer none),.lit (.pointer none),.lit (.pointer none),.lit (.pointer none),I 0,I 0,Bo false,Bo false] [(0,1,p3.1)]) fun l4=>dN (.agg l4) p3.2 fun x5 H6=>K x5 H6):∃ r H1,aq Tryz.prog σ ji [a0] H r H1∧K r H1 :=
 gwp 0 (fn:=Tryz.f75) (f:=ji) (c:=m5.code) (by kernel_rfl) (by kernel_rfl) (Eq.mpr (by kernel_rfl) h)
noncomputable def rW.code:Code:=ar Tryz.f76
theorem rW.run {a0:AV} (h:bnd (qo [(I 0),a0]) fun x1=>bnd (s5 [x1,(I 1024)]) fun x2=>bnd (cR [I 0,.lit (.slice none 0 0)] [(0,1,x2)]) fun l3=>dN (.agg l3) H fun x4 H5=>K x4 H5):∃ r H1,aq Tryz.prog σ nj [a0] H r H1∧K r H1 :=
 gwp 0 (fn:=Tryz.f76) (f:=nj) (c:=rW.code) (by kernel_rfl) (by kernel_rfl) (Eq.mpr (by kernel_rfl) h)
noncomputable def gA.code:Code:=ar Tryz.f77
theorem gA.run {a0 a1 a2 a3:AV} (h:bnd (aj .lss a1 (I 0)) fun x1=>ifB x1 (K (I 1) H) (bnd (aj .gtr a1 (I 64)) fun x2=>ifB x2 (K (I 1) H) (bnd (ao a0) fun x3=>bnd (ab x3 3) fun x4=>bnd (jm 65 1 x4 a1) fun x5=>bnd (ldA false 1 H x5) fun x6=>bnd (fB .neq x6 (.lit (.pointer none))) fun x7=>ifB x7 (K (I 1) H) (ai Tryz.prog σ fK [a1,a2] H fun x8 H9=>bnd (lI .eql x8 (.lit (.nilFunc))) fun x10=>ifB x10 (K (I 1) H9) (ai Tryz.prog σ fK [a1,a2] H9 fun x11 H12=>bnd (cR [.lit (.pointer none),I 0,I 0,I 0,I 0,Bo false,.lit (.nilFunc)] [(0,1,a0),(1,1,a1),(2,1,a3),(6,1,x11)]) fun l13=>dN (.agg l13) H12 fun x14 H15=>bnd (ao a0) fun x16=>bnd (ab x16 3) fun x17=>bnd (jm 65 1 x17 a1) fun x18=>bnd (stA 1 H15 x18 x14) fun H19=>K (I 0) H19))))):∃ r H1,aq Tryz.prog σ de [a0,a1,a2,a3] H r H1∧K r H1 :=
 gwp 0 (fn:=Tryz.f77) (f:=de) (c:=gA.code) (by kernel_rfl) (by kernel_rfl) (Eq.mpr (by kernel_rfl) h)
noncomputable def gT.code:Code:=ar Tryz.f78
theorem gT.run {a0 a1:AV} (h:bnd (aj .geq a1 (I 0)) fun x1=>ifB x1 (bnd (aj .leq a1 (I 64)) fun x2=>ifB x2 (bnd (ao a0) fun x3=>bnd (ab x3 3) fun x4=>bnd (jm 65 1 x4 a1) fun x5=>bnd (ldA false 1 H x5) fun x6=>bnd (fB .neq x6 (.lit (.pointer none))) fun x7=>K x7 H) (K (Bo false) H)) (K (Bo false) H)):∃ r H1,aq Tryz.prog σ cX [a0,a1] H r H1∧K r H1 :=
 gwp 0 (fn:=Tryz.f78) (f:=cX) (c:=gT.code) (by kernel_rfl) (by kernel_rfl) (Eq.mpr (by kernel_rfl) h)
noncomputable def gQ.code:Code:=ar Tryz.f79
theorem gQ.run {a0 a1:AV} (h:ai Tryz.prog σ cX [a0,a1] H fun x1 H2=>bnd (unR .not x1) fun x3=>ifB x3 (K (.tup [(Bo false),(I 0),(Bo false)]) H2) (bnd (ao a0) fun x4=>bnd (ab x4 3) fun x5=>bnd (jm 65 1 x5 a1) fun x6=>bnd (ldA false 1 H2 x6) fun x7=>bnd (ao x7) fun x8=>bnd (ab x8 6) fun x9=>bnd (ldA false 1 H2 x9) fun x10=>jd Tryz.prog σ x10 [x7] H2 fun x11 H12=>bnd (ao x7) fun x13=>bnd (ab x13 6) fun x14=>bnd (stA 1 H12 x14 x11) fun H15=>bnd (ao x7) fun x16=>bnd (ab x16 6) fun x17=>bnd (ldA false 1 H15 x17) fun x18=>bnd (lI .neq x18 (.lit (.nilFunc))) fun x19=>ifB x19 (K (.tup [(Bo false),(I 0),(Bo false)]) H15) (bnd (ao a0) fun x20=>bnd (ab x20 3) fun x21=>bnd (jm 65 1 x21 a1) fun x22=>bnd (stA 1 H15 x22 (.lit (.pointer none))) fun H23=>bnd (ao x7) fun x24=>bnd (ab x24 5) fun x25=>bnd (ldA false 1 H23 x25) fun x26=>bnd (unR .not x26) fun x27=>ifB x27 (K (.tup [(Bo true),(I 0),(Bo false)]) H23) (bnd (ao x7) fun x28=>bnd (ab x28 2) fun x29=>bnd (ldA false 1 H23 x29) fun x30=>K (.tup [(Bo true),x30,(Bo true)]) H23)))):∃ r H1,aq Tryz.prog σ ci [a0,a1] H r H1∧K r H1 :=
 gwp 0 (fn:=Tryz.f79) (f:=ci) (c:=gQ.code) (by kernel_rfl) (by kernel_rfl) (Eq.mpr (by kernel_rfl) h)
noncomputable def aJ.code:Code:=ar Tryz.f80
noncomputable def aJ.Q0 (σ:Sig) (K:AV→Hp→Prop):Exit→List AV→Hp→Prop:=(nx (fQ Tryz.f80 σ K) fun T G=>wp (CZ σ) 57 (sR (sR (sR aJ.code))) T G (fQ Tryz.f80 σ K))
noncomputable def aJ.Q1 (σ:Sig) (K:AV→Hp→Prop):Exit→List AV→Hp→Prop:=(nx (fun e T G=>(aJ.Q0 σ K) (aI 0 e) T G) fun T G=>∀ j,co (CZ σ) (lB (bB (sR (sL (sR (sR aJ.code)))))) (ga 57 j 0 T) G (fun e T G=>(aJ.Q0 σ K) (aI 0 e) T G))
noncomputable def aJ.Q2 (σ:Sig) (K:AV→Hp→Prop):Exit→List AV→Hp→Prop:=(fun e T G=>(nx (aJ.Q1 σ K) fun T G=>wp (CZ σ) 57 (sR (sR (lB (bB (sR (sL (sR (sR aJ.code)))))))) T G (aJ.Q1 σ K)) (aI 1 e) T G)
noncomputable def aJ.L0 (σ:Sig) (K:AV→Hp→Prop) (y0 y3 y4 y5:AV) (H:Hp):Prop:=∀ j:Nat→AV,co (CZ σ) (lB (bB (sR (sL (sR (sR aJ.code)))))) [y0,j 1,j 2,y3,y4,y5,j 6,j 7,j 8,j 9,j 10,j 11,j 12,j 13,j 14,j 15,j 16,j 17,j 18,j 19,j 20,j 21,j 22,j 23,j 24,j 25,j 26,j 27,j 28,j 29,j 30,j 31,j 32,j 33,j 34,j 35,j 36,j 37,j 38,j 39,j 40,j 41,j 42,j 43,j 44] H (fun e T G=>(aJ.Q0 σ K) (aI 0 e) T G)
noncomputable def aJ.L1 (σ:Sig) (K:AV→Hp→Prop) (y0 y3 y4 y5:AV) (H:Hp):Prop:=∀ j:Nat→AV,co (CZ σ) (lB (bB (sR (bB (sL (sR (lB (bB (sR (sL (sR (sR aJ.code)))))))))))) [y0,j 1,j 2,y3,y4,y5,j 6,j 7,j 8,j 9,j 10,j 11,j 12,j 13,j 14,j 15,j 16,j 17,j 18,j 19,j 20,j 21,j 22,j 23,j 24,j 25,j 26,j 27,j 28,j 29,j 30,j 31,j 32,j 33,j 34,j 35,j 36,j 37,j 38,j 39,j 40,j 41,j 42,j 43,j 44] H (fun e T G=>(aJ.Q2 σ K) (aI 2 e) T G)
theorem aJ.L0_step {y0 y3 y4 y5:AV} (h:bnd (aM y0) fun x1=>bnd (aj .lss y4 x1) fun x2=>ifB x2 (aJ.L1 σ K y0 y3 y4 (I 0) H) (K y3 H)):aJ.L0 σ K y0 y3 y4 y5 H :=
 fun j=>lrd (g:=57) (Eq.mpr (by kernel_rfl) h)
theorem aJ.run {a0:AV} (h:aJ.L0 σ K a0 (.lit (.slice none 0 0)) (I 0) (.lit undef) H):∃ r H1,aq Tryz.prog σ dE [a0] H r H1∧K r H1 :=
 gwp 57 (fn:=Tryz.f80) (f:=dE) (c:=aJ.code) (by kernel_rfl) (by kernel_rfl) (Eq.mpr (by kernel_rfl) h)
noncomputable def aZ.code:Code:=ar Tryz.f81
noncomputable def aZ.J0 (σ:Sig) (K:AV→Hp→Prop) (y0:AV) (H:Hp):Prop:=∀ j:Nat→AV,wp (CZ σ) 1 (sR (sR aZ.code)) [y0,j 1,j 2,j 3,j 4,j 5,j 6,j 7,j 8,j 9,j 10,j 11] H (fQ Tryz.f81 σ K)
noncomputable def aZ.J1 (σ:Sig) (K:AV→Hp→Prop) (y0:AV) (H:Hp):Prop:=∀ j:Nat→AV,wp (CZ σ) 1 (sR (sR (sR aZ.code))) [y0,j 1,j 2,j 3,j 4,j 5,j 6,j 7,j 8,j 9,j 10,j 11] H (fQ Tryz.f81 σ K)
theorem aZ.J0_step {y0:AV} (h:bnd (aj .gtr y0 (I 1024)) fun x1=>ifB x1 (aZ.J1 σ K (I 1024) H) (aZ.J1 σ K y0 H)):aZ.J0 σ K y0 H :=
 fun j=>Eq.mpr (by kernel_rfl) h
theorem aZ.J1_step {y0:AV} (h:bnd (lE [.int .i64 0] 1 8 H y0 y0) fun p1=>bnd (cR [I 0,I 0,I 0,.lit (.slice none 0 0),I 0,I 0,I 0,I 0,I 0,Bo false,I 0,I 0,I 0,I 0,I 0,Bo false,I 0,I 0,I 0,I 0,I 0,Bo false,I 0,I 0,I 0,I 0,I 0,Bo false,I 0,I 0,I 0,I 0,I 0,Bo false,I 0,I 0,I 0,I 0,I 0,Bo false,I 0,I 0,I 0,I 0,I 0,Bo false,I 0,I 0,I 0,I 0,I 0,Bo false,I 0,I 0,I 0,I 0,I 0,Bo false,I 0,I 0,I 0,I 0,I 0,Bo false,I 0,I 0,I 0,I 0,I 0,Bo false,I 0,I 0,I 0,I 0,I 0,Bo false,I 0,I 0,I 0,I 0,I 0,Bo false,I 0,I 0,I 0,I 0,I 0,Bo false,I 0,I 0,I 0,I 0,I 0,Bo false,I 0,I 0,I 0,I 0,I 0,Bo false,I 0,I 0,I 0,I 0,I 0,Bo false,I 0,I 0,I 0,I 0,I 0,Bo false,I 0,I 0,I 0,I 0,I 0,Bo false,I 0,I 0,I 0,I 0,I 0,Bo false,I 0,I 0,I 0,I 0,I 0,Bo false,I 0,I 0,I 0,I 0,I 0,Bo false,I 0,I 0,I 0,I 0,I 0,Bo false,I 0,I 0,I 0,I 0,I 0,Bo false,I 0,I 0,I 0,I 0,I 0,Bo false,I 0,I 0,I 0,I 0,I 0,Bo false,I 0,I 0,I 0,I 0,I 0,Bo false,I 0,I 0,I 0,I 0,I 0,Bo false,I 0,I 0,I 0,I 0,I 0,Bo false,I 0,I 0,I 0,I 0,I 0,Bo false,I 0,I 0,I 0,I 0,I 0,Bo false,I 0,I 0,I 0,I 0,I 0,Bo false,I 0,I 0,I 0,I 0,I 0,Bo false,I 0,I 0,I 0,I 0,I 0,Bo false,I 0,I 0,I 0,I 0,I 0,Bo false,I 0,I 0,I 0,I 0,I 0,Bo false,I 0,I 0,I 0,I 0,I 0,Bo false,I 0,I 0,I 0,I 0,I 0,Bo false,I 0,I 0,I 0,I 0,I 0,Bo false,I 0,I 0,I 0,I 0,I 0,Bo false,I 0,I 0,I 0,I 0,I 0,Bo false,I 0,I 0,I 0,I 0,I 0,Bo false,I 0,I 0,I 0,I 0,I 0,Bo false,I 0,I 0,I 0,I 0,I 0,Bo false,I 0,I 0,I 0,I 0,I 0,Bo false,I 0,I 0,I 0,I 0,I 0,Bo false,I 0,I 0,I 0,I 0,I 0,Bo false,I 0,I 0,I 0,I 0,I 0,Bo false,I 0,I 0,I 0,I 0,I 0,Bo false,I 0,I 0,I 0,I 0,I 0,Bo false,I 0,I 0,I 0,I 0,I 0,Bo false,I 0,I 0,I 0,I 0,I 0,Bo false,I 0,I 0,I 0,I 0,I 0,Bo false,I 0,I 0,I 0,I 0,I 0,Bo false,I 0,I 0,I 0,I 0,I 0,Bo false,I 0,I 0,I 0,I 0,I 0,Bo false,I 0,I 0,I 0,I 0,I 0,Bo false,I 0,I 0,I 0,I 0,I 0,Bo false,I 0,I 0,I 0,I 0,I 0,Bo false,I 0,I 0,I 0,I 0,I 0,Bo false,I 0,I 0,I 0,I 0,I 0,Bo false,I 0,I 0,I 0,I 0,I 0,Bo false,I 0,I 0,I 0,I 0,I 0,Bo false,I 0,I 0,I 0,I 0,I 0,Bo false,I 0,I 0,I 0,I 0,I 0,Bo false,I 0,I 0,Bo false,Bo false] [(0,1,y0),(3,1,p1.1)]) fun l2=>dN (.agg l2) p1.2 fun x3 H4=>K x3 H4):aZ.J1 σ K y0 H :=
 fun j=>Eq.mpr (by kernel_rfl) h
theorem aZ.run {a0:AV} (h:bnd (aj .lss a0 (I 1)) fun x1=>ifB x1 (aZ.J0 σ K (I 1) H) (aZ.J0 σ K a0 H)):∃ r H1,aq Tryz.prog σ ff [a0] H r H1∧K r H1 :=
 gwp 1 (fn:=Tryz.f81) (f:=ff) (c:=aZ.code) (by kernel_rfl) (by kernel_rfl) (Eq.mpr (by kernel_rfl) h)
noncomputable def aX.code:Code:=ar Tryz.f82
noncomputable def aX.J0 (σ:Sig) (K:AV→Hp→Prop) (y0:AV) (H:Hp):Prop:=∀ j:Nat→AV,wp (CZ σ) 1 (sR (sR aX.code)) [y0,j 1,j 2,j 3,j 4,j 5,j 6,j 7,j 8,j 9] H (fQ Tryz.f82 σ K)
noncomputable def aX.J1 (σ:Sig) (K:AV→Hp→Prop) (y0:AV) (H:Hp):Prop:=∀ j:Nat→AV,wp (CZ σ) 1 (sR (sR (sR aX.code))) [y0,j 1,j 2,j 3,j 4,j 5,j 6,j 7,j 8,j 9] H (fQ Tryz.f82 σ K)
theorem aX.J0_step {y0:AV} (h:bnd (aj .gtr y0 (I 1024)) fun x1=>ifB x1 (aX.J1 σ K (I 1024) H) (aX.J1 σ K y0 H)):aX.J0 σ K y0 H :=
 fun j=>Eq.mpr (by kernel_rfl) h
theorem aX.J1_step {y0:AV} (h:bnd (cR [I 0,.lit (.slice none 0 0)] [(0,1,y0)]) fun l1=>dN (.agg l1) H fun x2 H3=>K x2 H3):aX.J1 σ K y0 H :=
 fun j=>Eq.mpr (by kernel_rfl) h
theorem aX.run {a0:AV} (h:bnd (aj .lss a0 (I 0)) fun x1=>ifB x1 (aX.J0 σ K (I 0) H) (aX.J0 σ K a0 H)):∃ r H1,aq Tryz.prog σ eY [a0] H r H1∧K r H1 :=
 gwp 1 (fn:=Tryz.f82) (f:=eY) (c:=aX.code) (by kernel_rfl) (by kernel_rfl) (Eq.mpr (by kernel_rfl) h)
noncomputable def gv.code:Code:=ar Tryz.f100
theorem gv.run {a0 a1 a2:AV} (h:dN a2 H fun x1 H2=>bnd (ao a0) fun x3=>bnd (ab x3 5) fun x4=>bnd (ldA false 1 H2 x4) fun x5=>bnd (aw 1 x5 a1) fun x6=>bnd (ldA false 1 H2 x6) fun x7=>ai Tryz.prog σ cD [a0,a1,a1,(I 2),(I 0)] H2 fun x8 H9=>bnd (exR x8 0) fun x10=>bnd (exR x8 1) fun x11=>bnd (exR x8 2) fun x12=>ifB x12 (ai Tryz.prog σ cQ [x7,x11] H9 fun x13 H14=>K (.tup []) H14) (ifB x10 (bnd (ao x7) fun x15=>bnd (ab x15 0) fun x16=>bnd (stA 1 H9 x16 (I 1)) fun H17=>K (.tup []) H17) (K (.tup []) H9))):∃ r H1,aq Tryz.prog σ bK [a0,a1,a2] H r H1∧K r H1 :=
 gwp 0 (fn:=Tryz.f100) (f:=bK) (c:=gv.code) (by kernel_rfl) (by kernel_rfl) (Eq.mpr (by kernel_rfl) h)
noncomputable def bg.code:Code:=ar Tryz.f101
noncomputable def bg.J0 (σ:Sig) (K:AV→Hp→Prop) (y0 y1 y6:AV) (H:Hp):Prop:=∀ j:Nat→AV,wp (CZ σ) 67 (sR (sR (sR bg.code))) [y0,y1,j 2,j 3,j 4,j 5,y6,j 7,j 8,j 9,j 10,j 11,j 12,j 13,j 14,j 15,j 16,j 17,j 18,j 19,j 20,j 21,j 22,j 23,j 24,j 25,j 26,j 27,j 28,j 29,j 30,j 31,j 32,j 33,j 34,j 35,j 36,j 37,j 38,j 39,j 40,j 41,j 42,j 43,j 44,j 45,j 46,j 47,j 48,j 49,j 50,j 51,j 52,j 53,j 54,j 55,j 56,j 57,j 58,j 59,j 60,j 61,j 62,j 63,j 64,j 65,j 66,j 67,j 68,j 69,j 70,j 71,j 72,j 73] H (fQ Tryz.f101 σ K)
theorem bg.J0_step {y0 y1 y6:AV} (h:bnd (ao y6) fun x1=>bnd (ab x1 6) fun x2=>bnd (ldA false 1 H x2) fun x3=>ai Tryz.prog σ cD [y0,y1,x3,(I 3),(I 0)] H fun x4 H5=>bnd (exR x4 0) fun x6=>bnd (exR x4 1) fun x7=>bnd (exR x4 2) fun x8=>bnd (unR .not x6) fun x9=>ifB x9 (K (.tup []) H5) (bnd (ao y6) fun x10=>bnd (ab x10 6) fun x11=>bnd (stA 1 H5 x11 (I (-1))) fun H12=>bnd (ao y6) fun x13=>bnd (ab x13 0) fun x14=>bnd (stA 1 H12 x14 (I 0)) fun H15=>ifB x8 (ai Tryz.prog σ cQ [y6,x7] H15 fun x16 H17=>K (.tup []) H17) (K (.tup []) H15))):bg.J0 σ K y0 y1 y6 H :=
 fun j=>Eq.mpr (by kernel_rfl) h
theorem bg.run {a0 a1 a2:AV} (h:dN a2 H fun x1 H2=>bnd (ao a0) fun x3=>bnd (ab x3 5) fun x4=>bnd (ldA false 1 H2 x4) fun x5=>bnd (aw 1 x5 a1) fun x6=>bnd (ldA false 1 H2 x6) fun x7=>bnd (ao x7) fun x8=>bnd (ab x8 6) fun x9=>bnd (ldA false 1 H2 x9) fun x10=>bnd (aj .eql x10 (I (-1))) fun x11=>ifB x11 (bnd (ao a0) fun x12=>bnd (ab x12 5) fun x13=>bnd (ldA false 1 H2 x13) fun x14=>bnd (aM x14) fun x15=>bnd (ab x1 1) fun x16=>bnd (ldA false 1 H2 x16) fun x17=>bnd (aj .rem x17 x15) fun x18=>bnd (aj .add x18 x15) fun x19=>bnd (aj .rem x19 x15) fun x20=>bnd (ao x7) fun x21=>bnd (ab x21 6) fun x22=>bnd (stA 1 H2 x22 x20) fun H23=>bnd (ao x7) fun x24=>bnd (ab x24 6) fun x25=>bnd (ldA false 1 H23 x25) fun x26=>bnd (aj .eql x26 a1) fun x27=>ifB x27 (bnd (ao x7) fun x28=>bnd (ab x28 6) fun x29=>bnd (stA 1 H23 x29 (I (-1))) fun H30=>bnd (ao x7) fun x31=>bnd (ab x31 0) fun x32=>bnd (stA 1 H30 x32 (I 0)) fun H33=>K (.tup []) H33) (bg.J0 σ K a0 a1 x7 H23)) (bg.J0 σ K a0 a1 x7 H2)):∃ r H1,aq Tryz.prog σ bG [a0,a1,a2] H r H1∧K r H1 :=
 gwp 67 (fn:=Tryz.f101) (f:=bG) (c:=bg.code) (by kernel_rfl) (by kernel_rfl) (Eq.mpr (by kernel_rfl) h)
noncomputable def av.code:Code:=ar Tryz.f102
noncomputable def av.J0 (σ:Sig) (K:AV→Hp→Prop) (y0 y1 y6:AV) (H:Hp):Prop:=∀ j:Nat→AV,wp (CZ σ) 67 (sR (sR (sR av.code))) [y0,y1,j 2,j 3,j 4,j 5,y6,j 7,j 8,j 9,j 10,j 11,j 12,j 13,j 14,j 15,j 16,j 17,j 18,j 19,j 20,j 21,j 22,j 23,j 24,j 25,j 26,j 27,j 28,j 29,j 30,j 31,j 32,j 33,j 34,j 35,j 36,j 37,j 38,j 39,j 40,j 41,j 42,j 43,j 44,j 45,j 46,j 47,j 48,j 49,j 50,j 51,j 52,j 53,j 54,j 55,j 56,j 57,j 58,j 59,j 60,j 61,j 62,j 63,j 64,j 65,j 66,j 67,j 68,j 69,j 70,j 71,j 72,j 73,j 74,j 75,j 76,j 77,j 78,j 79,j 80,j 81,j 82,j 83,j 84,j 85,j 86,j 87,j 88,j 89,j 90,j 91,j 92,j 93,j 94,j 95,j 96,j 97,j 98,j 99,j 100,j 101,j 102,j 103,j 104,j 105,j 106,j 107,j 108,j 109,j 110,j 111,j 112,j 113,j 114,j 115,j 116,j 117,j 118,j 119,j 120,j 121,j 122,j 123,j 124,j 125,j 126,j 127,j 128,j 129,j 130,j 131,j 132,j 133,j 134,j 135,j 136,j 137] H (fQ Tryz.f102 σ K)
noncomputable def av.J1 (σ:Sig) (K:AV→Hp→Prop) (y0 y1 y6:AV) (H:Hp):Prop:=∀ j:Nat→AV,wp (CZ σ) 67 (sR (sR (sR (sR av.code)))) [y0,y1,j 2,j 3,j 4,j 5,y6,j 7,j 8,j 9,j 10,j 11,j 12,j 13,j 14,j 15,j 16,j 17,j 18,j 19,j 20,j 21,j 22,j 23,j 24,j 25,j 26,j 27,j 28,j 29,j 30,j 31,j 32,j 33,j 34,j 35,j 36,j 37,j 38,j 39,j 40,j 41,j 42,j 43,j 44,j 45,j 46,j 47,j 48,j 49,j 50,j 51,j 52,j 53,j 54,j 55,j 56,j 57,j 58,j 59,j 60,j 61,j 62,j 63,j 64,j 65,j 66,j 67,j 68,j 69,j 70,j 71,j 72,j 73,j 74,j 75,j 76,j 77,j 78,j 79,j 80,j 81,j 82,j 83,j 84,j 85,j 86,j 87,j 88,j 89,j 90,j 91,j 92,j 93,j 94,j 95,j 96,j 97,j 98,j 99,j 100,j 101,j 102,j 103,j 104,j 105,j 106,j 107,j 108,j 109,j 110,j 111,j 112,j 113,j 114,j 115,j 116,j 117,j 118,j 119,j 120,j 121,j 122,j 123,j 124,j 125,j 126,j 127,j 128,j 129,j 130,j 131,j 132,j 133,j 134,j 135,j 136,j 137] H (fQ Tryz.f102 σ K)
theorem av.J0_step {y0 y1 y6:AV} (h:ai Tryz.prog σ dP [y0,y6] H fun x1 H2=>bnd (exR x1 0) fun x3=>bnd (exR x1 1) fun x4=>ifB x4 (bnd (ao y6) fun x5=>bnd (ab x5 2) fun x6=>bnd (ldA false 1 H2 x6) fun x7=>ai Tryz.prog σ fO [x7,x3] H2 fun x8 H9=>bnd (ao y0) fun x10=>bnd (ab x10 7) fun x11=>bnd (ldA false 1 H9 x11) fun x12=>bnd (aw 1 x12 x3) fun x13=>bnd (ldA false 1 H9 x13) fun x14=>bnd (ao y0) fun x15=>bnd (ab x15 3) fun x16=>ai Tryz.prog σ eg [x16,x14] H9 fun x17 H18=>bnd (ao y0) fun x19=>bnd (ab x19 7) fun x20=>bnd (ldA false 1 H18 x20) fun x21=>bnd (ao y6) fun x22=>bnd (ab x22 4) fun x23=>bnd (ldA false 1 H18 x23) fun x24=>bnd (aw 1 x21 x24) fun x25=>bnd (stA 1 H18 x25 x14) fun H26=>bnd (aj .mul (I 3) x14) fun x27=>bnd (aj .add x27 (I 2)) fun x28=>ai Tryz.prog σ bS [y0,y1,x28,(Bo true),(Bo true)] H26 fun x29 H30=>av.J1 σ K y0 y1 y6 H30) (bnd (ao y0) fun x31=>bnd (ab x31 7) fun x32=>bnd (ldA false 1 H2 x32) fun x33=>bnd (ao y6) fun x34=>bnd (ab x34 4) fun x35=>bnd (ldA false 1 H2 x35) fun x36=>bnd (ao y0) fun x37=>bnd (ab x37 3) fun x38=>bnd (ao y6) fun x39=>bnd (ab x39 4) fun x40=>bnd (ldA false 1 H2 x40) fun x41=>ai Tryz.prog σ dz [y0,x41] H2 fun x42 H43=>kpK (x35,some 1) H2 H43 (kpK (x32,some 1) H2 H43 (bnd (ao y0) fun x44=>bnd (ab x44 0) fun x45=>kpK (x45,some 1) H2 H43 (bnd (ldA false 1 H43 x45) fun x46=>bnd (ao y6) fun x47=>bnd (ab x47 4) fun x48=>kpK (x48,some 1) H2 H43 (bnd (ldA false 1 H43 x48) fun x49=>bnd (ao y0) fun x50=>bnd (ab x50 1) fun x51=>kpK (x51,some 1) H2 H43 (bnd (ldA false 1 H43 x51) fun x52=>ai Tryz.prog σ dI [x46,x49,x52] H43 fun x53 H54=>kpK (x35,some 1) H43 H54 (kpK (x32,some 1) H43 H54 (ai Tryz.prog σ cM [x42,x53] H54 fun x55 H56=>kpK (x35,some 1) H54 H56 (kpK (x32,some 1) H54 H56 (ai Tryz.prog σ eK [x38,x55] H56 fun x57 H58=>kpK (x35,some 1) H56 H58 (kpK (x32,some 1) H56 H58 (bnd (aw 1 x33 x36) fun x59=>bnd (stA 1 H58 x59 x57) fun H60=>bnd (ao y6) fun x61=>bnd (ab x61 2) fun x62=>bnd (ldA false 1 H60 x62) fun x63=>bnd (ao y6) fun x64=>bnd (ab x64 4) fun x65=>bnd (ldA false 1 H60 x65) fun x66=>bnd (ao y0) fun x67=>bnd (ab x67 7) fun x68=>bnd (ldA false 1 H60 x68) fun x69=>bnd (ao y6) fun x70=>bnd (ab x70 4) fun x71=>bnd (ldA false 1 H60 x71) fun x72=>bnd (aw 1 x69 x72) fun x73=>bnd (ldA false 1 H60 x73) fun x74=>ai Tryz.prog σ fR [x63,x66,x74] H60 fun x75 H76=>av.J1 σ K y0 y1 y6 H76))))))))))))):av.J0 σ K y0 y1 y6 H :=
 fun j=>Eq.mpr (by kernel_rfl) h
theorem av.J1_step {y0 y1 y6:AV} (h:bnd (ao y6) fun x1=>bnd (ab x1 4) fun x2=>bnd (ldA false 1 H x2) fun x3=>bnd (aj .mul (I 3) x3) fun x4=>ai Tryz.prog σ bS [y0,y1,x4,(Bo true),(Bo false)] H fun x5 H6=>bnd (ao y6) fun x7=>bnd (ab x7 0) fun x8=>bnd (stA 1 H6 x8 (I 3)) fun H9=>K (.tup []) H9):av.J1 σ K y0 y1 y6 H :=
 fun j=>Eq.mpr (by kernel_rfl) h
theorem av.run {a0 a1 a2:AV} (h:dN a2 H fun x1 H2=>bnd (ao a0) fun x3=>bnd (ab x3 5) fun x4=>bnd (ldA false 1 H2 x4) fun x5=>bnd (aw 1 x5 a1) fun x6=>bnd (ldA false 1 H2 x6) fun x7=>bnd (ao a0) fun x8=>bnd (ab x8 0) fun x9=>bnd (ldA false 1 H2 x9) fun x10=>bnd (ao x7) fun x11=>bnd (ab x11 4) fun x12=>bnd (ldA false 1 H2 x12) fun x13=>ai Tryz.prog σ dG [x10,x13] H2 fun x14 H15=>bnd (aj .geq x14 (I 0)) fun x16=>ifB x16 (bnd (aj .mul (I 3) x14) fun x17=>ai Tryz.prog σ bS [a0,a1,x17,(Bo false),(Bo false)] H15 fun x18 H19=>av.J0 σ K a0 a1 x7 H19) (av.J0 σ K a0 a1 x7 H15)):∃ r H1,aq Tryz.prog σ bF [a0,a1,a2] H r H1∧K r H1 :=
 gwp 67 (fn:=Tryz.f102) (f:=bF) (c:=av.code) (by kernel_rfl) (by kernel_rfl) (Eq.mpr (by kernel_rfl) h)
noncomputable def eR.code:Code:=ar Tryz.f103
theorem eR.run {a0 a1 a2:AV} (h:dN a2 H fun x1 H2=>bnd (ao a0) fun x3=>bnd (ab x3 5) fun x4=>bnd (ldA false 1 H2 x4) fun x5=>bnd (aw 1 x5 a1) fun x6=>bnd (ldA false 1 H2 x6) fun x7=>bnd (ao a0) fun x8=>bnd (ab x8 8) fun x9=>bnd (ldA false 1 H2 x9) fun x10=>bnd (ao x7) fun x11=>bnd (ab x11 4) fun x12=>bnd (ldA false 1 H2 x12) fun x13=>bnd (aw 1 x10 x13) fun x14=>bnd (stA 1 H2 x14 (Bo true)) fun H15=>bnd (ao x7) fun x16=>bnd (ab x16 4) fun x17=>bnd (ldA false 1 H15 x17) fun x18=>bnd (aj .mul (I 3) x18) fun x19=>bnd (aj .add x19 (I 1)) fun x20=>ai Tryz.prog σ bS [a0,a1,x20,(Bo true),(Bo true)] H15 fun x21 H22=>bnd (ao x7) fun x23=>bnd (ab x23 0) fun x24=>bnd (stA 1 H22 x24 (I 4)) fun H25=>bnd (ao x7) fun x26=>bnd (ab x26 5) fun x27=>bnd (stA 1 H25 x27 (I 0)) fun H28=>K (.tup []) H28):∃ r H1,aq Tryz.prog σ bp [a0,a1,a2] H r H1∧K r H1 :=
 gwp 0 (fn:=Tryz.f103) (f:=bp) (c:=eR.code) (by kernel_rfl) (by kernel_rfl) (Eq.mpr (by kernel_rfl) h)
noncomputable def gK.code:Code:=ar Tryz.f104
theorem gK.run {a0 a1 a2:AV} (h:dN a2 H fun x1 H2=>bnd (ao a0) fun x3=>bnd (ab x3 5) fun x4=>bnd (ldA false 1 H2 x4) fun x5=>bnd (aw 1 x5 a1) fun x6=>bnd (ldA false 1 H2 x6) fun x7=>bnd (ao a0) fun x8=>bnd (ab x8 0) fun x9=>bnd (ldA false 1 H2 x9) fun x10=>bnd (ao x7) fun x11=>bnd (ab x11 4) fun x12=>bnd (ldA false 1 H2 x12) fun x13=>bnd (ao x7) fun x14=>bnd (ab x14 5) fun x15=>bnd (ldA false 1 H2 x15) fun x16=>ai Tryz.prog σ fh [x10,x13,x16] H2 fun x17 H18=>bnd (aj .geq x17 (I 0)) fun x19=>ifB x19 (ai Tryz.prog σ cD [a0,a1,a1,(I 1),x17] H18 fun x20 H21=>bnd (exR x20 0) fun x22=>bnd (exR x20 1) fun x23=>bnd (exR x20 2) fun x24=>ifB x22 (bnd (ao x7) fun x25=>bnd (ab x25 5) fun x26=>bnd (ldA false 1 H21 x26) fun x27=>bnd (aj .add x27 (I 1)) fun x28=>bnd (ao x7) fun x29=>bnd (ab x29 5) fun x30=>bnd (stA 1 H21 x30 x28) fun H31=>bnd (unR .not x24) fun x32=>ifB x32 (bnd (ao x7) fun x33=>bnd (ab x33 3) fun x34=>ai Tryz.prog σ dH [x34,x17] H31 fun x35 H36=>K (.tup []) H36) (K (.tup []) H31)) (K (.tup []) H21)) (bnd (ao a0) fun x37=>bnd (ab x37 6) fun x38=>bnd (ldA false 1 H18 x38) fun x39=>bnd (aj .sub x39 (I 1)) fun x40=>bnd (ao a0) fun x41=>bnd (ab x41 6) fun x42=>bnd (stA 1 H18 x42 x40) fun H43=>ai Tryz.prog σ bS [a0,a1,(I (-1)),(Bo true),(Bo true)] H43 fun x44 H45=>bnd (ao x7) fun x46=>bnd (ab x46 0) fun x47=>bnd (stA 1 H45 x47 (I 0)) fun H48=>bnd (ao x7) fun x49=>bnd (ab x49 3) fun x50=>ai Tryz.prog σ dy [x50] H48 fun x51 H52=>bnd (exR x51 0) fun x53=>bnd (exR x51 1) fun x54=>ifB x54 (ai Tryz.prog σ cQ [x7,x53] H52 fun x55 H56=>K (.tup []) H56) (K (.tup []) H52))):∃ r H1,aq Tryz.prog σ bL [a0,a1,a2] H r H1∧K r H1 :=
 gwp 0 (fn:=Tryz.f104) (f:=bL) (c:=gK.code) (by kernel_rfl) (by kernel_rfl) (Eq.mpr (by kernel_rfl) h)
noncomputable def aT.code:Code:=ar Tryz.f105
noncomputable def aT.Q0 (σ:Sig) (K:AV→Hp→Prop):Exit→List AV→Hp→Prop:=(nx (fQ Tryz.f105 σ K) fun T G=>wp (CZ σ) 24 (sR (sR (sR aT.code))) T G (fQ Tryz.f105 σ K))
noncomputable def aT.L0 (σ:Sig) (K:AV→Hp→Prop) (y3 y4:AV) (H:Hp):Prop:=∀ j:Nat→AV,co (CZ σ) (lB (bB (sR (sL (sR (sR aT.code)))))) [j 0,j 1,j 2,y3,y4,j 5,j 6,j 7,j 8,j 9,j 10,j 11,j 12,j 13,j 14,j 15,j 16,j 17,j 18,j 19,j 20,j 21,j 22,j 23,j 24,j 25,j 26,j 27,j 28,j 29,j 30,j 31,j 32,j 33,j 34] H (fun e T G=>(aT.Q0 σ K) (aI 0 e) T G)
noncomputable def aT.J1 (σ:Sig) (K:AV→Hp→Prop) (y3 y4:AV) (H:Hp):Prop:=∀ j:Nat→AV,wp (CZ σ) 24 (sR (sR (lB (bB (sR (sL (sR (sR aT.code)))))))) [j 0,j 1,j 2,y3,y4,j 5,j 6,j 7,j 8,j 9,j 10,j 11,j 12,j 13,j 14,j 15,j 16,j 17,j 18,j 19,j 20,j 21,j 22,j 23,j 24,j 25,j 26,j 27,j 28,j 29,j 30,j 31,j 32,j 33,j 34] H (nx (fun e T G=>(aT.Q0 σ K) (aI 0 e) T G) fun T G=>∀ j,co (CZ σ) (lB (bB (sR (sL (sR (sR aT.code)))))) (ga 24 j 0 T) G (fun e T G=>(aT.Q0 σ K) (aI 0 e) T G))
theorem aT.L0_step {y3 y4:AV} (h:bnd (aM y3) fun x1=>bnd (aj .lss y4 x1) fun x2=>ifB x2 (bnd (aw 1 y3 y4) fun x3=>bnd (ldA false 1 H x3) fun x4=>bnd (aj .geq x4 (.lit (.int .u8 65))) fun x5=>ifB x5 (bnd (aw 1 y3 y4) fun x6=>bnd (ldA false 1 H x6) fun x7=>bnd (aj .leq x7 (.lit (.int .u8 90))) fun x8=>ifB x8 (bnd (aw 1 y3 y4) fun x9=>bnd (ldA false 1 H x9) fun x10=>bnd (aj .add x10 (.lit (.int .u8 32))) fun x11=>bnd (aw 1 y3 y4) fun x12=>bnd (stA 1 H x12 x11) fun H13=>aT.J1 σ K y3 y4 H13) (aT.J1 σ K y3 y4 H)) (aT.J1 σ K y3 y4 H)) (bnd (jh H y3) fun x14=>K x14 H)):aT.L0 σ K y3 y4 H :=
 fun j=>lrd (g:=24) (Eq.mpr (by kernel_rfl) h)
theorem aT.J1_step {y3 y4:AV} (h:bnd (aj .add y4 (I 1)) fun x1=>aT.L0 σ K y3 x1 H):aT.J1 σ K y3 y4 H :=
 fun j=>Eq.mpr (by kernel_rfl) h
theorem aT.run {a0:AV} (h:bnd (iK H a0) fun p1=>aT.L0 σ K p1.1 (I 0) p1.2):∃ r H1,aq Tryz.prog σ gu [a0] H r H1∧K r H1 :=
 gwp 24 (fn:=Tryz.f105) (f:=gu) (c:=aT.code) (by kernel_rfl) (by kernel_rfl) (Eq.mpr (by kernel_rfl) h)
noncomputable def iQ.code:Code:=ar Tryz.f109
theorem iQ.run {a0 a1:AV} (h:ai Tryz.prog σ dQ [a0,a1] H fun x1 H2=>bnd (aj .gtr x1 (I 0)) fun x3=>K x3 H2):∃ r H1,aq Tryz.prog σ dT [a0,a1] H r H1∧K r H1 :=
 gwp 0 (fn:=Tryz.f109) (f:=dT) (c:=iQ.code) (by kernel_rfl) (by kernel_rfl) (Eq.mpr (by kernel_rfl) h)
noncomputable def eI.code:Code:=ar Tryz.f122
theorem eI.run {a0:AV} (h:dN a0 H fun x1 H2=>K (.fn dD [x1]) H2):∃ r H1,aq Tryz.prog σ dZ [a0] H r H1∧K r H1 :=
 gwp 0 (fn:=Tryz.f122) (f:=dZ) (c:=eI.code) (by kernel_rfl) (by kernel_rfl) (Eq.mpr (by kernel_rfl) h)
noncomputable def cy.code:Code:=ar Tryz.f123
noncomputable def cy.L0 (σ:Sig) (K:AV→Hp→Prop) (y1 y2 y12 y13:AV) (H:Hp):Prop:=∀ j:Nat→AV,co (CZ σ) (lB (bB (sR (sL (sR (sR (sR cy.code))))))) [j 0,y1,y2,j 3,j 4,j 5,j 6,j 7,j 8,j 9,j 10,j 11,y12,y13,j 14,j 15,j 16,j 17,j 18,j 19,j 20,j 21,j 22,j 23,j 24,j 25,j 26,j 27,j 28,j 29] H (fun e T G=>(nx (fQ Tryz.f123 σ K) fun T G=>wp (CZ σ) 12294 (sR (sR (sR (sR cy.code)))) T G (fQ Tryz.f123 σ K)) (aI 0 e) T G)
theorem cy.L0_step {y1 y2 y12 y13:AV} (h:bnd (aj .lss y13 y12) fun x1=>ifB x1 (bnd (ab y1 4) fun x2=>bnd (ldA false 1 H x2) fun x3=>bnd (ab y1 4) fun x4=>bnd (ldA false 1 H x4) fun x5=>bnd (aw 2 x5 y13) fun x6=>bnd (ab x6 0) fun x7=>bnd (ldA false 1 H x7) fun x8=>ai Tryz.prog σ gH [x8] H fun x9 H10=>kpK (x2,some 1) H H10 (bnd (aw 2 x3 y13) fun x11=>bnd (ab x11 0) fun x12=>bnd (stA 1 H10 x12 x9) fun H13=>bnd (aj .add y13 (I 1)) fun x14=>cy.L0 σ K y1 y2 y12 x14 H13)) (bnd (ldA true 5 H y1) fun x15=>bnd (stA 5 H y2 x15) fun H16=>bnd (ldA true 5 H16 y2) fun r17=>K r17 H16)):cy.L0 σ K y1 y2 y12 y13 H :=
 fun j=>lrd (g:=12294) (Eq.mpr (by kernel_rfl) h)
theorem cy.run {a0:AV} (h:dN a0 H fun x1 H2=>cY [I 0,.lit (.string ⟨#[]⟩),.lit (.string ⟨#[]⟩),.lit (.slice none 0 0),.lit (.slice none 0 0)] H2 fun x3 H4=>bnd (ldA true 5 H4 x1) fun x5=>ai Tryz.prog σ iD [x5] H4 fun x6 H7=>bnd (stA 5 H7 x1 x6) fun H8=>bnd (ab x1 1) fun x9=>bnd (ldA false 1 H8 x9) fun x10=>ai Tryz.prog σ gH [x10] H8 fun x11 H12=>bnd (ab x1 1) fun x13=>bnd (stA 1 H12 x13 x11) fun H14=>bnd (ab x1 4) fun x15=>bnd (ldA false 1 H14 x15) fun x16=>bnd (aM x16) fun x17=>cy.L0 σ K x1 x3 x17 (I 0) H14):∃ r H1,aq Tryz.prog σ fI [a0] H r H1∧K r H1 :=
 gwp 12294 (fn:=Tryz.f123) (f:=fI) (c:=cy.code) (by kernel_rfl) (by kernel_rfl) (Eq.mpr (by kernel_rfl) h)
noncomputable def cZ.code:Code:=ar Tryz.f124
theorem cZ.run {a0:AV} (h:bnd (mT .eql a0 (.lit (.slice none 0 0))) fun x1=>ifB x1 (K (.lit (.slice none 0 0)) H) (bnd (cw [.slice none 0 0,.slice none 0 0] 2 0 H []) fun p2=>bnd (eC false 2 48 p2.2 p2.1 a0) fun p3=>K p3.1 p3.2)):∃ r H1,aq Tryz.prog σ cN [a0] H r H1∧K r H1 :=
 gwp 0 (fn:=Tryz.f124) (f:=cN) (c:=cZ.code) (by kernel_rfl) (by kernel_rfl) (Eq.mpr (by kernel_rfl) h)
noncomputable def kx.code:Code:=ar Tryz.f129
theorem kx.run {a0 a1:AV} (h:bnd (aj .eql a1 (I 1)) fun x1=>ifB x1 (bnd (aj .eql a0 (I 0)) fun x2=>ifB x2 (K (.fn aO []) H) (bnd (aj .eql a1 (I 2)) fun x3=>ifB x3 (bnd (aj .eql a0 (I 0)) fun x4=>ifB x4 (K (.fn bD []) H) (bnd (aj .eql a1 (I 3)) fun x5=>ifB x5 (bnd (aj .gtr a0 (I 0)) fun x6=>ifB x6 (K (.fn aY []) H) (K (.lit (.nilFunc)) H)) (K (.lit (.nilFunc)) H))) (bnd (aj .eql a1 (I 3)) fun x7=>ifB x7 (bnd (aj .gtr a0 (I 0)) fun x8=>ifB x8 (K (.fn aY []) H) (K (.lit (.nilFunc)) H)) (K (.lit (.nilFunc)) H)))) (bnd (aj .eql a1 (I 2)) fun x9=>ifB x9 (bnd (aj .eql a0 (I 0)) fun x10=>ifB x10 (K (.fn bD []) H) (bnd (aj .eql a1 (I 3)) fun x11=>ifB x11 (bnd (aj .gtr a0 (I 0)) fun x12=>ifB x12 (K (.fn aY []) H) (K (.lit (.nilFunc)) H)) (K (.lit (.nilFunc)) H))) (bnd (aj .eql a1 (I 3)) fun x13=>ifB x13 (bnd (aj .gtr a0 (I 0)) fun x14=>ifB x14 (K (.fn aY []) H) (K (.lit (.nilFunc)) H)) (K (.lit (.nilFunc)) H)))):∃ r H1,aq Tryz.prog σ fK [a0,a1] H r H1∧K r H1 :=
 gwp 0 (fn:=Tryz.f129) (f:=fK) (c:=kx.code) (by kernel_rfl) (by kernel_rfl) (Eq.mpr (by kernel_rfl) h)
noncomputable def au.code:Code:=ar Tryz.f135
noncomputable def au.J0 (σ:Sig) (K:AV→Hp→Prop) (y0 y1 y2 y3 y4 y13 y14:AV) (H:Hp):Prop:=∀ j:Nat→AV,wp (CZ σ) 24607 (sR (sR (sR au.code))) [y0,y1,y2,y3,y4,j 5,j 6,j 7,j 8,j 9,j 10,j 11,j 12,y13,y14,j 15,j 16,j 17,j 18,j 19,j 20,j 21,j 22,j 23,j 24,j 25,j 26,j 27,j 28,j 29,j 30,j 31,j 32,j 33,j 34,j 35,j 36,j 37,j 38,j 39,j 40,j 41,j 42,j 43,j 44,j 45,j 46,j 47,j 48,j 49,j 50,j 51,j 52,j 53,j 54,j 55,j 56,j 57,j 58,j 59,j 60,j 61,j 62,j 63,j 64,j 65] H (fQ Tryz.f135 σ K)
noncomputable def au.J1 (σ:Sig) (K:AV→Hp→Prop) (y0 y1 y2 y3 y4 y13 y14:AV) (H:Hp):Prop:=∀ j:Nat→AV,wp (CZ σ) 24607 (sR (sR (sR (sR au.code)))) [y0,y1,y2,y3,y4,j 5,j 6,j 7,j 8,j 9,j 10,j 11,j 12,y13,y14,j 15,j 16,j 17,j 18,j 19,j 20,j 21,j 22,j 23,j 24,j 25,j 26,j 27,j 28,j 29,j 30,j 31,j 32,j 33,j 34,j 35,j 36,j 37,j 38,j 39,j 40,j 41,j 42,j 43,j 44,j 45,j 46,j 47,j 48,j 49,j 50,j 51,j 52,j 53,j 54,j 55,j 56,j 57,j 58,j 59,j 60,j 61,j 62,j 63,j 64,j 65] H (fQ Tryz.f135 σ K)
theorem au.J0_step {y0 y1 y2 y3 y4 y13 y14:AV} (h:ai Tryz.prog σ cX [y13,y14] H fun x1 H2=>bnd (unR .not x1) fun x3=>ifB x3 (ai Tryz.prog σ de [y13,y14,y3,y4] H2 fun x4 H5=>au.J1 σ K y0 y1 y2 y3 y4 y13 y14 H5) (au.J1 σ K y0 y1 y2 y3 y4 y13 y14 H2)):au.J0 σ K y0 y1 y2 y3 y4 y13 y14 H :=
 fun j=>Eq.mpr (by kernel_rfl) h
theorem au.J1_step {y0 y1 y2 y3 y4 y13 y14:AV} (h:ai Tryz.prog σ ci [y13,y14] H fun x1 H2=>bnd (exR x1 0) fun x3=>bnd (exR x1 1) fun x4=>bnd (exR x1 2) fun x5=>ai Tryz.prog σ d8 [y13] H2 fun x6 H7=>cY [I 0,I 0,Bo false,Bo false] H7 fun x8 H9=>bnd (stA 4 H9 x8 x6) fun H10=>bnd (ab x8 1) fun x11=>bnd (ldA false 1 H10 x11) fun x12=>bnd (aj .mul (I 1000) y2) fun x13=>bnd (aj .sub x12 x13) fun x14=>bnd (ab x8 2) fun x15=>bnd (ldA false 1 H10 x15) fun x16=>bnd (ab x8 3) fun x17=>bnd (ldA false 1 H10 x17) fun x18=>ai Tryz.prog σ bS [y0,y1,x14,x16,x18] H10 fun x19 H20=>K (.tup [x3,x4,x5]) H20):au.J1 σ K y0 y1 y2 y3 y4 y13 y14 H :=
 fun j=>Eq.mpr (by kernel_rfl) h
theorem au.run {a0 a1 a2 a3 a4:AV} (h:bnd (ao a0) fun x1=>bnd (ab x1 5) fun x2=>bnd (ldA false 1 H x2) fun x3=>bnd (aw 1 x3 a2) fun x4=>bnd (ldA false 1 H x4) fun x5=>bnd (ao x5) fun x6=>bnd (ab x6 1) fun x7=>bnd (ldA false 1 H x7) fun x8=>bnd (aj .eql a3 (I 3)) fun x9=>ifB x9 (bnd (aj .add a1 (I 1)) fun x10=>au.J0 σ K a0 a1 a2 a3 a4 x8 x10 H) (au.J0 σ K a0 a1 a2 a3 a4 x8 (I 0) H)):∃ r H1,aq Tryz.prog σ cD [a0,a1,a2,a3,a4] H r H1∧K r H1 :=
 gwp 24607 (fn:=Tryz.f135) (f:=cD) (c:=au.code) (by kernel_rfl) (by kernel_rfl) (Eq.mpr (by kernel_rfl) h)
noncomputable def gr.code:Code:=ar Tryz.f136
theorem gr.run {a0 a1:AV} (h:bnd (ao a0) fun x1=>bnd (ab x1 4) fun x2=>bnd (stA 1 H x2 a1) fun H3=>bnd (ao a0) fun x4=>bnd (ab x4 0) fun x5=>bnd (stA 1 H3 x5 (I 2)) fun H6=>K (.tup []) H6):∃ r H1,aq Tryz.prog σ cQ [a0,a1] H r H1∧K r H1 :=
 gwp 0 (fn:=Tryz.f136) (f:=cQ) (c:=gr.code) (by kernel_rfl) (by kernel_rfl) (Eq.mpr (by kernel_rfl) h)
noncomputable def im.code:Code:=ar Tryz.f137
theorem im.run {a0 a1:AV} (h:bnd (aj .lss a1 (I 0)) fun x1=>ifB x1 (K (I (-1)) H) (bnd (ao a0) fun x2=>bnd (ab x2 0) fun x3=>bnd (ldA false 1 H x3) fun x4=>bnd (aM x4) fun x5=>bnd (aj .geq a1 x5) fun x6=>ifB x6 (K (I (-1)) H) (bnd (ao a0) fun x7=>bnd (ab x7 0) fun x8=>bnd (ldA false 1 H x8) fun x9=>bnd (aw 9 x9 a1) fun x10=>bnd (ab x10 0) fun x11=>bnd (ab x11 0) fun x12=>bnd (ldA false 1 H x12) fun x13=>K x13 H))):∃ r H1,aq Tryz.prog σ dG [a0,a1] H r H1∧K r H1 :=
 gwp 0 (fn:=Tryz.f137) (f:=dG) (c:=im.code) (by kernel_rfl) (by kernel_rfl) (Eq.mpr (by kernel_rfl) h)
noncomputable def gR.code:Code:=ar Tryz.f138
theorem gR.run {a0 a1 a2 a3 a4:AV} (h:bnd (ao a0) fun x1=>bnd (ab x1 9) fun x2=>bnd (ldA false 1 H x2) fun x3=>bnd (cR [I 0,I 0,Bo false,Bo false] [(0,1,a1),(1,1,a2),(2,1,a3),(3,1,a4)]) fun l4=>bnd (cw [.int .i64 0,.int .i64 0,.bool false,.bool false] 4 1 H [(0,4,(.agg l4))]) fun p5=>bnd (eC false 4 24 p5.2 x3 p5.1) fun p6=>bnd (ao a0) fun x7=>bnd (ab x7 9) fun x8=>bnd (stA 1 p6.2 x8 p6.1) fun H9=>K (.tup []) H9):∃ r H1,aq Tryz.prog σ bS [a0,a1,a2,a3,a4] H r H1∧K r H1 :=
 gwp 0 (fn:=Tryz.f138) (f:=bS) (c:=gR.code) (by kernel_rfl) (by kernel_rfl) (Eq.mpr (by kernel_rfl) h)
noncomputable def aS.code:Code:=ar Tryz.f139
noncomputable def aS.L0 (σ:Sig) (K:AV→Hp→Prop) (y0 y1 y12 y13 y14:AV) (H:Hp):Prop:=∀ j:Nat→AV,co (CZ σ) (lB (bB (sR (sL (sR aS.code))))) [y0,y1,j 2,j 3,j 4,j 5,j 6,j 7,j 8,j 9,j 10,j 11,y12,y13,y14,j 15,j 16,j 17,j 18,j 19,j 20,j 21,j 22,j 23,j 24,j 25,j 26,j 27,j 28,j 29,j 30,j 31,j 32,j 33] H (fun e T G=>(nx (fQ Tryz.f139 σ K) fun T G=>wp (CZ σ) 28675 (sR (sR aS.code)) T G (fQ Tryz.f139 σ K)) (aI 0 e) T G)
theorem aS.L0_step {y0 y1 y12 y13 y14:AV} (h:bnd (aj .lss y14 y13) fun x1=>ifB x1 (bnd (aw 1 y12 y14) fun x2=>bnd (ldA false 1 H x2) fun x3=>bnd (ao y0) fun x4=>bnd (ab x4 0) fun x5=>bnd (ldA false 1 H x5) fun x6=>bnd (ao y1) fun x7=>bnd (ab x7 4) fun x8=>bnd (ldA false 1 H x8) fun x9=>bnd (ao y0) fun x10=>bnd (ab x10 2) fun x11=>bnd (ldA false 1 H x11) fun x12=>ai Tryz.prog σ nW [x6,x3,x9,x12] H fun x13 H14=>ifB x13 (K (.tup [x3,(Bo true)]) H14) (bnd (aj .add y14 (I 1)) fun x15=>aS.L0 σ K y0 y1 y12 y13 x15 H14)) (K (.tup [(I 0),(Bo false)]) H)):aS.L0 σ K y0 y1 y12 y13 y14 H :=
 fun j=>lrd (g:=28675) (Eq.mpr (by kernel_rfl) h)
theorem aS.run {a0 a1:AV} (h:bnd (ao a1) fun x1=>bnd (ab x1 2) fun x2=>bnd (ldA false 1 H x2) fun x3=>ai Tryz.prog σ c0 [x3] H fun x4 H5=>bnd (aM x4) fun x6=>aS.L0 σ K a0 a1 x4 x6 (I 0) H5):∃ r H1,aq Tryz.prog σ dP [a0,a1] H r H1∧K r H1 :=
 gwp 28675 (fn:=Tryz.f139) (f:=dP) (c:=aS.code) (by kernel_rfl) (by kernel_rfl) (Eq.mpr (by kernel_rfl) h)
noncomputable def jq.code:Code:=ar Tryz.f140
theorem jq.run {a0 a1:AV} (h:bnd (ao a0) fun x1=>bnd (ab x1 1) fun x2=>ai Tryz.prog σ bZ [x2,a1] H fun x3 H4=>bnd (aj .lss x3 (I 0)) fun x5=>ifB x5 (K (.tup [(I 0),(Bo false)]) H4) (bnd (ao a0) fun x6=>bnd (ab x6 1) fun x7=>bnd (ab x7 0) fun x8=>bnd (ldA false 1 H4 x8) fun x9=>bnd (aw 2 x9 x3) fun x10=>bnd (ldA true 2 H4 x10) fun x11=>cY [I 0,I 0] H4 fun x12 H13=>bnd (stA 2 H13 x12 x11) fun H14=>bnd (ao a0) fun x15=>bnd (ab x15 1) fun x16=>bnd (ldA true 2 H14 x12) fun x17=>ai Tryz.prog σ cK [x16,x17] H14 fun x18 H19=>bnd (ab x12 1) fun x20=>bnd (ldA false 1 H19 x20) fun x21=>K (.tup [x21,(Bo true)]) H19)):∃ r H1,aq Tryz.prog σ fO [a0,a1] H r H1∧K r H1 :=
 gwp 0 (fn:=Tryz.f140) (f:=fO) (c:=jq.code) (by kernel_rfl) (by kernel_rfl) (Eq.mpr (by kernel_rfl) h)
noncomputable def gP.code:Code:=ar Tryz.f141
theorem gP.run {a0 a1:AV} (h:ai Tryz.prog σ dT [a0,a1] H fun x1 H2=>bnd (unR .not x1) fun x3=>ifB x3 (K (I 6) H2) (bnd (ao a0) fun x4=>bnd (ab x4 0) fun x5=>bnd (ldA false 1 H2 x5) fun x6=>bnd (aw 9 x6 a1) fun x7=>bnd (ab x7 8) fun x8=>bnd (ldA false 1 H2 x8) fun x9=>bnd (aj .add x9 (I 1)) fun x10=>bnd (aw 9 x6 a1) fun x11=>bnd (ab x11 8) fun x12=>bnd (stA 1 H2 x12 x10) fun H13=>K (I 0) H13)):∃ r H1,aq Tryz.prog σ eg [a0,a1] H r H1∧K r H1 :=
 gwp 0 (fn:=Tryz.f141) (f:=eg) (c:=gP.code) (by kernel_rfl) (by kernel_rfl) (Eq.mpr (by kernel_rfl) h)
noncomputable def il.code:Code:=ar Tryz.f142
theorem il.run {a0 a1:AV} (h:dN a1 H fun x1 H2=>bnd (ao a0) fun x3=>bnd (ab x3 0) fun x4=>bnd (ldA false 1 H2 x4) fun x5=>bnd (ldA true 8 H2 x1) fun x6=>bnd (cR [I 0,I 0,I 0,I 0,I 0,I 0,I 0,I 0,I 0] [(0,8,x6),(8,1,(I 1))]) fun l7=>bnd (cw [.int .i64 0,.int .i64 0,.int .i64 0,.int .i64 0,.int .i64 0,.int .i64 0,.int .i64 0,.int .i64 0,.int .i64 0] 9 1 H2 [(0,9,(.agg l7))]) fun p8=>kpK (x4,some 1) H2 p8.2 (bnd (eC false 9 72 p8.2 x5 p8.1) fun p9=>bnd (ao a0) fun x10=>bnd (ab x10 0) fun x11=>bnd (stA 1 p9.2 x11 p9.1) fun H12=>bnd (ao a0) fun x13=>bnd (ab x13 1) fun x14=>bnd (ldA false 1 H12 x14) fun x15=>bnd (aj .add x15 (I 1)) fun x16=>bnd (ao a0) fun x17=>bnd (ab x17 1) fun x18=>bnd (stA 1 H12 x18 x16) fun H19=>bnd (ao a0) fun x20=>bnd (ab x20 0) fun x21=>bnd (ldA false 1 H19 x21) fun x22=>bnd (aM x22) fun x23=>bnd (aj .sub x23 (I 1)) fun x24=>K x24 H19)):∃ r H1,aq Tryz.prog σ eK [a0,a1] H r H1∧K r H1 :=
 gwp 0 (fn:=Tryz.f142) (f:=eK) (c:=il.code) (by kernel_rfl) (by kernel_rfl) (Eq.mpr (by kernel_rfl) h)
noncomputable def fD.code:Code:=ar Tryz.f144
theorem fD.run {a0 a1:AV} (h:bnd (ao a0) fun x1=>bnd (ab x1 0) fun x2=>bnd (ldA false 1 H x2) fun x3=>ai Tryz.prog σ dG [x3,a1] H fun x4 H5=>bnd (aj .lss x4 (I 0)) fun x6=>ifB x6 (K (.lit (.pointer none)) H5) (bnd (ao a0) fun x7=>bnd (ab x7 3) fun x8=>bnd (ao a0) fun x9=>bnd (ab x9 7) fun x10=>bnd (ldA false 1 H5 x10) fun x11=>bnd (aw 1 x11 x4) fun x12=>bnd (ldA false 1 H5 x12) fun x13=>ai Tryz.prog σ dF [x8,x13] H5 fun x14 H15=>bnd (exR x14 0) fun x16=>bnd (exR x14 1) fun x17=>cY [I 0,I 0,I 0,I 0,I 0,I 0,I 0,I 0] H15 fun x18 H19=>bnd (stA 8 H19 x18 x16) fun H20=>K x18 H20)):∃ r H1,aq Tryz.prog σ dz [a0,a1] H r H1∧K r H1 :=
 gwp 0 (fn:=Tryz.f144) (f:=dz) (c:=fD.code) (by kernel_rfl) (by kernel_rfl) (Eq.mpr (by kernel_rfl) h)
noncomputable def bU.code:Code:=ar Tryz.f145
noncomputable def bU.L0 (σ:Sig) (K:AV→Hp→Prop) (y0 y1 y2 y6 y7 y10 y11:AV) (H:Hp):Prop:=∀ j:Nat→AV,co (CZ σ) (lB (bB (sR (sL (sR (sR bU.code)))))) [y0,y1,y2,j 3,j 4,j 5,y6,y7,j 8,j 9,y10,y11,j 12,j 13,j 14,j 15,j 16,j 17,j 18,j 19,j 20,j 21,j 22,j 23,j 24] H (fun e T G=>(nx (fQ Tryz.f145 σ K) fun T G=>wp (CZ σ) 3271 (sR (sR (sR bU.code))) T G (fQ Tryz.f145 σ K)) (aI 0 e) T G)
theorem bU.L0_step {y0 y1 y2 y6 y7 y10 y11:AV} (h:bnd (aj .lss y11 y10) fun x1=>ifB x1 (bnd (cw [.int .i64 0] 1 1 H [(0,1,y11)]) fun p2=>bnd (eC false 1 8 p2.2 y7 p2.1) fun p3=>bnd (aj .add y11 (I 1)) fun x4=>bU.L0 σ K y0 y1 y2 y6 p3.1 y10 x4 p3.2) (ai Tryz.prog σ eX [y0,y1,y2,y7,(.fn lj [])] H fun x5 H6=>ai Tryz.prog σ gq [x5] H6 fun x7 H8=>bnd (stA 16 H8 y6 x7) fun H9=>bnd (ldA true 16 H9 y6) fun r10=>K r10 H9)):bU.L0 σ K y0 y1 y2 y6 y7 y10 y11 H :=
 fun j=>lrd (g:=3271) (Eq.mpr (by kernel_rfl) h)
theorem bU.run {a0 a1 a2:AV} (h:cY (List.replicate 16 (I 0)) H fun x1 H2=>bnd (aM a2) fun x3=>bU.L0 σ K a0 a1 a2 x1 (.lit (.slice none 0 0)) x3 (I 0) H2):∃ r H1,aq Tryz.prog σ dI [a0,a1,a2] H r H1∧K r H1 :=
 gwp 3271 (fn:=Tryz.f145) (f:=dI) (c:=bU.code) (by kernel_rfl) (by kernel_rfl) (Eq.mpr (by kernel_rfl) h)
noncomputable def jo.code:Code:=ar Tryz.f146
theorem jo.run {a0 a1 a2:AV} (h:bnd (ao a0) fun x1=>bnd (ab x1 1) fun x2=>bnd (cR [I 0,I 0] [(0,1,a1),(1,1,a2)]) fun l3=>ai Tryz.prog σ cK [x2,(.agg l3)] H fun x4 H5=>ai Tryz.prog σ iu [a0] H5 fun x6 H7=>bnd (ao a0) fun x8=>bnd (ab x8 0) fun x9=>kpK (x9,some 1) H5 H7 (bnd (ldA false 1 H7 x9) fun x10=>bnd (aj .leq x6 x10) fun x11=>ifB x11 (K (.tup [(I 0),(Bo false)]) H7) (bnd (ao a0) fun x12=>bnd (ab x12 1) fun x13=>bnd (ab x13 0) fun x14=>bnd (ldA false 1 H7 x14) fun x15=>bnd (aw 2 x15 (I 0)) fun x16=>bnd (ab x16 0) fun x17=>bnd (ldA false 1 H7 x17) fun x18=>bnd (ao a0) fun x19=>bnd (ab x19 1) fun x20=>bnd (ab x20 0) fun x21=>bnd (ldA false 1 H7 x21) fun x22=>bnd (qr 2 x22 (some (I 1)) none none) fun x23=>bnd (ao a0) fun x24=>bnd (ab x24 1) fun x25=>bnd (ab x25 0) fun x26=>bnd (stA 1 H7 x26 x23) fun H27=>K (.tup [x18,(Bo true)]) H27))):∃ r H1,aq Tryz.prog σ fR [a0,a1,a2] H r H1∧K r H1 :=
 gwp 0 (fn:=Tryz.f146) (f:=fR) (c:=jo.code) (by kernel_rfl) (by kernel_rfl) (Eq.mpr (by kernel_rfl) h)
noncomputable def iU.code:Code:=ar Tryz.f147
theorem iU.run {a0 a1 a2:AV} (h:ai Tryz.prog σ fG [a0,a1] H fun x1 H2=>bnd (o9 false 5 1 x1) fun x3=>bnd (aM x3) fun x4=>bnd (aj .lss a2 x4) fun x5=>ifB x5 (bnd (aw 1 x3 a2) fun x6=>bnd (ldA false 1 H2 x6) fun x7=>K x7 H2) (K (I (-1)) H2)):∃ r H1,aq Tryz.prog σ fh [a0,a1,a2] H r H1∧K r H1 :=
 gwp 0 (fn:=Tryz.f147) (f:=fh) (c:=iU.code) (by kernel_rfl) (by kernel_rfl) (Eq.mpr (by kernel_rfl) h)
noncomputable def fY.code:Code:=ar Tryz.f148
theorem fY.run {a0 a1:AV} (h:bnd (ao a0) fun x1=>bnd (ab x1 0) fun x2=>bnd (ldA false 1 H x2) fun x3=>bnd (cw [.int .i64 0] 1 1 H [(0,1,a1)]) fun p4=>bnd (eC false 1 8 p4.2 x3 p4.1) fun p5=>bnd (ao a0) fun x6=>bnd (ab x6 0) fun x7=>bnd (stA 1 p5.2 x7 p5.1) fun H8=>K (.tup []) H8):∃ r H1,aq Tryz.prog σ dH [a0,a1] H r H1∧K r H1 :=
 gwp 0 (fn:=Tryz.f148) (f:=dH) (c:=fY.code) (by kernel_rfl) (by kernel_rfl) (Eq.mpr (by kernel_rfl) h)
noncomputable def fq.code:Code:=ar Tryz.f149
theorem fq.run {a0:AV} (h:bnd (ao a0) fun x1=>bnd (ab x1 0) fun x2=>bnd (ldA false 1 H x2) fun x3=>bnd (aM x3) fun x4=>bnd (aj .sub x4 (I 1)) fun x5=>bnd (aj .lss x5 (I 0)) fun x6=>ifB x6 (K (.tup [(I 0),(Bo false)]) H) (bnd (ao a0) fun x7=>bnd (ab x7 0) fun x8=>bnd (ldA false 1 H x8) fun x9=>bnd (aw 1 x9 x5) fun x10=>bnd (ldA false 1 H x10) fun x11=>bnd (ao a0) fun x12=>bnd (ab x12 0) fun x13=>bnd (ldA false 1 H x13) fun x14=>bnd (qr 1 x14 none (some x5) none) fun x15=>bnd (ao a0) fun x16=>bnd (ab x16 0) fun x17=>bnd (stA 1 H x17 x15) fun H18=>K (.tup [x11,(Bo true)]) H18)):∃ r H1,aq Tryz.prog σ dy [a0] H r H1∧K r H1 :=
 gwp 0 (fn:=Tryz.f149) (f:=dy) (c:=fq.code) (by kernel_rfl) (by kernel_rfl) (Eq.mpr (by kernel_rfl) h)
noncomputable def aC.code:Code:=ar Tryz.f163
noncomputable def aC.L0 (σ:Sig) (K:AV→Hp→Prop) (y0 y1 y3:AV) (H:Hp):Prop:=∀ j:Nat→AV,co (CZ σ) (lB (bB (sR aC.code))) [y0,y1,j 2,y3,j 4,j 5,j 6,j 7,j 8,j 9,j 10,j 11,j 12,j 13,j 14,j 15,j 16,j 17,j 18,j 19,j 20,j 21,j 22,j 23] H (fun e T G=>(fQ Tryz.f163 σ K) (aI 0 e) T G)
theorem aC.L0_step {y0 y1 y3:AV} (h:bnd (aj .geq y3 (I 0)) fun x1=>ifB x1 (bnd (ldA false 1 H y1) fun x2=>bnd (ao x2) fun x3=>bnd (ab x3 0) fun x4=>bnd (ldA false 1 H x4) fun x5=>bnd (aw 2 x5 y3) fun x6=>bnd (ldA true 2 H x6) fun x7=>jd Tryz.prog σ y0 [x7] H fun x8 H9=>bnd (unR .not x8) fun x10=>ifB x10 (K (.tup []) H9) (bnd (aj .sub y3 (I 1)) fun x11=>aC.L0 σ K y0 y1 x11 H9)) (K (.tup []) H)):aC.L0 σ K y0 y1 y3 H :=
 fun j=>lrd (g:=11) (Eq.mpr (by kernel_rfl) h)
theorem aC.run {a0 a1:AV} (h:bnd (ldA false 1 H a1) fun x1=>bnd (ao x1) fun x2=>bnd (ab x2 0) fun x3=>bnd (ldA false 1 H x3) fun x4=>bnd (aM x4) fun x5=>bnd (aj .sub x5 (I 1)) fun x6=>aC.L0 σ K a0 a1 x6 H):∃ r H1,aq Tryz.prog σ dD [a0,a1] H r H1∧K r H1 :=
 gwp 11 (fn:=Tryz.f163) (f:=dD) (c:=aC.code) (by kernel_rfl) (by kernel_rfl) (Eq.mpr (by kernel_rfl) h)
noncomputable def lT.code:Code:=ar Tryz.f164
theorem lT.run {a0:AV} (h:dN a0 H fun x1 H2=>cY [I 0,.lit (.string ⟨#[]⟩),.lit (.string ⟨#[]⟩),.lit (.slice none 0 0),.lit (.slice none 0 0)] H2 fun x3 H4=>bnd (ab x1 3) fun x5=>bnd (ldA false 1 H4 x5) fun x6=>ai Tryz.prog σ aQ [x6] H4 fun x7 H8=>bnd (ab x1 4) fun x9=>kpK (x9,some 1) H4 H8 (bnd (ldA false 1 H8 x9) fun x10=>ai Tryz.prog σ bf [x10] H8 fun x11 H12=>bnd (ab x1 3) fun x13=>bnd (stA 1 H12 x13 x7) fun H14=>bnd (ab x1 4) fun x15=>bnd (stA 1 H14 x15 x11) fun H16=>bnd (ldA true 5 H16 x1) fun x17=>bnd (stA 5 H16 x3 x17) fun H18=>bnd (ldA true 5 H18 x3) fun r19=>K r19 H18)):∃ r H1,aq Tryz.prog σ iD [a0] H r H1∧K r H1 :=
 gwp 0 (fn:=Tryz.f164) (f:=iD) (c:=lT.code) (by kernel_rfl) (by kernel_rfl) (Eq.mpr (by kernel_rfl) h)
noncomputable def aU.code:Code:=ar Tryz.f165
noncomputable def aU.Q0 (σ:Sig) (K:AV→Hp→Prop):Exit→List AV→Hp→Prop:=(nx (fQ Tryz.f165 σ K) fun T G=>wp (CZ σ) 1800 (sR (sR (sR aU.code))) T G (fQ Tryz.f165 σ K))
noncomputable def aU.L0 (σ:Sig) (K:AV→Hp→Prop) (y3 y8 y9 y10:AV) (H:Hp):Prop:=∀ j:Nat→AV,co (CZ σ) (lB (bB (sR (sL (sR (sR aU.code)))))) [j 0,j 1,j 2,y3,j 4,j 5,j 6,j 7,y8,y9,y10,j 11,j 12,j 13,j 14,j 15,j 16,j 17,j 18,j 19,j 20,j 21,j 22,j 23,j 24,j 25,j 26,j 27,j 28,j 29] H (fun e T G=>(aU.Q0 σ K) (aI 0 e) T G)
noncomputable def aU.J1 (σ:Sig) (K:AV→Hp→Prop) (y3 y8 y9 y10:AV) (H:Hp):Prop:=∀ j:Nat→AV,wp (CZ σ) 1800 (sR (sR (sR (lB (bB (sR (sL (sR (sR aU.code))))))))) [j 0,j 1,j 2,y3,j 4,j 5,j 6,j 7,y8,y9,y10,j 11,j 12,j 13,j 14,j 15,j 16,j 17,j 18,j 19,j 20,j 21,j 22,j 23,j 24,j 25,j 26,j 27,j 28,j 29] H (nx (fun e T G=>(aU.Q0 σ K) (aI 0 e) T G) fun T G=>∀ j,co (CZ σ) (lB (bB (sR (sL (sR (sR aU.code)))))) (ga 1800 j 0 T) G (fun e T G=>(aU.Q0 σ K) (aI 0 e) T G))
theorem aU.L0_step {y3 y8 y9 y10:AV} (h:bnd (aj .lss y10 y9) fun x1=>ifB x1 (bnd (aw 1 y8 y10) fun x2=>bnd (ldA false 1 H x2) fun x3=>bnd (aj .geq x3 (.lit (.int .u8 65))) fun x4=>ifB x4 (bnd (aj .leq x3 (.lit (.int .u8 90))) fun x5=>ifB x5 (bnd (aj .add x3 (.lit (.int .u8 97))) fun x6=>bnd (aj .sub x6 (.lit (.int .u8 65))) fun x7=>bnd (aw 1 y3 y10) fun x8=>bnd (stA 1 H x8 x7) fun H9=>aU.J1 σ K y3 y8 y9 y10 H9) (aU.J1 σ K y3 y8 y9 y10 H)) (aU.J1 σ K y3 y8 y9 y10 H)) (bnd (jh H y3) fun x10=>K x10 H)):aU.L0 σ K y3 y8 y9 y10 H :=
 fun j=>lrd (g:=1800) (Eq.mpr (by kernel_rfl) h)
theorem aU.J1_step {y3 y8 y9 y10:AV} (h:bnd (aj .add y10 (I 1)) fun x1=>aU.L0 σ K y3 y8 y9 x1 H):aU.J1 σ K y3 y8 y9 y10 H :=
 fun j=>Eq.mpr (by kernel_rfl) h
theorem aU.run {a0:AV} (h:bnd (iK H a0) fun p1=>bnd (aM p1.1) fun x2=>aU.L0 σ K p1.1 p1.1 x2 (I 0) p1.2):∃ r H1,aq Tryz.prog σ gH [a0] H r H1∧K r H1 :=
 gwp 1800 (fn:=Tryz.f165) (f:=gH) (c:=aU.code) (by kernel_rfl) (by kernel_rfl) (Eq.mpr (by kernel_rfl) h)
noncomputable def kr.code:Code:=ar Tryz.f169
theorem kr.run {a0:AV} (h:ai Tryz.prog σ bA [a0] H fun x1 H2=>bnd (ao a0) fun x3=>bnd (ab x3 4) fun x4=>bnd (stA 1 H2 x4 x1) fun H5=>K (.fn bN []) H5):∃ r H1,aq Tryz.prog σ aO [a0] H r H1∧K r H1 :=
 gwp 0 (fn:=Tryz.f169) (f:=aO) (c:=kr.code) (by kernel_rfl) (by kernel_rfl) (Eq.mpr (by kernel_rfl) h)
noncomputable def lN.code:Code:=ar Tryz.f170
theorem lN.run {a0:AV} (h:ai Tryz.prog σ bA [a0] H fun x1 H2=>bnd (aj .sub x1 (I 1)) fun x3=>bnd (ao a0) fun x4=>bnd (ab x4 4) fun x5=>bnd (stA 1 H2 x5 x3) fun H6=>K (.fn ct []) H6):∃ r H1,aq Tryz.prog σ bD [a0] H r H1∧K r H1 :=
 gwp 0 (fn:=Tryz.f170) (f:=bD) (c:=lN.code) (by kernel_rfl) (by kernel_rfl) (Eq.mpr (by kernel_rfl) h)
noncomputable def j3.code:Code:=ar Tryz.f171
theorem j3.run {a0:AV} (h:ai Tryz.prog σ bP [a0] H fun x1 H2=>bnd (ao a0) fun x3=>bnd (ab x3 3) fun x4=>bnd (stA 1 H2 x4 x1) fun H5=>K (.fn bu []) H5):∃ r H1,aq Tryz.prog σ aY [a0] H r H1∧K r H1 :=
 gwp 0 (fn:=Tryz.f171) (f:=aY) (c:=j3.code) (by kernel_rfl) (by kernel_rfl) (Eq.mpr (by kernel_rfl) h)
noncomputable def gS.code:Code:=ar Tryz.f173
theorem gS.run {a0:AV} (h:cY [I 0,I 0,Bo false,Bo false] H fun x1 H2=>bnd (ao a0) fun x3=>bnd (ab x3 68) fun x4=>bnd (ldA true 4 H2 x4) fun x5=>bnd (stA 4 H2 x1 x5) fun H6=>bnd (ldA true 4 H6 x1) fun r7=>K r7 H6):∃ r H1,aq Tryz.prog σ d8 [a0] H r H1∧K r H1 :=
 gwp 0 (fn:=Tryz.f173) (f:=d8) (c:=gS.code) (by kernel_rfl) (by kernel_rfl) (Eq.mpr (by kernel_rfl) h)
noncomputable def aE.code:Code:=ar Tryz.f175
noncomputable def aE.L0 (σ:Sig) (K:AV→Hp→Prop) (y1 y10 y11 y12:AV) (H:Hp):Prop:=∀ j:Nat→AV,co (CZ σ) (lB (bB (sR (sL (sR aE.code))))) [j 0,y1,j 2,j 3,j 4,j 5,j 6,j 7,j 8,j 9,y10,y11,y12,j 13,j 14,j 15,j 16,j 17,j 18,j 19,j 20,j 21,j 22] H (fun e T G=>(nx (fQ Tryz.f175 σ K) fun T G=>wp (CZ σ) 7170 (sR (sR aE.code)) T G (fQ Tryz.f175 σ K)) (aI 0 e) T G)
theorem aE.L0_step {y1 y10 y11 y12:AV} (h:bnd (aj .lss y12 y11) fun x1=>ifB x1 (bnd (aw 2 y10 y12) fun x2=>bnd (ldA true 2 H x2) fun x3=>cY [I 0,I 0] H fun x4 H5=>bnd (stA 2 H5 x4 x3) fun H6=>bnd (ab x4 0) fun x7=>bnd (ldA false 1 H6 x7) fun x8=>bnd (aj .eql x8 y1) fun x9=>ifB x9 (K y12 H6) (bnd (aj .add y12 (I 1)) fun x10=>aE.L0 σ K y1 y10 y11 x10 H6)) (K (I (-1)) H)):aE.L0 σ K y1 y10 y11 y12 H :=
 fun j=>lrd (g:=7170) (Eq.mpr (by kernel_rfl) h)
theorem aE.run {a0 a1:AV} (h:bnd (ao a0) fun x1=>bnd (ab x1 0) fun x2=>bnd (ldA false 1 H x2) fun x3=>bnd (aM x3) fun x4=>aE.L0 σ K a1 x3 x4 (I 0) H):∃ r H1,aq Tryz.prog σ bZ [a0,a1] H r H1∧K r H1 :=
 gwp 7170 (fn:=Tryz.f175) (f:=bZ) (c:=aE.code) (by kernel_rfl) (by kernel_rfl) (Eq.mpr (by kernel_rfl) h)
noncomputable def a_.code:Code:=ar Tryz.f176
noncomputable def a_.J0 (σ:Sig) (K:AV→Hp→Prop) (y0 y3:AV) (H:Hp):Prop:=∀ j:Nat→AV,wp (CZ σ) 9 (sR (sR a_.code)) [y0,j 1,j 2,y3,j 4,j 5,j 6,j 7,j 8,j 9,j 10,j 11,j 12,j 13,j 14,j 15,j 16,j 17,j 18,j 19,j 20,j 21,j 22,j 23,j 24,j 25,j 26,j 27,j 28,j 29,j 30,j 31,j 32,j 33,j 34,j 35,j 36,j 37] H (fQ Tryz.f176 σ K)
theorem a_.J0_step {y0 y3:AV} (h:bnd (ao y0) fun x1=>bnd (ab x1 0) fun x2=>bnd (ldA false 1 H x2) fun x3=>bnd (ldA true 2 H y3) fun x4=>bnd (cw [.int .i64 0,.int .i64 0] 2 1 H [(0,2,x4)]) fun p5=>kpK (x2,some 1) H p5.2 (bnd (eC false 2 16 p5.2 x3 p5.1) fun p6=>bnd (ao y0) fun x7=>bnd (ab x7 0) fun x8=>bnd (stA 1 p6.2 x8 p6.1) fun H9=>K (.tup []) H9)):a_.J0 σ K y0 y3 H :=
 fun j=>Eq.mpr (by kernel_rfl) h
theorem a_.run {a0 a1:AV} (h:dN a1 H fun x1 H2=>bnd (ab x1 0) fun x3=>bnd (ldA false 1 H2 x3) fun x4=>ai Tryz.prog σ bZ [a0,x4] H2 fun x5 H6=>bnd (aj .geq x5 (I 0)) fun x7=>ifB x7 (bnd (ao a0) fun x8=>bnd (ab x8 0) fun x9=>bnd (ldA false 1 H6 x9) fun x10=>bnd (qr 2 x10 none (some x5) none) fun x11=>bnd (ao a0) fun x12=>bnd (ab x12 0) fun x13=>bnd (ldA false 1 H6 x13) fun x14=>bnd (aj .add x5 (I 1)) fun x15=>bnd (qr 2 x14 (some x15) none none) fun x16=>bnd (eC false 2 16 H6 x11 x16) fun p17=>bnd (ao a0) fun x18=>bnd (ab x18 0) fun x19=>bnd (stA 1 p17.2 x19 p17.1) fun H20=>a_.J0 σ K a0 x1 H20) (a_.J0 σ K a0 x1 H6)):∃ r H1,aq Tryz.prog σ cK [a0,a1] H r H1∧K r H1 :=
 gwp 9 (fn:=Tryz.f176) (f:=cK) (c:=a_.code) (by kernel_rfl) (by kernel_rfl) (Eq.mpr (by kernel_rfl) h)
end Go.Proofs.YtegioimlblnajaaGreat.Ev
namespace Go.Proofs.YtegioimlblnajaaGreat.Ev
set_option maxRecDepth 100000
set_option maxHeartbeats 4000000
set_option linter.unusedVariables false
variable {σ:Sig} {K:AV→Hp→Prop} {H:Hp}
noncomputable def cU.code:Code:=ar Tryz.f181
noncomputable def cU.R0 (j:Nat→AV) (y3 y4 y5:AV):li:=⟨[j 0,j 1,j 2,y3,y4,y5,j 6,j 7,j 8,j 9,j 10,j 11,j 12,j 13,j 14,j 15,j 16,j 17,j 18,j 19,j 20,j 21,j 22,j 23,j 24,j 25,j 26,j 27,j 28,j 29,j 30,j 31,j 32,j 33,j 34,j 35,j 36,j 37,j 38,j 39,j 40],rP (bB (sR (sL (sR (sR (sR (sR cU.code))))))),rA (bB (sR (sL (sR (sR (sR (sR cU.code))))))),rB (bB (sR (sL (sR (sR (sR (sR cU.code)))))))⟩
theorem cU.run {a0:AV} (h:cY (List.replicate 16 (I 0)) H fun x1 H2=>cY (List.replicate 16 (I 0)) H2 fun x3 H4=>cY [I 0,I 0,I 0,Bo false,I 0,I 0,I 0,I 0,Bo false,I 0,I 0,I 0,I 0,Bo false,I 0,I 0,I 0,I 0,Bo false,I 0,I 0,I 0,I 0,Bo false,I 0,I 0,I 0,I 0,Bo false,I 0,I 0,I 0,I 0,Bo false,I 0,I 0,I 0,I 0,Bo false,I 0] H4 fun x5 H6=>cY [Bo false,Bo false,Bo false,Bo false,Bo false,Bo false,Bo false,Bo false] H6 fun x7 H8=>∀ j:Nat→AV,pg Tryz.prog σ a0 (cU.R0 j x3 x5 x7) H8 (fun H9=>bnd (ldA true 16 H9 x3) fun x11=>bnd (stA 16 H9 x1 x11) fun H12=>bnd (ldA true 16 H12 x1) fun r13=>K r13 H12) (fun H9=>bnd (ldA true 16 H9 x1) fun r14=>K r14 H9) (fun i10 H9=>exB (Nat.beq i10 1) (False) (False))):∃ r H1,aq Tryz.prog σ gq [a0] H r H1∧K r H1 :=
 gwp 56 (fn:=Tryz.f181) (f:=gq) (c:=cU.code) (by kernel_rfl) (by kernel_rfl) (Eq.mpr (by kernel_rfl) h)
noncomputable def fU.code:Code:=ar Tryz.f182
theorem fU.run {a0 a1 a2 a3 a4:AV} (h:dN a0 H fun x1 H2=>dN a1 H2 fun x3 H4=>dN a2 H4 fun x5 H6=>dN a3 H6 fun x7 H8=>dN a4 H8 fun x9 H10=>K (.fn d7 [x7,x5,x9,x1,x3]) H10):∃ r H1,aq Tryz.prog σ eX [a0,a1,a2,a3,a4] H r H1∧K r H1 :=
 gwp 0 (fn:=Tryz.f182) (f:=eX) (c:=fU.code) (by kernel_rfl) (by kernel_rfl) (Eq.mpr (by kernel_rfl) h)
noncomputable def jp.code:Code:=ar Tryz.f184
theorem jp.run {a0:AV} (h:bnd (ao a0) fun x1=>bnd (ab x1 1) fun x2=>bnd (ab x2 0) fun x3=>bnd (ldA false 1 H x3) fun x4=>bnd (aM x4) fun x5=>K x5 H):∃ r H1,aq Tryz.prog σ iu [a0] H r H1∧K r H1 :=
 gwp 0 (fn:=Tryz.f184) (f:=iu) (c:=jp.code) (by kernel_rfl) (by kernel_rfl) (Eq.mpr (by kernel_rfl) h)
noncomputable def kA.code:Code:=ar Tryz.f185
theorem kA.run {a0 a1:AV} (h:cY [I 0,.lit (.string ⟨#[]⟩),.lit (.string ⟨#[]⟩),.lit (.slice none 0 0),.lit (.slice none 0 0),.lit (.slice none 0 0),I 0,I 0,I 0] H fun x1 H2=>bnd (aj .lss a1 (I 0)) fun x3=>ifB x3 (bnd (cR [I 0,.lit (.string ⟨#[]⟩),.lit (.string ⟨#[]⟩),.lit (.slice none 0 0),.lit (.slice none 0 0)] []) fun l4=>bnd (cR [I 0,.lit (.string ⟨#[]⟩),.lit (.string ⟨#[]⟩),.lit (.slice none 0 0),.lit (.slice none 0 0),.lit (.slice none 0 0),I 0,I 0,I 0] [(0,5,(.agg l4)),(8,1,(I (-1)))]) fun l5=>bnd (stA 9 H2 x1 (.agg l5)) fun H6=>bnd (ldA true 9 H6 x1) fun r7=>K r7 H6) (bnd (ao a0) fun x8=>bnd (ab x8 0) fun x9=>bnd (ldA false 1 H2 x9) fun x10=>bnd (aM x10) fun x11=>bnd (aj .geq a1 x11) fun x12=>ifB x12 (bnd (cR [I 0,.lit (.string ⟨#[]⟩),.lit (.string ⟨#[]⟩),.lit (.slice none 0 0),.lit (.slice none 0 0)] []) fun l13=>bnd (cR [I 0,.lit (.string ⟨#[]⟩),.lit (.string ⟨#[]⟩),.lit (.slice none 0 0),.lit (.slice none 0 0),.lit (.slice none 0 0),I 0,I 0,I 0] [(0,5,(.agg l13)),(8,1,(I (-1)))]) fun l14=>bnd (stA 9 H2 x1 (.agg l14)) fun H15=>bnd (ldA true 9 H15 x1) fun r16=>K r16 H15) (bnd (ao a0) fun x17=>bnd (ab x17 0) fun x18=>bnd (ldA false 1 H2 x18) fun x19=>bnd (aw 9 x19 a1) fun x20=>bnd (ldA true 9 H2 x20) fun x21=>bnd (stA 9 H2 x1 x21) fun H22=>bnd (ldA true 9 H22 x1) fun r23=>K r23 H22))):∃ r H1,aq Tryz.prog σ fG [a0,a1] H r H1∧K r H1 :=
 gwp 0 (fn:=Tryz.f185) (f:=fG) (c:=kA.code) (by kernel_rfl) (by kernel_rfl) (Eq.mpr (by kernel_rfl) h)
noncomputable def cd.code:Code:=ar Tryz.f192
theorem cd.run {a0:AV} (h:bnd (mT .eql a0 (.lit (.slice none 0 0))) fun x1=>ifB x1 (K (.lit (.slice none 0 0)) H) (bnd (cw [.string ⟨#[]⟩] 1 0 H []) fun p2=>bnd (eC false 1 16 p2.2 p2.1 a0) fun p3=>K p3.1 p3.2)):∃ r H1,aq Tryz.prog σ aQ [a0] H r H1∧K r H1 :=
 gwp 0 (fn:=Tryz.f192) (f:=aQ) (c:=cd.code) (by kernel_rfl) (by kernel_rfl) (Eq.mpr (by kernel_rfl) h)
noncomputable def bM.code:Code:=ar Tryz.f193
theorem bM.run {a0:AV} (h:bnd (mT .eql a0 (.lit (.slice none 0 0))) fun x1=>ifB x1 (K (.lit (.slice none 0 0)) H) (bnd (cw [.string ⟨#[]⟩,.string ⟨#[]⟩] 2 0 H []) fun p2=>bnd (eC false 2 32 p2.2 p2.1 a0) fun p3=>K p3.1 p3.2)):∃ r H1,aq Tryz.prog σ bf [a0] H r H1∧K r H1 :=
 gwp 0 (fn:=Tryz.f193) (f:=bf) (c:=bM.code) (by kernel_rfl) (by kernel_rfl) (Eq.mpr (by kernel_rfl) h)
noncomputable def dr.code:Code:=ar Tryz.f196
theorem dr.run {a0:AV} (h:ai Tryz.prog σ aW [a0,(I (-1001)),(Bo false)] H fun x1 H2=>bnd (ao a0) fun x3=>bnd (ab x3 0) fun x4=>bnd (ldA false 1 H2 x4) fun x5=>bnd (ao x5) fun x6=>bnd (ab x6 2) fun x7=>bnd (ldA false 1 H2 x7) fun x8=>K x8 H2):∃ r H1,aq Tryz.prog σ bA [a0] H r H1∧K r H1 :=
 gwp 0 (fn:=Tryz.f196) (f:=bA) (c:=dr.code) (by kernel_rfl) (by kernel_rfl) (Eq.mpr (by kernel_rfl) h)
noncomputable def kK.code:Code:=ar Tryz.f197
theorem kK.run {a0:AV} (h:ai Tryz.prog σ bP [a0] H fun x1 H2=>bnd (ao a0) fun x3=>bnd (ab x3 3) fun x4=>bnd (stA 1 H2 x4 x1) fun H5=>bnd (ao a0) fun x6=>bnd (ab x6 4) fun x7=>bnd (ldA false 1 H5 x7) fun x8=>bnd (ao a0) fun x9=>bnd (ab x9 3) fun x10=>bnd (ldA false 1 H5 x10) fun x11=>bnd (aj .sub x8 x11) fun x12=>bnd (ao a0) fun x13=>bnd (ab x13 0) fun x14=>bnd (ldA false 1 H5 x14) fun x15=>bnd (ao x15) fun x16=>bnd (ab x16 0) fun x17=>bnd (ldA false 1 H5 x17) fun x18=>bnd (aM x18) fun x19=>bnd (aj .eql x12 x19) fun x20=>ifB x20 (K (.lit (.nilFunc)) H5) (K (.fn bX []) H5)):∃ r H1,aq Tryz.prog σ bN [a0] H r H1∧K r H1 :=
 gwp 0 (fn:=Tryz.f197) (f:=bN) (c:=kK.code) (by kernel_rfl) (by kernel_rfl) (Eq.mpr (by kernel_rfl) h)
noncomputable def lS.code:Code:=ar Tryz.f198
theorem lS.run {a0:AV} (h:bnd (ao a0) fun x1=>bnd (ab x1 4) fun x2=>bnd (ldA false 1 H x2) fun x3=>ai Tryz.prog σ bz [a0,x3] H fun x4 H5=>K (.fn bn []) H5):∃ r H1,aq Tryz.prog σ ct [a0] H r H1∧K r H1 :=
 gwp 0 (fn:=Tryz.f198) (f:=ct) (c:=lS.code) (by kernel_rfl) (by kernel_rfl) (Eq.mpr (by kernel_rfl) h)
noncomputable def dU.code:Code:=ar Tryz.f199
theorem dU.run {a0:AV} (h:ai Tryz.prog σ aW [a0,(I (-1000)),(Bo false)] H fun x1 H2=>bnd (ao a0) fun x3=>bnd (ab x3 0) fun x4=>bnd (ldA false 1 H2 x4) fun x5=>bnd (ao x5) fun x6=>bnd (ab x6 1) fun x7=>bnd (ldA false 1 H2 x7) fun x8=>K x8 H2):∃ r H1,aq Tryz.prog σ bP [a0] H r H1∧K r H1 :=
 gwp 0 (fn:=Tryz.f199) (f:=bP) (c:=dU.code) (by kernel_rfl) (by kernel_rfl) (Eq.mpr (by kernel_rfl) h)
noncomputable def jQ.code:Code:=ar Tryz.f200
theorem jQ.run {a0:AV} (h:ai Tryz.prog σ bA [a0] H fun x1 H2=>bnd (ao a0) fun x3=>bnd (ab x3 4) fun x4=>bnd (stA 1 H2 x4 x1) fun H5=>bnd (ao a0) fun x6=>bnd (ab x6 3) fun x7=>bnd (ldA false 1 H5 x7) fun x8=>bnd (ao a0) fun x9=>bnd (ab x9 4) fun x10=>bnd (ldA false 1 H5 x10) fun x11=>bnd (aj .geq x8 x11) fun x12=>ifB x12 (K (.lit (.nilFunc)) H5) (K (.fn br []) H5)):∃ r H1,aq Tryz.prog σ bu [a0] H r H1∧K r H1 :=
 gwp 0 (fn:=Tryz.f200) (f:=bu) (c:=jQ.code) (by kernel_rfl) (by kernel_rfl) (Eq.mpr (by kernel_rfl) h)
noncomputable def ak.code:Code:=ar Tryz.f210
noncomputable def ak.Q0 (σ:Sig) (K:AV→Hp→Prop):Exit→List AV→Hp→Prop:=(nx (fun e T G=>(fQ Tryz.f210 σ K) (aI 0 e) T G) fun T G=>∀ j,co (CZ σ) (lB (bB (sR ak.code))) (ga 4035225386383520573 j 0 T) G (fun e T G=>(fQ Tryz.f210 σ K) (aI 0 e) T G))
noncomputable def ak.Q1 (σ:Sig) (K:AV→Hp→Prop):Exit→List AV→Hp→Prop:=(nx (ak.Q0 σ K) fun T G=>∀ j,wp (CZ σ) 4035225386383520573 (sR (sR (sR (lB (bB (sR ak.code)))))) (ga 4035225386383520573 j 0 T) G (ak.Q0 σ K))
noncomputable def ak.Q2 (σ:Sig) (K:AV→Hp→Prop):Exit→List AV→Hp→Prop:=(nx (fun e T G=>(ak.Q1 σ K) (aI 1 e) T G) fun T G=>wp (CZ σ) 4035225386383520573 (sR (sR (sR (sR (bB (sL (sR (sR (lB (bB (sR ak.code))))))))))) T G (fun e T G=>(ak.Q1 σ K) (aI 1 e) T G))
noncomputable def ak.L0 (σ:Sig) (K:AV→Hp→Prop) (y0 y2 y3 y4 y5 y8 y9 y12 y13 y16 y17 y18 y34 y35 y36 y59 y60 y61:AV) (H:Hp):Prop:=∀ j:Nat→AV,co (CZ σ) (lB (bB (sR ak.code))) [y0,j 1,y2,y3,y4,y5,j 6,j 7,y8,y9,j 10,j 11,y12,y13,j 14,j 15,y16,y17,y18,j 19,j 20,j 21,j 22,j 23,j 24,j 25,j 26,j 27,j 28,j 29,j 30,j 31,j 32,j 33,y34,y35,y36,j 37,j 38,j 39,j 40,j 41,j 42,j 43,j 44,j 45,j 46,j 47,j 48,j 49,j 50,j 51,j 52,j 53,j 54,j 55,j 56,j 57,j 58,y59,y60,y61,j 62,j 63,j 64,j 65,j 66,j 67,j 68,j 69,j 70,j 71,j 72,j 73,j 74,j 75] H (fun e T G=>(fQ Tryz.f210 σ K) (aI 0 e) T G)
noncomputable def ak.J1 (σ:Sig) (K:AV→Hp→Prop) (y0 y2 y3 y4 y5 y8 y9 y12 y13 y16 y17 y18 y34 y35 y36 y59 y60 y61:AV) (H:Hp):Prop:=∀ j:Nat→AV,wp (CZ σ) 4035225386383520573 (sR (sR (sR (lB (bB (sR ak.code)))))) [y0,j 1,y2,y3,y4,y5,j 6,j 7,y8,y9,j 10,j 11,y12,y13,j 14,j 15,y16,y17,y18,j 19,j 20,j 21,j 22,j 23,j 24,j 25,j 26,j 27,j 28,j 29,j 30,j 31,j 32,j 33,y34,y35,y36,j 37,j 38,j 39,j 40,j 41,j 42,j 43,j 44,j 45,j 46,j 47,j 48,j 49,j 50,j 51,j 52,j 53,j 54,j 55,j 56,j 57,j 58,y59,y60,y61,j 62,j 63,j 64,j 65,j 66,j 67,j 68,j 69,j 70,j 71,j 72,j 73,j 74,j 75] H (ak.Q0 σ K)
noncomputable def ak.L2 (σ:Sig) (K:AV→Hp→Prop) (y0 y2 y3 y4 y5 y8 y9 y12 y13 y16 y17 y18 y34 y35 y36 y59 y60 y61:AV) (H:Hp):Prop:=∀ j:Nat→AV,co (CZ σ) (lB (bB (sR (sL (sR (sR (sR (bB (sL (sR (sR (lB (bB (sR ak.code)))))))))))))) [y0,j 1,y2,y3,y4,y5,j 6,j 7,y8,y9,j 10,j 11,y12,y13,j 14,j 15,y16,y17,y18,j 19,j 20,j 21,j 22,j 23,j 24,j 25,j 26,j 27,j 28,j 29,j 30,j 31,j 32,j 33,y34,y35,y36,j 37,j 38,j 39,j 40,j 41,j 42,j 43,j 44,j 45,j 46,j 47,j 48,j 49,j 50,j 51,j 52,j 53,j 54,j 55,j 56,j 57,j 58,y59,y60,y61,j 62,j 63,j 64,j 65,j 66,j 67,j 68,j 69,j 70,j 71,j 72,j 73,j 74,j 75] H (fun e T G=>(ak.Q2 σ K) (aI 2 e) T G)
theorem ak.L0_step {y0 y2 y3 y4 y5 y8 y9 y12 y13 y16 y17 y18 y34 y35 y36 y59 y60 y61:AV} (h:bnd (aj .lss y18 y17) fun x1=>ifB x1 (bnd (aw 1 y16 y18) fun x2=>bnd (ldA false 1 H x2) fun x3=>bnd (aj .lss x3 (I 0)) fun x4=>ifB x4 (ak.J1 σ K y0 y2 y3 y4 y5 x3 y9 y12 y13 y16 y17 y18 y34 y35 y36 y59 y60 y61 H) (bnd (ldA false 1 H y2) fun x5=>bnd (aM x5) fun x6=>bnd (aj .geq x3 x6) fun x7=>ifB x7 (ak.J1 σ K y0 y2 y3 y4 y5 x3 y9 y12 y13 y16 y17 y18 y34 y35 y36 y59 y60 y61 H) (bnd (ldA false 1 H y2) fun x8=>bnd (aw 2 x8 x3) fun x9=>bnd (ab x9 0) fun x10=>bnd (ldA false 1 H x10) fun x11=>bnd (aM x11) fun x12=>ak.L2 σ K y0 y2 y3 y4 y5 x3 (.lit (.slice none 0 0)) y12 y13 y16 y17 y18 x11 x12 (I 0) y59 y60 y61 H))) (K (.tup []) H)):ak.L0 σ K y0 y2 y3 y4 y5 y8 y9 y12 y13 y16 y17 y18 y34 y35 y36 y59 y60 y61 H :=
 fun j=>lrd (g:=4035225386383520573) (Eq.mpr (by kernel_rfl) h)
theorem ak.run {a0 a1 a2 a3 a4 a5:AV} (h:bnd (ldA false 1 H a1) fun x1=>bnd (aM x1) fun x2=>ak.L0 σ K a0 a2 a3 a4 a5 (.lit undef) (.lit undef) (.lit undef) (.lit undef) x1 x2 (I 0) (.lit undef) (.lit undef) (.lit undef) (.lit undef) (.lit undef) (.lit undef) H):∃ r H1,aq Tryz.prog σ d7 [a0,a1,a2,a3,a4,a5] H r H1∧K r H1 :=
 gwp 4035225386383520573 (fn:=Tryz.f210) (f:=d7) (c:=ak.code) (by kernel_rfl) (by kernel_rfl) (Eq.mpr (by kernel_rfl) h)
noncomputable def d_.code:Code:=ar Tryz.f218
theorem d_.run {a0 a1 a2:AV} (h:bnd (ao a0) fun x1=>bnd (ab x1 0) fun x2=>bnd (ldA false 1 H x2) fun x3=>bnd (ao a0) fun x4=>bnd (ab x4 1) fun x5=>bnd (ldA false 1 H x5) fun x6=>bnd (cR [I 0,I 0,Bo false,Bo false] [(0,1,x6),(1,1,a1),(2,1,a2),(3,1,(Bo true))]) fun l7=>bnd (ao x3) fun x8=>bnd (ab x8 68) fun x9=>bnd (stA 4 H x9 (.agg l7)) fun H10=>K (.tup []) H10):∃ r H1,aq Tryz.prog σ aW [a0,a1,a2] H r H1∧K r H1 :=
 gwp 0 (fn:=Tryz.f218) (f:=aW) (c:=d_.code) (by kernel_rfl) (by kernel_rfl) (Eq.mpr (by kernel_rfl) h)
noncomputable def kq.code:Code:=ar Tryz.f219
theorem kq.run {a0:AV} (h:bnd (ao a0) fun x1=>bnd (ab x1 4) fun x2=>bnd (ldA false 1 H x2) fun x3=>ai Tryz.prog σ cj [a0,x3] H fun x4 H5=>bnd (aj .sub (I (-1002)) x4) fun x6=>ai Tryz.prog σ aW [a0,x6,(Bo true)] H5 fun x7 H8=>bnd (ao a0) fun x9=>bnd (ab x9 0) fun x10=>bnd (ldA false 1 H8 x10) fun x11=>bnd (ao x11) fun x12=>bnd (ab x12 0) fun x13=>bnd (ldA false 1 H8 x13) fun x14=>bnd (ao a0) fun x15=>bnd (ab x15 4) fun x16=>bnd (ldA false 1 H8 x16) fun x17=>ai Tryz.prog σ cj [a0,x17] H8 fun x18 H19=>kpK (x13,some 1) H8 H19 (kpK (x10,some 1) H8 H19 (bnd (ao a0) fun x20=>bnd (ab x20 2) fun x21=>kpK (x21,some 1) H8 H19 (bnd (ldA false 1 H19 x21) fun x22=>bnd (aw 1 x14 x18) fun x23=>bnd (stA 1 H19 x23 x22) fun H24=>K (.fn cm []) H24)))):∃ r H1,aq Tryz.prog σ bX [a0] H r H1∧K r H1 :=
 gwp 0 (fn:=Tryz.f219) (f:=bX) (c:=kq.code) (by kernel_rfl) (by kernel_rfl) (Eq.mpr (by kernel_rfl) h)
noncomputable def df.code:Code:=ar Tryz.f220
theorem df.run {a0 a1:AV} (h:ai Tryz.prog σ aW [a0,(I (-1001)),(Bo true)] H fun x1 H2=>bnd (ao a0) fun x3=>bnd (ab x3 0) fun x4=>bnd (ldA false 1 H2 x4) fun x5=>bnd (ao x5) fun x6=>bnd (ab x6 2) fun x7=>bnd (stA 1 H2 x7 a1) fun H8=>K (.tup []) H8):∃ r H1,aq Tryz.prog σ bz [a0,a1] H r H1∧K r H1 :=
 gwp 0 (fn:=Tryz.f220) (f:=bz) (c:=df.code) (by kernel_rfl) (by kernel_rfl) (Eq.mpr (by kernel_rfl) h)
noncomputable def lW.code:Code:=ar Tryz.f221
theorem lW.run {a0:AV} (h:ai Tryz.prog σ bP [a0] H fun x1 H2=>bnd (ao a0) fun x3=>bnd (ab x3 3) fun x4=>bnd (stA 1 H2 x4 x1) fun H5=>bnd (ao a0) fun x6=>bnd (ab x6 3) fun x7=>bnd (ldA false 1 H5 x7) fun x8=>bnd (ao a0) fun x9=>bnd (ab x9 4) fun x10=>bnd (ldA false 1 H5 x10) fun x11=>bnd (aj .gtr x8 x11) fun x12=>ifB x12 (K (.fn aL []) H5) (K (.fn bq []) H5)):∃ r H1,aq Tryz.prog σ bn [a0] H r H1∧K r H1 :=
 gwp 0 (fn:=Tryz.f221) (f:=bn) (c:=lW.code) (by kernel_rfl) (by kernel_rfl) (Eq.mpr (by kernel_rfl) h)
noncomputable def jM.code:Code:=ar Tryz.f222
theorem jM.run {a0:AV} (h:bnd (ao a0) fun x1=>bnd (ab x1 3) fun x2=>bnd (ldA false 1 H x2) fun x3=>ai Tryz.prog σ cJ [a0,x3] H fun x4 H5=>K (.fn bi []) H5):∃ r H1,aq Tryz.prog σ br [a0] H r H1∧K r H1 :=
 gwp 0 (fn:=Tryz.f222) (f:=br) (c:=jM.code) (by kernel_rfl) (by kernel_rfl) (Eq.mpr (by kernel_rfl) h)
noncomputable def fT.code:Code:=ar Tryz.f231
theorem fT.run {a0 a1:AV} (h:bnd (ao a0) fun x1=>bnd (ab x1 0) fun x2=>bnd (ldA false 1 H x2) fun x3=>bnd (ao x3) fun x4=>bnd (ab x4 0) fun x5=>bnd (ldA false 1 H x5) fun x6=>bnd (aM x6) fun x7=>bnd (aj .rem a1 x7) fun x8=>K x8 H):∃ r H1,aq Tryz.prog σ cj [a0,a1] H r H1∧K r H1 :=
 gwp 0 (fn:=Tryz.f231) (f:=cj) (c:=fT.code) (by kernel_rfl) (by kernel_rfl) (Eq.mpr (by kernel_rfl) h)
noncomputable def kF.code:Code:=ar Tryz.f232
theorem kF.run {a0:AV} (h:bnd (ao a0) fun x1=>bnd (ab x1 4) fun x2=>bnd (ldA false 1 H x2) fun x3=>bnd (aj .add x3 (I 1)) fun x4=>ai Tryz.prog σ bz [a0,x4] H fun x5 H6=>bnd (ao a0) fun x7=>bnd (ab x7 5) fun x8=>bnd (stA 1 H6 x8 (Bo true)) fun H9=>K (.lit (.nilFunc)) H9):∃ r H1,aq Tryz.prog σ cm [a0] H r H1∧K r H1 :=
 gwp 0 (fn:=Tryz.f232) (f:=cm) (c:=kF.code) (by kernel_rfl) (by kernel_rfl) (Eq.mpr (by kernel_rfl) h)
noncomputable def lK.code:Code:=ar Tryz.f233
theorem lK.run {a0:AV} (h:bnd (ao a0) fun x1=>bnd (ab x1 4) fun x2=>bnd (ldA false 1 H x2) fun x3=>bnd (aj .add x3 (I 1)) fun x4=>ai Tryz.prog σ bz [a0,x4] H fun x5 H6=>K (.lit (.nilFunc)) H6):∃ r H1,aq Tryz.prog σ aL [a0] H r H1∧K r H1 :=
 gwp 0 (fn:=Tryz.f233) (f:=aL) (c:=lK.code) (by kernel_rfl) (by kernel_rfl) (Eq.mpr (by kernel_rfl) h)
noncomputable def l8.code:Code:=ar Tryz.f234
theorem l8.run {a0:AV} (h:bnd (ao a0) fun x1=>bnd (ab x1 4) fun x2=>bnd (ldA false 1 H x2) fun x3=>ai Tryz.prog σ cJ [a0,x3] H fun x4 H5=>bnd (ao a0) fun x6=>bnd (ab x6 3) fun x7=>bnd (ldA false 1 H5 x7) fun x8=>bnd (ao a0) fun x9=>bnd (ab x9 4) fun x10=>bnd (ldA false 1 H5 x10) fun x11=>bnd (aj .lss x8 x11) fun x12=>ifB x12 (bnd (ao a0) fun x13=>bnd (ab x13 5) fun x14=>bnd (stA 1 H5 x14 (Bo true)) fun H15=>K (.lit (.nilFunc)) H15) (K (.fn bx []) H5)):∃ r H1,aq Tryz.prog σ bq [a0] H r H1∧K r H1 :=
 gwp 0 (fn:=Tryz.f234) (f:=bq) (c:=l8.code) (by kernel_rfl) (by kernel_rfl) (Eq.mpr (by kernel_rfl) h)
noncomputable def eW.code:Code:=ar Tryz.f235
theorem eW.run {a0 a1:AV} (h:ai Tryz.prog σ cj [a0,a1] H fun x1 H2=>bnd (aj .sub (I (-1002)) x1) fun x3=>ai Tryz.prog σ aW [a0,x3,(Bo false)] H2 fun x4 H5=>bnd (ao a0) fun x6=>bnd (ab x6 0) fun x7=>bnd (ldA false 1 H5 x7) fun x8=>bnd (ao x8) fun x9=>bnd (ab x9 0) fun x10=>bnd (ldA false 1 H5 x10) fun x11=>ai Tryz.prog σ cj [a0,a1] H5 fun x12 H13=>kpK (x10,some 1) H5 H13 (kpK (x7,some 1) H5 H13 (bnd (aw 1 x11 x12) fun x14=>bnd (ldA false 1 H13 x14) fun x15=>bnd (ao a0) fun x16=>bnd (ab x16 2) fun x17=>bnd (stA 1 H13 x17 x15) fun H18=>K (.tup []) H18))):∃ r H1,aq Tryz.prog σ cJ [a0,a1] H r H1∧K r H1 :=
 gwp 0 (fn:=Tryz.f235) (f:=cJ) (c:=eW.code) (by kernel_rfl) (by kernel_rfl) (Eq.mpr (by kernel_rfl) h)
noncomputable def jY.code:Code:=ar Tryz.f236
theorem jY.run {a0:AV} (h:ai Tryz.prog σ cu [a0] H fun x1 H2=>bnd (ao a0) fun x3=>bnd (ab x3 5) fun x4=>bnd (stA 1 H2 x4 x1) fun H5=>K (.lit (.nilFunc)) H5):∃ r H1,aq Tryz.prog σ bi [a0] H r H1∧K r H1 :=
 gwp 0 (fn:=Tryz.f236) (f:=bi) (c:=jY.code) (by kernel_rfl) (by kernel_rfl) (Eq.mpr (by kernel_rfl) h)
noncomputable def lO.code:Code:=ar Tryz.f243
theorem lO.run {a0:AV} (h:ai Tryz.prog σ cu [a0] H fun x1 H2=>bnd (ao a0) fun x3=>bnd (ab x3 5) fun x4=>bnd (stA 1 H2 x4 x1) fun H5=>K (.fn aL []) H5):∃ r H1,aq Tryz.prog σ bx [a0] H r H1∧K r H1 :=
 gwp 0 (fn:=Tryz.f243) (f:=bx) (c:=lO.code) (by kernel_rfl) (by kernel_rfl) (Eq.mpr (by kernel_rfl) h)
noncomputable def dS.code:Code:=ar Tryz.f244
theorem dS.run {a0:AV} (h:ai Tryz.prog σ aW [a0,(I (-1000)),(Bo true)] H fun x1 H2=>bnd (ao a0) fun x3=>bnd (ab x3 0) fun x4=>bnd (ldA false 1 H2 x4) fun x5=>bnd (ao x5) fun x6=>bnd (ab x6 1) fun x7=>bnd (ldA false 1 H2 x7) fun x8=>bnd (ao a0) fun x9=>bnd (ab x9 3) fun x10=>bnd (ldA false 1 H2 x10) fun x11=>bnd (aj .neq x8 x11) fun x12=>ifB x12 (K (Bo false) H2) (bnd (ao a0) fun x13=>bnd (ab x13 0) fun x14=>bnd (ldA false 1 H2 x14) fun x15=>bnd (ao x15) fun x16=>bnd (ab x16 1) fun x17=>bnd (ldA false 1 H2 x17) fun x18=>bnd (aj .add x18 (I 1)) fun x19=>bnd (ao x15) fun x20=>bnd (ab x20 1) fun x21=>bnd (stA 1 H2 x21 x19) fun H22=>K (Bo true) H22)):∃ r H1,aq Tryz.prog σ cu [a0] H r H1∧K r H1 :=
 gwp 0 (fn:=Tryz.f244) (f:=cu) (c:=dS.code) (by kernel_rfl) (by kernel_rfl) (Eq.mpr (by kernel_rfl) h)
end Go.Proofs.YtegioimlblnajaaGreat.Ev
namespace Go.Proofs.YtegioimlblnajaaGreat.Ev
set_option maxRecDepth 100000
set_option maxHeartbeats 4000000
set_option linter.unusedVariables false
variable {σ:Sig} {K:AV→Hp→Prop} {H:Hp}
end Go.Proofs.YtegioimlblnajaaGreat.Ev
namespace Go.Proofs.YtegioimlblnajaaGreat.Ev
set_option linter.unusedVariables false
set_option linter.unusedSimpArgs false
variable {σ:Sig}
def gO (c:UInt8):UInt8:=if 65≤c.toNat∧c.toNat≤90 then UInt8.ofNat (c.toNat+32) else c
def tD (s:ByteArray):ByteArray:=⟨(s.data.toList.map gO).toArray⟩
def kL (c:UInt8):AV:=.lit (.int .u8 c.toNat)
theorem wr8 {n:Int} (h0:0≤n) (h1:n≤255):wr .u8 n=n:=by
 unfold wr
 simp [IntKind.wrap,IntKind.signed,IntKind.bits]
 omega
theorem oY:∀ (l:List UInt8),kH (l.map kL)=some l
 | []=>rfl
 | c::l=>by
  have ih:=oY l
  rw [List.map_cons]
  show (kH (l.map kL)).map (UInt8.ofNat ((c.toNat:Int)).toNat::·)=_
  rw [ih]
  simp
theorem zX (l:List UInt8):(l.map kL).all AV.one=true:=by
 rw [List.all_map,List.all_eq_true]
 intro x _; rfl
theorem vI {H:Hp} {id:Nat} {l:List UInt8} {n:Nat} {ex:Bool} (hg:H.get id=some (.cells (l.map kL) ex)) (hn:n=l.length):jh H (.sl id 0 1 n none)=some (Sx ⟨l.toArray⟩):=by
 subst hn
 simp only [jh,ia,hg]
 have e:List.take l.length (l.map kL)=l.map kL:=by
  have:=List.take_length (l:=l.map kL)
  rwa [List.length_map] at this
 simp only [List.drop_zero,Nat.mul_one,i4,e,List.length_map,decide_true,Bool.and_self,cond_true,zX,oY]
 rfl
theorem pD {l:List UInt8} {k:Nat} {c:UInt8} (h:l[k]?=some c) (v:UInt8) (hv:v=gO c):(l.set k v).take (k+1)++((l.set k v).drop (k+1)).map gO=l.take k++(l.drop k).map gO:=by
 subst hv
 obtain ⟨hlt,rfl⟩:=List.getElem?_eq_some_iff.1 h
 rw [List.drop_eq_getElem_cons hlt,List.take_succ_eq_append_getElem (by simpa using hlt),List.drop_set_of_lt (by omega),List.take_set_of_le (by omega)]
 simp
 rw [List.drop_eq_getElem_cons (i:=k) (l:=List.map gO l) (by simpa using hlt)]
 simp
theorem mD {l:List UInt8} {k:Nat} {c:UInt8} (h:l[k]?=some c) (hv:gO c=c):l.take (k+1)++(l.drop (k+1)).map gO=l.take k++(l.drop k).map gO:=by
 have:=pD h c hv.symm
 rwa [show l.set k c=l from by
  obtain ⟨hlt,rfl⟩:=List.getElem?_eq_some_iff.1 h
  simp] at this
theorem C2 {K:AV→Hp→Prop} {n id:Nat} (hn:n<9000000000000000000):∀ (d k:Nat) (l:List UInt8) (H:Hp) (ex:Bool),H.get id=some (.cells (l.map kL) ex)→l.length=n→n - k=d→k≤n→(∀ H,K (Sx ⟨(l.take k++(l.drop k).map gO).toArray⟩) H) →
  aU.L0 σ K (.sl id 0 1 n none) (.sl id 0 1 n none) (I n) (I k) H:=by
 intro d
 induction d with
 | zero =>
  intro k l H ex hg hl hd hk hK
  have e:k=n:=by omega
  subst e
  refine aU.L0_step ?_
  simp [vI hg hl.symm]
  simpa [← hl] using hK H
 | succ d ih =>
  intro k l H ex hg hl hd hk hK
  have hlt:k<n:=by omega
  have hlt':k<l.length:=by omega
  have hget:l[k]?=some l[k]:=List.getElem?_eq_getElem hlt'
  have hc:=(l[k]).toNat_lt
  refine aU.L0_step ?_
  simp [hlt,lA,hg,ve hlt',kL]
  have next:∀ (l':List UInt8) (H':Hp),H'.get id=some (.cells (l'.map kL) ex)→l'.length=n→l'.take (k+1)++(l'.drop (k+1)).map gO=l.take k++(l.drop k).map gO→aU.J1 σ K (.sl id 0 1 n none) (.sl id 0 1 n none) (I n) (I k) H':=by
   intro l' H' hg' hl' he
   refine aU.J1_step ?_
   simp
   rw [gC (Nat.lt_trans hlt hn)]
   exact ih (k+1) l' H' ex hg' hl' (by omega) (by omega) (by rw [he]; exact hK)
  split
  ·split
   ·rename_i h1 h2
    have e1:wr .u8 ((l[k].toNat:Int)+97)=(l[k].toNat:Int)+97:=wr8 (by omega) (by omega)
    have e2:wr .u8 ((l[k].toNat:Int)+97 - 65)=((gO l[k]).toNat:Int):=by
     rw [wr8 (by omega) (by omega)]
     unfold gO
     rw [if_pos ⟨by omega,by omega⟩]
     simp; omega
    rw [e1,e2]
    have e3:(k:Int).toNat=k:=by omega
    rw [if_pos (show k+1≤l.length from hlt'),ae]
    have e4:AV.lit (.int .u8 (gO l[k]).toNat)=kL (gO l[k]):=rfl
    rw [e4,CI _ hlt']
    exact next (l.set k (gO l[k])) _ (by simp) (by simpa using hl) (pD hget _ rfl)
   ·rename_i h1 h2
    exact next l H hg hl (mD hget (by unfold gO; rw [if_neg (by omega)]))
  ·rename_i h1
   exact next l H hg hl (mD hget (by unfold gO; rw [if_neg (by omega)]))
theorem oK (s:ByteArray) (hs:s.data.size<9000000000000000000) (H:Hp):aq Tryz.prog σ gH [Sx s] H (Sx (tD s)) H:=by
 refine dh (fun K hK=>aU.run ?_) rfl rfl H
 simp only [iK,ae,xU]
 refine C2 hs _ 0 s.data.toList _ false (by simp [kL]) (by simp) rfl (Nat.zero_le _) fun H=>?_
 simpa [tD] using hK H
theorem wb {K:AV→Hp→Prop} {n id:Nat} (hn:n<9000000000000000000):∀ (d k:Nat) (l:List UInt8) (H:Hp) (ex:Bool),H.get id=some (.cells (l.map kL) ex)→l.length=n→n - k=d→k≤n→(∀ H,K (Sx ⟨(l.take k++(l.drop k).map gO).toArray⟩) H) →
  aT.L0 σ K (.sl id 0 1 n none) (I k) H:=by
 intro d
 induction d with
 | zero =>
  intro k l H ex hg hl hd hk hK
  have e:k=n:=by omega
  subst e
  refine aT.L0_step ?_
  simp [vI hg hl.symm]
  simpa [← hl] using hK H
 | succ d ih =>
  intro k l H ex hg hl hd hk hK
  have hlt:k<n:=by omega
  have hlt':k<l.length:=by omega
  have hget:l[k]?=some l[k]:=List.getElem?_eq_getElem hlt'
  have hc:=(l[k]).toNat_lt
  refine aT.L0_step ?_
  simp [hlt,lA,hg,ve hlt',kL]
  have next:∀ (l':List UInt8) (H':Hp),H'.get id=some (.cells (l'.map kL) ex)→l'.length=n→l'.take (k+1)++(l'.drop (k+1)).map gO=l.take k++(l.drop k).map gO→aT.J1 σ K (.sl id 0 1 n none) (I k) H':=by
   intro l' H' hg' hl' he
   refine aT.J1_step ?_
   simp
   rw [gC (Nat.lt_trans hlt hn)]
   exact ih (k+1) l' H' ex hg' hl' (by omega) (by omega) (by rw [he]; exact hK)
  split
  ·split
   ·rename_i h1 h2
    have e2:wr .u8 ((l[k].toNat:Int)+32)=((gO l[k]).toNat:Int):=by
     rw [wr8 (by omega) (by omega)]
     unfold gO
     rw [if_pos ⟨by omega,by omega⟩]
     simp; omega
    rw [e2]
    rw [if_pos (show k+1≤l.length from hlt'),ae]
    have e4:AV.lit (.int .u8 (gO l[k]).toNat)=kL (gO l[k]):=rfl
    rw [e4,CI _ hlt']
    exact next (l.set k (gO l[k])) _ (by simp) (by simpa using hl) (pD hget _ rfl)
   ·rename_i h1 h2
    exact next l H hg hl (mD hget (by unfold gO; rw [if_neg (by omega)]))
  ·rename_i h1
   exact next l H hg hl (mD hget (by unfold gO; rw [if_neg (by omega)]))
theorem qU (s:ByteArray) (hs:s.data.size<9000000000000000000) (H:Hp):aq Tryz.prog σ gu [Sx s] H (Sx (tD s)) H:=by
 refine dh (fun K hK=>aT.run ?_) rfl rfl H
 simp only [iK,ae,xU]
 refine wb hs _ 0 s.data.toList _ false (by simp [kL]) (by simp) rfl (Nat.zero_le _) fun H=>?_
 simpa [tD] using hK H
end Go.Proofs.YtegioimlblnajaaGreat.Ev
namespace Go.Proofs.YtegioimlblnajaaGreat.Ev
set_option linter.unusedVariables false
set_option linter.unusedSimpArgs false
variable {σ:Sig}
theorem aq.imm0 {P:Program} {f sz:Nat} {r:AV} {H H':Hp} (h:∀ (a:Option Addr) (c:Nat),aq P σ f [.lit (.slice a 0 c)] H r H'):aq P σ f [.imm sz []] H r H':=by
 refine ⟨(h none 0).1,fun B w0 E w vs hσ hst hxs=>?_⟩
 have hl:=hxs.len
 have hv:vs[0]?=some (vs[0]'(by simp at hl; omega)):=Array.getElem?_eq_getElem _
 have hr:=hxs.at_ 0 _ _ rfl hv
 have:∃ a c,vs[0]'(by simp at hl; omega)=.slice a 0 c:=by
  generalize vs[0]'(by simp at hl; omega)=v at hr
  cases hr with
  | immE=>exact ⟨_,_,rfl⟩
  | imm val hn=>subst hn; exact ⟨_,_,rfl⟩
 obtain ⟨a,c,e⟩:=this
 refine (h a c).2 B w0 E w vs hσ hst ⟨by simpa using hl,fun i x v hx hv'=>?_⟩
 match i with
 | 0 =>
  simp at hx; subst hx
  rw [hv] at hv'
  cases hv'
  rw [e]; exact .lit _
 | i+1=>simp at hx
theorem ud (H:Hp):aq Tryz.prog σ aQ [fu []] H (fu []) H:=by
 refine aq.imm0 fun a c=>?_
 cases a with
 | none =>
  have run:∃ r H1,aq Tryz.prog σ aQ [.lit (.slice none 0 c)] Hp.empty r H1∧r=.lit (.slice none 0 0):=cd.run (by simp)
  obtain ⟨r,H1,hg,rfl⟩:=run
  exact hg.frzR rfl .nil H
 | some a =>
  have run:∃ r H1,aq Tryz.prog σ aQ [.lit (.slice (some a) 0 c)] Hp.empty r H1∧Fz H1 r (fu []):=by
   refine cd.run ?_
   simp [cw,cR,eC,ia,i4,iZ,iG]
   exact .sl (cs:=[]) (ex:=true) (fun _ _=>.any) (by simp) rfl (by simp) (by simp) (by simp)
  obtain ⟨r,H1,hg,hf⟩:=run
  exact hg.frzR rfl hf H
theorem v6 (H:Hp):aq Tryz.prog σ bf [.imm 2 []] H (.imm 2 []) H:=by
 refine aq.imm0 fun a c=>?_
 cases a with
 | none =>
  have run:∃ r H1,aq Tryz.prog σ bf [.lit (.slice none 0 c)] Hp.empty r H1∧r=.lit (.slice none 0 0):=bM.run (by simp)
  obtain ⟨r,H1,hg,rfl⟩:=run
  exact hg.frzR rfl .nil H
 | some a =>
  have run:∃ r H1,aq Tryz.prog σ bf [.lit (.slice (some a) 0 c)] Hp.empty r H1∧Fz H1 r (.imm 2 []):=by
   refine bM.run ?_
   simp [cw,cR,eC,ia,i4,iZ,iG]
   exact .sl (cs:=[]) (ex:=true) (fun _ _=>.any) (by simp) rfl (by simp) (by simp) (by simp)
  obtain ⟨r,H1,hg,hf⟩:=run
  exact hg.frzR rfl hf H
theorem vH {sz bytes:Nat} {z:List Value} {H:Hp} {rows:List (List AV)} (hr:rows≠[]) (h2:∀ row ∈ rows,row.length=sz) (hone:rows.flatten.all AV.one=true) (hb:rows.length*bytes≤140737488355328) (hn:rows.length≤4611686018427387904)
  {K:AV × Hp→Prop} (h:K (.sl (H.n+1) 0 sz rows.length none,(H.new (.cells [] true)).new (.cells rows.flatten false))) :
  bnd (cw z sz 0 H []) fun p=>bnd (eC false sz bytes p.2 p.1 (.imm sz rows)) K:=by
 have h0:rows.length≠0:=by cases rows<;>simp at hr ⊢
 have e:iG z 0=[]:=by simp [iG]
 simp only [cw,cR,Nat.zero_mul,e,List.length_nil,i4,decide_true,cond_true,ae]
 simp only [eC,iZ,cond_true,vC,hone,i4,h0,decide_false,cond_false,oS]
 simp [hb,hn,h0]
 exact h
theorem wE (l:List ByteArray) (hb:l.length*16≤140737488355328) (H:Hp):aq Tryz.prog σ aQ [fu l] H (fu l) H:=by
 cases l with
 | nil=>exact ud H
 | cons s l =>
  have run:∃ r H1,aq Tryz.prog σ aQ [fu (s::l)] Hp.empty r H1∧Fz H1 r (fu (s::l)):=by
   refine cd.run ?_
   simp only [fu,List.map_cons,MP,ae,ah,Bool.false_eq_true,if_false]
   refine vH (rows:=[Sx s]::l.map fun s=>[Sx s]) (K:=fun q=>Fz q.2 q.1 (.imm 1 ([Sx s]::l.map fun s=>[Sx s]))) (by simp) (fun row hrow=>?_) ?_ (by simpa using hb) (by simp at hb ⊢; omega) ?_
   ·rw [← List.map_cons (f:=fun s=>[Sx s])] at hrow
    obtain ⟨x,_,rfl⟩:=List.mem_map.1 hrow; rfl
   ·rw [← List.map_cons (f:=fun s=>[Sx s]),List.all_eq_true]
    intro x hx
    obtain ⟨row,hrow,hx⟩:=List.mem_flatten.1 hx
    obtain ⟨x,_,rfl⟩:=List.mem_map.1 hrow
    simp at hx; subst hx; rfl
   ·refine Fz.rows (cs:=([Sx s]::l.map fun s=>[Sx s]).flatten) (ex:=false) (by simp) (fun row hrow=>?_) ?_ ?_
    ·rw [← List.map_cons (f:=fun s=>[Sx s])] at hrow
     obtain ⟨x,_,rfl⟩:=List.mem_map.1 hrow; rfl
    ·rw [List.drop_zero]
     refine List.take_of_length_le ?_
     rw [cG (sz:=1)]
     ·simp
     ·intro row hrow
      rw [← List.map_cons (f:=fun s=>[Sx s])] at hrow
      obtain ⟨x,_,rfl⟩:=List.mem_map.1 hrow; rfl
    ·rw [← List.map_cons (f:=fun s=>[Sx s])]; exact b7 _ (fun _=>rfl) _
  obtain ⟨r,H1,hg,hf⟩:=run
  exact hg.frzR (by simp [bE]) hf H
def jc (p:ByteArray × ByteArray):ByteArray × ByteArray:=(tD p.1,p.2)
def cA (n:Nd):Nd:={ n with tag:=tD n.tag,attrs:=n.attrs.map jc }
structure kI (n:Nd):Prop where
 parent:i64 n.parent
 tag:n.tag.data.size≤reachBytes
 classes:n.classes.length*16≤reachBytes
 attrs:n.attrs.length*32≤reachBytes
 names:∀ p ∈ n.attrs,p.1.data.size≤reachBytes
theorem hJ:reachBytes=140737488351232:=rfl
@[simp] theorem QX (H:Hp) (id off:Nat) (l:List ByteArray):stA 1 H (.ptr id off) (fu l)=stO 1 off [fu l] H id (H.get id):=gW 1 H id off _ rfl rfl
theorem iM {rows:List (ByteArray × ByteArray)}:∀ row ∈ rows.map cO,row.length=2:=by
 intro row hrow
 obtain ⟨x,_,rfl⟩:=List.mem_map.1 hrow; rfl
theorem wv {rows:List (ByteArray × ByteArray)}:(rows.map cO).flatten.all AV.one=true:=by
 rw [List.all_eq_true]
 intro x hx
 obtain ⟨row,hrow,hx⟩:=List.mem_flatten.1 hx
 obtain ⟨x,_,rfl⟩:=List.mem_map.1 hrow
 simp [cO] at hx
 rcases hx with rfl | rfl<;>rfl
theorem wt (n:Nd) (hn:kI n) {H:Hp} {K:AV→Hp→Prop}
  (h0:n.attrs=[]→∀ H',H'.n ≥ H.n→(∀ j,j<H.n→H'.get j=H.get j)→K (.agg (bH n)) H')
  (h1:n.attrs≠[]→∀ H' id,H'.n ≥ H.n→(∀ j,j<H.n→H'.get j=H.get j)→H.n≤id→id<H'.n→H'.get id=some (.cells (n.attrs.map cO).flatten false) →
   K (.agg [I n.parent,Sx n.tag,Sx n.id,fu n.classes,.sl id 0 2 n.attrs.length none]) H') :
  ai Tryz.prog σ iD [.agg (bH n)] H K:=by
 have hc:=hn.classes
 have ha:=hn.attrs
 rw [hJ] at hc ha
 have nlt:∀ {j:Nat},j<H.n→j≠H.n∧j≠H.n+1∧j≠H.n+2∧j≠H.n+3:=fun h=>by omega
 refine lT.run ?_
 simp [bH]
 refine aD (wE _ (by omega) _) ?_
 simp
 by_cases he:n.attrs=[]
 ·rw [he]
  refine aD (v6 _) ?_
  have e:bH n=[I n.parent,Sx n.tag,Sx n.id,fu n.classes,.imm 2 []]:=by simp [bH,he]
  rw [e] at h0
  simp [eu]
  exact h0 he _ (by simp; omega) (fun j hj=>by have:=nlt hj; simp [this])
 ·obtain ⟨p,ps,hps⟩:=List.exists_cons_of_ne_nil he
  refine bM.run ?_
  rw [hps,List.map_cons]
  simp only [MP,ae,ah,Bool.false_eq_true,if_false]
  rw [← List.map_cons,← hps]
  refine vH (rows:=n.attrs.map cO) (by simpa using he) iM wv (by simpa using Nat.le_trans ha (by omega)) (by simp; omega) ?_
  have q1:¬ (H.n=H.n+1+1+1):=by omega
  have q2:¬ (H.n=H.n+1+1):=by omega
  have q3:¬ (H.n+1=H.n+1+1+1):=by omega
  simp [eu,q1,q2,q3]
  refine h1 he _ _ ?_ (fun j hj=>?_) ?_ ?_ ?_
  ·simp; omega
  ·have:=nlt hj
   have q4:j≠H.n+1+1:=by omega
   have q5:j≠H.n+1+1+1:=by omega
   simp [this,q4,q5]
  ·omega
  ·simp
  ·have q6:¬ (H.n+1+1=H.n):=by omega
   have q7:¬ (H.n+1+1+1=H.n):=by omega
   have q8:¬ (H.n+1+1+1=H.n+1):=by omega
   have q9:¬ (H.n+1+1=H.n+1):=by omega
   simp [q6,q7,q8,q9]
theorem CV {l l0:List (ByteArray × ByteArray)} {k:Nat} (hk:k<l0.length) (hl:l.length=l0.length) (h1:l.take k=(l0.take k).map jc) (h2:l.drop k=l0.drop k) :
  ∃ hk':k<l.length,l[k]=l0[k]∧(l.set k (jc l0[k])).take (k+1)=(l0.take (k+1)).map jc∧(l.set k (jc l0[k])).drop (k+1)=l0.drop (k+1):=by
 have hk':k<l.length:=by omega
 rw [List.drop_eq_getElem_cons hk',List.drop_eq_getElem_cons hk] at h2
 have h3:=List.cons.inj h2
 refine ⟨hk',h3.1,?_,?_⟩
 ·rw [List.take_succ_eq_append_getElem (by simpa using hk'),List.take_succ_eq_append_getElem hk,List.map_append,← h1,List.take_set_of_le (by omega)]
  simp
 ·rw [List.drop_set_of_lt (by omega)]; exact h3.2
theorem Le (n:Nd) (hn:kI n) {K:AV→Hp→Prop} {id b1 b2:Nat} {par tg idd cl:AV} (h12:b1≠b2) (hi1:id≠b1) (hi2:id≠b2) (ho:[par,tg,idd,cl].all AV.one=true):∀ (d k:Nat) (l:List (ByteArray × ByteArray)) (H:Hp),H.get b1=some (.cells [par,tg,idd,cl,.sl id 0 2 n.attrs.length none] true)→(∃ cs,H.get b2=some (.cells cs true)∧cs.length=5) →
  H.get id=some (.cells (l.map cO).flatten false)→l.length=n.attrs.length→n.attrs.length - k=d→k≤n.attrs.length→l.take k=(n.attrs.take k).map jc→l.drop k=n.attrs.drop k →
  (∀ H',H'.get id=some (.cells ((n.attrs.map jc).map cO).flatten false)→K (.agg [par,tg,idd,cl,.sl id 0 2 n.attrs.length none]) H') →
  cy.L0 σ K (.ptr b1 0) (.ptr b2 0) (I n.attrs.length) (I k) H:=by
 have ha:=hn.attrs
 rw [hJ] at ha
 intro d
 induction d with
 | zero =>
  intro k l H g1 g2 gi hl hd hk h1 h2 hK
  obtain ⟨cs,g2,hcs⟩:=g2
  have e:k=n.attrs.length:=by omega
  subst e
  have el:l=n.attrs.map jc:=by
   rw [← hl,List.take_length,hl,List.take_length] at h1
   exact h1
  refine cy.L0_step ?_
  simp [g1,g2,eu,hcs]
  simp at ho
  simp [ho,b9,hcs,eu]
  refine hK _ ?_
  simp [hi2,gi,el]
 | succ d ih =>
  intro k l H g1 g2 gi hl hd hk h1 h2 hK
  have hlt:k<n.attrs.length:=by omega
  obtain ⟨hlt',hlk,h3,h4⟩:=CV hlt hl h1 h2
  have hsz:(n.attrs[k]).1.data.size<9000000000000000000:=by
   have:=hn.names _ (List.getElem_mem hlt)
   rw [hJ] at this
   omega
  have hdrop:((l.map cO).flatten).drop (k*2)=cO n.attrs[k]++((l.map cO).drop (k+1)).flatten:=by
   rw [jH iM (by simpa using hlt'),List.getElem_map,hlk]
  refine cy.L0_step ?_
  simp [g1,hlt,lA,gi,hdrop,cO]
  refine aD (oK _ hsz _) ?_
  have hlen:k*2+1≤((l.map cO).flatten).length:=by
   rw [cG iM,List.length_map]; omega
  simp [g1,gi]
  rw [if_pos (by simpa using hlen),ae,gC (by omega)]
  refine ih (k+1) (l.set k (jc n.attrs[k])) _ (by simp [Ne.symm hi1,g1]) ?_ ?_ (by simpa using hl) (by omega) (by omega) h3 h4 hK
  ·obtain ⟨cs,g2,hcs⟩:=g2
   exact ⟨cs,by simp [Ne.symm hi2,g2],hcs⟩
  ·simp
   have:=iI (sz:=2) (xs:=[Sx (tD n.attrs[k].1)]) (k:=0) (by simp) (rows:=l.map cO) (w:=k) iM (by simpa using hlt')
   rw [Nat.add_zero] at this
   rw [this]
   congr 3
   simp [cO,jc,hlk]
theorem JV (n:Nd) (hn:kI n) (H:Hp):aq Tryz.prog σ fI [.agg (bH n)] H (.agg (bH (cA n))) H:=by
 have ht:n.tag.data.size<9000000000000000000:=by
  have:=hn.tag
  rw [hJ] at this; omega
 obtain ⟨Q,hQ⟩:∃ Q:AV→Hp→Prop,∀ r H1,Q r H1 ↔ Fz H1 r (.agg (bH (cA n))):=⟨_,fun _ _=>Iff.rfl⟩
 have run:∃ r H1,aq Tryz.prog σ fI [.agg (bH n)] Hp.empty r H1∧Q r H1:=by
  refine cy.run ?_
  simp
  refine wt n hn (fun he H' hn' hs=>?_) (fun he H' id hn' hs hid hid' hg=>?_)
  ·have e0:H'.get Hp.empty.n=some (.cells (bH n) true):=by rw [hs _ (by simp; omega)]; simp
   have e1:H'.get (Hp.empty.n+1)=some (.cells [I 0,Sx ⟨#[]⟩,Sx ⟨#[]⟩,.lit (.slice none 0 0),.lit (.slice none 0 0)] true):=by rw [hs _ (by simp)]; simp
   generalize Hp.empty.n=z at e0 e1 ⊢
   simp [e0,e1,bH,he,b9]
   refine aD (oK _ ht _) ?_
   simp [e0,e1,b9]
   refine cy.L0_step ?_
   simp [e0,e1,eu,b9]
   rw [hQ]
   have e2:bH (cA n)=[I n.parent,Sx (tD n.tag),Sx n.id,fu n.classes,.imm 2 []]:=by simp [cA,bH,he]
   rw [e2]
   exact .refl (by simp [bE,cW,d9])
  ·have e0:H'.get Hp.empty.n=some (.cells (bH n) true):=by rw [hs _ (by simp; omega)]; simp
   have e1:H'.get (Hp.empty.n+1)=some (.cells [I 0,Sx ⟨#[]⟩,Sx ⟨#[]⟩,.lit (.slice none 0 0),.lit (.slice none 0 0)] true):=by rw [hs _ (by simp)]; simp
   have hid:Hp.empty.n+2≤id:=by simpa using hid
   generalize Hp.empty.n=z at e0 e1 hid ⊢
   have d1:id≠z:=by omega
   have d2:id≠z+1:=by omega
   simp [e0,e1,bH,b9]
   refine aD (oK _ ht _) ?_
   simp [e0,e1,b9]
   refine Le n hn (id:=id) (by omega) d1 d2 ?_ _ 0 n.attrs _ (by rw [cb,if_pos rfl]) ⟨_,by simp [e1]; rfl,rfl⟩ (by simp [d1,hg]) rfl rfl (Nat.zero_le _) (by simp) rfl fun H2 h2=>?_
   ·simp
   rw [hQ]
   refine .aggL (.cons (.refl rfl) (.cons (.refl rfl) (.cons (.refl rfl) (.cons (.refl (k7 _)) (.cons ?_ .nil)))))
   have:=Fz.rows (cap:=none) h2 (rows:=(n.attrs.map jc).map cO) (off:=0) iM (by rw [List.drop_zero]; exact List.take_of_length_le (by rw [cG iM]; exact Nat.le_refl _)) (b7 _ (fun _=>rfl) _)
   simpa [cA] using this
 obtain ⟨r,H1,hg,hf⟩:=run
 rw [hQ] at hf
 exact hg.frzR (by simp [bE,cW,ml]) hf H
end Go.Proofs.YtegioimlblnajaaGreat.Ev
namespace Go.Proofs.YtegioimlblnajaaGreat.Ev
set_option linter.unusedVariables false
set_option linter.unusedSimpArgs false
variable {σ:Sig}
theorem lG {α β:Type} {f:α→β} {l:List α} {k:Nat} (h:k<l.length):(l.take (k+1)).map f=(l.take k).map f++[f l[k]]:=by
 rw [List.take_succ_eq_append_getElem h,List.map_append]; rfl
theorem L9 (n:Nd) (hn:kI n) {K:AV→Hp→Prop} {b1 b2:Nat} {par tg idd cl:AV} {cr:List (List AV)} (h12:b1≠b2) (ho:[par,tg,idd].all AV.one=true) (ho1:AV.one cl=true):∀ (d k:Nat) (y:AV) (H:Hp),b1<H.n→b2<H.n→H.get b1=some (.cells [par,tg,idd,cl,.imm 2 (n.attrs.map cO)] true)→(∃ cs,H.get b2=some (.cells cs true)∧cs.length=5) →
  Gs 1 H cl cr→Gs 2 H y ((n.attrs.take k).map fun p=>cO (jc p))→¬ own cl b1→¬ own cl b2→¬ own y b1→¬ own y b2→(∀ j,own cl j→¬ own y j)→n.attrs.length - k=d→k≤n.attrs.length →
  (∀ y' H',Gs 1 H' cl cr→Gs 2 H' y' (n.attrs.map fun p=>cO (jc p))→K (.agg [par,tg,idd,cl,y']) H') →
  cq.L0 σ K (.ptr b1 0) (.ptr b2 0) y (I k) H:=by
 have ha:=hn.attrs
 rw [hJ] at ha
 intro d
 induction d with
 | zero =>
  intro k y H l1 l2 g1 g2 gc gy c1 c2 y1 y2 hd' hd hk hK
  obtain ⟨cs,g2,hcs⟩:=g2
  have e:k=n.attrs.length:=by omega
  subst e
  rw [List.take_length] at gy
  refine cq.L0_step ?_
  simp at ho
  have o5:=gy.one
  simp [g1,gy.st (id:=b1) (off:=4) g1 (by simp),eu,g2,hcs,Ne.symm h12,ho,ho1,o5,b9]
  refine hK _ _ (gc.keep (fun j hj=>?_) (by simp)) (gy.keep (fun j hj=>?_) (by simp))
  ·have:j≠b1:=fun e=>c1 (e ▸ hj)
   have:j≠b2:=fun e=>c2 (e ▸ hj)
   simp [*]
  ·have:j≠b1:=fun e=>y1 (e ▸ hj)
   have:j≠b2:=fun e=>y2 (e ▸ hj)
   simp [*]
 | succ d ih =>
  intro k y H l1 l2 g1 g2 gc gy c1 c2 y1 y2 hd' hd hk hK
  have hlt:k<n.attrs.length:=by omega
  have hget:n.attrs[k]?=some n.attrs[k]:=List.getElem?_eq_getElem hlt
  have hsz:(n.attrs[k]).1.data.size<9000000000000000000:=by
   have:=hn.names _ (List.getElem_mem hlt)
   rw [hJ] at this
   omega
  refine cq.L0_step ?_
  simp [g1,hlt,fA hget,cO]
  refine aD (qU _ hsz _) ?_
  simp [g1,fA hget,cO,cR,i4,oS]
  refine kV gy rfl rfl rfl (by simp; omega) (by simp; omega) fun y' H' gy' f=>?_
  have n1:∀ {j:Nat},j<H.n→¬ own y j→¬ own y' j:=fun hj hy h=>by
   rcases f.mine _ h with h | h
   ·exact hy h
   ·omega
  rw [gC (by omega)]
  refine ih (k+1) y' H' (Nat.lt_of_lt_of_le l1 f.grow) (Nat.lt_of_lt_of_le l2 f.grow) (by rw [f.same _ l1 y1]; exact g1) ?_ (gc.keep (fun j hj=>f.same j (gc.lt hj) (hd' j hj)) f.grow) ?_ c1 c2 (n1 l1 y1) (n1 l2 y2) (fun j hj=>n1 (gc.lt hj) (hd' j hj)) (by omega) (by omega) hK
  ·obtain ⟨cs,g2,hcs⟩:=g2
   exact ⟨cs,by rw [f.same _ l2 y2]; exact g2,hcs⟩
  ·rw [lG hlt]
   exact gy'
theorem JY (n:Nd) (hn:kI n) (H:Hp):aq Tryz.prog σ eT [.agg (bH n)] H (.agg (bH (cA n))) H:=by
 have ht:n.tag.data.size<9000000000000000000:=by
  have:=hn.tag
  rw [hJ] at this; omega
 have hc:=hn.classes
 rw [hJ] at hc
 obtain ⟨Q,hQ⟩:∃ Q:AV→Hp→Prop,∀ r H1,Q r H1 ↔ Fz H1 r (.agg (bH (cA n))):=⟨_,fun _ _=>Iff.rfl⟩
 have run:∃ r H1,aq Tryz.prog σ eT [.agg (bH n)] Hp.empty r H1∧Q r H1:=by
  refine cq.run ?_
  simp [bH]
  refine aD (qU _ ht _) ?_
  simp
  refine vU (rows2:=n.classes.map fun s=>[Sx s]) .nil rfl vC (fun row hrow=>?_) ?_ (by simp; omega) (by simp; omega) fun cl H2 gc f=>?_
  ·obtain ⟨x,_,rfl⟩:=List.mem_map.1 hrow; rfl
  ·rw [List.all_eq_true]
   intro x hx
   obtain ⟨row,hrow,hx⟩:=List.mem_flatten.1 hx
   obtain ⟨x,_,rfl⟩:=List.mem_map.1 hrow
   simp at hx; subst hx; rfl
  ·have f0:=f.same Hp.empty.n (by simp; omega) (fun h=>h)
   have f1:=f.same (Hp.empty.n+1) (by simp) (fun h=>h)
   have fm:=f.mine
   have fg:=f.grow
   simp at f0 f1 fg
   have c1:¬ own cl Hp.empty.n:=fun h=>by
    rcases fm _ h with h | h
    ·exact h
    ·have h:=h.1; simp at h; omega
   have c2:¬ own cl (Hp.empty.n+1):=fun h=>by
    rcases fm _ h with h | h
    ·exact h
    ·have h:=h.1; simp at h; omega
   clear fm f
   generalize Hp.empty.n=z at f0 f1 fg c1 c2 ⊢
   simp at gc
   simp [f0,gc.st (id:=z) (off:=3) f0 (by simp)]
   refine L9 n hn (by omega) ?_ gc.one _ 0 _ _ (by simp; omega) (by simp; omega) (by rw [cb,if_pos rfl]) ⟨_,by simp [f1]; rfl,rfl⟩ (gc.keep (fun j hj=>?_) (by simp)) .nil c1 c2 (fun h=>h) (fun h=>h) (fun j _ h=>h) rfl (Nat.zero_le _) fun y' H' g1 g2=>?_
   ·simp
   ·have:j≠z:=fun e=>c1 (e ▸ hj)
    simp [this]
   ·rw [hQ]
    refine .aggL (.cons (.refl rfl) (.cons (.refl rfl) (.cons (.refl rfl) (.cons ?_ (.cons ?_ .nil)))))
    ·exact g1.fz (b7 _ (fun _=>rfl) _)
    ·have:=g2.fz (b7 _ (fun _=>rfl) _)
     rw [show (cA n).attrs.map cO=n.attrs.map fun p=>cO (jc p) by simp [cA,Function.comp_def]]
     exact this
 obtain ⟨r,H1,hg,hf⟩:=run
 rw [hQ] at hf
 exact hg.frzR (by simp [bE,cW,ml]) hf H
end Go.Proofs.YtegioimlblnajaaGreat.Ev

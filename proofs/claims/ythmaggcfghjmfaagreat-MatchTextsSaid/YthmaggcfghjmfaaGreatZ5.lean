/- The walks, part 5: the evaluator, the functions, the laws. Conditions: none. -/
import Derived.Test.YthmaggcfghjmfaaGreatZ4
namespace Go.Proofs.YthmaggcfghjmfaaGreat.Ev
set_option maxRecDepth 100000
set_option maxHeartbeats 4000000
set_option linter.unusedVariables false
variable {σ:Sig} {K:AV→Hp→Prop} {H:Hp}
noncomputable def aC.code:Code:=aI Tryz.f66
noncomputable def aC.L0 (σ:Sig) (K:AV→Hp→Prop) (y0 y3 y4 y5 y8 y13 y15:AV) (H:Hp):Prop:=∀ j:Nat→AV,a_ (CZ σ) (lB (bB (sR (cT (sR (bB (sR (sL (sR aC.code))))))))) [y0,j 1,j 2,y3,y4,y5,j 6,j 7,y8,j 9,j 10,j 11,j 12,y13,j 14,y15,j 16,j 17,j 18,j 19,j 20,j 21,j 22,j 23,j 24,j 25,j 26,j 27,j 28,j 29,j 30,j 31,j 32,j 33,j 34,j 35,j 36,j 37,j 38,j 39,j 40,j 41,j 42,j 43,j 44,j 45,j 46,j 47,j 48,j 49,j 50,j 51,j 52,j 53,j 54,j 55,j 56,j 57,j 58,j 59,j 60,j 61,j 62,j 63,j 64,j 65,j 66,j 67,j 68,j 69,j 70,j 71,j 72,j 73,j 74,j 75,j 76,j 77,j 78,j 79,j 80,j 81,j 82,j 83,j 84,j 85,j 86,j 87,j 88,j 89,j 90,j 91,j 92,j 93,j 94,j 95,j 96,j 97] H (fun e T G=>(fun e T G=>(nx (fQ Tryz.f66 σ K) fun T G=>∀ j,wp (CZ σ) 41273 (sR (sR aC.code)) (de 41273 j 0 T) G (fQ Tryz.f66 σ K)) (aq 0 e) T G) (aq 1 e) T G)
noncomputable def aC.L1 (σ:Sig) (K:AV→Hp→Prop) (y0 y3 y4 y5 y8 y13 y15:AV) (H:Hp):Prop:=∀ j:Nat→AV,a_ (CZ σ) (lB (bB (sR (cT (sR (cE (sR (cE (sR (cE (sR (bB (sR (sL (sR aC.code))))))))))))))) [y0,j 1,j 2,y3,y4,y5,j 6,j 7,y8,j 9,j 10,j 11,j 12,y13,j 14,y15,j 16,j 17,j 18,j 19,j 20,j 21,j 22,j 23,j 24,j 25,j 26,j 27,j 28,j 29,j 30,j 31,j 32,j 33,j 34,j 35,j 36,j 37,j 38,j 39,j 40,j 41,j 42,j 43,j 44,j 45,j 46,j 47,j 48,j 49,j 50,j 51,j 52,j 53,j 54,j 55,j 56,j 57,j 58,j 59,j 60,j 61,j 62,j 63,j 64,j 65,j 66,j 67,j 68,j 69,j 70,j 71,j 72,j 73,j 74,j 75,j 76,j 77,j 78,j 79,j 80,j 81,j 82,j 83,j 84,j 85,j 86,j 87,j 88,j 89,j 90,j 91,j 92,j 93,j 94,j 95,j 96,j 97] H (fun e T G=>(fun e T G=>(nx (fQ Tryz.f66 σ K) fun T G=>∀ j,wp (CZ σ) 41273 (sR (sR aC.code)) (de 41273 j 0 T) G (fQ Tryz.f66 σ K)) (aq 0 e) T G) (aq 3 e) T G)
noncomputable def aC.J2 (σ:Sig) (K:AV→Hp→Prop) (y0 y3 y4 y5 y8 y13 y15:AV) (H:Hp):Prop:=∀ j:Nat→AV,wp (CZ σ) 41273 (sR (sR aC.code)) [y0,j 1,j 2,y3,y4,y5,j 6,j 7,y8,j 9,j 10,j 11,j 12,y13,j 14,y15,j 16,j 17,j 18,j 19,j 20,j 21,j 22,j 23,j 24,j 25,j 26,j 27,j 28,j 29,j 30,j 31,j 32,j 33,j 34,j 35,j 36,j 37,j 38,j 39,j 40,j 41,j 42,j 43,j 44,j 45,j 46,j 47,j 48,j 49,j 50,j 51,j 52,j 53,j 54,j 55,j 56,j 57,j 58,j 59,j 60,j 61,j 62,j 63,j 64,j 65,j 66,j 67,j 68,j 69,j 70,j 71,j 72,j 73,j 74,j 75,j 76,j 77,j 78,j 79,j 80,j 81,j 82,j 83,j 84,j 85,j 86,j 87,j 88,j 89,j 90,j 91,j 92,j 93,j 94,j 95,j 96,j 97] H (fQ Tryz.f66 σ K)
theorem aC.L0_step {y0 y3 y4 y5 y8 y13 y15:AV} (h:bnd (af .geq y13 (I 0)) fun x1=>ifB x1 (bnd (ldA true 1 H y8) fun x2=>bnd (af .sub y3 (I 1)) fun x3=>ai Tryz.prog σ c_ [y0,y13,x2,x3,y4,y5] H fun x4 H5=>ifB x4 (K (Bo true) H5) (ai Tryz.prog σ dh [y0,y13] H5 fun x6 H7=>aC.L0 σ K y0 y3 y4 y5 y8 x6 y15 H7)) (aC.J2 σ K y0 y3 y4 y5 y8 y13 y15 H)):aC.L0 σ K y0 y3 y4 y5 y8 y13 y15 H :=
 fun j=>lrd (g:=41273) (Eq.mpr (by kernel_rfl) h)
theorem aC.L1_step {y0 y3 y4 y5 y8 y13 y15:AV} (h:bnd (af .geq y15 (I 0)) fun x1=>ifB x1 (bnd (ldA true 1 H y8) fun x2=>bnd (af .sub y3 (I 1)) fun x3=>ai Tryz.prog σ c_ [y0,y15,x2,x3,y4,y5] H fun x4 H5=>ifB x4 (K (Bo true) H5) (ai Tryz.prog σ df [y0,y15] H5 fun x6 H7=>aC.L1 σ K y0 y3 y4 y5 y8 y13 x6 H7)) (aC.J2 σ K y0 y3 y4 y5 y8 y13 y15 H)):aC.L1 σ K y0 y3 y4 y5 y8 y13 y15 H :=
 fun j=>lrd (g:=41273) (Eq.mpr (by kernel_rfl) h)
theorem aC.J2_step {y0 y3 y4 y5 y8 y13 y15:AV} (h:K (Bo false) H):aC.J2 σ K y0 y3 y4 y5 y8 y13 y15 H :=
 fun j=>Eq.mpr (by kernel_rfl) h
theorem aC.run {a0 a1 a2 a3 a4 a5:AV} (h:eR a2 H fun x1 H2=>bnd (ae x1 0) fun x3=>bnd (ldA false 1 H2 x3) fun x4=>bnd (af .sub a3 (I 1)) fun x5=>bnd (aJ 6 x4 x5) fun x6=>bnd (ae x6 0) fun x7=>bnd (ldA false 1 H2 x7) fun x8=>bnd (af .eql x8 (I 1)) fun x9=>ifB x9 (ai Tryz.prog σ dh [a0,a1] H2 fun x10 H11=>aC.L0 σ K a0 a3 a4 a5 x1 x10 (.lit undef) H11) (bnd (af .eql x8 (I 2)) fun x12=>ifB x12 (ai Tryz.prog σ dh [a0,a1] H2 fun x13 H14=>bnd (af .geq x13 (I 0)) fun x15=>ifB x15 (ai Tryz.prog σ dh [a0,a1] H14 fun x16 H17=>kpK (x1,some 1) H14 H17 (bnd (ldA true 1 H17 x1) fun x18=>bnd (af .sub a3 (I 1)) fun x19=>ai Tryz.prog σ c_ [a0,x16,x18,x19,a4,a5] H17 fun x20 H21=>K x20 H21)) (K (Bo false) H14)) (bnd (af .eql x8 (I 3)) fun x22=>ifB x22 (ai Tryz.prog σ df [a0,a1] H2 fun x23 H24=>bnd (af .geq x23 (I 0)) fun x25=>ifB x25 (ai Tryz.prog σ df [a0,a1] H24 fun x26 H27=>kpK (x1,some 1) H24 H27 (bnd (ldA true 1 H27 x1) fun x28=>bnd (af .sub a3 (I 1)) fun x29=>ai Tryz.prog σ c_ [a0,x26,x28,x29,a4,a5] H27 fun x30 H31=>K x30 H31)) (K (Bo false) H24)) (bnd (af .eql x8 (I 4)) fun x32=>ifB x32 (ai Tryz.prog σ df [a0,a1] H2 fun x33 H34=>aC.L1 σ K a0 a3 a4 a5 x1 (.lit undef) x33 H34) (aC.J2 σ K a0 a3 a4 a5 x1 (.lit undef) (.lit undef) H2))))):∃ r H1,az Tryz.prog σ fV [a0,a1,a2,a3,a4,a5] H r H1∧K r H1 :=
 gwp 41273 (fn:=Tryz.f66) (f:=fV) (c:=aC.code) (by kernel_rfl) (by kernel_rfl) (Eq.mpr (by kernel_rfl) h)
noncomputable def nc.code:Code:=aI Tryz.f67
theorem nc.run {a0:AV} (h:eR a0 H fun x1 H2=>bq [I 0,.lit (.string ⟨#[]⟩),.lit (.string ⟨#[]⟩),.lit (.slice none 0 0),.lit (.slice none 0 0)] H2 fun x3 H4=>bnd (ae x1 3) fun x5=>bnd (ldA false 1 H4 x5) fun x6=>ai Tryz.prog σ bI [x6] H4 fun x7 H8=>bnd (ae x1 4) fun x9=>kpK (x9,some 1) H4 H8 (bnd (ldA false 1 H8 x9) fun x10=>ai Tryz.prog σ bU [x10] H8 fun x11 H12=>bnd (ae x1 3) fun x13=>bnd (stA 1 H12 x13 x7) fun H14=>bnd (ae x1 4) fun x15=>bnd (stA 1 H14 x15 x11) fun H16=>bnd (ldA true 5 H16 x1) fun x17=>bnd (stA 5 H16 x3 x17) fun H18=>bnd (ldA true 5 H18 x3) fun r19=>K r19 H18)):∃ r H1,az Tryz.prog σ ju [a0] H r H1∧K r H1 :=
 gwp 0 (fn:=Tryz.f67) (f:=ju) (c:=nc.code) (by kernel_rfl) (by kernel_rfl) (Eq.mpr (by kernel_rfl) h)
noncomputable def bP.code:Code:=aI Tryz.f68
noncomputable def bP.Q0 (σ:Sig) (K:AV→Hp→Prop):Exit→List AV→Hp→Prop:=(nx (fQ Tryz.f68 σ K) fun T G=>wp (CZ σ) 1800 (sR (sR (sR bP.code))) T G (fQ Tryz.f68 σ K))
noncomputable def bP.L0 (σ:Sig) (K:AV→Hp→Prop) (y3 y8 y9 y10:AV) (H:Hp):Prop:=∀ j:Nat→AV,a_ (CZ σ) (lB (bB (sR (sL (sR (sR bP.code)))))) [j 0,j 1,j 2,y3,j 4,j 5,j 6,j 7,y8,y9,y10,j 11,j 12,j 13,j 14,j 15,j 16,j 17,j 18,j 19,j 20,j 21,j 22,j 23,j 24,j 25,j 26,j 27,j 28,j 29] H (fun e T G=>(bP.Q0 σ K) (aq 0 e) T G)
noncomputable def bP.J1 (σ:Sig) (K:AV→Hp→Prop) (y3 y8 y9 y10:AV) (H:Hp):Prop:=∀ j:Nat→AV,wp (CZ σ) 1800 (sR (sR (sR (lB (bB (sR (sL (sR (sR bP.code))))))))) [j 0,j 1,j 2,y3,j 4,j 5,j 6,j 7,y8,y9,y10,j 11,j 12,j 13,j 14,j 15,j 16,j 17,j 18,j 19,j 20,j 21,j 22,j 23,j 24,j 25,j 26,j 27,j 28,j 29] H (nx (fun e T G=>(bP.Q0 σ K) (aq 0 e) T G) fun T G=>∀ j,a_ (CZ σ) (lB (bB (sR (sL (sR (sR bP.code)))))) (de 1800 j 0 T) G (fun e T G=>(bP.Q0 σ K) (aq 0 e) T G))
theorem bP.L0_step {y3 y8 y9 y10:AV} (h:bnd (af .lss y10 y9) fun x1=>ifB x1 (bnd (aJ 1 y8 y10) fun x2=>bnd (ldA false 1 H x2) fun x3=>bnd (af .geq x3 (.lit (.int .u8 65))) fun x4=>ifB x4 (bnd (af .leq x3 (.lit (.int .u8 90))) fun x5=>ifB x5 (bnd (af .add x3 (.lit (.int .u8 97))) fun x6=>bnd (af .sub x6 (.lit (.int .u8 65))) fun x7=>bnd (aJ 1 y3 y10) fun x8=>bnd (stA 1 H x8 x7) fun H9=>bP.J1 σ K y3 y8 y9 y10 H9) (bP.J1 σ K y3 y8 y9 y10 H)) (bP.J1 σ K y3 y8 y9 y10 H)) (bnd (fT H y3) fun x10=>K x10 H)):bP.L0 σ K y3 y8 y9 y10 H :=
 fun j=>lrd (g:=1800) (Eq.mpr (by kernel_rfl) h)
theorem bP.J1_step {y3 y8 y9 y10:AV} (h:bnd (af .add y10 (I 1)) fun x1=>bP.L0 σ K y3 y8 y9 x1 H):bP.J1 σ K y3 y8 y9 y10 H :=
 fun j=>Eq.mpr (by kernel_rfl) h
theorem bP.run {a0:AV} (h:bnd (gZ H a0) fun p1=>bnd (aW p1.1) fun x2=>bP.L0 σ K p1.1 p1.1 x2 (I 0) p1.2):∃ r H1,az Tryz.prog σ ii [a0] H r H1∧K r H1 :=
 gwp 1800 (fn:=Tryz.f68) (f:=ii) (c:=bP.code) (by kernel_rfl) (by kernel_rfl) (Eq.mpr (by kernel_rfl) h)
noncomputable def ap.code:Code:=aI Tryz.f69
noncomputable def ap.Q0 (σ:Sig) (K:AV→Hp→Prop):Exit→List AV→Hp→Prop:=(nx (fQ Tryz.f69 σ K) fun T G=>wp (CZ σ) 29 (sR (sR (sR (sR (sR ap.code))))) T G (fQ Tryz.f69 σ K))
noncomputable def ap.J0 (σ:Sig) (K:AV→Hp→Prop) (y0 y2 y3 y4:AV) (H:Hp):Prop:=∀ j:Nat→AV,wp (CZ σ) 29 (sR (sR (sR (sR ap.code)))) [y0,j 1,y2,y3,y4,j 5,j 6,j 7,j 8,j 9,j 10,j 11,j 12,j 13,j 14,j 15,j 16,j 17,j 18,j 19,j 20,j 21,j 22,j 23,j 24,j 25,j 26,j 27,j 28,j 29,j 30,j 31,j 32,j 33,j 34,j 35,j 36,j 37,j 38,j 39,j 40,j 41,j 42,j 43,j 44,j 45,j 46,j 47,j 48,j 49,j 50,j 51,j 52,j 53,j 54,j 55,j 56,j 57,j 58,j 59,j 60,j 61,j 62,j 63,j 64,j 65,j 66,j 67,j 68,j 69,j 70,j 71,j 72,j 73,j 74,j 75,j 76,j 77,j 78,j 79,j 80,j 81,j 82,j 83,j 84,j 85,j 86,j 87,j 88,j 89,j 90,j 91,j 92,j 93,j 94,j 95,j 96,j 97,j 98,j 99,j 100,j 101,j 102,j 103,j 104,j 105,j 106,j 107,j 108,j 109,j 110,j 111,j 112,j 113,j 114,j 115,j 116,j 117,j 118,j 119,j 120,j 121,j 122,j 123,j 124,j 125,j 126,j 127,j 128,j 129,j 130,j 131,j 132] H (fQ Tryz.f69 σ K)
noncomputable def ap.L1 (σ:Sig) (K:AV→Hp→Prop) (y0 y2 y3 y4:AV) (H:Hp):Prop:=∀ j:Nat→AV,a_ (CZ σ) (lB (bB (sL (sR (sR (sR (sR ap.code))))))) [y0,j 1,y2,y3,y4,j 5,j 6,j 7,j 8,j 9,j 10,j 11,j 12,j 13,j 14,j 15,j 16,j 17,j 18,j 19,j 20,j 21,j 22,j 23,j 24,j 25,j 26,j 27,j 28,j 29,j 30,j 31,j 32,j 33,j 34,j 35,j 36,j 37,j 38,j 39,j 40,j 41,j 42,j 43,j 44,j 45,j 46,j 47,j 48,j 49,j 50,j 51,j 52,j 53,j 54,j 55,j 56,j 57,j 58,j 59,j 60,j 61,j 62,j 63,j 64,j 65,j 66,j 67,j 68,j 69,j 70,j 71,j 72,j 73,j 74,j 75,j 76,j 77,j 78,j 79,j 80,j 81,j 82,j 83,j 84,j 85,j 86,j 87,j 88,j 89,j 90,j 91,j 92,j 93,j 94,j 95,j 96,j 97,j 98,j 99,j 100,j 101,j 102,j 103,j 104,j 105,j 106,j 107,j 108,j 109,j 110,j 111,j 112,j 113,j 114,j 115,j 116,j 117,j 118,j 119,j 120,j 121,j 122,j 123,j 124,j 125,j 126,j 127,j 128,j 129,j 130,j 131,j 132] H (fun e T G=>(ap.Q0 σ K) (aq 0 e) T G)
noncomputable def ap.J2 (σ:Sig) (K:AV→Hp→Prop) (y0 y2 y3 y4:AV) (H:Hp):Prop:=∀ j:Nat→AV,wp (CZ σ) 29 (sR (sR (bB (sR (lB (bB (sL (sR (sR (sR (sR ap.code))))))))))) [y0,j 1,y2,y3,y4,j 5,j 6,j 7,j 8,j 9,j 10,j 11,j 12,j 13,j 14,j 15,j 16,j 17,j 18,j 19,j 20,j 21,j 22,j 23,j 24,j 25,j 26,j 27,j 28,j 29,j 30,j 31,j 32,j 33,j 34,j 35,j 36,j 37,j 38,j 39,j 40,j 41,j 42,j 43,j 44,j 45,j 46,j 47,j 48,j 49,j 50,j 51,j 52,j 53,j 54,j 55,j 56,j 57,j 58,j 59,j 60,j 61,j 62,j 63,j 64,j 65,j 66,j 67,j 68,j 69,j 70,j 71,j 72,j 73,j 74,j 75,j 76,j 77,j 78,j 79,j 80,j 81,j 82,j 83,j 84,j 85,j 86,j 87,j 88,j 89,j 90,j 91,j 92,j 93,j 94,j 95,j 96,j 97,j 98,j 99,j 100,j 101,j 102,j 103,j 104,j 105,j 106,j 107,j 108,j 109,j 110,j 111,j 112,j 113,j 114,j 115,j 116,j 117,j 118,j 119,j 120,j 121,j 122,j 123,j 124,j 125,j 126,j 127,j 128,j 129,j 130,j 131,j 132] H (fun e T G=>(nx (fun e T G=>(ap.Q0 σ K) (aq 0 e) T G) fun T G=>∀ j,a_ (CZ σ) (lB (bB (sL (sR (sR (sR (sR ap.code))))))) (de 29 j 0 T) G (fun e T G=>(ap.Q0 σ K) (aq 0 e) T G)) (aq 1 e) T G)
theorem ap.J0_step {y0 y2 y3 y4:AV} (h:ap.L1 σ K y0 y2 y3 y4 H):ap.J0 σ K y0 y2 y3 y4 H :=
 fun j=>Eq.mpr (by kernel_rfl) h
theorem ap.L1_step {y0 y2 y3 y4:AV} (h:bnd (au y0) fun x1=>bnd (ae x1 2) fun x2=>bnd (ldA false 1 H x2) fun x3=>bnd (unR .not x3) fun x4=>ifB x4 (ai Tryz.prog σ aN [y0,(I 0)] H fun x5 H6=>bnd (dW false 0 1 x5) fun x7=>bnd (af .eql x7 (I 3)) fun x8=>ifB x8 (bnd (ae y3 1) fun x9=>bnd (ldA false 1 H6 x9) fun x10=>ai Tryz.prog σ aN [y0,(I 0)] H6 fun x11 H12=>kpK (x9,some 1) H6 H12 (bnd (dW false 1 1 x11) fun x13=>bnd (aw [.string ⟨#[]⟩] 1 1 H12 [(0,1,x13)]) fun p14=>kpK (x9,some 1) H12 p14.2 (bnd (bc false 1 16 p14.2 x10 p14.1) fun p15=>bnd (ae y3 1) fun x16=>bnd (stA 1 p15.2 x16 p15.1) fun H17=>bnd (au y0) fun x18=>bnd (ae x18 1) fun x19=>bnd (ldA false 1 H17 x19) fun x20=>bnd (af .add x20 (I 1)) fun x21=>bnd (au y0) fun x22=>bnd (ae x22 1) fun x23=>bnd (stA 1 H17 x23 x21) fun H24=>ap.J2 σ K y0 y2 y3 y4 H24))) (ai Tryz.prog σ b_ [y0,(I 0),(I 46)] H6 fun x25 H26=>ifB x25 (ai Tryz.prog σ aN [y0,(I 1)] H26 fun x27 H28=>bnd (dW false 0 1 x27) fun x29=>bnd (af .eql x29 (I 1)) fun x30=>ifB x30 (bnd (ae y3 2) fun x31=>bnd (ldA false 1 H28 x31) fun x32=>ai Tryz.prog σ aN [y0,(I 1)] H28 fun x33 H34=>kpK (x31,some 1) H28 H34 (bnd (dW false 1 1 x33) fun x35=>bnd (aw [.string ⟨#[]⟩] 1 1 H34 [(0,1,x35)]) fun p36=>kpK (x31,some 1) H34 p36.2 (bnd (bc false 1 16 p36.2 x32 p36.1) fun p37=>bnd (ae y3 2) fun x38=>bnd (stA 1 p37.2 x38 p37.1) fun H39=>bnd (au y0) fun x40=>bnd (ae x40 1) fun x41=>bnd (ldA false 1 H39 x41) fun x42=>bnd (af .add x42 (I 2)) fun x43=>bnd (au y0) fun x44=>bnd (ae x44 1) fun x45=>bnd (stA 1 H39 x45 x43) fun H46=>ap.J2 σ K y0 y2 y3 y4 H46))) (bnd (af .eql x7 (I 18)) fun x47=>ifB x47 (bnd (au y0) fun x48=>bnd (ae x48 1) fun x49=>bnd (ldA false 1 H28 x49) fun x50=>bnd (af .add x50 (I 1)) fun x51=>bnd (au y0) fun x52=>bnd (ae x52 1) fun x53=>bnd (stA 1 H28 x53 x51) fun H54=>ai Tryz.prog σ dA [y0] H54 fun x55 H56=>bq [.lit (.string ⟨#[]⟩),I 0,.lit (.string ⟨#[]⟩)] H56 fun x57 H58=>bnd (stA 3 H58 x57 x55) fun H59=>bnd (ae y3 3) fun x60=>bnd (ldA false 1 H59 x60) fun x61=>bnd (ldA true 3 H59 x57) fun x62=>bnd (aw [.string ⟨#[]⟩,.int .i64 0,.string ⟨#[]⟩] 3 1 H59 [(0,3,x62)]) fun p63=>bnd (bc false 3 40 p63.2 x61 p63.1) fun p64=>bnd (ae y3 3) fun x65=>bnd (stA 1 p64.2 x65 p64.1) fun H66=>ap.J2 σ K y0 y2 y3 y4 H66) (bnd (af .eql x7 (I 11)) fun x67=>ifB x67 (bnd (au y0) fun x68=>bnd (ae x68 1) fun x69=>bnd (ldA false 1 H28 x69) fun x70=>bnd (af .add x70 (I 1)) fun x71=>bnd (au y0) fun x72=>bnd (ae x72 1) fun x73=>bnd (stA 1 H28 x73 x71) fun H74=>ai Tryz.prog σ dk [y0] H74 fun x75 H76=>bq [I 0,I 0,I 0,.lit (.slice none 0 0)] H76 fun x77 H78=>bnd (stA 4 H78 x77 x75) fun H79=>bnd (ae y3 4) fun x80=>bnd (ldA false 1 H79 x80) fun x81=>bnd (ldA true 4 H79 x77) fun x82=>bnd (aw [.int .i64 0,.int .i64 0,.int .i64 0,.slice none 0 0] 4 1 H79 [(0,4,x82)]) fun p83=>bnd (bc false 4 48 p83.2 x81 p83.1) fun p84=>bnd (ae y3 4) fun x85=>bnd (stA 1 p84.2 x85 p84.1) fun H86=>ap.J2 σ K y0 y2 y3 y4 H86) (bnd (af .eql y4 (I 0)) fun x87=>bnd (au y0) fun x88=>bnd (ae x88 2) fun x89=>bnd (stA 1 H28 x89 x87) fun H90=>bnd (ldA true 5 H90 y3) fun x91=>bnd (stA 5 H90 y2 x91) fun H92=>bnd (ldA true 5 H92 y2) fun r93=>K r93 H92)))) (bnd (af .eql x7 (I 18)) fun x94=>ifB x94 (bnd (au y0) fun x95=>bnd (ae x95 1) fun x96=>bnd (ldA false 1 H26 x96) fun x97=>bnd (af .add x97 (I 1)) fun x98=>bnd (au y0) fun x99=>bnd (ae x99 1) fun x100=>bnd (stA 1 H26 x100 x98) fun H101=>ai Tryz.prog σ dA [y0] H101 fun x102 H103=>bq [.lit (.string ⟨#[]⟩),I 0,.lit (.string ⟨#[]⟩)] H103 fun x104 H105=>bnd (stA 3 H105 x104 x102) fun H106=>bnd (ae y3 3) fun x107=>bnd (ldA false 1 H106 x107) fun x108=>bnd (ldA true 3 H106 x104) fun x109=>bnd (aw [.string ⟨#[]⟩,.int .i64 0,.string ⟨#[]⟩] 3 1 H106 [(0,3,x109)]) fun p110=>bnd (bc false 3 40 p110.2 x108 p110.1) fun p111=>bnd (ae y3 3) fun x112=>bnd (stA 1 p111.2 x112 p111.1) fun H113=>ap.J2 σ K y0 y2 y3 y4 H113) (bnd (af .eql x7 (I 11)) fun x114=>ifB x114 (bnd (au y0) fun x115=>bnd (ae x115 1) fun x116=>bnd (ldA false 1 H26 x116) fun x117=>bnd (af .add x117 (I 1)) fun x118=>bnd (au y0) fun x119=>bnd (ae x119 1) fun x120=>bnd (stA 1 H26 x120 x118) fun H121=>ai Tryz.prog σ dk [y0] H121 fun x122 H123=>bq [I 0,I 0,I 0,.lit (.slice none 0 0)] H123 fun x124 H125=>bnd (stA 4 H125 x124 x122) fun H126=>bnd (ae y3 4) fun x127=>bnd (ldA false 1 H126 x127) fun x128=>bnd (ldA true 4 H126 x124) fun x129=>bnd (aw [.int .i64 0,.int .i64 0,.int .i64 0,.slice none 0 0] 4 1 H126 [(0,4,x129)]) fun p130=>bnd (bc false 4 48 p130.2 x128 p130.1) fun p131=>bnd (ae y3 4) fun x132=>bnd (stA 1 p131.2 x132 p131.1) fun H133=>ap.J2 σ K y0 y2 y3 y4 H133) (bnd (af .eql y4 (I 0)) fun x134=>bnd (au y0) fun x135=>bnd (ae x135 2) fun x136=>bnd (stA 1 H26 x136 x134) fun H137=>bnd (ldA true 5 H137 y3) fun x138=>bnd (stA 5 H137 y2 x138) fun H139=>bnd (ldA true 5 H139 y2) fun r140=>K r140 H139))))) (bnd (ldA true 5 H y3) fun x141=>bnd (stA 5 H y2 x141) fun H142=>bnd (ldA true 5 H142 y2) fun r143=>K r143 H142)):ap.L1 σ K y0 y2 y3 y4 H :=
 fun j=>lrd (g:=29) (Eq.mpr (by kernel_rfl) h)
theorem ap.J2_step {y0 y2 y3 y4:AV} (h:bnd (af .add y4 (I 1)) fun x1=>ap.L1 σ K y0 y2 y3 x1 H):ap.J2 σ K y0 y2 y3 y4 H :=
 fun j=>Eq.mpr (by kernel_rfl) h
theorem ap.run {a0:AV} (h:bq [.lit (.string ⟨#[]⟩),.lit (.slice none 0 0),.lit (.slice none 0 0),.lit (.slice none 0 0),.lit (.slice none 0 0)] H fun x1 H2=>bq [.lit (.string ⟨#[]⟩),.lit (.slice none 0 0),.lit (.slice none 0 0),.lit (.slice none 0 0),.lit (.slice none 0 0)] H2 fun x3 H4=>ai Tryz.prog σ aN [a0,(I 0)] H4 fun x5 H6=>bnd (dW false 0 1 x5) fun x7=>bnd (af .eql x7 (I 1)) fun x8=>ifB x8 (ai Tryz.prog σ aN [a0,(I 0)] H6 fun x9 H10=>bnd (dW false 1 1 x9) fun x11=>ai Tryz.prog σ ef [x11] H10 fun x12 H13=>bnd (ae x3 0) fun x14=>bnd (stA 1 H13 x14 x12) fun H15=>bnd (au a0) fun x16=>bnd (ae x16 1) fun x17=>bnd (ldA false 1 H15 x17) fun x18=>bnd (af .add x18 (I 1)) fun x19=>bnd (au a0) fun x20=>bnd (ae x20 1) fun x21=>bnd (stA 1 H15 x21 x19) fun H22=>bnd (af .add (I 0) (I 1)) fun x23=>ap.J0 σ K a0 x1 x3 x23 H22) (ai Tryz.prog σ b_ [a0,(I 0),(I 42)] H6 fun x24 H25=>ifB x24 (bnd (au a0) fun x26=>bnd (ae x26 1) fun x27=>bnd (ldA false 1 H25 x27) fun x28=>bnd (af .add x28 (I 1)) fun x29=>bnd (au a0) fun x30=>bnd (ae x30 1) fun x31=>bnd (stA 1 H25 x31 x29) fun H32=>bnd (af .add (I 0) (I 1)) fun x33=>ap.J0 σ K a0 x1 x3 x33 H32) (ap.J0 σ K a0 x1 x3 (I 0) H25))):∃ r H1,az Tryz.prog σ eg [a0] H r H1∧K r H1 :=
 gwp 29 (fn:=Tryz.f69) (f:=eg) (c:=ap.code) (by kernel_rfl) (by kernel_rfl) (Eq.mpr (by kernel_rfl) h)
noncomputable def iK.code:Code:=aI Tryz.f70
theorem iK.run {a0:AV} (h:ai Tryz.prog σ b_ [a0,(I 0),(I 62)] H fun x1 H2=>ifB x1 (K (I 2) H2) (ai Tryz.prog σ b_ [a0,(I 0),(I 43)] H2 fun x3 H4=>ifB x3 (K (I 3) H4) (ai Tryz.prog σ b_ [a0,(I 0),(I 126)] H4 fun x5 H6=>ifB x5 (K (I 4) H6) (K (I 0) H6)))):∃ r H1,az Tryz.prog σ fF [a0] H r H1∧K r H1 :=
 gwp 0 (fn:=Tryz.f70) (f:=fF) (c:=iK.code) (by kernel_rfl) (by kernel_rfl) (Eq.mpr (by kernel_rfl) h)
noncomputable def iJ.code:Code:=aI Tryz.f71
theorem iJ.run {a0:AV} (h:ai Tryz.prog σ aN [a0,(I 0)] H fun x1 H2=>bnd (dW false 0 1 x1) fun x3=>ai Tryz.prog σ eK [a0] H2 fun x4 H5=>ifB x4 (K (Bo true) H5) (bnd (af .eql x3 (I 13)) fun x6=>ifB x6 (K (Bo true) H5) (bnd (af .eql x3 (I 17)) fun x7=>K x7 H5))):∃ r H1,az Tryz.prog σ fG [a0] H r H1∧K r H1 :=
 gwp 0 (fn:=Tryz.f71) (f:=fG) (c:=iJ.code) (by kernel_rfl) (by kernel_rfl) (Eq.mpr (by kernel_rfl) h)
noncomputable def rD.code:Code:=aI Tryz.f72
theorem rD.run {a0:AV} (h:bnd (af .geq a0 (I 48)) fun x1=>ifB x1 (bnd (af .leq a0 (I 57)) fun x2=>ifB x2 (bnd (af .sub a0 (I 48)) fun x3=>K x3 H) (bnd (af .geq a0 (I 97)) fun x4=>ifB x4 (bnd (af .leq a0 (I 102)) fun x5=>ifB x5 (bnd (af .sub a0 (I 97)) fun x6=>bnd (af .add x6 (I 10)) fun x7=>K x7 H) (bnd (af .geq a0 (I 65)) fun x8=>ifB x8 (bnd (af .leq a0 (I 70)) fun x9=>ifB x9 (bnd (af .sub a0 (I 65)) fun x10=>bnd (af .add x10 (I 10)) fun x11=>K x11 H) (K (I (-1)) H)) (K (I (-1)) H))) (bnd (af .geq a0 (I 65)) fun x12=>ifB x12 (bnd (af .leq a0 (I 70)) fun x13=>ifB x13 (bnd (af .sub a0 (I 65)) fun x14=>bnd (af .add x14 (I 10)) fun x15=>K x15 H) (K (I (-1)) H)) (K (I (-1)) H)))) (bnd (af .geq a0 (I 97)) fun x16=>ifB x16 (bnd (af .leq a0 (I 102)) fun x17=>ifB x17 (bnd (af .sub a0 (I 97)) fun x18=>bnd (af .add x18 (I 10)) fun x19=>K x19 H) (bnd (af .geq a0 (I 65)) fun x20=>ifB x20 (bnd (af .leq a0 (I 70)) fun x21=>ifB x21 (bnd (af .sub a0 (I 65)) fun x22=>bnd (af .add x22 (I 10)) fun x23=>K x23 H) (K (I (-1)) H)) (K (I (-1)) H))) (bnd (af .geq a0 (I 65)) fun x24=>ifB x24 (bnd (af .leq a0 (I 70)) fun x25=>ifB x25 (bnd (af .sub a0 (I 65)) fun x26=>bnd (af .add x26 (I 10)) fun x27=>K x27 H) (K (I (-1)) H)) (K (I (-1)) H)))):∃ r H1,az Tryz.prog σ iD [a0] H r H1∧K r H1 :=
 gwp 0 (fn:=Tryz.f72) (f:=iD) (c:=rD.code) (by kernel_rfl) (by kernel_rfl) (Eq.mpr (by kernel_rfl) h)
noncomputable def rI.code:Code:=aI Tryz.f73
theorem rI.run {a0:AV} (h:bnd (af .gtr a0 (I 2147483647)) fun x1=>ifB x1 (K (I 2147483647) H) (bnd (af .lss a0 (I (-2147483647))) fun x2=>ifB x2 (K (I (-2147483647)) H) (K a0 H))):∃ r H1,az Tryz.prog σ lu [a0] H r H1∧K r H1 :=
 gwp 0 (fn:=Tryz.f73) (f:=lu) (c:=rI.code) (by kernel_rfl) (by kernel_rfl) (Eq.mpr (by kernel_rfl) h)
noncomputable def ax.code:Code:=aI Tryz.f74
noncomputable def ax.L0 (σ:Sig) (K:AV→Hp→Prop) (y5 y7 y31 y32 y33 y47 y48 y49 y60 y61 y62:AV) (H:Hp):Prop:=∀ j:Nat→AV,a_ (CZ σ) (lB (bB (sR (sL (sR (sR (sR ax.code))))))) [j 0,j 1,j 2,j 3,j 4,y5,j 6,y7,j 8,j 9,j 10,j 11,j 12,j 13,j 14,j 15,j 16,j 17,j 18,j 19,j 20,j 21,j 22,j 23,j 24,j 25,j 26,j 27,j 28,j 29,j 30,y31,y32,y33,j 34,j 35,j 36,j 37,j 38,j 39,j 40,j 41,j 42,j 43,j 44,j 45,j 46,y47,y48,y49,j 50,j 51,j 52,j 53,j 54,j 55,j 56,j 57,j 58,j 59,y60,y61,y62,j 63,j 64,j 65,j 66,j 67,j 68,j 69,j 70] H (fun e T G=>(nx (fQ Tryz.f74 σ K) fun T G=>wp (CZ σ) 8071435709698801824 (sR (sR (sR (sR ax.code)))) T G (fQ Tryz.f74 σ K)) (aq 0 e) T G)
noncomputable def ax.L1 (σ:Sig) (K:AV→Hp→Prop) (y5 y7 y31 y32 y33 y47 y48 y49 y60 y61 y62:AV) (H:Hp):Prop:=∀ j:Nat→AV,a_ (CZ σ) (lB (bB (sR (sL (sR (sR (sR (sR ax.code)))))))) [j 0,j 1,j 2,j 3,j 4,y5,j 6,y7,j 8,j 9,j 10,j 11,j 12,j 13,j 14,j 15,j 16,j 17,j 18,j 19,j 20,j 21,j 22,j 23,j 24,j 25,j 26,j 27,j 28,j 29,j 30,y31,y32,y33,j 34,j 35,j 36,j 37,j 38,j 39,j 40,j 41,j 42,j 43,j 44,j 45,j 46,y47,y48,y49,j 50,j 51,j 52,j 53,j 54,j 55,j 56,j 57,j 58,j 59,y60,y61,y62,j 63,j 64,j 65,j 66,j 67,j 68,j 69,j 70] H (fun e T G=>(nx (fQ Tryz.f74 σ K) fun T G=>wp (CZ σ) 8071435709698801824 (sR (sR (sR (sR (sR ax.code))))) T G (fQ Tryz.f74 σ K)) (aq 2 e) T G)
noncomputable def ax.L2 (σ:Sig) (K:AV→Hp→Prop) (y5 y7 y31 y32 y33 y47 y48 y49 y60 y61 y62:AV) (H:Hp):Prop:=∀ j:Nat→AV,a_ (CZ σ) (lB (bB (sR (sL (sR (sR (sR (sR (sR ax.code))))))))) [j 0,j 1,j 2,j 3,j 4,y5,j 6,y7,j 8,j 9,j 10,j 11,j 12,j 13,j 14,j 15,j 16,j 17,j 18,j 19,j 20,j 21,j 22,j 23,j 24,j 25,j 26,j 27,j 28,j 29,j 30,y31,y32,y33,j 34,j 35,j 36,j 37,j 38,j 39,j 40,j 41,j 42,j 43,j 44,j 45,j 46,y47,y48,y49,j 50,j 51,j 52,j 53,j 54,j 55,j 56,j 57,j 58,j 59,y60,y61,y62,j 63,j 64,j 65,j 66,j 67,j 68,j 69,j 70] H (fun e T G=>(nx (fQ Tryz.f74 σ K) fun T G=>wp (CZ σ) 8071435709698801824 (sR (sR (sR (sR (sR (sR ax.code)))))) T G (fQ Tryz.f74 σ K)) (aq 4 e) T G)
theorem ax.L0_step {y5 y7 y31 y32 y33 y47 y48 y49 y60 y61 y62:AV} (h:bnd (af .lss y33 y32) fun x1=>ifB x1 (bnd (aJ 1 y31 y33) fun x2=>bnd (ldA false 1 H x2) fun x3=>bnd (af .eql x3 (.lit (.string ⟨#[]⟩))) fun x4=>ifB x4 (K (Bo false) H) (bnd (ae y7 2) fun x5=>bnd (ldA false 1 H x5) fun x6=>bnd (af .neq x3 x6) fun x7=>ifB x7 (K (Bo false) H) (bnd (af .add y33 (I 1)) fun x8=>ax.L0 σ K y5 y7 y31 y32 x8 y47 y48 y49 y60 y61 y62 H))) (bnd (ae y5 2) fun x9=>bnd (ldA false 1 H x9) fun x10=>bnd (aW x10) fun x11=>ax.L1 σ K y5 y7 y31 y32 y33 x10 x11 (I 0) y60 y61 y62 H)):ax.L0 σ K y5 y7 y31 y32 y33 y47 y48 y49 y60 y61 y62 H :=
 fun j=>lrd (g:=8071435709698801824) (Eq.mpr (by kernel_rfl) h)
theorem ax.L1_step {y5 y7 y31 y32 y33 y47 y48 y49 y60 y61 y62:AV} (h:bnd (af .lss y49 y48) fun x1=>ifB x1 (bnd (aJ 1 y47 y49) fun x2=>bnd (ldA false 1 H x2) fun x3=>bnd (ae y7 3) fun x4=>bnd (ldA false 1 H x4) fun x5=>ai Tryz.prog σ kg [x5,x3] H fun x6 H7=>bnd (unR .not x6) fun x8=>ifB x8 (K (Bo false) H7) (bnd (af .add y49 (I 1)) fun x9=>ax.L1 σ K y5 y7 y31 y32 y33 y47 y48 x9 y60 y61 y62 H7)) (bnd (ae y5 3) fun x10=>bnd (ldA false 1 H x10) fun x11=>bnd (aW x11) fun x12=>ax.L2 σ K y5 y7 y31 y32 y33 y47 y48 y49 x11 x12 (I 0) H)):ax.L1 σ K y5 y7 y31 y32 y33 y47 y48 y49 y60 y61 y62 H :=
 fun j=>lrd (g:=8071435709698801824) (Eq.mpr (by kernel_rfl) h)
theorem ax.L2_step {y5 y7 y31 y32 y33 y47 y48 y49 y60 y61 y62:AV} (h:bnd (af .lss y62 y61) fun x1=>ifB x1 (bnd (aJ 3 y60 y62) fun x2=>bnd (ldA true 3 H x2) fun x3=>bq [.lit (.string ⟨#[]⟩),I 0,.lit (.string ⟨#[]⟩)] H fun x4 H5=>bnd (stA 3 H5 x4 x3) fun H6=>bnd (ldA true 5 H6 y7) fun x7=>bnd (ldA true 3 H6 x4) fun x8=>ai Tryz.prog σ jx [x7,x8] H6 fun x9 H10=>bnd (unR .not x9) fun x11=>ifB x11 (K (Bo false) H10) (bnd (af .add y62 (I 1)) fun x12=>ax.L2 σ K y5 y7 y31 y32 y33 y47 y48 y49 y60 y61 x12 H10)) (K (Bo true) H)):ax.L2 σ K y5 y7 y31 y32 y33 y47 y48 y49 y60 y61 y62 H :=
 fun j=>lrd (g:=8071435709698801824) (Eq.mpr (by kernel_rfl) h)
theorem ax.run {a0 a1 a2:AV} (h:eR a2 H fun x1 H2=>bnd (au a0) fun x3=>bnd (ae x3 0) fun x4=>bnd (ldA false 1 H2 x4) fun x5=>ai Tryz.prog σ fL [x5,a1] H2 fun x6 H7=>bq [I 0,.lit (.string ⟨#[]⟩),.lit (.string ⟨#[]⟩),.lit (.slice none 0 0),.lit (.slice none 0 0)] H7 fun x8 H9=>bnd (stA 5 H9 x8 x6) fun H10=>bnd (ae x1 0) fun x11=>bnd (ldA false 1 H10 x11) fun x12=>bnd (af .neq x12 (.lit (.string ⟨#[]⟩))) fun x13=>ifB x13 (bnd (ae x1 0) fun x14=>bnd (ldA false 1 H10 x14) fun x15=>bnd (ae x8 1) fun x16=>bnd (ldA false 1 H10 x16) fun x17=>bnd (af .neq x15 x17) fun x18=>ifB x18 (K (Bo false) H10) (bnd (ae x1 1) fun x19=>bnd (ldA false 1 H10 x19) fun x20=>bnd (aW x20) fun x21=>ax.L0 σ K x1 x8 x20 x21 (I 0) (.lit undef) (.lit undef) (.lit undef) (.lit undef) (.lit undef) (.lit undef) H10)) (bnd (ae x1 1) fun x22=>bnd (ldA false 1 H10 x22) fun x23=>bnd (aW x23) fun x24=>ax.L0 σ K x1 x8 x23 x24 (I 0) (.lit undef) (.lit undef) (.lit undef) (.lit undef) (.lit undef) (.lit undef) H10)):∃ r H1,az Tryz.prog σ fd [a0,a1,a2] H r H1∧K r H1 :=
 gwp 8071435709698801824 (fn:=Tryz.f74) (f:=fd) (c:=ax.code) (by kernel_rfl) (by kernel_rfl) (Eq.mpr (by kernel_rfl) h)
noncomputable def gP.code:Code:=aI Tryz.f75
theorem gP.run {a0 a1 a2 a3:AV} (h:eR a2 H fun x1 H2=>bnd (ae x1 0) fun x3=>bnd (ldA false 1 H2 x3) fun x4=>bnd (af .eql x4 (I 1)) fun x5=>ifB x5 (bnd (au a0) fun x6=>bnd (ae x6 0) fun x7=>bnd (ldA false 1 H2 x7) fun x8=>ai Tryz.prog σ dT [x8,a1] H2 fun x9 H10=>bnd (af .lss x9 (I 0)) fun x11=>K x11 H10) (bnd (af .eql x4 (I 2)) fun x12=>ifB x12 (bnd (au a0) fun x13=>bnd (ae x13 0) fun x14=>bnd (ldA false 1 H2 x14) fun x15=>ai Tryz.prog σ du [x15,a1] H2 fun x16 H17=>bnd (af .eql x16 (I 1)) fun x18=>K x18 H17) (bnd (af .eql x4 (I 3)) fun x19=>ifB x19 (ai Tryz.prog σ eM [a0,a1] H2 fun x20 H21=>K x20 H21) (bnd (af .eql x4 (I 4)) fun x22=>ifB x22 (bnd (au a0) fun x23=>bnd (ae x23 0) fun x24=>bnd (ldA false 1 H2 x24) fun x25=>ai Tryz.prog σ du [x25,a1] H2 fun x26 H27=>bnd (af .eql x26 (I 1)) fun x28=>ifB x28 (ai Tryz.prog σ eM [a0,a1] H27 fun x29 H30=>K x29 H30) (K (Bo false) H27)) (bnd (af .eql x4 (I 5)) fun x31=>ifB x31 (bnd (au a0) fun x32=>bnd (ae x32 0) fun x33=>bnd (ldA false 1 H2 x33) fun x34=>ai Tryz.prog σ fu [x34,a1,(I 0)] H2 fun x35 H36=>bnd (af .lss x35 (I 0)) fun x37=>K x37 H36) (bnd (af .eql x4 (I 6)) fun x38=>ifB x38 (bnd (au a0) fun x39=>bnd (ae x39 0) fun x40=>bnd (ldA false 1 H2 x40) fun x41=>ai Tryz.prog σ du [x41,a1] H2 fun x42 H43=>bnd (ae x1 1) fun x44=>kpK (x44,some 1) H2 H43 (bnd (ldA false 1 H43 x44) fun x45=>bnd (ae x1 2) fun x46=>kpK (x46,some 1) H2 H43 (bnd (ldA false 1 H43 x46) fun x47=>ai Tryz.prog σ kz [x42,x45,x47] H43 fun x48 H49=>K x48 H49))) (bnd (af .eql x4 (I 7)) fun x50=>ifB x50 (ai Tryz.prog σ dS [a0,a1,a3] H2 fun x51 H52=>bnd (unR .not x51) fun x53=>K x53 H52) (bnd (af .eql x4 (I 8)) fun x54=>ifB x54 (ai Tryz.prog σ dS [a0,a1,a3] H2 fun x55 H56=>K x55 H56) (K (Bo false) H2))))))))):∃ r H1,az Tryz.prog σ eV [a0,a1,a2,a3] H r H1∧K r H1 :=
 gwp 0 (fn:=Tryz.f75) (f:=eV) (c:=gP.code) (by kernel_rfl) (by kernel_rfl) (Eq.mpr (by kernel_rfl) h)
noncomputable def aY.code:Code:=aI Tryz.f76
noncomputable def aY.J0 (σ:Sig) (K:AV→Hp→Prop) (y0 y1 y2 y8 y9 y20:AV) (H:Hp):Prop:=∀ j:Nat→AV,wp (CZ σ) 1049351 (sR (bB (sR (sL (sR aY.code))))) [y0,y1,y2,j 3,j 4,j 5,j 6,j 7,y8,y9,j 10,j 11,j 12,j 13,j 14,j 15,j 16,j 17,j 18,j 19,y20,j 21,j 22,j 23,j 24,j 25,j 26,j 27,j 28,j 29,j 30] H (fun e T G=>(nx (fQ Tryz.f76 σ K) fun T G=>wp (CZ σ) 1049351 (sR (sR aY.code)) T G (fQ Tryz.f76 σ K)) (aq 0 e) T G)
noncomputable def aY.J1 (σ:Sig) (K:AV→Hp→Prop) (y0 y1 y2 y8 y9 y20:AV) (H:Hp):Prop:=∀ j:Nat→AV,wp (CZ σ) 1049351 (sR (cE (sR (bB (sR (sL (sR aY.code))))))) [y0,y1,y2,j 3,j 4,j 5,j 6,j 7,y8,y9,j 10,j 11,j 12,j 13,j 14,j 15,j 16,j 17,j 18,j 19,y20,j 21,j 22,j 23,j 24,j 25,j 26,j 27,j 28,j 29,j 30] H (fun e T G=>(nx (fQ Tryz.f76 σ K) fun T G=>wp (CZ σ) 1049351 (sR (sR aY.code)) T G (fQ Tryz.f76 σ K)) (aq 0 e) T G)
theorem aY.J0_step {y0 y1 y2 y8 y9 y20:AV} (h:ifB y9 (bnd (au y0) fun x1=>bnd (ae x1 0) fun x2=>bnd (ldA false 1 H x2) fun x3=>ai Tryz.prog σ dT [x3,y1] H fun x4 H5=>bnd (af .eql y2 (I 1)) fun x6=>K (.tup [x4,x6]) H5) (bnd (af .eql y8 (I 3)) fun x7=>ifB x7 (aY.J1 σ K y0 y1 y2 y8 y9 x7 H) (bnd (af .eql y8 (I 4)) fun x8=>aY.J1 σ K y0 y1 y2 y8 y9 x8 H))):aY.J0 σ K y0 y1 y2 y8 y9 y20 H :=
 fun j=>Eq.mpr (by kernel_rfl) h
theorem aY.J1_step {y0 y1 y2 y8 y9 y20:AV} (h:ifB y20 (bnd (au y0) fun x1=>bnd (ae x1 0) fun x2=>bnd (ldA false 1 H x2) fun x3=>ai Tryz.prog σ fX [x3,y1] H fun x4 H5=>bnd (af .eql y2 (I 4)) fun x6=>K (.tup [x4,x6]) H5) (K (.tup [(I (-1)),(Bo false)]) H)):aY.J1 σ K y0 y1 y2 y8 y9 y20 H :=
 fun j=>Eq.mpr (by kernel_rfl) h
theorem aY.run {a0 a1 a2:AV} (h:bnd (af .eql a2 (I 1)) fun x1=>ifB x1 (aY.J0 σ K a0 a1 a2 a2 x1 (.lit undef) H) (bnd (af .eql a2 (I 2)) fun x2=>aY.J0 σ K a0 a1 a2 a2 x2 (.lit undef) H)):∃ r H1,az Tryz.prog σ eT [a0,a1,a2] H r H1∧K r H1 :=
 gwp 1049351 (fn:=Tryz.f76) (f:=eT) (c:=aY.code) (by kernel_rfl) (by kernel_rfl) (Eq.mpr (by kernel_rfl) h)
noncomputable def gC.code:Code:=aI Tryz.f77
theorem gC.run {a0 a1 a2 a3 a4:AV} (h:bnd (ldA false 1 H a0) fun x1=>bnd (ldA false 1 H a1) fun x2=>bnd (ldA false 1 H a2) fun x3=>bnd (af .sub x3 (I 1)) fun x4=>bnd (ldA false 1 H a3) fun x5=>ai Tryz.prog σ dx [x1,x2,x4,x5] H fun x6 H7=>ifB x6 (K (Bo true) H7) (bnd (ldA false 1 H7 a4) fun x8=>ifB x8 (bnd (ldA false 1 H7 a0) fun x9=>bnd (ldA false 1 H7 a1) fun x10=>bnd (ldA false 1 H7 a2) fun x11=>bnd (ldA false 1 H7 a3) fun x12=>ai Tryz.prog σ dr [x9,x10,x11,x12] H7 fun x13 H14=>K x13 H14) (K (Bo false) H7))):∃ r H1,az Tryz.prog σ fS [a0,a1,a2,a3,a4] H r H1∧K r H1 :=
 gwp 0 (fn:=Tryz.f77) (f:=fS) (c:=gC.code) (by kernel_rfl) (by kernel_rfl) (Eq.mpr (by kernel_rfl) h)
noncomputable def fj.code:Code:=aI Tryz.f78
noncomputable def fj.L0 (σ:Sig) (K:AV→Hp→Prop) (y0 y1 y5:AV) (H:Hp):Prop:=∀ j:Nat→AV,a_ (CZ σ) (lB (bB (sR (sL (sR fj.code))))) [y0,y1,j 2,j 3,j 4,y5,j 6,j 7,j 8,j 9,j 10,j 11,j 12,j 13,j 14,j 15,j 16,j 17] H (fun e T G=>(nx (fQ Tryz.f78 σ K) fun T G=>wp (CZ σ) 35 (sR (sR fj.code)) T G (fQ Tryz.f78 σ K)) (aq 0 e) T G)
theorem fj.L0_step {y0 y1 y5:AV} (h:bnd (aW y0) fun x1=>bnd (af .lss y5 x1) fun x2=>ifB x2 (bnd (aJ 1 y0 y5) fun x3=>bnd (ldA false 1 H x3) fun x4=>bnd (af .eql x4 y1) fun x5=>ifB x5 (K (Bo true) H) (bnd (af .add y5 (I 1)) fun x6=>fj.L0 σ K y0 y1 x6 H)) (K (Bo false) H)):fj.L0 σ K y0 y1 y5 H :=
 fun j=>lrd (g:=35) (Eq.mpr (by kernel_rfl) h)
theorem fj.run {a0 a1:AV} (h:fj.L0 σ K a0 a1 (I 0) H):∃ r H1,az Tryz.prog σ j6 [a0,a1] H r H1∧K r H1 :=
 gwp 35 (fn:=Tryz.f78) (f:=j6) (c:=fj.code) (by kernel_rfl) (by kernel_rfl) (Eq.mpr (by kernel_rfl) h)
noncomputable def er.code:Code:=aI Tryz.f79
noncomputable def er.L0 (σ:Sig) (K:AV→Hp→Prop) (y2 y3 y5:AV) (H:Hp):Prop:=∀ j:Nat→AV,a_ (CZ σ) (lB (bB (sR (sL (sR er.code))))) [j 0,j 1,y2,y3,j 4,y5,j 6,j 7,j 8,j 9,j 10,j 11,j 12,j 13,j 14,j 15,j 16,j 17,j 18,j 19,j 20,j 21,j 22,j 23,j 24,j 25,j 26,j 27,j 28,j 29,j 30,j 31,j 32,j 33,j 34,j 35,j 36,j 37,j 38,j 39,j 40,j 41,j 42,j 43,j 44,j 45,j 46,j 47,j 48,j 49,j 50,j 51,j 52,j 53,j 54,j 55,j 56,j 57,j 58,j 59,j 60,j 61,j 62,j 63,j 64,j 65,j 66,j 67,j 68,j 69,j 70,j 71,j 72,j 73,j 74,j 75,j 76,j 77,j 78,j 79,j 80,j 81,j 82,j 83,j 84,j 85,j 86,j 87,j 88,j 89,j 90,j 91,j 92,j 93,j 94,j 95,j 96,j 97,j 98,j 99,j 100,j 101,j 102,j 103,j 104,j 105,j 106,j 107,j 108] H (fun e T G=>(nx (fQ Tryz.f79 σ K) fun T G=>wp (CZ σ) 44 (sR (sR er.code)) T G (fQ Tryz.f79 σ K)) (aq 0 e) T G)
theorem er.L0_step {y2 y3 y5:AV} (h:bnd (ae y2 4) fun x1=>bnd (ldA false 1 H x1) fun x2=>bnd (aW x2) fun x3=>bnd (af .lss y5 x3) fun x4=>ifB x4 (bnd (ae y2 4) fun x5=>bnd (ldA false 1 H x5) fun x6=>bnd (aJ 2 x6 y5) fun x7=>bnd (ae x7 0) fun x8=>bnd (ldA false 1 H x8) fun x9=>bnd (ae y3 0) fun x10=>bnd (ldA false 1 H x10) fun x11=>bnd (af .neq x9 x11) fun x12=>ifB x12 (bnd (af .add y5 (I 1)) fun x13=>er.L0 σ K y2 y3 x13 H) (bnd (ae y2 4) fun x14=>bnd (ldA false 1 H x14) fun x15=>bnd (aJ 2 x15 y5) fun x16=>bnd (ae x16 1) fun x17=>bnd (ldA false 1 H x17) fun x18=>bnd (ae y3 1) fun x19=>bnd (ldA false 1 H x19) fun x20=>bnd (af .eql x20 (I 0)) fun x21=>ifB x21 (K (Bo true) H) (bnd (af .eql x20 (I 1)) fun x22=>ifB x22 (bnd (ae y3 2) fun x23=>bnd (ldA false 1 H x23) fun x24=>bnd (af .eql x18 x24) fun x25=>K x25 H) (bnd (af .eql x20 (I 2)) fun x26=>ifB x26 (bnd (ae y3 2) fun x27=>bnd (ldA false 1 H x27) fun x28=>ai Tryz.prog σ gu [x28] H fun x29 H30=>bnd (aW x29) fun x31=>bnd (af .eql x31 (I 1)) fun x32=>ifB x32 (bnd (aJ 1 x29 (I 0)) fun x33=>bnd (ldA false 1 H30 x33) fun x34=>bnd (ae y3 2) fun x35=>bnd (ldA false 1 H30 x35) fun x36=>bnd (af .eql x34 x36) fun x37=>ifB x37 (ai Tryz.prog σ gu [x18] H30 fun x38 H39=>bnd (ae y3 2) fun x40=>kpK (x40,some 1) H30 H39 (bnd (ldA false 1 H39 x40) fun x41=>ai Tryz.prog σ j6 [x38,x41] H39 fun x42 H43=>K x42 H43)) (K (Bo false) H30)) (K (Bo false) H30)) (bnd (af .eql x20 (I 3)) fun x44=>ifB x44 (bnd (ae y3 2) fun x45=>bnd (ldA false 1 H x45) fun x46=>bnd (af .eql x18 x46) fun x47=>ifB x47 (K (Bo true) H) (bnd (ae y3 2) fun x48=>bnd (ldA false 1 H x48) fun x49=>bnd (af .add x49 (.lit (.string ⟨#[45]⟩))) fun x50=>ai Tryz.prog σ gJ [x18,x50] H fun x51 H52=>K x51 H52)) (bnd (af .eql x20 (I 4)) fun x53=>ifB x53 (bnd (ae y3 2) fun x54=>bnd (ldA false 1 H x54) fun x55=>bnd (af .neq x55 (.lit (.string ⟨#[]⟩))) fun x56=>ifB x56 (bnd (ae y3 2) fun x57=>bnd (ldA false 1 H x57) fun x58=>ai Tryz.prog σ gJ [x18,x58] H fun x59 H60=>K x59 H60) (K (Bo false) H)) (bnd (af .eql x20 (I 5)) fun x61=>ifB x61 (bnd (ae y3 2) fun x62=>bnd (ldA false 1 H x62) fun x63=>bnd (af .neq x63 (.lit (.string ⟨#[]⟩))) fun x64=>ifB x64 (bnd (ae y3 2) fun x65=>bnd (ldA false 1 H x65) fun x66=>ai Tryz.prog σ kv [x18,x66] H fun x67 H68=>K x67 H68) (K (Bo false) H)) (bnd (af .eql x20 (I 6)) fun x69=>ifB x69 (bnd (ae y3 2) fun x70=>bnd (ldA false 1 H x70) fun x71=>bnd (af .neq x71 (.lit (.string ⟨#[]⟩))) fun x72=>ifB x72 (bnd (ae y3 2) fun x73=>bnd (ldA false 1 H x73) fun x74=>ai Tryz.prog σ mP [x18,x74] H fun x75 H76=>K x75 H76) (K (Bo false) H)) (K (Bo false) H))))))))) (K (Bo false) H)):er.L0 σ K y2 y3 y5 H :=
 fun j=>lrd (g:=44) (Eq.mpr (by kernel_rfl) h)
theorem er.run {a0 a1:AV} (h:eR a0 H fun x1 H2=>eR a1 H2 fun x3 H4=>er.L0 σ K x1 x3 (I 0) H4):∃ r H1,az Tryz.prog σ j9 [a0,a1] H r H1∧K r H1 :=
 gwp 44 (fn:=Tryz.f79) (f:=j9) (c:=er.code) (by kernel_rfl) (by kernel_rfl) (Eq.mpr (by kernel_rfl) h)
noncomputable def cn.code:Code:=aI Tryz.f80
noncomputable def cn.J0 (σ:Sig) (K:AV→Hp→Prop) (y0 y1 y3 y6 y55:AV) (H:Hp):Prop:=∀ j:Nat→AV,wp (CZ σ) 36028797018964043 (sR (cE (sR (cE (sR (cE (sR (cE (sR (cE (sR (cE (sR (bB (sR (sL (sR cn.code))))))))))))))))) [y0,y1,j 2,y3,j 4,j 5,y6,j 7,j 8,j 9,j 10,j 11,j 12,j 13,j 14,j 15,j 16,j 17,j 18,j 19,j 20,j 21,j 22,j 23,j 24,j 25,j 26,j 27,j 28,j 29,j 30,j 31,j 32,j 33,j 34,j 35,j 36,j 37,j 38,j 39,j 40,j 41,j 42,j 43,j 44,j 45,j 46,j 47,j 48,j 49,j 50,j 51,j 52,j 53,j 54,y55,j 56,j 57,j 58,j 59,j 60,j 61,j 62,j 63,j 64,j 65,j 66,j 67,j 68,j 69] H (fun e T G=>(nx (fQ Tryz.f80 σ K) fun T G=>wp (CZ σ) 36028797018964043 (sR (sR cn.code)) T G (fQ Tryz.f80 σ K)) (aq 0 e) T G)
theorem cn.J0_step {y0 y1 y3 y6 y55:AV} (h:ifB y55 (bnd (ae y6 3) fun x1=>bnd (ldA false 1 H x1) fun x2=>bnd (af .add y3 (I 1)) fun x3=>ai Tryz.prog σ dX [y0,y1,x2,x3] H fun x4 H5=>bnd (ae y6 0) fun x6=>bnd (ldA false 1 H5 x6) fun x7=>bnd (af .eql x7 (I 8)) fun x8=>bnd (jA .eql x4 x8) fun x9=>K x9 H5) (K (Bo false) H)):cn.J0 σ K y0 y1 y3 y6 y55 H :=
 fun j=>Eq.mpr (by kernel_rfl) h
theorem cn.run {a0 a1 a2 a3:AV} (h:eR a2 H fun x1 H2=>bnd (ae x1 0) fun x3=>bnd (ldA false 1 H2 x3) fun x4=>bnd (af .eql x4 (I 1)) fun x5=>ifB x5 (bnd (af .eql a1 (I 0)) fun x6=>K x6 H2) (bnd (af .eql x4 (I 2)) fun x7=>ifB x7 (ai Tryz.prog σ dR [a0,a1] H2 fun x8 H9=>bnd (af .eql x8 (I 1)) fun x10=>K x10 H9) (bnd (af .eql x4 (I 3)) fun x11=>ifB x11 (ai Tryz.prog σ fp [a0,a1] H2 fun x12 H13=>K x12 H13) (bnd (af .eql x4 (I 4)) fun x14=>ifB x14 (ai Tryz.prog σ dR [a0,a1] H2 fun x15 H16=>bnd (af .eql x15 (I 1)) fun x17=>ifB x17 (ai Tryz.prog σ fp [a0,a1] H16 fun x18 H19=>K x18 H19) (K (Bo false) H16)) (bnd (af .eql x4 (I 5)) fun x20=>ifB x20 (ai Tryz.prog σ dK [a0,a1] H2 fun x21 H22=>bnd (aW x21) fun x23=>bnd (af .eql x23 (I 0)) fun x24=>K x24 H22) (bnd (af .eql x4 (I 6)) fun x25=>ifB x25 (ai Tryz.prog σ dR [a0,a1] H2 fun x26 H27=>bnd (ae x1 1) fun x28=>kpK (x28,some 1) H2 H27 (bnd (ldA false 1 H27 x28) fun x29=>bnd (ae x1 2) fun x30=>kpK (x30,some 1) H2 H27 (bnd (ldA false 1 H27 x30) fun x31=>ai Tryz.prog σ lg [x26,x29,x31] H27 fun x32 H33=>K x32 H33))) (bnd (af .eql x4 (I 7)) fun x34=>ifB x34 (cn.J0 σ K a0 a1 a3 x1 x34 H2) (bnd (af .eql x4 (I 8)) fun x35=>cn.J0 σ K a0 a1 a3 x1 x35 H2)))))))):∃ r H1,az Tryz.prog σ cD [a0,a1,a2,a3] H r H1∧K r H1 :=
 gwp 36028797018964043 (fn:=Tryz.f80) (f:=cD) (c:=cn.code) (by kernel_rfl) (by kernel_rfl) (Eq.mpr (by kernel_rfl) h)
noncomputable def iA.code:Code:=aI Tryz.f81
theorem iA.run {a0 a1:AV} (h:ai Tryz.prog σ da [a0,a1] H fun x1 H2=>bnd (unR .not x1) fun x3=>ifB x3 (K (I (-1)) H2) (bnd (au a0) fun x4=>bnd (ae x4 0) fun x5=>bnd (ldA false 1 H2 x5) fun x6=>bnd (aJ 5 x6 a1) fun x7=>bnd (ae x7 0) fun x8=>bnd (ldA false 1 H2 x8) fun x9=>K x9 H2)):∃ r H1,az Tryz.prog σ dh [a0,a1] H r H1∧K r H1 :=
 gwp 0 (fn:=Tryz.f81) (f:=dh) (c:=iA.code) (by kernel_rfl) (by kernel_rfl) (Eq.mpr (by kernel_rfl) h)
noncomputable def cj.code:Code:=aI Tryz.f82
noncomputable def cj.L0 (σ:Sig) (K:AV→Hp→Prop) (y0 y1 y5:AV) (H:Hp):Prop:=∀ j:Nat→AV,a_ (CZ σ) (lB (bB (sR (sL (sR (sR cj.code)))))) [y0,y1,j 2,j 3,j 4,y5,j 6,j 7,j 8,j 9,j 10,j 11,j 12,j 13,j 14,j 15,j 16,j 17,j 18,j 19,j 20,j 21,j 22,j 23,j 24,j 25,j 26,j 27,j 28,j 29,j 30,j 31,j 32,j 33,j 34,j 35,j 36,j 37] H (fun e T G=>(nx (fQ Tryz.f82 σ K) fun T G=>wp (CZ σ) 35 (sR (sR (sR cj.code))) T G (fQ Tryz.f82 σ K)) (aq 0 e) T G)
theorem cj.L0_step {y0 y1 y5:AV} (h:bnd (af .gtr y5 (I 0)) fun x1=>ifB x1 (bnd (au y0) fun x2=>bnd (ae x2 0) fun x3=>bnd (ldA false 1 H x3) fun x4=>bnd (aJ 5 x4 y5) fun x5=>bnd (ae x5 0) fun x6=>bnd (ldA false 1 H x6) fun x7=>bnd (au y0) fun x8=>bnd (ae x8 0) fun x9=>bnd (ldA false 1 H x9) fun x10=>bnd (aJ 5 x10 y1) fun x11=>bnd (ae x11 0) fun x12=>bnd (ldA false 1 H x12) fun x13=>bnd (af .eql x7 x13) fun x14=>ifB x14 (K y5 H) (bnd (af .sub y5 (I 1)) fun x15=>cj.L0 σ K y0 y1 x15 H)) (K (I (-1)) H)):cj.L0 σ K y0 y1 y5 H :=
 fun j=>lrd (g:=35) (Eq.mpr (by kernel_rfl) h)
theorem cj.run {a0 a1:AV} (h:ai Tryz.prog σ da [a0,a1] H fun x1 H2=>bnd (unR .not x1) fun x3=>ifB x3 (K (I (-1)) H2) (bnd (af .eql a1 (I 0)) fun x4=>ifB x4 (K (I (-1)) H2) (bnd (af .sub a1 (I 1)) fun x5=>cj.L0 σ K a0 a1 x5 H2))):∃ r H1,az Tryz.prog σ df [a0,a1] H r H1∧K r H1 :=
 gwp 35 (fn:=Tryz.f82) (f:=df) (c:=cj.code) (by kernel_rfl) (by kernel_rfl) (Eq.mpr (by kernel_rfl) h)
noncomputable def cW.code:Code:=aI Tryz.f83
theorem cW.run {a0:AV} (h:bnd (pQ .eql a0 (.lit (.slice none 0 0))) fun x1=>ifB x1 (K (.lit (.slice none 0 0)) H) (bnd (aw [.string ⟨#[]⟩] 1 0 H []) fun p2=>bnd (bc false 1 16 p2.2 p2.1 a0) fun p3=>K p3.1 p3.2)):∃ r H1,az Tryz.prog σ bI [a0] H r H1∧K r H1 :=
 gwp 0 (fn:=Tryz.f83) (f:=bI) (c:=cW.code) (by kernel_rfl) (by kernel_rfl) (Eq.mpr (by kernel_rfl) h)
noncomputable def cy.code:Code:=aI Tryz.f84
theorem cy.run {a0:AV} (h:bnd (pQ .eql a0 (.lit (.slice none 0 0))) fun x1=>ifB x1 (K (.lit (.slice none 0 0)) H) (bnd (aw [.string ⟨#[]⟩,.string ⟨#[]⟩] 2 0 H []) fun p2=>bnd (bc false 2 32 p2.2 p2.1 a0) fun p3=>K p3.1 p3.2)):∃ r H1,az Tryz.prog σ bU [a0] H r H1∧K r H1 :=
 gwp 0 (fn:=Tryz.f84) (f:=bU) (c:=cy.code) (by kernel_rfl) (by kernel_rfl) (Eq.mpr (by kernel_rfl) h)
noncomputable def hY.code:Code:=aI Tryz.f85
theorem hY.run {a0 a1 a2:AV} (h:ai Tryz.prog σ aN [a0,a1] H fun x1 H2=>bnd (dW false 0 1 x1) fun x3=>bnd (af .eql x3 (I 10)) fun x4=>ifB x4 (ai Tryz.prog σ aN [a0,a1] H2 fun x5 H6=>bnd (dW false 4 1 x5) fun x7=>bnd (af .eql x7 a2) fun x8=>K x8 H6) (K (Bo false) H2)):∃ r H1,az Tryz.prog σ b_ [a0,a1,a2] H r H1∧K r H1 :=
 gwp 0 (fn:=Tryz.f85) (f:=b_) (c:=hY.code) (by kernel_rfl) (by kernel_rfl) (Eq.mpr (by kernel_rfl) h)
noncomputable def ao.code:Code:=aI Tryz.f86
noncomputable def ao.Q0 (σ:Sig) (K:AV→Hp→Prop):Exit→List AV→Hp→Prop:=(nx (fQ Tryz.f86 σ K) fun T G=>∀ j,wp (CZ σ) 125 (sR (sR (sR (sR (sR (sR (sR (sR (sR ao.code))))))))) (de 125 j 0 T) G (fQ Tryz.f86 σ K))
noncomputable def ao.Q1 (σ:Sig) (K:AV→Hp→Prop):Exit→List AV→Hp→Prop:=(nx (ao.Q0 σ K) fun T G=>wp (CZ σ) 125 (sR (sR (cT (sR (cE (sR (sL (sR (sR (sR (sR (sR (sR (sR (sR ao.code))))))))))))))) T G (ao.Q0 σ K))
noncomputable def ao.J0 (σ:Sig) (K:AV→Hp→Prop) (y0 y2 y3 y4 y5 y6:AV) (H:Hp):Prop:=∀ j:Nat→AV,wp (CZ σ) 125 (sR (sR (sR (sR (sR (sR (sR (sR (sR ao.code))))))))) [y0,j 1,y2,y3,y4,y5,y6,j 7,j 8,j 9,j 10,j 11,j 12,j 13,j 14,j 15,j 16,j 17,j 18,j 19,j 20,j 21,j 22,j 23,j 24,j 25,j 26,j 27,j 28,j 29,j 30,j 31,j 32,j 33,j 34,j 35,j 36,j 37,j 38,j 39,j 40,j 41,j 42,j 43,j 44,j 45,j 46,j 47,j 48,j 49,j 50,j 51,j 52,j 53,j 54,j 55,j 56,j 57,j 58,j 59,j 60,j 61,j 62,j 63,j 64,j 65,j 66,j 67,j 68,j 69,j 70,j 71,j 72,j 73,j 74,j 75,j 76,j 77,j 78,j 79,j 80,j 81,j 82,j 83,j 84,j 85,j 86,j 87,j 88,j 89,j 90,j 91,j 92,j 93,j 94,j 95,j 96,j 97,j 98,j 99,j 100,j 101,j 102,j 103,j 104,j 105,j 106,j 107,j 108,j 109,j 110,j 111,j 112,j 113,j 114,j 115,j 116,j 117,j 118,j 119,j 120,j 121,j 122,j 123,j 124,j 125,j 126,j 127,j 128,j 129,j 130,j 131,j 132,j 133,j 134,j 135,j 136,j 137,j 138,j 139,j 140,j 141,j 142,j 143] H (fQ Tryz.f86 σ K)
noncomputable def ao.L1 (σ:Sig) (K:AV→Hp→Prop) (y0 y2 y3 y4 y5 y6:AV) (H:Hp):Prop:=∀ j:Nat→AV,a_ (CZ σ) (lB (bB (sR (sL (sR (cT (sR (cE (sR (sL (sR (sR (sR (sR (sR (sR (sR (sR ao.code)))))))))))))))))) [y0,j 1,y2,y3,y4,y5,y6,j 7,j 8,j 9,j 10,j 11,j 12,j 13,j 14,j 15,j 16,j 17,j 18,j 19,j 20,j 21,j 22,j 23,j 24,j 25,j 26,j 27,j 28,j 29,j 30,j 31,j 32,j 33,j 34,j 35,j 36,j 37,j 38,j 39,j 40,j 41,j 42,j 43,j 44,j 45,j 46,j 47,j 48,j 49,j 50,j 51,j 52,j 53,j 54,j 55,j 56,j 57,j 58,j 59,j 60,j 61,j 62,j 63,j 64,j 65,j 66,j 67,j 68,j 69,j 70,j 71,j 72,j 73,j 74,j 75,j 76,j 77,j 78,j 79,j 80,j 81,j 82,j 83,j 84,j 85,j 86,j 87,j 88,j 89,j 90,j 91,j 92,j 93,j 94,j 95,j 96,j 97,j 98,j 99,j 100,j 101,j 102,j 103,j 104,j 105,j 106,j 107,j 108,j 109,j 110,j 111,j 112,j 113,j 114,j 115,j 116,j 117,j 118,j 119,j 120,j 121,j 122,j 123,j 124,j 125,j 126,j 127,j 128,j 129,j 130,j 131,j 132,j 133,j 134,j 135,j 136,j 137,j 138,j 139,j 140,j 141,j 142,j 143] H (fun e T G=>(ao.Q1 σ K) (aq 0 e) T G)
noncomputable def ao.J2 (σ:Sig) (K:AV→Hp→Prop) (y0 y2 y3 y4 y5 y6:AV) (H:Hp):Prop:=∀ j:Nat→AV,wp (CZ σ) 125 (sR (sR (sR (sR (sR (sR (sR (sR (sR (sR (sR (sR (sR (sR (sR (sR (sR ao.code))))))))))))))))) [y0,j 1,y2,y3,y4,y5,y6,j 7,j 8,j 9,j 10,j 11,j 12,j 13,j 14,j 15,j 16,j 17,j 18,j 19,j 20,j 21,j 22,j 23,j 24,j 25,j 26,j 27,j 28,j 29,j 30,j 31,j 32,j 33,j 34,j 35,j 36,j 37,j 38,j 39,j 40,j 41,j 42,j 43,j 44,j 45,j 46,j 47,j 48,j 49,j 50,j 51,j 52,j 53,j 54,j 55,j 56,j 57,j 58,j 59,j 60,j 61,j 62,j 63,j 64,j 65,j 66,j 67,j 68,j 69,j 70,j 71,j 72,j 73,j 74,j 75,j 76,j 77,j 78,j 79,j 80,j 81,j 82,j 83,j 84,j 85,j 86,j 87,j 88,j 89,j 90,j 91,j 92,j 93,j 94,j 95,j 96,j 97,j 98,j 99,j 100,j 101,j 102,j 103,j 104,j 105,j 106,j 107,j 108,j 109,j 110,j 111,j 112,j 113,j 114,j 115,j 116,j 117,j 118,j 119,j 120,j 121,j 122,j 123,j 124,j 125,j 126,j 127,j 128,j 129,j 130,j 131,j 132,j 133,j 134,j 135,j 136,j 137,j 138,j 139,j 140,j 141,j 142,j 143] H (fQ Tryz.f86 σ K)
noncomputable def ao.J3 (σ:Sig) (K:AV→Hp→Prop) (y0 y2 y3 y4 y5 y6:AV) (H:Hp):Prop:=∀ j:Nat→AV,wp (CZ σ) 125 (sR (sR (lB (bB (sR (sL (sR (cT (sR (cE (sR (sL (sR (sR (sR (sR (sR (sR (sR (sR ao.code)))))))))))))))))))) [y0,j 1,y2,y3,y4,y5,y6,j 7,j 8,j 9,j 10,j 11,j 12,j 13,j 14,j 15,j 16,j 17,j 18,j 19,j 20,j 21,j 22,j 23,j 24,j 25,j 26,j 27,j 28,j 29,j 30,j 31,j 32,j 33,j 34,j 35,j 36,j 37,j 38,j 39,j 40,j 41,j 42,j 43,j 44,j 45,j 46,j 47,j 48,j 49,j 50,j 51,j 52,j 53,j 54,j 55,j 56,j 57,j 58,j 59,j 60,j 61,j 62,j 63,j 64,j 65,j 66,j 67,j 68,j 69,j 70,j 71,j 72,j 73,j 74,j 75,j 76,j 77,j 78,j 79,j 80,j 81,j 82,j 83,j 84,j 85,j 86,j 87,j 88,j 89,j 90,j 91,j 92,j 93,j 94,j 95,j 96,j 97,j 98,j 99,j 100,j 101,j 102,j 103,j 104,j 105,j 106,j 107,j 108,j 109,j 110,j 111,j 112,j 113,j 114,j 115,j 116,j 117,j 118,j 119,j 120,j 121,j 122,j 123,j 124,j 125,j 126,j 127,j 128,j 129,j 130,j 131,j 132,j 133,j 134,j 135,j 136,j 137,j 138,j 139,j 140,j 141,j 142,j 143] H (nx (fun e T G=>(ao.Q1 σ K) (aq 0 e) T G) fun T G=>∀ j,a_ (CZ σ) (lB (bB (sR (sL (sR (cT (sR (cE (sR (sL (sR (sR (sR (sR (sR (sR (sR (sR ao.code)))))))))))))))))) (de 125 j 0 T) G (fun e T G=>(ao.Q1 σ K) (aq 0 e) T G))
theorem ao.J0_step {y0 y2 y3 y4 y5 y6:AV} (h:bnd (ae y3 1) fun x1=>bnd (ldA false 1 H x1) fun x2=>bnd (af .eql x2 (I 0)) fun x3=>ifB x3 (bnd (au y0) fun x4=>bnd (ae x4 2) fun x5=>bnd (stA 1 H x5 (Bo true)) fun H6=>bnd (ldA true 3 H6 y3) fun x7=>bnd (stA 3 H6 y2 x7) fun H8=>bnd (ldA true 3 H8 y2) fun r9=>K r9 H8) (ai Tryz.prog σ bu [y0] H fun x10 H11=>ai Tryz.prog σ aN [y0,(I 0)] H11 fun x12 H13=>bnd (dW false 0 1 x12) fun x14=>ai Tryz.prog σ aN [y0,(I 0)] H13 fun x15 H16=>bnd (dW false 1 1 x15) fun x17=>bnd (ae y3 2) fun x18=>bnd (stA 1 H16 x18 x17) fun H19=>bnd (af .neq x14 (I 1)) fun x20=>ifB x20 (bnd (af .neq x14 (I 4)) fun x21=>ifB x21 (bnd (au y0) fun x22=>bnd (ae x22 2) fun x23=>bnd (stA 1 H19 x23 (Bo true)) fun H24=>bnd (ldA true 3 H24 y3) fun x25=>bnd (stA 3 H24 y2 x25) fun H26=>bnd (ldA true 3 H26 y2) fun r27=>K r27 H26) (bnd (au y0) fun x28=>bnd (ae x28 1) fun x29=>bnd (ldA false 1 H19 x29) fun x30=>bnd (af .add x30 (I 1)) fun x31=>bnd (au y0) fun x32=>bnd (ae x32 1) fun x33=>bnd (stA 1 H19 x33 x31) fun H34=>ai Tryz.prog σ bu [y0] H34 fun x35 H36=>ai Tryz.prog σ aN [y0,(I 0)] H36 fun x37 H38=>bnd (dW false 0 1 x37) fun x39=>bnd (af .neq x39 (I 19)) fun x40=>ifB x40 (bnd (au y0) fun x41=>bnd (ae x41 2) fun x42=>bnd (stA 1 H38 x42 (Bo true)) fun H43=>ao.J2 σ K y0 y2 y3 y4 y5 y6 H43) (ao.J2 σ K y0 y2 y3 y4 y5 y6 H38))) (bnd (au y0) fun x44=>bnd (ae x44 1) fun x45=>bnd (ldA false 1 H19 x45) fun x46=>bnd (af .add x46 (I 1)) fun x47=>bnd (au y0) fun x48=>bnd (ae x48 1) fun x49=>bnd (stA 1 H19 x49 x47) fun H50=>ai Tryz.prog σ bu [y0] H50 fun x51 H52=>ai Tryz.prog σ aN [y0,(I 0)] H52 fun x53 H54=>bnd (dW false 0 1 x53) fun x55=>bnd (af .neq x55 (I 19)) fun x56=>ifB x56 (bnd (au y0) fun x57=>bnd (ae x57 2) fun x58=>bnd (stA 1 H54 x58 (Bo true)) fun H59=>ao.J2 σ K y0 y2 y3 y4 y5 y6 H59) (ao.J2 σ K y0 y2 y3 y4 y5 y6 H54)))):ao.J0 σ K y0 y2 y3 y4 y5 y6 H :=
 fun j=>Eq.mpr (by kernel_rfl) h
theorem ao.L1_step {y0 y2 y3 y4 y5 y6:AV} (h:bnd (aW y5) fun x1=>bnd (af .lss y6 x1) fun x2=>ifB x2 (bnd (aJ 1 y5 y6) fun x3=>bnd (ldA false 1 H x3) fun x4=>bnd (ae y4 4) fun x5=>bnd (ldA false 1 H x5) fun x6=>bnd (af .eql x4 x6) fun x7=>ifB x7 (bnd (af .add (I 2) y6) fun x8=>bnd (ae y3 1) fun x9=>bnd (stA 1 H x9 x8) fun H10=>ao.J3 σ K y0 y2 y3 y4 y5 y6 H10) (ao.J3 σ K y0 y2 y3 y4 y5 y6 H)) (bnd (au y0) fun x11=>bnd (ae x11 1) fun x12=>bnd (ldA false 1 H x12) fun x13=>bnd (af .add x13 (I 2)) fun x14=>bnd (au y0) fun x15=>bnd (ae x15 1) fun x16=>bnd (stA 1 H x16 x14) fun H17=>ao.J0 σ K y0 y2 y3 y4 y5 y6 H17)):ao.L1 σ K y0 y2 y3 y4 y5 y6 H :=
 fun j=>lrd (g:=125) (Eq.mpr (by kernel_rfl) h)
theorem ao.J2_step {y0 y2 y3 y4 y5 y6:AV} (h:bnd (au y0) fun x1=>bnd (ae x1 1) fun x2=>bnd (ldA false 1 H x2) fun x3=>bnd (af .add x3 (I 1)) fun x4=>bnd (au y0) fun x5=>bnd (ae x5 1) fun x6=>bnd (stA 1 H x6 x4) fun H7=>bnd (ldA true 3 H7 y3) fun x8=>bnd (stA 3 H7 y2 x8) fun H9=>bnd (ldA true 3 H9 y2) fun r10=>K r10 H9):ao.J2 σ K y0 y2 y3 y4 y5 y6 H :=
 fun j=>Eq.mpr (by kernel_rfl) h
theorem ao.J3_step {y0 y2 y3 y4 y5 y6:AV} (h:bnd (af .add y6 (I 1)) fun x1=>ao.L1 σ K y0 y2 y3 y4 y5 x1 H):ao.J3 σ K y0 y2 y3 y4 y5 y6 H :=
 fun j=>Eq.mpr (by kernel_rfl) h
theorem ao.run {a0:AV} (h:bq [.lit (.string ⟨#[]⟩),I 0,.lit (.string ⟨#[]⟩)] H fun x1 H2=>ai Tryz.prog σ bu [a0] H2 fun x3 H4=>ai Tryz.prog σ aN [a0,(I 0)] H4 fun x5 H6=>bnd (dW false 1 1 x5) fun x7=>ai Tryz.prog σ ef [x7] H6 fun x8 H9=>bnd (bi [.lit (.string ⟨#[]⟩),I 0,.lit (.string ⟨#[]⟩)] [(0,1,x8)]) fun l10=>bq [.lit (.string ⟨#[]⟩),I 0,.lit (.string ⟨#[]⟩)] H9 fun x11 H12=>bnd (stA 3 H12 x11 (.agg l10)) fun H13=>ai Tryz.prog σ aN [a0,(I 0)] H13 fun x14 H15=>bnd (dW false 0 1 x14) fun x16=>bnd (af .neq x16 (I 1)) fun x17=>ifB x17 (bnd (au a0) fun x18=>bnd (ae x18 2) fun x19=>bnd (stA 1 H15 x19 (Bo true)) fun H20=>bnd (ldA true 3 H20 x11) fun x21=>bnd (stA 3 H20 x1 x21) fun H22=>bnd (ldA true 3 H22 x1) fun r23=>K r23 H22) (bnd (au a0) fun x24=>bnd (ae x24 1) fun x25=>bnd (ldA false 1 H15 x25) fun x26=>bnd (af .add x26 (I 1)) fun x27=>bnd (au a0) fun x28=>bnd (ae x28 1) fun x29=>bnd (stA 1 H15 x29 x27) fun H30=>ai Tryz.prog σ bu [a0] H30 fun x31 H32=>ai Tryz.prog σ aN [a0,(I 0)] H32 fun x33 H34=>bnd (dW false 0 1 x33) fun x35=>bnd (af .eql x35 (I 19)) fun x36=>ifB x36 (bnd (au a0) fun x37=>bnd (ae x37 1) fun x38=>bnd (ldA false 1 H34 x38) fun x39=>bnd (af .add x39 (I 1)) fun x40=>bnd (au a0) fun x41=>bnd (ae x41 1) fun x42=>bnd (stA 1 H34 x42 x40) fun H43=>bnd (ldA true 3 H43 x11) fun x44=>bnd (stA 3 H43 x1 x44) fun H45=>bnd (ldA true 3 H45 x1) fun r46=>K r46 H45) (ai Tryz.prog σ aN [a0,(I 0)] H34 fun x47 H48=>bq [I 0,.lit (.string ⟨#[]⟩),I 0,Bo false,I 0] H48 fun x49 H50=>bnd (stA 5 H50 x49 x47) fun H51=>bnd (ae x49 0) fun x52=>bnd (ldA false 1 H51 x52) fun x53=>bnd (af .eql x53 (I 10)) fun x54=>ifB x54 (bnd (ae x49 4) fun x55=>bnd (ldA false 1 H51 x55) fun x56=>bnd (af .eql x56 (I 61)) fun x57=>ifB x57 (bnd (ae x11 1) fun x58=>bnd (stA 1 H51 x58 (I 1)) fun H59=>bnd (au a0) fun x60=>bnd (ae x60 1) fun x61=>bnd (ldA false 1 H59 x61) fun x62=>bnd (af .add x62 (I 1)) fun x63=>bnd (au a0) fun x64=>bnd (ae x64 1) fun x65=>bnd (stA 1 H59 x65 x63) fun H66=>ao.J0 σ K a0 x1 x11 x49 (.lit undef) (.lit undef) H66) (bnd (ae x49 0) fun x67=>bnd (ldA false 1 H51 x67) fun x68=>bnd (af .eql x68 (I 10)) fun x69=>ifB x69 (ai Tryz.prog σ b_ [a0,(I 1),(I 61)] H51 fun x70 H71=>ifB x70 (bnd (aw [.int .i64 0] 1 5 H71 [(0,1,(I 126)),(1,1,(I 124)),(2,1,(I 94)),(3,1,(I 36)),(4,1,(I 42))]) fun p72=>ao.L1 σ K a0 x1 x11 x49 p72.1 (I 0) p72.2) (ao.J0 σ K a0 x1 x11 x49 (.lit undef) (.lit undef) H71)) (ao.J0 σ K a0 x1 x11 x49 (.lit undef) (.lit undef) H51))) (bnd (ae x49 0) fun x73=>bnd (ldA false 1 H51 x73) fun x74=>bnd (af .eql x74 (I 10)) fun x75=>ifB x75 (ai Tryz.prog σ b_ [a0,(I 1),(I 61)] H51 fun x76 H77=>ifB x76 (bnd (aw [.int .i64 0] 1 5 H77 [(0,1,(I 126)),(1,1,(I 124)),(2,1,(I 94)),(3,1,(I 36)),(4,1,(I 42))]) fun p78=>ao.L1 σ K a0 x1 x11 x49 p78.1 (I 0) p78.2) (ao.J0 σ K a0 x1 x11 x49 (.lit undef) (.lit undef) H77)) (ao.J0 σ K a0 x1 x11 x49 (.lit undef) (.lit undef) H51))))):∃ r H1,az Tryz.prog σ dA [a0] H r H1∧K r H1 :=
 gwp 125 (fn:=Tryz.f86) (f:=dA) (c:=ao.code) (by kernel_rfl) (by kernel_rfl) (Eq.mpr (by kernel_rfl) h)
noncomputable def aQ.code:Code:=aI Tryz.f87
noncomputable def aQ.J0 (σ:Sig) (K:AV→Hp→Prop) (y0 y2 y4 y7 y49:AV) (H:Hp):Prop:=∀ j:Nat→AV,wp (CZ σ) 562949953421461 (sR (cE (sR (bB (sR (sL (sR (sR (sR (sR (sR (sR aQ.code)))))))))))) [y0,j 1,y2,j 3,y4,j 5,j 6,y7,j 8,j 9,j 10,j 11,j 12,j 13,j 14,j 15,j 16,j 17,j 18,j 19,j 20,j 21,j 22,j 23,j 24,j 25,j 26,j 27,j 28,j 29,j 30,j 31,j 32,j 33,j 34,j 35,j 36,j 37,j 38,j 39,j 40,j 41,j 42,j 43,j 44,j 45,j 46,j 47,j 48,y49,j 50,j 51,j 52,j 53,j 54,j 55,j 56,j 57,j 58,j 59,j 60,j 61,j 62,j 63] H (fun e T G=>(nx (fQ Tryz.f87 σ K) fun T G=>wp (CZ σ) 562949953421461 (sR (sR (sR (sR (sR (sR (sR aQ.code))))))) T G (fQ Tryz.f87 σ K)) (aq 0 e) T G)
noncomputable def aQ.J1 (σ:Sig) (K:AV→Hp→Prop) (y0 y2 y4 y7 y49:AV) (H:Hp):Prop:=∀ j:Nat→AV,wp (CZ σ) 562949953421461 (sR (sR (cT (sR (cE (sR (bB (sR (sL (sR (sR (sR (sR (sR (sR aQ.code))))))))))))))) [y0,j 1,y2,j 3,y4,j 5,j 6,y7,j 8,j 9,j 10,j 11,j 12,j 13,j 14,j 15,j 16,j 17,j 18,j 19,j 20,j 21,j 22,j 23,j 24,j 25,j 26,j 27,j 28,j 29,j 30,j 31,j 32,j 33,j 34,j 35,j 36,j 37,j 38,j 39,j 40,j 41,j 42,j 43,j 44,j 45,j 46,j 47,j 48,y49,j 50,j 51,j 52,j 53,j 54,j 55,j 56,j 57,j 58,j 59,j 60,j 61,j 62,j 63] H (fun e T G=>(nx (fQ Tryz.f87 σ K) fun T G=>wp (CZ σ) 562949953421461 (sR (sR (sR (sR (sR (sR (sR aQ.code))))))) T G (fQ Tryz.f87 σ K)) (aq 0 e) T G)
theorem aQ.J0_step {y0 y2 y4 y7 y49:AV} (h:ifB y49 (bnd (bi [I 0,I 0,I 0,.lit (.slice none 0 0)] [(0,1,(I 7))]) fun l1=>bq [I 0,I 0,I 0,.lit (.slice none 0 0)] H fun x2 H3=>bnd (stA 4 H3 x2 (.agg l1)) fun H4=>bnd (af .eql y4 (.lit (.string ⟨#[105,115]⟩))) fun x5=>ifB x5 (bnd (ae x2 0) fun x6=>bnd (stA 1 H4 x6 (I 8)) fun H7=>aQ.J1 σ K y0 y2 y4 x2 y49 H7) (aQ.J1 σ K y0 y2 y4 x2 y49 H4)) (bnd (au y0) fun x8=>bnd (ae x8 2) fun x9=>bnd (stA 1 H x9 (Bo true)) fun H10=>bnd (bi [I 0,I 0,I 0,.lit (.slice none 0 0)] []) fun l11=>bnd (stA 4 H10 y2 (.agg l11)) fun H12=>bnd (ldA true 4 H12 y2) fun r13=>K r13 H12)):aQ.J0 σ K y0 y2 y4 y7 y49 H :=
 fun j=>Eq.mpr (by kernel_rfl) h
theorem aQ.J1_step {y0 y2 y4 y7 y49:AV} (h:ai Tryz.prog σ fc [y0] H fun x1 H2=>bnd (ae y7 3) fun x3=>bnd (stA 1 H2 x3 x1) fun H4=>bnd (ldA true 4 H4 y7) fun x5=>bnd (stA 4 H4 y2 x5) fun H6=>bnd (ldA true 4 H6 y2) fun r7=>K r7 H6):aQ.J1 σ K y0 y2 y4 y7 y49 H :=
 fun j=>Eq.mpr (by kernel_rfl) h
theorem aQ.run {a0:AV} (h:bq [I 0,I 0,I 0,.lit (.slice none 0 0)] H fun x1 H2=>ai Tryz.prog σ aN [a0,(I 0)] H2 fun x3 H4=>bq [I 0,.lit (.string ⟨#[]⟩),I 0,Bo false,I 0] H4 fun x5 H6=>bnd (stA 5 H6 x5 x3) fun H7=>bnd (au a0) fun x8=>bnd (ae x8 1) fun x9=>bnd (ldA false 1 H7 x9) fun x10=>bnd (af .add x10 (I 1)) fun x11=>bnd (au a0) fun x12=>bnd (ae x12 1) fun x13=>bnd (stA 1 H7 x13 x11) fun H14=>bnd (ae x5 1) fun x15=>bnd (ldA false 1 H14 x15) fun x16=>ai Tryz.prog σ ef [x16] H14 fun x17 H18=>bnd (ae x5 0) fun x19=>bnd (ldA false 1 H18 x19) fun x20=>bnd (af .eql x20 (I 1)) fun x21=>ifB x21 (bnd (aw [.string ⟨#[]⟩] 1 5 H18 [(0,1,(.lit (.string ⟨#[114,111,111,116]⟩))),(1,1,(.lit (.string ⟨#[102,105,114,115,116,45,99,104,105,108,100]⟩))),(2,1,(.lit (.string ⟨#[108,97,115,116,45,99,104,105,108,100]⟩))),(3,1,(.lit (.string ⟨#[111,110,108,121,45,99,104,105,108,100]⟩))),(4,1,(.lit (.string ⟨#[101,109,112,116,121]⟩)))]) fun p22=>ai Tryz.prog σ ku [x17,p22.1] p22.2 fun x23 H24=>bnd (exR x23 0) fun x25=>bnd (exR x23 1) fun x26=>ifB x26 (bnd (af .add (I 1) x25) fun x27=>bnd (bi [I 0,I 0,I 0,.lit (.slice none 0 0)] [(0,1,x27)]) fun l28=>bnd (stA 4 H24 x1 (.agg l28)) fun H29=>bnd (ldA true 4 H29 x1) fun r30=>K r30 H29) (bnd (au a0) fun x31=>bnd (ae x31 2) fun x32=>bnd (stA 1 H24 x32 (Bo true)) fun H33=>bnd (bi [I 0,I 0,I 0,.lit (.slice none 0 0)] []) fun l34=>bnd (stA 4 H33 x1 (.agg l34)) fun H35=>bnd (ldA true 4 H35 x1) fun r36=>K r36 H35)) (bnd (ae x5 0) fun x37=>bnd (ldA false 1 H18 x37) fun x38=>bnd (af .neq x38 (I 20)) fun x39=>ifB x39 (bnd (au a0) fun x40=>bnd (ae x40 2) fun x41=>bnd (stA 1 H18 x41 (Bo true)) fun H42=>bnd (bi [I 0,I 0,I 0,.lit (.slice none 0 0)] []) fun l43=>bnd (stA 4 H42 x1 (.agg l43)) fun H44=>bnd (ldA true 4 H44 x1) fun r45=>K r45 H44) (bnd (af .eql x17 (.lit (.string ⟨#[110,116,104,45,99,104,105,108,100]⟩))) fun x46=>ifB x46 (ai Tryz.prog σ fW [a0] H18 fun x47 H48=>bnd (stA 4 H48 x1 x47) fun H49=>bnd (ldA true 4 H49 x1) fun r50=>K r50 H49) (bnd (af .eql x17 (.lit (.string ⟨#[110,111,116]⟩))) fun x51=>ifB x51 (aQ.J0 σ K a0 x1 x17 (.lit undef) x51 H18) (bnd (af .eql x17 (.lit (.string ⟨#[105,115]⟩))) fun x52=>aQ.J0 σ K a0 x1 x17 (.lit undef) x52 H18))))):∃ r H1,az Tryz.prog σ dk [a0] H r H1∧K r H1 :=
 gwp 562949953421461 (fn:=Tryz.f87) (f:=dk) (c:=aQ.code) (by kernel_rfl) (by kernel_rfl) (Eq.mpr (by kernel_rfl) h)
noncomputable def kC.code:Code:=aI Tryz.f88
theorem kC.run {a0 a1:AV} (h:bq [I 0,.lit (.string ⟨#[]⟩),.lit (.string ⟨#[]⟩),.lit (.slice none 0 0),.lit (.slice none 0 0)] H fun x1 H2=>ai Tryz.prog σ ep [a0,a1] H2 fun x3 H4=>bnd (dW true 0 5 x3) fun x5=>bnd (stA 5 H4 x1 x5) fun H6=>bnd (ldA true 5 H6 x1) fun r7=>K r7 H6):∃ r H1,az Tryz.prog σ fL [a0,a1] H r H1∧K r H1 :=
 gwp 0 (fn:=Tryz.f88) (f:=fL) (c:=kC.code) (by kernel_rfl) (by kernel_rfl) (Eq.mpr (by kernel_rfl) h)
noncomputable def eu.code:Code:=aI Tryz.f89
noncomputable def eu.L0 (σ:Sig) (K:AV→Hp→Prop) (y1 y7 y8 y9:AV) (H:Hp):Prop:=∀ j:Nat→AV,a_ (CZ σ) (lB (bB (sR (sL (sR eu.code))))) [j 0,y1,j 2,j 3,j 4,j 5,j 6,y7,y8,y9,j 10,j 11,j 12,j 13,j 14,j 15,j 16] H (fun e T G=>(nx (fQ Tryz.f89 σ K) fun T G=>wp (CZ σ) 898 (sR (sR eu.code)) T G (fQ Tryz.f89 σ K)) (aq 0 e) T G)
theorem eu.L0_step {y1 y7 y8 y9:AV} (h:bnd (af .lss y9 y8) fun x1=>ifB x1 (bnd (aJ 1 y7 y9) fun x2=>bnd (ldA false 1 H x2) fun x3=>bnd (af .eql x3 y1) fun x4=>ifB x4 (K (Bo true) H) (bnd (af .add y9 (I 1)) fun x5=>eu.L0 σ K y1 y7 y8 x5 H)) (K (Bo false) H)):eu.L0 σ K y1 y7 y8 y9 H :=
 fun j=>lrd (g:=898) (Eq.mpr (by kernel_rfl) h)
theorem eu.run {a0 a1:AV} (h:bnd (aW a0) fun x1=>eu.L0 σ K a1 a0 x1 (I 0) H):∃ r H1,az Tryz.prog σ kg [a0,a1] H r H1∧K r H1 :=
 gwp 898 (fn:=Tryz.f89) (f:=kg) (c:=eu.code) (by kernel_rfl) (by kernel_rfl) (Eq.mpr (by kernel_rfl) h)
noncomputable def dt.code:Code:=aI Tryz.f90
noncomputable def dt.L0 (σ:Sig) (K:AV→Hp→Prop) (y3 y8 y9 y10:AV) (H:Hp):Prop:=∀ j:Nat→AV,a_ (CZ σ) (lB (bB (sR (sL (sR dt.code))))) [j 0,j 1,j 2,y3,j 4,j 5,j 6,j 7,y8,y9,y10,j 11,j 12,j 13,j 14,j 15,j 16,j 17,j 18,j 19,j 20,j 21,j 22,j 23] H (fun e T G=>(nx (fQ Tryz.f90 σ K) fun T G=>wp (CZ σ) 1800 (sR (sR dt.code)) T G (fQ Tryz.f90 σ K)) (aq 0 e) T G)
theorem dt.L0_step {y3 y8 y9 y10:AV} (h:bnd (af .lss y10 y9) fun x1=>ifB x1 (bnd (aJ 2 y8 y10) fun x2=>bnd (ldA true 2 H x2) fun x3=>bq [.lit (.string ⟨#[]⟩),.lit (.string ⟨#[]⟩)] H fun x4 H5=>bnd (stA 2 H5 x4 x3) fun H6=>bnd (ae x4 0) fun x7=>bnd (ldA false 1 H6 x7) fun x8=>bnd (ae y3 0) fun x9=>bnd (ldA false 1 H6 x9) fun x10=>bnd (af .eql x8 x10) fun x11=>ifB x11 (bnd (ae x4 1) fun x12=>bnd (ldA false 1 H6 x12) fun x13=>bnd (ldA true 3 H6 y3) fun x14=>ai Tryz.prog σ lO [x13,x14] H6 fun x15 H16=>K x15 H16) (bnd (af .add y10 (I 1)) fun x17=>dt.L0 σ K y3 y8 y9 x17 H6)) (K (Bo false) H)):dt.L0 σ K y3 y8 y9 y10 H :=
 fun j=>lrd (g:=1800) (Eq.mpr (by kernel_rfl) h)
theorem dt.run {a0 a1:AV} (h:eR a0 H fun x1 H2=>eR a1 H2 fun x3 H4=>bnd (ae x1 4) fun x5=>bnd (ldA false 1 H4 x5) fun x6=>bnd (aW x6) fun x7=>dt.L0 σ K x3 x6 x7 (I 0) H4):∃ r H1,az Tryz.prog σ jx [a0,a1] H r H1∧K r H1 :=
 gwp 1800 (fn:=Tryz.f90) (f:=jx) (c:=dt.code) (by kernel_rfl) (by kernel_rfl) (Eq.mpr (by kernel_rfl) h)
noncomputable def jb.code:Code:=aI Tryz.f91
theorem jb.run {a0 a1:AV} (h:bnd (af .lss a1 (I 0)) fun x1=>ifB x1 (K (I (-1)) H) (bnd (au a0) fun x2=>bnd (ae x2 0) fun x3=>bnd (ldA false 1 H x3) fun x4=>bnd (aW x4) fun x5=>bnd (af .geq a1 x5) fun x6=>ifB x6 (K (I (-1)) H) (bnd (au a0) fun x7=>bnd (ae x7 0) fun x8=>bnd (ldA false 1 H x8) fun x9=>bnd (aJ 9 x9 a1) fun x10=>bnd (ae x10 0) fun x11=>bnd (ae x11 0) fun x12=>bnd (ldA false 1 H x12) fun x13=>K x13 H))):∃ r H1,az Tryz.prog σ dT [a0,a1] H r H1∧K r H1 :=
 gwp 0 (fn:=Tryz.f91) (f:=dT) (c:=jb.code) (by kernel_rfl) (by kernel_rfl) (Eq.mpr (by kernel_rfl) h)
noncomputable def jV.code:Code:=aI Tryz.f92
theorem jV.run {a0 a1:AV} (h:ai Tryz.prog σ ep [a0,a1] H fun x1 H2=>bnd (dW false 7 1 x1) fun x3=>K x3 H2):∃ r H1,az Tryz.prog σ du [a0,a1] H r H1∧K r H1 :=
 gwp 0 (fn:=Tryz.f92) (f:=du) (c:=jV.code) (by kernel_rfl) (by kernel_rfl) (Eq.mpr (by kernel_rfl) h)
noncomputable def iE.code:Code:=aI Tryz.f93
theorem iE.run {a0 a1:AV} (h:bnd (au a0) fun x1=>bnd (ae x1 0) fun x2=>bnd (ldA false 1 H x2) fun x3=>ai Tryz.prog σ dT [x3,a1] H fun x4 H5=>bnd (af .lss x4 (I 0)) fun x6=>ifB x6 (K (Bo true) H5) (bnd (au a0) fun x7=>bnd (ae x7 0) fun x8=>bnd (ldA false 1 H5 x8) fun x9=>bnd (au a0) fun x10=>bnd (ae x10 0) fun x11=>bnd (ldA false 1 H5 x11) fun x12=>ai Tryz.prog σ du [x12,a1] H5 fun x13 H14=>kpK (x8,some 1) H5 H14 (ai Tryz.prog σ fu [x9,x4,x13] H14 fun x15 H16=>bnd (af .lss x15 (I 0)) fun x17=>K x17 H16))):∃ r H1,az Tryz.prog σ eM [a0,a1] H r H1∧K r H1 :=
 gwp 0 (fn:=Tryz.f93) (f:=eM) (c:=iE.code) (by kernel_rfl) (by kernel_rfl) (Eq.mpr (by kernel_rfl) h)
noncomputable def jP.code:Code:=aI Tryz.f94
theorem jP.run {a0 a1 a2:AV} (h:ai Tryz.prog σ ep [a0,a1] H fun x1 H2=>bnd (dW false 5 1 x1) fun x3=>bnd (aW x3) fun x4=>bnd (af .lss a2 x4) fun x5=>ifB x5 (bnd (aJ 1 x3 a2) fun x6=>bnd (ldA false 1 H2 x6) fun x7=>K x7 H2) (K (I (-1)) H2)):∃ r H1,az Tryz.prog σ fu [a0,a1,a2] H r H1∧K r H1 :=
 gwp 0 (fn:=Tryz.f94) (f:=fu) (c:=jP.code) (by kernel_rfl) (by kernel_rfl) (Eq.mpr (by kernel_rfl) h)
noncomputable def pF.code:Code:=aI Tryz.f95
theorem pF.run {a0 a1 a2:AV} (h:bnd (af .eql a1 (I 0)) fun x1=>ifB x1 (bnd (af .eql a0 a2) fun x2=>K x2 H) (bnd (af .gtr a1 (I 0)) fun x3=>ifB x3 (bnd (af .leq a2 a0) fun x4=>ifB x4 (bnd (dP .u64 a0) fun x5=>bnd (dP .u64 a2) fun x6=>bnd (af .sub x5 x6) fun x7=>bnd (dP .u64 a1) fun x8=>bnd (af .rem x7 x8) fun x9=>bnd (af .eql x9 (.lit (.int .u64 0))) fun x10=>K x10 H) (K (Bo false) H)) (bnd (af .geq a2 a0) fun x11=>ifB x11 (bnd (dP .u64 a2) fun x12=>bnd (dP .u64 a0) fun x13=>bnd (af .sub x12 x13) fun x14=>bnd (dP .u64 a1) fun x15=>bnd (unR .neg x15) fun x16=>bnd (af .rem x14 x16) fun x17=>bnd (af .eql x17 (.lit (.int .u64 0))) fun x18=>K x18 H) (K (Bo false) H)))):∃ r H1,az Tryz.prog σ kz [a0,a1,a2] H r H1∧K r H1 :=
 gwp 0 (fn:=Tryz.f95) (f:=kz) (c:=pF.code) (by kernel_rfl) (by kernel_rfl) (Eq.mpr (by kernel_rfl) h)
noncomputable def jg.code:Code:=aI Tryz.f96
theorem jg.run {a0 a1:AV} (h:ai Tryz.prog σ ep [a0,a1] H fun x1 H2=>bnd (dW false 8 1 x1) fun x3=>K x3 H2):∃ r H1,az Tryz.prog σ fX [a0,a1] H r H1∧K r H1 :=
 gwp 0 (fn:=Tryz.f96) (f:=fX) (c:=jg.code) (by kernel_rfl) (by kernel_rfl) (Eq.mpr (by kernel_rfl) h)
noncomputable def aV.code:Code:=aI Tryz.f97
noncomputable def aV.Q0 (σ:Sig) (K:AV→Hp→Prop):Exit→List AV→Hp→Prop:=(nx (fQ Tryz.f97 σ K) fun T G=>wp (CZ σ) 57 (sR (sR (sR (sR aV.code)))) T G (fQ Tryz.f97 σ K))
noncomputable def aV.Q1 (σ:Sig) (K:AV→Hp→Prop):Exit→List AV→Hp→Prop:=(nx (fun e T G=>(aV.Q0 σ K) (aq 0 e) T G) fun T G=>∀ j,a_ (CZ σ) (lB (bB (sR (sL (sR (sR (sR aV.code))))))) (de 57 j 0 T) G (fun e T G=>(aV.Q0 σ K) (aq 0 e) T G))
noncomputable def aV.L0 (σ:Sig) (K:AV→Hp→Prop) (y0 y3 y4 y5:AV) (H:Hp):Prop:=∀ j:Nat→AV,a_ (CZ σ) (lB (bB (sR (sL (sR (sR (sR aV.code))))))) [y0,j 1,j 2,y3,y4,y5,j 6,j 7,j 8,j 9,j 10,j 11,j 12,j 13,j 14,j 15,j 16,j 17,j 18,j 19,j 20,j 21,j 22,j 23,j 24,j 25,j 26,j 27,j 28,j 29,j 30,j 31,j 32,j 33,j 34] H (fun e T G=>(aV.Q0 σ K) (aq 0 e) T G)
noncomputable def aV.J1 (σ:Sig) (K:AV→Hp→Prop) (y0 y3 y4 y5:AV) (H:Hp):Prop:=∀ j:Nat→AV,wp (CZ σ) 57 (sR (cT (sR (bB (sL (sR (lB (bB (sR (sL (sR (sR (sR aV.code))))))))))))) [y0,j 1,j 2,y3,y4,y5,j 6,j 7,j 8,j 9,j 10,j 11,j 12,j 13,j 14,j 15,j 16,j 17,j 18,j 19,j 20,j 21,j 22,j 23,j 24,j 25,j 26,j 27,j 28,j 29,j 30,j 31,j 32,j 33,j 34] H (fun e T G=>(nx (aV.Q1 σ K) fun T G=>∀ j,wp (CZ σ) 57 (sR (sR (lB (bB (sR (sL (sR (sR (sR aV.code))))))))) (de 57 j 0 T) G (aV.Q1 σ K)) (aq 1 e) T G)
noncomputable def aV.J2 (σ:Sig) (K:AV→Hp→Prop) (y0 y3 y4 y5:AV) (H:Hp):Prop:=∀ j:Nat→AV,wp (CZ σ) 57 (sR (sR (lB (bB (sR (sL (sR (sR (sR aV.code))))))))) [y0,j 1,j 2,y3,y4,y5,j 6,j 7,j 8,j 9,j 10,j 11,j 12,j 13,j 14,j 15,j 16,j 17,j 18,j 19,j 20,j 21,j 22,j 23,j 24,j 25,j 26,j 27,j 28,j 29,j 30,j 31,j 32,j 33,j 34] H (aV.Q1 σ K)
theorem aV.L0_step {y0 y3 y4 y5:AV} (h:bnd (ct y0) fun x1=>bnd (af .leq y5 x1) fun x2=>ifB x2 (bnd (ct y0) fun x3=>bnd (af .eql y5 x3) fun x4=>ifB x4 (bnd (af .gtr y5 y4) fun x5=>ifB x5 (bnd (fx y0 (some y4) (some y5)) fun x6=>bnd (aw [.string ⟨#[]⟩] 1 1 H [(0,1,x6)]) fun p7=>bnd (bc false 1 16 p7.2 y3 p7.1) fun p8=>aV.J1 σ K y0 p8.1 y4 y5 p8.2) (aV.J1 σ K y0 y3 y4 y5 H)) (bnd (ig y0 y5) fun x9=>ai Tryz.prog σ jB [x9] H fun x10 H11=>ifB x10 (bnd (af .gtr y5 y4) fun x12=>ifB x12 (bnd (fx y0 (some y4) (some y5)) fun x13=>bnd (aw [.string ⟨#[]⟩] 1 1 H11 [(0,1,x13)]) fun p14=>bnd (bc false 1 16 p14.2 y3 p14.1) fun p15=>aV.J1 σ K y0 p15.1 y4 y5 p15.2) (aV.J1 σ K y0 y3 y4 y5 H11)) (aV.J2 σ K y0 y3 y4 y5 H11))) (K y3 H)):aV.L0 σ K y0 y3 y4 y5 H :=
 fun j=>lrd (g:=57) (Eq.mpr (by kernel_rfl) h)
theorem aV.J1_step {y0 y3 y4 y5:AV} (h:bnd (af .add y5 (I 1)) fun x1=>aV.J2 σ K y0 y3 x1 y5 H):aV.J1 σ K y0 y3 y4 y5 H :=
 fun j=>Eq.mpr (by kernel_rfl) h
theorem aV.J2_step {y0 y3 y4 y5:AV} (h:bnd (af .add y5 (I 1)) fun x1=>aV.L0 σ K y0 y3 y4 x1 H):aV.J2 σ K y0 y3 y4 y5 H :=
 fun j=>Eq.mpr (by kernel_rfl) h
theorem aV.run {a0:AV} (h:aV.L0 σ K a0 (.lit (.slice none 0 0)) (I 0) (I 0) H):∃ r H1,az Tryz.prog σ gu [a0] H r H1∧K r H1 :=
 gwp 57 (fn:=Tryz.f97) (f:=gu) (c:=aV.code) (by kernel_rfl) (by kernel_rfl) (Eq.mpr (by kernel_rfl) h)
noncomputable def lZ.code:Code:=aI Tryz.f98
theorem lZ.run {a0 a1:AV} (h:bnd (ct a0) fun x1=>bnd (ct a1) fun x2=>bnd (af .geq x1 x2) fun x3=>ifB x3 (bnd (ct a1) fun x4=>bnd (fx a0 none (some x4)) fun x5=>bnd (af .eql x5 a1) fun x6=>K x6 H) (K (Bo false) H)):∃ r H1,az Tryz.prog σ gJ [a0,a1] H r H1∧K r H1 :=
 gwp 0 (fn:=Tryz.f98) (f:=gJ) (c:=lZ.code) (by kernel_rfl) (by kernel_rfl) (Eq.mpr (by kernel_rfl) h)
noncomputable def py.code:Code:=aI Tryz.f99
theorem py.run {a0 a1:AV} (h:bnd (ct a0) fun x1=>bnd (ct a1) fun x2=>bnd (af .geq x1 x2) fun x3=>ifB x3 (bnd (ct a0) fun x4=>bnd (ct a1) fun x5=>bnd (af .sub x4 x5) fun x6=>bnd (fx a0 (some x6) none) fun x7=>bnd (af .eql x7 a1) fun x8=>K x8 H) (K (Bo false) H)):∃ r H1,az Tryz.prog σ kv [a0,a1] H r H1∧K r H1 :=
 gwp 0 (fn:=Tryz.f99) (f:=kv) (c:=py.code) (by kernel_rfl) (by kernel_rfl) (Eq.mpr (by kernel_rfl) h)
noncomputable def gk.code:Code:=aI Tryz.f100
noncomputable def gk.L0 (σ:Sig) (K:AV→Hp→Prop) (y0 y1 y5:AV) (H:Hp):Prop:=∀ j:Nat→AV,a_ (CZ σ) (lB (bB (sR (sL (sR gk.code))))) [y0,y1,j 2,j 3,j 4,y5,j 6,j 7,j 8,j 9,j 10,j 11,j 12,j 13,j 14,j 15,j 16,j 17,j 18,j 19,j 20,j 21,j 22,j 23] H (fun e T G=>(nx (fQ Tryz.f100 σ K) fun T G=>wp (CZ σ) 35 (sR (sR gk.code)) T G (fQ Tryz.f100 σ K)) (aq 0 e) T G)
theorem gk.L0_step {y0 y1 y5:AV} (h:bnd (ct y1) fun x1=>bnd (af .add y5 x1) fun x2=>bnd (ct y0) fun x3=>bnd (af .leq x2 x3) fun x4=>ifB x4 (bnd (ct y1) fun x5=>bnd (af .add y5 x5) fun x6=>bnd (fx y0 (some y5) (some x6)) fun x7=>bnd (af .eql x7 y1) fun x8=>ifB x8 (K (Bo true) H) (bnd (af .add y5 (I 1)) fun x9=>gk.L0 σ K y0 y1 x9 H)) (K (Bo false) H)):gk.L0 σ K y0 y1 y5 H :=
 fun j=>lrd (g:=35) (Eq.mpr (by kernel_rfl) h)
theorem gk.run {a0 a1:AV} (h:gk.L0 σ K a0 a1 (I 0) H):∃ r H1,az Tryz.prog σ mP [a0,a1] H r H1∧K r H1 :=
 gwp 35 (fn:=Tryz.f100) (f:=mP) (c:=gk.code) (by kernel_rfl) (by kernel_rfl) (Eq.mpr (by kernel_rfl) h)
noncomputable def aS.code:Code:=aI Tryz.f101
noncomputable def aS.Q0 (σ:Sig) (K:AV→Hp→Prop):Exit→List AV→Hp→Prop:=(nx (fQ Tryz.f101 σ K) fun T G=>wp (CZ σ) 99 (sR (sR (sR (sR aS.code)))) T G (fQ Tryz.f101 σ K))
noncomputable def aS.L0 (σ:Sig) (K:AV→Hp→Prop) (y0 y1 y5 y6:AV) (H:Hp):Prop:=∀ j:Nat→AV,a_ (CZ σ) (lB (bB (sR (sL (sR (sR (sR aS.code))))))) [y0,y1,j 2,j 3,j 4,y5,y6,j 7,j 8,j 9,j 10,j 11,j 12,j 13,j 14,j 15,j 16,j 17,j 18,j 19,j 20,j 21,j 22,j 23,j 24,j 25,j 26,j 27,j 28,j 29,j 30,j 31,j 32,j 33,j 34,j 35] H (fun e T G=>(aS.Q0 σ K) (aq 0 e) T G)
noncomputable def aS.J1 (σ:Sig) (K:AV→Hp→Prop) (y0 y1 y5 y6:AV) (H:Hp):Prop:=∀ j:Nat→AV,wp (CZ σ) 99 (sR (sR (lB (bB (sR (sL (sR (sR (sR aS.code))))))))) [y0,y1,j 2,j 3,j 4,y5,y6,j 7,j 8,j 9,j 10,j 11,j 12,j 13,j 14,j 15,j 16,j 17,j 18,j 19,j 20,j 21,j 22,j 23,j 24,j 25,j 26,j 27,j 28,j 29,j 30,j 31,j 32,j 33,j 34,j 35] H (nx (fun e T G=>(aS.Q0 σ K) (aq 0 e) T G) fun T G=>∀ j,a_ (CZ σ) (lB (bB (sR (sL (sR (sR (sR aS.code))))))) (de 99 j 0 T) G (fun e T G=>(aS.Q0 σ K) (aq 0 e) T G))
theorem aS.L0_step {y0 y1 y5 y6:AV} (h:bnd (af .lss y6 y1) fun x1=>ifB x1 (bnd (au y0) fun x2=>bnd (ae x2 0) fun x3=>bnd (ldA false 1 H x3) fun x4=>bnd (aJ 5 x4 y6) fun x5=>bnd (ae x5 0) fun x6=>bnd (ldA false 1 H x6) fun x7=>bnd (au y0) fun x8=>bnd (ae x8 0) fun x9=>bnd (ldA false 1 H x9) fun x10=>bnd (aJ 5 x10 y1) fun x11=>bnd (ae x11 0) fun x12=>bnd (ldA false 1 H x12) fun x13=>bnd (af .eql x7 x13) fun x14=>ifB x14 (bnd (af .add y5 (I 1)) fun x15=>aS.J1 σ K y0 y1 x15 y6 H) (aS.J1 σ K y0 y1 y5 y6 H)) (K y5 H)):aS.L0 σ K y0 y1 y5 y6 H :=
 fun j=>lrd (g:=99) (Eq.mpr (by kernel_rfl) h)
theorem aS.J1_step {y0 y1 y5 y6:AV} (h:bnd (af .add y6 (I 1)) fun x1=>aS.L0 σ K y0 y1 y5 x1 H):aS.J1 σ K y0 y1 y5 y6 H :=
 fun j=>Eq.mpr (by kernel_rfl) h
theorem aS.run {a0 a1:AV} (h:ai Tryz.prog σ da [a0,a1] H fun x1 H2=>bnd (unR .not x1) fun x3=>ifB x3 (K (I 0) H2) (aS.L0 σ K a0 a1 (I 1) (I 1) H2)):∃ r H1,az Tryz.prog σ dR [a0,a1] H r H1∧K r H1 :=
 gwp 99 (fn:=Tryz.f101) (f:=dR) (c:=aS.code) (by kernel_rfl) (by kernel_rfl) (Eq.mpr (by kernel_rfl) h)
noncomputable def cx.code:Code:=aI Tryz.f102
noncomputable def cx.L0 (σ:Sig) (K:AV→Hp→Prop) (y0 y1 y5:AV) (H:Hp):Prop:=∀ j:Nat→AV,a_ (CZ σ) (lB (bB (sR (sL (sR cx.code))))) [y0,y1,j 2,j 3,j 4,y5,j 6,j 7,j 8,j 9,j 10,j 11,j 12,j 13,j 14,j 15,j 16,j 17,j 18,j 19,j 20,j 21,j 22,j 23,j 24,j 25,j 26,j 27,j 28,j 29,j 30,j 31,j 32,j 33,j 34,j 35,j 36,j 37] H (fun e T G=>(nx (fQ Tryz.f102 σ K) fun T G=>wp (CZ σ) 35 (sR (sR cx.code)) T G (fQ Tryz.f102 σ K)) (aq 0 e) T G)
theorem cx.L0_step {y0 y1 y5:AV} (h:bnd (af .gtr y1 (I 0)) fun x1=>ifB x1 (bnd (au y0) fun x2=>bnd (ae x2 0) fun x3=>bnd (ldA false 1 H x3) fun x4=>bnd (aW x4) fun x5=>bnd (af .lss y5 x5) fun x6=>ifB x6 (bnd (au y0) fun x7=>bnd (ae x7 0) fun x8=>bnd (ldA false 1 H x8) fun x9=>bnd (aJ 5 x9 y5) fun x10=>bnd (ae x10 0) fun x11=>bnd (ldA false 1 H x11) fun x12=>bnd (au y0) fun x13=>bnd (ae x13 0) fun x14=>bnd (ldA false 1 H x14) fun x15=>bnd (aJ 5 x15 y1) fun x16=>bnd (ae x16 0) fun x17=>bnd (ldA false 1 H x17) fun x18=>bnd (af .eql x12 x18) fun x19=>ifB x19 (K (Bo false) H) (bnd (af .add y5 (I 1)) fun x20=>cx.L0 σ K y0 y1 x20 H)) (K (Bo true) H)) (K (Bo true) H)):cx.L0 σ K y0 y1 y5 H :=
 fun j=>lrd (g:=35) (Eq.mpr (by kernel_rfl) h)
theorem cx.run {a0 a1:AV} (h:bnd (af .add a1 (I 1)) fun x1=>cx.L0 σ K a0 a1 x1 H):∃ r H1,az Tryz.prog σ fp [a0,a1] H r H1∧K r H1 :=
 gwp 35 (fn:=Tryz.f102) (f:=fp) (c:=cx.code) (by kernel_rfl) (by kernel_rfl) (Eq.mpr (by kernel_rfl) h)
noncomputable def aM.code:Code:=aI Tryz.f103
noncomputable def aM.Q0 (σ:Sig) (K:AV→Hp→Prop):Exit→List AV→Hp→Prop:=(nx (fQ Tryz.f103 σ K) fun T G=>wp (CZ σ) 99 (sR (sR (sR aM.code))) T G (fQ Tryz.f103 σ K))
noncomputable def aM.L0 (σ:Sig) (K:AV→Hp→Prop) (y0 y1 y5 y6:AV) (H:Hp):Prop:=∀ j:Nat→AV,a_ (CZ σ) (lB (bB (sR (sL (sR (sR aM.code)))))) [y0,y1,j 2,j 3,j 4,y5,y6,j 7,j 8,j 9,j 10,j 11,j 12,j 13,j 14,j 15,j 16,j 17,j 18,j 19,j 20,j 21,j 22,j 23,j 24,j 25,j 26,j 27,j 28,j 29,j 30,j 31,j 32,j 33,j 34,j 35,j 36,j 37] H (fun e T G=>(aM.Q0 σ K) (aq 0 e) T G)
noncomputable def aM.J1 (σ:Sig) (K:AV→Hp→Prop) (y0 y1 y5 y6:AV) (H:Hp):Prop:=∀ j:Nat→AV,wp (CZ σ) 99 (sR (sR (lB (bB (sR (sL (sR (sR aM.code)))))))) [y0,y1,j 2,j 3,j 4,y5,y6,j 7,j 8,j 9,j 10,j 11,j 12,j 13,j 14,j 15,j 16,j 17,j 18,j 19,j 20,j 21,j 22,j 23,j 24,j 25,j 26,j 27,j 28,j 29,j 30,j 31,j 32,j 33,j 34,j 35,j 36,j 37] H (nx (fun e T G=>(aM.Q0 σ K) (aq 0 e) T G) fun T G=>∀ j,a_ (CZ σ) (lB (bB (sR (sL (sR (sR aM.code)))))) (de 99 j 0 T) G (fun e T G=>(aM.Q0 σ K) (aq 0 e) T G))
theorem aM.L0_step {y0 y1 y5 y6:AV} (h:ai Tryz.prog σ da [y0,y1] H fun x1 H2=>ifB x1 (bnd (au y0) fun x3=>bnd (ae x3 0) fun x4=>bnd (ldA false 1 H2 x4) fun x5=>bnd (aW x5) fun x6=>bnd (af .lss y6 x6) fun x7=>ifB x7 (bnd (au y0) fun x8=>bnd (ae x8 0) fun x9=>bnd (ldA false 1 H2 x9) fun x10=>bnd (aJ 5 x10 y6) fun x11=>bnd (ae x11 0) fun x12=>bnd (ldA false 1 H2 x12) fun x13=>bnd (af .eql x13 y1) fun x14=>ifB x14 (bnd (aw [.int .i64 0] 1 1 H2 [(0,1,y6)]) fun p15=>bnd (bc false 1 8 p15.2 y5 p15.1) fun p16=>aM.J1 σ K y0 y1 p16.1 y6 p16.2) (aM.J1 σ K y0 y1 y5 y6 H2)) (K y5 H2)) (K y5 H2)):aM.L0 σ K y0 y1 y5 y6 H :=
 fun j=>lrd (g:=99) (Eq.mpr (by kernel_rfl) h)
theorem aM.J1_step {y0 y1 y5 y6:AV} (h:bnd (af .add y6 (I 1)) fun x1=>aM.L0 σ K y0 y1 y5 x1 H):aM.J1 σ K y0 y1 y5 y6 H :=
 fun j=>Eq.mpr (by kernel_rfl) h
theorem aM.run {a0 a1:AV} (h:bnd (af .add a1 (I 1)) fun x1=>aM.L0 σ K a0 a1 (.lit (.slice none 0 0)) x1 H):∃ r H1,az Tryz.prog σ dK [a0,a1] H r H1∧K r H1 :=
 gwp 99 (fn:=Tryz.f103) (f:=dK) (c:=aM.code) (by kernel_rfl) (by kernel_rfl) (Eq.mpr (by kernel_rfl) h)
noncomputable def qU.code:Code:=aI Tryz.f104
theorem qU.run {a0 a1 a2:AV} (h:bnd (af .eql a1 (I 0)) fun x1=>ifB x1 (bnd (af .eql a0 a2) fun x2=>K x2 H) (bnd (af .gtr a2 (I 1099511627776)) fun x3=>ifB x3 (ai Tryz.prog σ gY [a0,a1,a2] H fun x4 H5=>K x4 H5) (bnd (af .lss a2 (I (-1099511627776))) fun x6=>ifB x6 (ai Tryz.prog σ gY [a0,a1,a2] H fun x7 H8=>K x7 H8) (bnd (af .gtr a1 (I 1099511627776)) fun x9=>ifB x9 (ai Tryz.prog σ gY [a0,a1,a2] H fun x10 H11=>K x10 H11) (bnd (af .lss a1 (I (-1099511627776))) fun x12=>ifB x12 (ai Tryz.prog σ gY [a0,a1,a2] H fun x13 H14=>K x13 H14) (bnd (af .sub a0 a2) fun x15=>bnd (af .rem x15 a1) fun x16=>bnd (af .eql x16 (I 0)) fun x17=>ifB x17 (bnd (af .quo x15 a1) fun x18=>bnd (af .geq x18 (I 0)) fun x19=>K x19 H) (K (Bo false) H))))))):∃ r H1,az Tryz.prog σ lg [a0,a1,a2] H r H1∧K r H1 :=
 gwp 0 (fn:=Tryz.f104) (f:=lg) (c:=qU.code) (by kernel_rfl) (by kernel_rfl) (Eq.mpr (by kernel_rfl) h)
noncomputable def cz.code:Code:=aI Tryz.f105
noncomputable def cz.L0 (σ:Sig) (K:AV→Hp→Prop) (y0 y1 y2 y3 y9:AV) (H:Hp):Prop:=∀ j:Nat→AV,a_ (CZ σ) (lB (bB (sR (sL (sR cz.code))))) [y0,y1,y2,y3,j 4,j 5,j 6,j 7,j 8,y9,j 10,j 11,j 12,j 13,j 14,j 15,j 16,j 17,j 18,j 19,j 20,j 21,j 22,j 23,j 24,j 25] H (fun e T G=>(nx (fQ Tryz.f105 σ K) fun T G=>wp (CZ σ) 527 (sR (sR cz.code)) T G (fQ Tryz.f105 σ K)) (aq 0 e) T G)
theorem cz.L0_step {y0 y1 y2 y3 y9:AV} (h:bnd (aW y2) fun x1=>bnd (af .lss y9 x1) fun x2=>ifB x2 (bnd (aJ 1 y2 y9) fun x3=>bnd (ldA true 1 H x3) fun x4=>ai Tryz.prog σ dJ [y0,y1,x4,y3] H fun x5 H6=>ifB x5 (K (Bo true) H6) (bnd (af .add y9 (I 1)) fun x7=>cz.L0 σ K y0 y1 y2 y3 x7 H6)) (K (Bo false) H)):cz.L0 σ K y0 y1 y2 y3 y9 H :=
 fun j=>lrd (g:=527) (Eq.mpr (by kernel_rfl) h)
theorem cz.run {a0 a1 a2 a3:AV} (h:cz.L0 σ K a0 a1 a2 a3 (I 0) H):∃ r H1,az Tryz.prog σ dX [a0,a1,a2,a3] H r H1∧K r H1 :=
 gwp 527 (fn:=Tryz.f105) (f:=dX) (c:=cz.code) (by kernel_rfl) (by kernel_rfl) (Eq.mpr (by kernel_rfl) h)
noncomputable def dV.code:Code:=aI Tryz.f106
noncomputable def dV.L0 (σ:Sig) (K:AV→Hp→Prop) (y0 y1 y6:AV) (H:Hp):Prop:=∀ j:Nat→AV,a_ (CZ σ) (lB (bB (sR (sL (sR dV.code))))) [y0,y1,j 2,j 3,j 4,j 5,y6,j 7,j 8,j 9,j 10,j 11,j 12,j 13,j 14,j 15,j 16,j 17,j 18,j 19] H (fun e T G=>(nx (fQ Tryz.f106 σ K) fun T G=>wp (CZ σ) 67 (sR (sR dV.code)) T G (fQ Tryz.f106 σ K)) (aq 0 e) T G)
theorem dV.L0_step {y0 y1 y6:AV} (h:bnd (aW y1) fun x1=>bnd (af .lss y6 x1) fun x2=>ifB x2 (bnd (aJ 1 y1 y6) fun x3=>bnd (ldA false 1 H x3) fun x4=>bnd (af .eql x4 y0) fun x5=>ifB x5 (K (.tup [y6,(Bo true)]) H) (bnd (af .add y6 (I 1)) fun x6=>dV.L0 σ K y0 y1 x6 H)) (K (.tup [(I 0),(Bo false)]) H)):dV.L0 σ K y0 y1 y6 H :=
 fun j=>lrd (g:=67) (Eq.mpr (by kernel_rfl) h)
theorem dV.run {a0 a1:AV} (h:dV.L0 σ K a0 a1 (I 0) H):∃ r H1,az Tryz.prog σ ku [a0,a1] H r H1∧K r H1 :=
 gwp 67 (fn:=Tryz.f106) (f:=ku) (c:=dV.code) (by kernel_rfl) (by kernel_rfl) (Eq.mpr (by kernel_rfl) h)
noncomputable def aD.code:Code:=aI Tryz.f107
noncomputable def aD.J0 (σ:Sig) (K:AV→Hp→Prop) (y0 y2 y3:AV) (H:Hp):Prop:=∀ j:Nat→AV,wp (CZ σ) 13 (sR (sR (sR (sR (sR (sR (sR aD.code))))))) [y0,j 1,y2,y3,j 4,j 5,j 6,j 7,j 8,j 9,j 10,j 11,j 12,j 13,j 14,j 15,j 16,j 17,j 18,j 19,j 20,j 21,j 22,j 23,j 24,j 25,j 26,j 27,j 28,j 29,j 30,j 31,j 32,j 33,j 34,j 35,j 36,j 37,j 38,j 39,j 40,j 41,j 42,j 43,j 44,j 45,j 46,j 47,j 48,j 49,j 50,j 51,j 52,j 53,j 54,j 55,j 56,j 57,j 58,j 59,j 60,j 61,j 62,j 63,j 64,j 65,j 66,j 67,j 68,j 69,j 70,j 71] H (fQ Tryz.f107 σ K)
noncomputable def aD.J1 (σ:Sig) (K:AV→Hp→Prop) (y0 y2 y3:AV) (H:Hp):Prop:=∀ j:Nat→AV,wp (CZ σ) 13 (sR (sR (sR (sR (sR (sR (sR (sR (sR aD.code))))))))) [y0,j 1,y2,y3,j 4,j 5,j 6,j 7,j 8,j 9,j 10,j 11,j 12,j 13,j 14,j 15,j 16,j 17,j 18,j 19,j 20,j 21,j 22,j 23,j 24,j 25,j 26,j 27,j 28,j 29,j 30,j 31,j 32,j 33,j 34,j 35,j 36,j 37,j 38,j 39,j 40,j 41,j 42,j 43,j 44,j 45,j 46,j 47,j 48,j 49,j 50,j 51,j 52,j 53,j 54,j 55,j 56,j 57,j 58,j 59,j 60,j 61,j 62,j 63,j 64,j 65,j 66,j 67,j 68,j 69,j 70,j 71] H (fQ Tryz.f107 σ K)
theorem aD.J0_step {y0 y2 y3:AV} (h:ai Tryz.prog σ bu [y0] H fun x1 H2=>ai Tryz.prog σ aN [y0,(I 0)] H2 fun x3 H4=>bnd (dW false 0 1 x3) fun x5=>bnd (af .neq x5 (I 17)) fun x6=>ifB x6 (bnd (au y0) fun x7=>bnd (ae x7 2) fun x8=>bnd (stA 1 H4 x8 (Bo true)) fun H9=>aD.J1 σ K y0 y2 y3 H9) (aD.J1 σ K y0 y2 y3 H4)):aD.J0 σ K y0 y2 y3 H :=
 fun j=>Eq.mpr (by kernel_rfl) h
theorem aD.J1_step {y0 y2 y3:AV} (h:bnd (au y0) fun x1=>bnd (ae x1 1) fun x2=>bnd (ldA false 1 H x2) fun x3=>bnd (af .add x3 (I 1)) fun x4=>bnd (au y0) fun x5=>bnd (ae x5 1) fun x6=>bnd (stA 1 H x6 x4) fun H7=>bnd (ldA true 4 H7 y3) fun x8=>bnd (stA 4 H7 y2 x8) fun H9=>bnd (ldA true 4 H9 y2) fun r10=>K r10 H9):aD.J1 σ K y0 y2 y3 H :=
 fun j=>Eq.mpr (by kernel_rfl) h
theorem aD.run {a0:AV} (h:bq [I 0,I 0,I 0,.lit (.slice none 0 0)] H fun x1 H2=>bnd (bi [I 0,I 0,I 0,.lit (.slice none 0 0)] [(0,1,(I 6))]) fun l3=>bq [I 0,I 0,I 0,.lit (.slice none 0 0)] H2 fun x4 H5=>bnd (stA 4 H5 x4 (.agg l3)) fun H6=>ai Tryz.prog σ bu [a0] H6 fun x7 H8=>ai Tryz.prog σ aN [a0,(I 0)] H8 fun x9 H10=>bq [I 0,.lit (.string ⟨#[]⟩),I 0,Bo false,I 0] H10 fun x11 H12=>bnd (stA 5 H12 x11 x9) fun H13=>bnd (au a0) fun x14=>bnd (ae x14 1) fun x15=>bnd (ldA false 1 H13 x15) fun x16=>bnd (af .add x16 (I 1)) fun x17=>bnd (au a0) fun x18=>bnd (ae x18 1) fun x19=>bnd (stA 1 H13 x19 x17) fun H20=>bnd (ae x11 1) fun x21=>bnd (ldA false 1 H20 x21) fun x22=>ai Tryz.prog σ ef [x22] H20 fun x23 H24=>bnd (ae x11 0) fun x25=>bnd (ldA false 1 H24 x25) fun x26=>bnd (af .eql x26 (I 1)) fun x27=>ifB x27 (bnd (af .eql x23 (.lit (.string ⟨#[111,100,100]⟩))) fun x28=>ifB x28 (bnd (ae x4 1) fun x29=>bnd (stA 1 H24 x29 (I 2)) fun H30=>bnd (ae x4 2) fun x31=>bnd (stA 1 H30 x31 (I 1)) fun H32=>aD.J0 σ K a0 x1 x4 H32) (bnd (ae x11 0) fun x33=>bnd (ldA false 1 H24 x33) fun x34=>bnd (af .eql x34 (I 1)) fun x35=>ifB x35 (bnd (af .eql x23 (.lit (.string ⟨#[101,118,101,110]⟩))) fun x36=>ifB x36 (bnd (ae x4 1) fun x37=>bnd (stA 1 H24 x37 (I 2)) fun H38=>aD.J0 σ K a0 x1 x4 H38) (bnd (ae x11 0) fun x39=>bnd (ldA false 1 H24 x39) fun x40=>bnd (af .eql x40 (I 6)) fun x41=>ifB x41 (bnd (ae x11 3) fun x42=>bnd (ldA false 1 H24 x42) fun x43=>ifB x43 (bnd (ae x11 2) fun x44=>bnd (ldA false 1 H24 x44) fun x45=>bnd (af .quo x45 (I 1000)) fun x46=>bnd (ae x4 2) fun x47=>bnd (stA 1 H24 x47 x46) fun H48=>aD.J0 σ K a0 x1 x4 H48) (bnd (au a0) fun x49=>bnd (ae x49 2) fun x50=>bnd (stA 1 H24 x50 (Bo true)) fun H51=>aD.J0 σ K a0 x1 x4 H51)) (bnd (au a0) fun x52=>bnd (ae x52 2) fun x53=>bnd (stA 1 H24 x53 (Bo true)) fun H54=>aD.J0 σ K a0 x1 x4 H54))) (bnd (ae x11 0) fun x55=>bnd (ldA false 1 H24 x55) fun x56=>bnd (af .eql x56 (I 6)) fun x57=>ifB x57 (bnd (ae x11 3) fun x58=>bnd (ldA false 1 H24 x58) fun x59=>ifB x59 (bnd (ae x11 2) fun x60=>bnd (ldA false 1 H24 x60) fun x61=>bnd (af .quo x61 (I 1000)) fun x62=>bnd (ae x4 2) fun x63=>bnd (stA 1 H24 x63 x62) fun H64=>aD.J0 σ K a0 x1 x4 H64) (bnd (au a0) fun x65=>bnd (ae x65 2) fun x66=>bnd (stA 1 H24 x66 (Bo true)) fun H67=>aD.J0 σ K a0 x1 x4 H67)) (bnd (au a0) fun x68=>bnd (ae x68 2) fun x69=>bnd (stA 1 H24 x69 (Bo true)) fun H70=>aD.J0 σ K a0 x1 x4 H70)))) (bnd (ae x11 0) fun x71=>bnd (ldA false 1 H24 x71) fun x72=>bnd (af .eql x72 (I 1)) fun x73=>ifB x73 (bnd (af .eql x23 (.lit (.string ⟨#[101,118,101,110]⟩))) fun x74=>ifB x74 (bnd (ae x4 1) fun x75=>bnd (stA 1 H24 x75 (I 2)) fun H76=>aD.J0 σ K a0 x1 x4 H76) (bnd (ae x11 0) fun x77=>bnd (ldA false 1 H24 x77) fun x78=>bnd (af .eql x78 (I 6)) fun x79=>ifB x79 (bnd (ae x11 3) fun x80=>bnd (ldA false 1 H24 x80) fun x81=>ifB x81 (bnd (ae x11 2) fun x82=>bnd (ldA false 1 H24 x82) fun x83=>bnd (af .quo x83 (I 1000)) fun x84=>bnd (ae x4 2) fun x85=>bnd (stA 1 H24 x85 x84) fun H86=>aD.J0 σ K a0 x1 x4 H86) (bnd (au a0) fun x87=>bnd (ae x87 2) fun x88=>bnd (stA 1 H24 x88 (Bo true)) fun H89=>aD.J0 σ K a0 x1 x4 H89)) (bnd (au a0) fun x90=>bnd (ae x90 2) fun x91=>bnd (stA 1 H24 x91 (Bo true)) fun H92=>aD.J0 σ K a0 x1 x4 H92))) (bnd (ae x11 0) fun x93=>bnd (ldA false 1 H24 x93) fun x94=>bnd (af .eql x94 (I 6)) fun x95=>ifB x95 (bnd (ae x11 3) fun x96=>bnd (ldA false 1 H24 x96) fun x97=>ifB x97 (bnd (ae x11 2) fun x98=>bnd (ldA false 1 H24 x98) fun x99=>bnd (af .quo x99 (I 1000)) fun x100=>bnd (ae x4 2) fun x101=>bnd (stA 1 H24 x101 x100) fun H102=>aD.J0 σ K a0 x1 x4 H102) (bnd (au a0) fun x103=>bnd (ae x103 2) fun x104=>bnd (stA 1 H24 x104 (Bo true)) fun H105=>aD.J0 σ K a0 x1 x4 H105)) (bnd (au a0) fun x106=>bnd (ae x106 2) fun x107=>bnd (stA 1 H24 x107 (Bo true)) fun H108=>aD.J0 σ K a0 x1 x4 H108)))):∃ r H1,az Tryz.prog σ fW [a0] H r H1∧K r H1 :=
 gwp 13 (fn:=Tryz.f107) (f:=fW) (c:=aD.code) (by kernel_rfl) (by kernel_rfl) (Eq.mpr (by kernel_rfl) h)
noncomputable def bM.code:Code:=aI Tryz.f108
noncomputable def bM.J0 (σ:Sig) (K:AV→Hp→Prop) (y0:AV) (H:Hp):Prop:=∀ j:Nat→AV,wp (CZ σ) 1 (sR (sR (sR bM.code))) [y0,j 1,j 2,j 3,j 4,j 5,j 6,j 7,j 8,j 9,j 10,j 11,j 12,j 13,j 14,j 15,j 16,j 17,j 18,j 19,j 20,j 21,j 22,j 23,j 24,j 25,j 26,j 27,j 28] H (fQ Tryz.f108 σ K)
theorem bM.J0_step {y0:AV} (h:ai Tryz.prog σ dB [y0] H fun x1 H2=>bnd (au y0) fun x3=>bnd (ae x3 3) fun x4=>bnd (ldA false 1 H2 x4) fun x5=>bnd (af .sub x5 (I 1)) fun x6=>bnd (au y0) fun x7=>bnd (ae x7 3) fun x8=>bnd (stA 1 H2 x8 x6) fun H9=>K x1 H9):bM.J0 σ K y0 H :=
 fun j=>Eq.mpr (by kernel_rfl) h
theorem bM.run {a0:AV} (h:bnd (au a0) fun x1=>bnd (ae x1 3) fun x2=>bnd (ldA false 1 H x2) fun x3=>bnd (af .add x3 (I 1)) fun x4=>bnd (au a0) fun x5=>bnd (ae x5 3) fun x6=>bnd (stA 1 H x6 x4) fun H7=>bnd (au a0) fun x8=>bnd (ae x8 3) fun x9=>bnd (ldA false 1 H7 x9) fun x10=>bnd (af .gtr x10 (I 8)) fun x11=>ifB x11 (bnd (au a0) fun x12=>bnd (ae x12 2) fun x13=>bnd (stA 1 H7 x13 (Bo true)) fun H14=>bM.J0 σ K a0 H14) (bM.J0 σ K a0 H7)):∃ r H1,az Tryz.prog σ fc [a0] H r H1∧K r H1 :=
 gwp 1 (fn:=Tryz.f108) (f:=fc) (c:=bM.code) (by kernel_rfl) (by kernel_rfl) (Eq.mpr (by kernel_rfl) h)
noncomputable def me.code:Code:=aI Tryz.f109
theorem me.run {a0 a1:AV} (h:bq [I 0,.lit (.string ⟨#[]⟩),.lit (.string ⟨#[]⟩),.lit (.slice none 0 0),.lit (.slice none 0 0),.lit (.slice none 0 0),I 0,I 0,I 0] H fun x1 H2=>bnd (af .lss a1 (I 0)) fun x3=>ifB x3 (bnd (bi [I 0,.lit (.string ⟨#[]⟩),.lit (.string ⟨#[]⟩),.lit (.slice none 0 0),.lit (.slice none 0 0)] []) fun l4=>bnd (bi [I 0,.lit (.string ⟨#[]⟩),.lit (.string ⟨#[]⟩),.lit (.slice none 0 0),.lit (.slice none 0 0),.lit (.slice none 0 0),I 0,I 0,I 0] [(0,5,(.agg l4)),(8,1,(I (-1)))]) fun l5=>bnd (stA 9 H2 x1 (.agg l5)) fun H6=>bnd (ldA true 9 H6 x1) fun r7=>K r7 H6) (bnd (au a0) fun x8=>bnd (ae x8 0) fun x9=>bnd (ldA false 1 H2 x9) fun x10=>bnd (aW x10) fun x11=>bnd (af .geq a1 x11) fun x12=>ifB x12 (bnd (bi [I 0,.lit (.string ⟨#[]⟩),.lit (.string ⟨#[]⟩),.lit (.slice none 0 0),.lit (.slice none 0 0)] []) fun l13=>bnd (bi [I 0,.lit (.string ⟨#[]⟩),.lit (.string ⟨#[]⟩),.lit (.slice none 0 0),.lit (.slice none 0 0),.lit (.slice none 0 0),I 0,I 0,I 0] [(0,5,(.agg l13)),(8,1,(I (-1)))]) fun l14=>bnd (stA 9 H2 x1 (.agg l14)) fun H15=>bnd (ldA true 9 H15 x1) fun r16=>K r16 H15) (bnd (au a0) fun x17=>bnd (ae x17 0) fun x18=>bnd (ldA false 1 H2 x18) fun x19=>bnd (aJ 9 x19 a1) fun x20=>bnd (ldA true 9 H2 x20) fun x21=>bnd (stA 9 H2 x1 x21) fun H22=>bnd (ldA true 9 H22 x1) fun r23=>K r23 H22))):∃ r H1,az Tryz.prog σ ep [a0,a1] H r H1∧K r H1 :=
 gwp 0 (fn:=Tryz.f109) (f:=ep) (c:=me.code) (by kernel_rfl) (by kernel_rfl) (Eq.mpr (by kernel_rfl) h)
noncomputable def qJ.code:Code:=aI Tryz.f110
theorem qJ.run {a0 a1:AV} (h:eR a1 H fun x1 H2=>bnd (ae x1 2) fun x3=>bnd (ldA false 1 H2 x3) fun x4=>bnd (af .neq x4 (.lit (.string ⟨#[]⟩))) fun x5=>bnd (ae x1 1) fun x6=>bnd (ldA false 1 H2 x6) fun x7=>bnd (af .eql x7 (I 0)) fun x8=>ifB x8 (K (Bo true) H2) (bnd (af .eql x7 (I 1)) fun x9=>ifB x9 (bnd (ae x1 2) fun x10=>bnd (ldA false 1 H2 x10) fun x11=>bnd (af .eql a0 x11) fun x12=>K x12 H2) (bnd (af .eql x7 (I 2)) fun x13=>ifB x13 (ifB x5 (bnd (ae x1 2) fun x14=>bnd (ldA false 1 H2 x14) fun x15=>ai Tryz.prog σ jw [a0,x15] H2 fun x16 H17=>K x16 H17) (K (Bo false) H2)) (bnd (af .eql x7 (I 3)) fun x18=>ifB x18 (bnd (ae x1 2) fun x19=>bnd (ldA false 1 H2 x19) fun x20=>bnd (af .eql a0 x20) fun x21=>ifB x21 (K (Bo true) H2) (bnd (ae x1 2) fun x22=>bnd (ldA false 1 H2 x22) fun x23=>bnd (af .add x23 (.lit (.string ⟨#[45]⟩))) fun x24=>ai Tryz.prog σ d5 [a0,x24] H2 fun x25 H26=>K x25 H26)) (bnd (af .eql x7 (I 4)) fun x27=>ifB x27 (ifB x5 (bnd (ae x1 2) fun x28=>bnd (ldA false 1 H2 x28) fun x29=>ai Tryz.prog σ d5 [a0,x29] H2 fun x30 H31=>K x30 H31) (K (Bo false) H2)) (bnd (af .eql x7 (I 5)) fun x32=>ifB x32 (ifB x5 (bnd (ae x1 2) fun x33=>bnd (ldA false 1 H2 x33) fun x34=>ai Tryz.prog σ fe [a0,x34] H2 fun x35 H36=>K x35 H36) (K (Bo false) H2)) (bnd (af .eql x7 (I 6)) fun x37=>ifB x37 (ifB x5 (bnd (ae x1 2) fun x38=>bnd (ldA false 1 H2 x38) fun x39=>ai Tryz.prog σ jM [a0,x39] H2 fun x40 H41=>K x40 H41) (K (Bo false) H2)) (K (Bo false) H2)))))))):∃ r H1,az Tryz.prog σ lO [a0,a1] H r H1∧K r H1 :=
 gwp 0 (fn:=Tryz.f110) (f:=lO) (c:=qJ.code) (by kernel_rfl) (by kernel_rfl) (Eq.mpr (by kernel_rfl) h)
noncomputable def nC.code:Code:=aI Tryz.f111
theorem nC.run {a0:AV} (h:bnd (af .eql a0 (.lit (.int .u8 9))) fun x1=>ifB x1 (K (Bo true) H) (bnd (af .eql a0 (.lit (.int .u8 10))) fun x2=>ifB x2 (K (Bo true) H) (bnd (af .eql a0 (.lit (.int .u8 12))) fun x3=>ifB x3 (K (Bo true) H) (bnd (af .eql a0 (.lit (.int .u8 13))) fun x4=>ifB x4 (K (Bo true) H) (bnd (af .eql a0 (.lit (.int .u8 32))) fun x5=>K x5 H))))):∃ r H1,az Tryz.prog σ jB [a0] H r H1∧K r H1 :=
 gwp 0 (fn:=Tryz.f111) (f:=jB) (c:=nC.code) (by kernel_rfl) (by kernel_rfl) (Eq.mpr (by kernel_rfl) h)
noncomputable def fZ.code:Code:=aI Tryz.f112
noncomputable def fZ.J0 (σ:Sig) (K:AV→Hp→Prop) (y7 y8:AV) (H:Hp):Prop:=∀ j:Nat→AV,wp (CZ σ) 384 (sR (sR (sR (sR (sR (sR fZ.code)))))) [j 0,j 1,j 2,j 3,j 4,j 5,j 6,y7,y8,j 9,j 10,j 11,j 12,j 13,j 14,j 15,j 16,j 17,j 18,j 19,j 20,j 21,j 22,j 23,j 24,j 25,j 26,j 27,j 28,j 29,j 30,j 31,j 32,j 33,j 34,j 35,j 36,j 37,j 38] H (fQ Tryz.f112 σ K)
theorem fZ.J0_step {y7 y8:AV} (h:bnd (af .rem y7 y8) fun x1=>bnd (af .eql x1 (.lit (.int .u64 0))) fun x2=>K x2 H):fZ.J0 σ K y7 y8 H :=
 fun j=>Eq.mpr (by kernel_rfl) h
theorem fZ.run {a0 a1 a2:AV} (h:bnd (af .eql a2 a0) fun x1=>ifB x1 (K (Bo true) H) (bnd (af .lss a2 a0) fun x2=>bnd (af .gtr a1 (I 0)) fun x3=>bnd (jA .neq x2 x3) fun x4=>ifB x4 (K (Bo false) H) (bnd (dP .u64 a0) fun x5=>bnd (dP .u64 a2) fun x6=>bnd (af .sub x5 x6) fun x7=>bnd (dP .u64 a1) fun x8=>bnd (af .lss a1 (I 0)) fun x9=>ifB x9 (bnd (dP .u64 a2) fun x10=>bnd (dP .u64 a0) fun x11=>bnd (af .sub x10 x11) fun x12=>bnd (dP .u64 a1) fun x13=>bnd (unR .neg x13) fun x14=>fZ.J0 σ K x12 x14 H) (fZ.J0 σ K x7 x8 H)))):∃ r H1,az Tryz.prog σ gY [a0,a1,a2] H r H1∧K r H1 :=
 gwp 384 (fn:=Tryz.f112) (f:=gY) (c:=fZ.code) (by kernel_rfl) (by kernel_rfl) (Eq.mpr (by kernel_rfl) h)
noncomputable def bK.code:Code:=aI Tryz.f113
noncomputable def bK.R0 (j:Nat→AV) (y3 y4:AV):o8:=⟨[j 0,j 1,j 2,y3,y4,j 5,j 6,j 7,j 8,j 9,j 10,j 11],rP (bB (sR (sL (sR bK.code)))),rA (bB (sR (sL (sR bK.code)))),rB (bB (sR (sL (sR bK.code))))⟩
theorem bK.R0_round {j:Nat→AV} {y3 y4 p0:AV} {id:Nat} (hl:H.get id=some (.loop (bK.R0 j y3 y4) .ready none)) (h:H.get id=some (.loop (bK.R0 j y3 y4) .ready none)∧(bnd (some (H.set id (some (.loop (bK.R0 j y3 y4) .busy none)))) fun H1=>bnd (ldA false 1 H1 y3) fun x2=>bnd (af .eql p0 x2) fun x3=>ifB x3 (bnd (stA 1 H1 y4 (Bo true)) fun H4=>wm id (bK.R0 j y3 y4) K .ret H4) (wm id (bK.R0 j y3 y4) K .normal H1))):ko Tryz.prog σ (.yl id) [p0] H K :=
 uO (CZ σ) mixed 24 hl (by kernel_rfl) (by kernel_rfl) (by kernel_rfl) (Eq.mpr (by kernel_rfl) h)
theorem bK.run {a0 a1:AV} (h:eR a1 H fun x1 H2=>bq [Bo false] H2 fun x3 H4=>ai Tryz.prog σ kA [a0] H4 fun x5 H6=>∀ j:Nat→AV,uk Tryz.prog σ x5 (bK.R0 j x1 x3) H6 (fun H7=>bnd (stA 1 H7 x3 (Bo false)) fun H9=>bnd (ldA false 1 H9 x3) fun r10=>K r10 H9) (fun H7=>bnd (ldA false 1 H7 x3) fun r11=>K r11 H7) (fun i8 H7=>False)):∃ r H1,az Tryz.prog σ jw [a0,a1] H r H1∧K r H1 :=
 gwp 24 (fn:=Tryz.f113) (f:=jw) (c:=bK.code) (by kernel_rfl) (by kernel_rfl) (Eq.mpr (by kernel_rfl) h)
noncomputable def hZ.code:Code:=aI Tryz.f114
theorem hZ.run {a0 a1:AV} (h:ai Tryz.prog σ cP [a0,a1] H fun x1 H2=>K x1 H2):∃ r H1,az Tryz.prog σ d5 [a0,a1] H r H1∧K r H1 :=
 gwp 0 (fn:=Tryz.f114) (f:=d5) (c:=hZ.code) (by kernel_rfl) (by kernel_rfl) (Eq.mpr (by kernel_rfl) h)
noncomputable def ib.code:Code:=aI Tryz.f115
theorem ib.run {a0 a1:AV} (h:ai Tryz.prog σ cQ [a0,a1] H fun x1 H2=>K x1 H2):∃ r H1,az Tryz.prog σ fe [a0,a1] H r H1∧K r H1 :=
 gwp 0 (fn:=Tryz.f115) (f:=fe) (c:=ib.code) (by kernel_rfl) (by kernel_rfl) (Eq.mpr (by kernel_rfl) h)
noncomputable def mt.code:Code:=aI Tryz.f117
theorem mt.run {a0:AV} (h:eR a0 H fun x1 H2=>K (.fn ji [x1]) H2):∃ r H1,az Tryz.prog σ kA [a0] H r H1∧K r H1 :=
 gwp 0 (fn:=Tryz.f117) (f:=kA) (c:=mt.code) (by kernel_rfl) (by kernel_rfl) (Eq.mpr (by kernel_rfl) h)
noncomputable def dw.code:Code:=aI Tryz.f118
theorem dw.run {a0 a1:AV} (h:bnd (ct a0) fun x1=>bnd (ct a1) fun x2=>bnd (af .geq x1 x2) fun x3=>ifB x3 (bnd (ct a1) fun x4=>bnd (fx a0 none (some x4)) fun x5=>bnd (af .eql x5 a1) fun x6=>K x6 H) (K (Bo false) H)):∃ r H1,az Tryz.prog σ cP [a0,a1] H r H1∧K r H1 :=
 gwp 0 (fn:=Tryz.f118) (f:=cP) (c:=dw.code) (by kernel_rfl) (by kernel_rfl) (Eq.mpr (by kernel_rfl) h)
noncomputable def dy.code:Code:=aI Tryz.f119
theorem dy.run {a0 a1:AV} (h:bnd (ct a0) fun x1=>bnd (ct a1) fun x2=>bnd (af .geq x1 x2) fun x3=>ifB x3 (bnd (ct a0) fun x4=>bnd (ct a1) fun x5=>bnd (af .sub x4 x5) fun x6=>bnd (fx a0 (some x6) none) fun x7=>bnd (af .eql x7 a1) fun x8=>K x8 H) (K (Bo false) H)):∃ r H1,az Tryz.prog σ cQ [a0,a1] H r H1∧K r H1 :=
 gwp 0 (fn:=Tryz.f119) (f:=cQ) (c:=dy.code) (by kernel_rfl) (by kernel_rfl) (Eq.mpr (by kernel_rfl) h)
noncomputable def aR.code:Code:=aI Tryz.f121
noncomputable def aR.Q0 (σ:Sig) (K:AV→Hp→Prop):Exit→List AV→Hp→Prop:=(nx (fun e T G=>(fQ Tryz.f121 σ K) (aq 0 e) T G) fun T G=>∀ j,a_ (CZ σ) (lB (bB aR.code)) (de 11 j 0 T) G (fun e T G=>(fQ Tryz.f121 σ K) (aq 0 e) T G))
noncomputable def aR.L0 (σ:Sig) (K:AV→Hp→Prop) (y0 y1 y3:AV) (H:Hp):Prop:=∀ j:Nat→AV,a_ (CZ σ) (lB (bB aR.code)) [y0,y1,j 2,y3,j 4,j 5,j 6,j 7,j 8,j 9,j 10,j 11,j 12,j 13,j 14,j 15,j 16,j 17,j 18,j 19,j 20,j 21,j 22,j 23,j 24,j 25,j 26,j 27,j 28,j 29,j 30,j 31,j 32,j 33,j 34,j 35] H (fun e T G=>(fQ Tryz.f121 σ K) (aq 0 e) T G)
noncomputable def aR.L1 (σ:Sig) (K:AV→Hp→Prop) (y0 y1 y3:AV) (H:Hp):Prop:=∀ j:Nat→AV,a_ (CZ σ) (lB (bB (sL (sR (bB (sR (lB (bB aR.code)))))))) [y0,y1,j 2,y3,j 4,j 5,j 6,j 7,j 8,j 9,j 10,j 11,j 12,j 13,j 14,j 15,j 16,j 17,j 18,j 19,j 20,j 21,j 22,j 23,j 24,j 25,j 26,j 27,j 28,j 29,j 30,j 31,j 32,j 33,j 34,j 35] H (fun e T G=>(nx (fun e T G=>(aR.Q0 σ K) (aq 1 e) T G) fun T G=>wp (CZ σ) 11 (sR (sR (bB (sR (lB (bB aR.code)))))) T G (fun e T G=>(aR.Q0 σ K) (aq 1 e) T G)) (aq 2 e) T G)
theorem aR.L0_step {y0 y1 y3:AV} (h:bnd (ldA false 1 H y1) fun x1=>bnd (af .neq x1 (.lit (.string ⟨#[]⟩))) fun x2=>ifB x2 (aR.L1 σ K y0 y1 (I 0) H) (K (.tup []) H)):aR.L0 σ K y0 y1 y3 H :=
 fun j=>lrd (g:=11) (Eq.mpr (by kernel_rfl) h)
theorem aR.L1_step {y0 y1 y3:AV} (h:bnd (ldA false 1 H y1) fun x1=>bnd (ct x1) fun x2=>bnd (af .lss y3 x2) fun x3=>ifB x3 (bnd (ldA false 1 H y1) fun x4=>bnd (ig x4 y3) fun x5=>ai Tryz.prog σ iS [x5] H fun x6 H7=>bnd (unR .not x6) fun x8=>ifB x8 (bnd (af .add y3 (I 1)) fun x9=>aR.L1 σ K y0 y1 x9 H7) (bnd (af .gtr y3 (I 0)) fun x10=>ifB x10 (bnd (ldA false 1 H7 y1) fun x11=>bnd (fx x11 none (some y3)) fun x12=>ko Tryz.prog σ y0 [x12] H7 fun x13 H14=>bnd (unR .not x13) fun x15=>ifB x15 (K (.tup []) H14) (bnd (ldA false 1 H14 y1) fun x16=>bnd (af .add y3 (I 1)) fun x17=>bnd (ldA false 1 H14 y1) fun x18=>bnd (ct x18) fun x19=>bnd (pc [x17,x19]) fun x20=>bnd (fx x16 (some x20) none) fun x21=>bnd (stA 1 H14 y1 x21) fun H22=>aR.L0 σ K y0 y1 y3 H22)) (bnd (ldA false 1 H7 y1) fun x23=>bnd (af .add y3 (I 1)) fun x24=>bnd (ldA false 1 H7 y1) fun x25=>bnd (ct x25) fun x26=>bnd (pc [x24,x26]) fun x27=>bnd (fx x23 (some x27) none) fun x28=>bnd (stA 1 H7 y1 x28) fun H29=>aR.L0 σ K y0 y1 y3 H29))) (bnd (af .gtr y3 (I 0)) fun x30=>ifB x30 (bnd (ldA false 1 H y1) fun x31=>bnd (fx x31 none (some y3)) fun x32=>ko Tryz.prog σ y0 [x32] H fun x33 H34=>bnd (unR .not x33) fun x35=>ifB x35 (K (.tup []) H34) (bnd (ldA false 1 H34 y1) fun x36=>bnd (af .add y3 (I 1)) fun x37=>bnd (ldA false 1 H34 y1) fun x38=>bnd (ct x38) fun x39=>bnd (pc [x37,x39]) fun x40=>bnd (fx x36 (some x40) none) fun x41=>bnd (stA 1 H34 y1 x41) fun H42=>aR.L0 σ K y0 y1 y3 H42)) (bnd (ldA false 1 H y1) fun x43=>bnd (af .add y3 (I 1)) fun x44=>bnd (ldA false 1 H y1) fun x45=>bnd (ct x45) fun x46=>bnd (pc [x44,x46]) fun x47=>bnd (fx x43 (some x47) none) fun x48=>bnd (stA 1 H y1 x48) fun H49=>aR.L0 σ K y0 y1 y3 H49))):aR.L1 σ K y0 y1 y3 H :=
 fun j=>lrd (g:=11) (Eq.mpr (by kernel_rfl) h)
theorem aR.run {a0 a1:AV} (h:aR.L0 σ K a0 a1 (.lit undef) H):∃ r H1,az Tryz.prog σ ji [a0,a1] H r H1∧K r H1 :=
 gwp 11 (fn:=Tryz.f121) (f:=ji) (c:=aR.code) (by kernel_rfl) (by kernel_rfl) (Eq.mpr (by kernel_rfl) h)
noncomputable def mi.code:Code:=aI Tryz.f122
theorem mi.run {a0:AV} (h:bnd (af .eql a0 (.lit (.int .u8 9))) fun x1=>ifB x1 (K (Bo true) H) (bnd (af .eql a0 (.lit (.int .u8 10))) fun x2=>ifB x2 (K (Bo true) H) (bnd (af .eql a0 (.lit (.int .u8 12))) fun x3=>ifB x3 (K (Bo true) H) (bnd (af .eql a0 (.lit (.int .u8 13))) fun x4=>ifB x4 (K (Bo true) H) (bnd (af .eql a0 (.lit (.int .u8 32))) fun x5=>K x5 H))))):∃ r H1,az Tryz.prog σ iS [a0] H r H1∧K r H1 :=
 gwp 0 (fn:=Tryz.f122) (f:=iS) (c:=mi.code) (by kernel_rfl) (by kernel_rfl) (Eq.mpr (by kernel_rfl) h)
end Go.Proofs.YthmaggcfghjmfaaGreat.Ev
namespace Go.Proofs.YthmaggcfghjmfaaGreat.Ev
set_option linter.unusedVariables false
set_option linter.unusedSimpArgs false
variable {σ:Sig}
def iy (c:UInt8):UInt8:=if 65≤c.toNat∧c.toNat≤90 then UInt8.ofNat (c.toNat+32) else c
def kP (s:ByteArray):ByteArray:=⟨(s.data.toList.map iy).toArray⟩
def dN (c:UInt8):AV:=.lit (.int .u8 c.toNat)
theorem wr8 {n:Int} (h0:0≤n) (h1:n≤255):wr .u8 n=n:=by
 unfold wr
 simp [IntKind.wrap,IntKind.signed,IntKind.bits]
 omega
theorem ny:∀ (l:List UInt8),mC (l.map dN)=some l
 | []=>rfl
 | c::l=>by
  have ih:=ny l
  rw [List.map_cons]
  show (mC (l.map dN)).map (UInt8.ofNat ((c.toNat:Int)).toNat::·)=_
  rw [ih]
  simp
theorem rM (l:List UInt8):(l.map dN).all AV.one=true:=by
 rw [List.all_map,List.all_eq_true]
 intro x _; rfl
theorem yv {H:Hp} {id:Nat} {l:List UInt8} {n:Nat} {ex:Bool} (hg:H.get id=some (.cells (l.map dN) ex)) (hn:n=l.length):fT H (.sl id 0 1 n none)=some (Sx ⟨l.toArray⟩):=by
 subst hn
 simp only [fT,iW,hg]
 have e:List.take l.length (l.map dN)=l.map dN:=by
  have:=List.take_length (l:=l.map dN)
  rwa [List.length_map] at this
 simp only [List.drop_zero,Nat.mul_one,kE,e,List.length_map,decide_true,Bool.and_self,cond_true,rM,ny]
 rfl
theorem rR {l:List UInt8} {k:Nat} {c:UInt8} (h:l[k]?=some c) (v:UInt8) (hv:v=iy c):(l.set k v).take (k+1)++((l.set k v).drop (k+1)).map iy=l.take k++(l.drop k).map iy:=by
 subst hv
 obtain ⟨hlt,rfl⟩:=List.getElem?_eq_some_iff.1 h
 rw [List.drop_eq_getElem_cons hlt,List.take_succ_eq_append_getElem (by simpa using hlt),List.drop_set_of_lt (by omega),List.take_set_of_le (by omega)]
 simp
 rw [List.drop_eq_getElem_cons (i:=k) (l:=List.map iy l) (by simpa using hlt)]
 simp
theorem oa {l:List UInt8} {k:Nat} {c:UInt8} (h:l[k]?=some c) (hv:iy c=c):l.take (k+1)++(l.drop (k+1)).map iy=l.take k++(l.drop k).map iy:=by
 have:=rR h c hv.symm
 rwa [show l.set k c=l from by
  obtain ⟨hlt,rfl⟩:=List.getElem?_eq_some_iff.1 h
  simp] at this
theorem CR {K:AV→Hp→Prop} {n id:Nat} (hn:n<9000000000000000000):∀ (d k:Nat) (l:List UInt8) (H:Hp) (ex:Bool),H.get id=some (.cells (l.map dN) ex)→l.length=n→n - k=d→k≤n→(∀ H,K (Sx ⟨(l.take k++(l.drop k).map iy).toArray⟩) H) →
  bP.L0 σ K (.sl id 0 1 n none) (.sl id 0 1 n none) (I n) (I k) H:=by
 intro d
 induction d with
 | zero =>
  intro k l H ex hg hl hd hk hK
  have e:k=n:=by omega
  subst e
  refine bP.L0_step ?_
  simp [yv hg hl.symm]
  simpa [← hl] using hK H
 | succ d ih =>
  intro k l H ex hg hl hd hk hK
  have hlt:k<n:=by omega
  have hlt':k<l.length:=by omega
  have hget:l[k]?=some l[k]:=List.getElem?_eq_getElem hlt'
  have hc:=(l[k]).toNat_lt
  refine bP.L0_step ?_
  simp [hlt,oH,hg,t0 hlt',dN]
  have next:∀ (l':List UInt8) (H':Hp),H'.get id=some (.cells (l'.map dN) ex)→l'.length=n→l'.take (k+1)++(l'.drop (k+1)).map iy=l.take k++(l.drop k).map iy→bP.J1 σ K (.sl id 0 1 n none) (.sl id 0 1 n none) (I n) (I k) H':=by
   intro l' H' hg' hl' he
   refine bP.J1_step ?_
   simp
   rw [bz (Nat.lt_trans hlt hn)]
   exact ih (k+1) l' H' ex hg' hl' (by omega) (by omega) (by rw [he]; exact hK)
  split
  ·split
   ·rename_i h1 h2
    have e1:wr .u8 ((l[k].toNat:Int)+97)=(l[k].toNat:Int)+97:=wr8 (by omega) (by omega)
    have e2:wr .u8 ((l[k].toNat:Int)+97 - 65)=((iy l[k]).toNat:Int):=by
     rw [wr8 (by omega) (by omega)]
     unfold iy
     rw [if_pos ⟨by omega,by omega⟩]
     simp; omega
    rw [e1,e2]
    have e3:(k:Int).toNat=k:=by omega
    rw [if_pos (show k+1≤l.length from hlt'),aa]
    have e4:AV.lit (.int .u8 (iy l[k]).toNat)=dN (iy l[k]):=rfl
    rw [e4,Dc _ hlt']
    exact next (l.set k (iy l[k])) _ (by simp) (by simpa using hl) (rR hget _ rfl)
   ·rename_i h1 h2
    exact next l H hg hl (oa hget (by unfold iy; rw [if_neg (by omega)]))
  ·rename_i h1
   exact next l H hg hl (oa hget (by unfold iy; rw [if_neg (by omega)]))
theorem qN (s:ByteArray) (hs:s.data.size<9000000000000000000) (H:Hp):az Tryz.prog σ ii [Sx s] H (Sx (kP s)) H:=by
 refine bl (fun K hK=>bP.run ?_) rfl rfl H
 simp only [gZ,aa,pg]
 refine CR hs _ 0 s.data.toList _ false (by simp [dN]) (by simp) rfl (Nat.zero_le _) fun H=>?_
 simpa [kP] using hK H
theorem yQ {K:AV→Hp→Prop} {n id:Nat} (hn:n<9000000000000000000):∀ (d k:Nat) (l:List UInt8) (H:Hp) (ex:Bool),H.get id=some (.cells (l.map dN) ex)→l.length=n→n - k=d→k≤n→(∀ H,K (Sx ⟨(l.take k++(l.drop k).map iy).toArray⟩) H) →
  bO.L0 σ K (.sl id 0 1 n none) (I k) H:=by
 intro d
 induction d with
 | zero =>
  intro k l H ex hg hl hd hk hK
  have e:k=n:=by omega
  subst e
  refine bO.L0_step ?_
  simp [yv hg hl.symm]
  simpa [← hl] using hK H
 | succ d ih =>
  intro k l H ex hg hl hd hk hK
  have hlt:k<n:=by omega
  have hlt':k<l.length:=by omega
  have hget:l[k]?=some l[k]:=List.getElem?_eq_getElem hlt'
  have hc:=(l[k]).toNat_lt
  refine bO.L0_step ?_
  simp [hlt,oH,hg,t0 hlt',dN]
  have next:∀ (l':List UInt8) (H':Hp),H'.get id=some (.cells (l'.map dN) ex)→l'.length=n→l'.take (k+1)++(l'.drop (k+1)).map iy=l.take k++(l.drop k).map iy→bO.J1 σ K (.sl id 0 1 n none) (I k) H':=by
   intro l' H' hg' hl' he
   refine bO.J1_step ?_
   simp
   rw [bz (Nat.lt_trans hlt hn)]
   exact ih (k+1) l' H' ex hg' hl' (by omega) (by omega) (by rw [he]; exact hK)
  split
  ·split
   ·rename_i h1 h2
    have e2:wr .u8 ((l[k].toNat:Int)+32)=((iy l[k]).toNat:Int):=by
     rw [wr8 (by omega) (by omega)]
     unfold iy
     rw [if_pos ⟨by omega,by omega⟩]
     simp; omega
    rw [e2]
    rw [if_pos (show k+1≤l.length from hlt'),aa]
    have e4:AV.lit (.int .u8 (iy l[k]).toNat)=dN (iy l[k]):=rfl
    rw [e4,Dc _ hlt']
    exact next (l.set k (iy l[k])) _ (by simp) (by simpa using hl) (rR hget _ rfl)
   ·rename_i h1 h2
    exact next l H hg hl (oa hget (by unfold iy; rw [if_neg (by omega)]))
  ·rename_i h1
   exact next l H hg hl (oa hget (by unfold iy; rw [if_neg (by omega)]))
theorem jE (s:ByteArray) (hs:s.data.size<9000000000000000000) (H:Hp):az Tryz.prog σ ef [Sx s] H (Sx (kP s)) H:=by
 refine bl (fun K hK=>bO.run ?_) rfl rfl H
 simp only [gZ,aa,pg]
 refine yQ hs _ 0 s.data.toList _ false (by simp [dN]) (by simp) rfl (Nat.zero_le _) fun H=>?_
 simpa [kP] using hK H
end Go.Proofs.YthmaggcfghjmfaaGreat.Ev
namespace Go.Proofs.YthmaggcfghjmfaaGreat.Ev
set_option linter.unusedVariables false
set_option linter.unusedSimpArgs false
variable {σ:Sig}
theorem az.imm0 {P:Program} {f sz:Nat} {r:AV} {H H':Hp} (h:∀ (a:Option Addr) (c:Nat),az P σ f [.lit (.slice a 0 c)] H r H'):az P σ f [.imm sz []] H r H':=by
 refine ⟨(h none 0).1,fun B w0 E w vs hσ hst hxs=>?_⟩
 have hl:=hxs.len
 have hv:vs[0]?=some (vs[0]'(by simp at hl; omega)):=Array.getElem?_eq_getElem _
 have hr:=hxs.at_ 0 _ _ rfl hv
 have:∃ a c,vs[0]'(by simp at hl; omega)=.slice a 0 c:=by
  generalize vs[0]'(by simp at hl; omega)=v at hr
  cases hr with
  | immE=>exact ⟨_,_,rfl⟩
  | imm val hn=>subst hn; exact ⟨_,_,rfl⟩
 obtain ⟨a,c,e⟩:=this
 refine (h a c).2 B w0 E w vs hσ hst ⟨by simpa using hl,fun i x v hx hv'=>?_⟩
 match i with
 | 0 =>
  simp at hx; subst hx
  rw [hv] at hv'
  cases hv'
  rw [e]; exact .lit _
 | i+1=>simp at hx
theorem wO (H:Hp):az Tryz.prog σ bI [dG []] H (dG []) H:=by
 refine az.imm0 fun a c=>?_
 cases a with
 | none =>
  have run:∃ r H1,az Tryz.prog σ bI [.lit (.slice none 0 c)] Hp.empty r H1∧r=.lit (.slice none 0 0):=cW.run (by simp)
  obtain ⟨r,H1,hg,rfl⟩:=run
  exact hg.frzR rfl .nil H
 | some a =>
  have run:∃ r H1,az Tryz.prog σ bI [.lit (.slice (some a) 0 c)] Hp.empty r H1∧Fz H1 r (dG []):=by
   refine cW.run ?_
   simp [aw,bi,bc,iW,kE,kJ,nh]
   exact .sl (cs:=[]) (ex:=true) (fun _ _=>.any) (by simp) rfl (by simp) (by simp) (by simp)
  obtain ⟨r,H1,hg,hf⟩:=run
  exact hg.frzR rfl hf H
theorem zh (H:Hp):az Tryz.prog σ bU [.imm 2 []] H (.imm 2 []) H:=by
 refine az.imm0 fun a c=>?_
 cases a with
 | none =>
  have run:∃ r H1,az Tryz.prog σ bU [.lit (.slice none 0 c)] Hp.empty r H1∧r=.lit (.slice none 0 0):=cy.run (by simp)
  obtain ⟨r,H1,hg,rfl⟩:=run
  exact hg.frzR rfl .nil H
 | some a =>
  have run:∃ r H1,az Tryz.prog σ bU [.lit (.slice (some a) 0 c)] Hp.empty r H1∧Fz H1 r (.imm 2 []):=by
   refine cy.run ?_
   simp [aw,bi,bc,iW,kE,kJ,nh]
   exact .sl (cs:=[]) (ex:=true) (fun _ _=>.any) (by simp) rfl (by simp) (by simp) (by simp)
  obtain ⟨r,H1,hg,hf⟩:=run
  exact hg.frzR rfl hf H
theorem x_ {sz bytes:Nat} {z:List Value} {H:Hp} {rows:List (List AV)} (hr:rows≠[]) (h2:∀ row ∈ rows,row.length=sz) (hone:rows.flatten.all AV.one=true) (hb:rows.length*bytes≤140737488355328) (hn:rows.length≤4611686018427387904)
  {K:AV × Hp→Prop} (h:K (.sl (H.n+1) 0 sz rows.length none,(H.new (.cells [] true)).new (.cells rows.flatten false))) :
  bnd (aw z sz 0 H []) fun p=>bnd (bc false sz bytes p.2 p.1 (.imm sz rows)) K:=by
 have h0:rows.length≠0:=by cases rows<;>simp at hr ⊢
 have e:nh z 0=[]:=by simp [nh]
 simp only [aw,bi,Nat.zero_mul,e,List.length_nil,kE,decide_true,cond_true,aa]
 simp only [bc,kJ,cond_true,xG,hone,kE,h0,decide_false,cond_false,rW]
 simp [hb,hn,h0]
 exact h
theorem zq (l:List ByteArray) (hb:l.length*16≤140737488355328) (H:Hp):az Tryz.prog σ bI [dG l] H (dG l) H:=by
 cases l with
 | nil=>exact wO H
 | cons s l =>
  have run:∃ r H1,az Tryz.prog σ bI [dG (s::l)] Hp.empty r H1∧Fz H1 r (dG (s::l)):=by
   refine cW.run ?_
   simp only [dG,List.map_cons,Hw,aa,ah,Bool.false_eq_true,if_false]
   refine x_ (rows:=[Sx s]::l.map fun s=>[Sx s]) (K:=fun q=>Fz q.2 q.1 (.imm 1 ([Sx s]::l.map fun s=>[Sx s]))) (by simp) (fun row hrow=>?_) ?_ (by simpa using hb) (by simp at hb ⊢; omega) ?_
   ·rw [← List.map_cons (f:=fun s=>[Sx s])] at hrow
    obtain ⟨x,_,rfl⟩:=List.mem_map.1 hrow; rfl
   ·rw [← List.map_cons (f:=fun s=>[Sx s]),List.all_eq_true]
    intro x hx
    obtain ⟨row,hrow,hx⟩:=List.mem_flatten.1 hx
    obtain ⟨x,_,rfl⟩:=List.mem_map.1 hrow
    simp at hx; subst hx; rfl
   ·refine Fz.rows (cs:=([Sx s]::l.map fun s=>[Sx s]).flatten) (ex:=false) (by simp) (fun row hrow=>?_) ?_ ?_
    ·rw [← List.map_cons (f:=fun s=>[Sx s])] at hrow
     obtain ⟨x,_,rfl⟩:=List.mem_map.1 hrow; rfl
    ·rw [List.drop_zero]
     refine List.take_of_length_le ?_
     rw [dO (sz:=1)]
     ·simp
     ·intro row hrow
      rw [← List.map_cons (f:=fun s=>[Sx s])] at hrow
      obtain ⟨x,_,rfl⟩:=List.mem_map.1 hrow; rfl
    ·rw [← List.map_cons (f:=fun s=>[Sx s])]; exact bm _ (fun _=>rfl) _
  obtain ⟨r,H1,hg,hf⟩:=run
  exact hg.frzR (by simp [aP]) hf H
def jO (p:ByteArray × ByteArray):ByteArray × ByteArray:=(kP p.1,p.2)
def ca (n:Nd):Nd:={ n with tag:=kP n.tag,attrs:=n.attrs.map jO }
structure mV (n:Nd):Prop where
 parent:i64 n.parent
 tag:n.tag.data.size≤reachBytes
 classes:n.classes.length*16≤reachBytes
 attrs:n.attrs.length*32≤reachBytes
 names:∀ p ∈ n.attrs,p.1.data.size≤reachBytes
theorem eH:reachBytes=140737488351232:=rfl
@[simp] theorem LY (H:Hp) (id off:Nat) (l:List ByteArray):stA 1 H (.ptr id off) (dG l)=stO 1 off [dG l] H id (H.get id):=jG 1 H id off _ rfl rfl
theorem jC {rows:List (ByteArray × ByteArray)}:∀ row ∈ rows.map cS,row.length=2:=by
 intro row hrow
 obtain ⟨x,_,rfl⟩:=List.mem_map.1 hrow; rfl
theorem zp {rows:List (ByteArray × ByteArray)}:(rows.map cS).flatten.all AV.one=true:=by
 rw [List.all_eq_true]
 intro x hx
 obtain ⟨row,hrow,hx⟩:=List.mem_flatten.1 hx
 obtain ⟨x,_,rfl⟩:=List.mem_map.1 hrow
 simp [cS] at hx
 rcases hx with rfl | rfl<;>rfl
theorem zF (n:Nd) (hn:mV n) {H:Hp} {K:AV→Hp→Prop}
  (h0:n.attrs=[]→∀ H',H'.n ≥ H.n→(∀ j,j<H.n→H'.get j=H.get j)→K (.agg (bt n)) H')
  (h1:n.attrs≠[]→∀ H' id,H'.n ≥ H.n→(∀ j,j<H.n→H'.get j=H.get j)→H.n≤id→id<H'.n→H'.get id=some (.cells (n.attrs.map cS).flatten false) →
   K (.agg [I n.parent,Sx n.tag,Sx n.id,dG n.classes,.sl id 0 2 n.attrs.length none]) H') :
  ai Tryz.prog σ ju [.agg (bt n)] H K:=by
 have hc:=hn.classes
 have ha:=hn.attrs
 rw [eH] at hc ha
 have nlt:∀ {j:Nat},j<H.n→j≠H.n∧j≠H.n+1∧j≠H.n+2∧j≠H.n+3:=fun h=>by omega
 refine nc.run ?_
 simp [bt]
 refine am (zq _ (by omega) _) ?_
 simp
 by_cases he:n.attrs=[]
 ·rw [he]
  refine am (zh _) ?_
  have e:bt n=[I n.parent,Sx n.tag,Sx n.id,dG n.classes,.imm 2 []]:=by simp [bt,he]
  rw [e] at h0
  simp [dm]
  exact h0 he _ (by simp; omega) (fun j hj=>by have:=nlt hj; simp [this])
 ·obtain ⟨p,ps,hps⟩:=List.exists_cons_of_ne_nil he
  refine cy.run ?_
  rw [hps,List.map_cons]
  simp only [Hw,aa,ah,Bool.false_eq_true,if_false]
  rw [← List.map_cons,← hps]
  refine x_ (rows:=n.attrs.map cS) (by simpa using he) jC zp (by simpa using Nat.le_trans ha (by omega)) (by simp; omega) ?_
  have q1:¬ (H.n=H.n+1+1+1):=by omega
  have q2:¬ (H.n=H.n+1+1):=by omega
  have q3:¬ (H.n+1=H.n+1+1+1):=by omega
  simp [dm,q1,q2,q3]
  refine h1 he _ _ ?_ (fun j hj=>?_) ?_ ?_ ?_
  ·simp; omega
  ·have:=nlt hj
   have q4:j≠H.n+1+1:=by omega
   have q5:j≠H.n+1+1+1:=by omega
   simp [this,q4,q5]
  ·omega
  ·simp
  ·have q6:¬ (H.n+1+1=H.n):=by omega
   have q7:¬ (H.n+1+1+1=H.n):=by omega
   have q8:¬ (H.n+1+1+1=H.n+1):=by omega
   have q9:¬ (H.n+1+1=H.n+1):=by omega
   simp [q6,q7,q8,q9]
theorem Dn {l l0:List (ByteArray × ByteArray)} {k:Nat} (hk:k<l0.length) (hl:l.length=l0.length) (h1:l.take k=(l0.take k).map jO) (h2:l.drop k=l0.drop k) :
  ∃ hk':k<l.length,l[k]=l0[k]∧(l.set k (jO l0[k])).take (k+1)=(l0.take (k+1)).map jO∧(l.set k (jO l0[k])).drop (k+1)=l0.drop (k+1):=by
 have hk':k<l.length:=by omega
 rw [List.drop_eq_getElem_cons hk',List.drop_eq_getElem_cons hk] at h2
 have h3:=List.cons.inj h2
 refine ⟨hk',h3.1,?_,?_⟩
 ·rw [List.take_succ_eq_append_getElem (by simpa using hk'),List.take_succ_eq_append_getElem hk,List.map_append,← h1,List.take_set_of_le (by omega)]
  simp
 ·rw [List.drop_set_of_lt (by omega)]; exact h3.2
theorem Gc (n:Nd) (hn:mV n) {K:AV→Hp→Prop} {id b1 b2:Nat} {par tg idd cl:AV} (h12:b1≠b2) (hi1:id≠b1) (hi2:id≠b2) (ho:[par,tg,idd,cl].all AV.one=true):∀ (d k:Nat) (l:List (ByteArray × ByteArray)) (H:Hp),H.get b1=some (.cells [par,tg,idd,cl,.sl id 0 2 n.attrs.length none] true)→(∃ cs,H.get b2=some (.cells cs true)∧cs.length=5) →
  H.get id=some (.cells (l.map cS).flatten false)→l.length=n.attrs.length→n.attrs.length - k=d→k≤n.attrs.length→l.take k=(n.attrs.take k).map jO→l.drop k=n.attrs.drop k →
  (∀ H',H'.get id=some (.cells ((n.attrs.map jO).map cS).flatten false)→K (.agg [par,tg,idd,cl,.sl id 0 2 n.attrs.length none]) H') →
  c7.L0 σ K (.ptr b1 0) (.ptr b2 0) (I n.attrs.length) (I k) H:=by
 have ha:=hn.attrs
 rw [eH] at ha
 intro d
 induction d with
 | zero =>
  intro k l H g1 g2 gi hl hd hk h1 h2 hK
  obtain ⟨cs,g2,hcs⟩:=g2
  have e:k=n.attrs.length:=by omega
  subst e
  have el:l=n.attrs.map jO:=by
   rw [← hl,List.take_length,hl,List.take_length] at h1
   exact h1
  refine c7.L0_step ?_
  simp [g1,g2,dm,hcs]
  simp at ho
  simp [ho,a8,hcs,dm]
  refine hK _ ?_
  simp [hi2,gi,el]
 | succ d ih =>
  intro k l H g1 g2 gi hl hd hk h1 h2 hK
  have hlt:k<n.attrs.length:=by omega
  obtain ⟨hlt',hlk,h3,h4⟩:=Dn hlt hl h1 h2
  have hsz:(n.attrs[k]).1.data.size<9000000000000000000:=by
   have:=hn.names _ (List.getElem_mem hlt)
   rw [eH] at this
   omega
  have hdrop:((l.map cS).flatten).drop (k*2)=cS n.attrs[k]++((l.map cS).drop (k+1)).flatten:=by
   rw [kN jC (by simpa using hlt'),List.getElem_map,hlk]
  refine c7.L0_step ?_
  simp [g1,hlt,oH,gi,hdrop,cS]
  refine am (qN _ hsz _) ?_
  have hlen:k*2+1≤((l.map cS).flatten).length:=by
   rw [dO jC,List.length_map]; omega
  simp [g1,gi]
  rw [if_pos (by simpa using hlen),aa,bz (by omega)]
  refine ih (k+1) (l.set k (jO n.attrs[k])) _ (by simp [Ne.symm hi1,g1]) ?_ ?_ (by simpa using hl) (by omega) (by omega) h3 h4 hK
  ·obtain ⟨cs,g2,hcs⟩:=g2
   exact ⟨cs,by simp [Ne.symm hi2,g2],hcs⟩
  ·simp
   have:=jq (sz:=2) (xs:=[Sx (kP n.attrs[k].1)]) (k:=0) (by simp) (rows:=l.map cS) (w:=k) jC (by simpa using hlt')
   rw [Nat.add_zero] at this
   rw [this]
   congr 3
   simp [cS,jO,hlk]
theorem Gi (n:Nd) (hn:mV n) (H:Hp):az Tryz.prog σ gG [.agg (bt n)] H (.agg (bt (ca n))) H:=by
 have ht:n.tag.data.size<9000000000000000000:=by
  have:=hn.tag
  rw [eH] at this; omega
 obtain ⟨Q,hQ⟩:∃ Q:AV→Hp→Prop,∀ r H1,Q r H1 ↔ Fz H1 r (.agg (bt (ca n))):=⟨_,fun _ _=>Iff.rfl⟩
 have run:∃ r H1,az Tryz.prog σ gG [.agg (bt n)] Hp.empty r H1∧Q r H1:=by
  refine c7.run ?_
  simp
  refine zF n hn (fun he H' hn' hs=>?_) (fun he H' id hn' hs hid hid' hg=>?_)
  ·have e0:H'.get Hp.empty.n=some (.cells (bt n) true):=by rw [hs _ (by simp; omega)]; simp
   have e1:H'.get (Hp.empty.n+1)=some (.cells [I 0,Sx ⟨#[]⟩,Sx ⟨#[]⟩,.lit (.slice none 0 0),.lit (.slice none 0 0)] true):=by rw [hs _ (by simp)]; simp
   generalize Hp.empty.n=z at e0 e1 ⊢
   simp [e0,e1,bt,he,a8]
   refine am (qN _ ht _) ?_
   simp [e0,e1,a8]
   refine c7.L0_step ?_
   simp [e0,e1,dm,a8]
   rw [hQ]
   have e2:bt (ca n)=[I n.parent,Sx (kP n.tag),Sx n.id,dG n.classes,.imm 2 []]:=by simp [ca,bt,he]
   rw [e2]
   exact .refl (by simp [aP,bF,eQ])
  ·have e0:H'.get Hp.empty.n=some (.cells (bt n) true):=by rw [hs _ (by simp; omega)]; simp
   have e1:H'.get (Hp.empty.n+1)=some (.cells [I 0,Sx ⟨#[]⟩,Sx ⟨#[]⟩,.lit (.slice none 0 0),.lit (.slice none 0 0)] true):=by rw [hs _ (by simp)]; simp
   have hid:Hp.empty.n+2≤id:=by simpa using hid
   generalize Hp.empty.n=z at e0 e1 hid ⊢
   have d1:id≠z:=by omega
   have d2:id≠z+1:=by omega
   simp [e0,e1,bt,a8]
   refine am (qN _ ht _) ?_
   simp [e0,e1,a8]
   refine Gc n hn (id:=id) (by omega) d1 d2 ?_ _ 0 n.attrs _ (by rw [ay,if_pos rfl]) ⟨_,by simp [e1]; rfl,rfl⟩ (by simp [d1,hg]) rfl rfl (Nat.zero_le _) (by simp) rfl fun H2 h2=>?_
   ·simp
   rw [hQ]
   refine .aggL (.cons (.refl rfl) (.cons (.refl rfl) (.cons (.refl rfl) (.cons (.refl (mS _)) (.cons ?_ .nil)))))
   have:=Fz.rows (cap:=none) h2 (rows:=(n.attrs.map jO).map cS) (off:=0) jC (by rw [List.drop_zero]; exact List.take_of_length_le (by rw [dO jC]; exact Nat.le_refl _)) (bm _ (fun _=>rfl) _)
   simpa [ca] using this
 obtain ⟨r,H1,hg,hf⟩:=run
 rw [hQ] at hf
 exact hg.frzR (by simp [aP,bF,j_]) hf H
end Go.Proofs.YthmaggcfghjmfaaGreat.Ev
namespace Go.Proofs.YthmaggcfghjmfaaGreat.Ev
set_option linter.unusedVariables false
set_option linter.unusedSimpArgs false
variable {σ:Sig}
theorem mW {α β:Type} {f:α→β} {l:List α} {k:Nat} (h:k<l.length):(l.take (k+1)).map f=(l.take k).map f++[f l[k]]:=by
 rw [List.take_succ_eq_append_getElem h,List.map_append]; rfl
theorem G4 (n:Nd) (hn:mV n) {K:AV→Hp→Prop} {b1 b2:Nat} {par tg idd cl:AV} {cr:List (List AV)} (h12:b1≠b2) (ho:[par,tg,idd].all AV.one=true) (ho1:AV.one cl=true):∀ (d k:Nat) (y:AV) (H:Hp),b1<H.n→b2<H.n→H.get b1=some (.cells [par,tg,idd,cl,.imm 2 (n.attrs.map cS)] true)→(∃ cs,H.get b2=some (.cells cs true)∧cs.length=5) →
  Gs 1 H cl cr→Gs 2 H y ((n.attrs.take k).map fun p=>cS (jO p))→¬ own cl b1→¬ own cl b2→¬ own y b1→¬ own y b2→(∀ j,own cl j→¬ own y j)→n.attrs.length - k=d→k≤n.attrs.length →
  (∀ y' H',Gs 1 H' cl cr→Gs 2 H' y' (n.attrs.map fun p=>cS (jO p))→K (.agg [par,tg,idd,cl,y']) H') →
  cZ.L0 σ K (.ptr b1 0) (.ptr b2 0) y (I k) H:=by
 have ha:=hn.attrs
 rw [eH] at ha
 intro d
 induction d with
 | zero =>
  intro k y H l1 l2 g1 g2 gc gy c1 c2 y1 y2 hd' hd hk hK
  obtain ⟨cs,g2,hcs⟩:=g2
  have e:k=n.attrs.length:=by omega
  subst e
  rw [List.take_length] at gy
  refine cZ.L0_step ?_
  simp at ho
  have o5:=gy.one
  simp [g1,gy.st (id:=b1) (off:=4) g1 (by simp),dm,g2,hcs,Ne.symm h12,ho,ho1,o5,a8]
  refine hK _ _ (gc.keep (fun j hj=>?_) (by simp)) (gy.keep (fun j hj=>?_) (by simp))
  ·have:j≠b1:=fun e=>c1 (e ▸ hj)
   have:j≠b2:=fun e=>c2 (e ▸ hj)
   simp [*]
  ·have:j≠b1:=fun e=>y1 (e ▸ hj)
   have:j≠b2:=fun e=>y2 (e ▸ hj)
   simp [*]
 | succ d ih =>
  intro k y H l1 l2 g1 g2 gc gy c1 c2 y1 y2 hd' hd hk hK
  have hlt:k<n.attrs.length:=by omega
  have hget:n.attrs[k]?=some n.attrs[k]:=List.getElem?_eq_getElem hlt
  have hsz:(n.attrs[k]).1.data.size<9000000000000000000:=by
   have:=hn.names _ (List.getElem_mem hlt)
   rw [eH] at this
   omega
  refine cZ.L0_step ?_
  simp [g1,hlt,bS hget,cS]
  refine am (jE _ hsz _) ?_
  simp [g1,bS hget,cS,bi,kE,rW]
  refine fJ gy rfl rfl rfl (by simp; omega) (by simp; omega) fun y' H' gy' f=>?_
  have n1:∀ {j:Nat},j<H.n→¬ own y j→¬ own y' j:=fun hj hy h=>by
   rcases f.mine _ h with h | h
   ·exact hy h
   ·omega
  rw [bz (by omega)]
  refine ih (k+1) y' H' (Nat.lt_of_lt_of_le l1 f.grow) (Nat.lt_of_lt_of_le l2 f.grow) (by rw [f.same _ l1 y1]; exact g1) ?_ (gc.keep (fun j hj=>f.same j (gc.lt hj) (hd' j hj)) f.grow) ?_ c1 c2 (n1 l1 y1) (n1 l2 y2) (fun j hj=>n1 (gc.lt hj) (hd' j hj)) (by omega) (by omega) hK
  ·obtain ⟨cs,g2,hcs⟩:=g2
   exact ⟨cs,by rw [f.same _ l2 y2]; exact g2,hcs⟩
  ·rw [mW hlt]
   exact gy'
theorem Gz (n:Nd) (hn:mV n) (H:Hp):az Tryz.prog σ f_ [.agg (bt n)] H (.agg (bt (ca n))) H:=by
 have ht:n.tag.data.size<9000000000000000000:=by
  have:=hn.tag
  rw [eH] at this; omega
 have hc:=hn.classes
 rw [eH] at hc
 obtain ⟨Q,hQ⟩:∃ Q:AV→Hp→Prop,∀ r H1,Q r H1 ↔ Fz H1 r (.agg (bt (ca n))):=⟨_,fun _ _=>Iff.rfl⟩
 have run:∃ r H1,az Tryz.prog σ f_ [.agg (bt n)] Hp.empty r H1∧Q r H1:=by
  refine cZ.run ?_
  simp [bt]
  refine am (jE _ ht _) ?_
  simp
  refine tu (rows2:=n.classes.map fun s=>[Sx s]) .nil rfl xG (fun row hrow=>?_) ?_ (by simp; omega) (by simp; omega) fun cl H2 gc f=>?_
  ·obtain ⟨x,_,rfl⟩:=List.mem_map.1 hrow; rfl
  ·rw [List.all_eq_true]
   intro x hx
   obtain ⟨row,hrow,hx⟩:=List.mem_flatten.1 hx
   obtain ⟨x,_,rfl⟩:=List.mem_map.1 hrow
   simp at hx; subst hx; rfl
  ·have f0:=f.same Hp.empty.n (by simp; omega) (fun h=>h)
   have f1:=f.same (Hp.empty.n+1) (by simp) (fun h=>h)
   have fm:=f.mine
   have fg:=f.grow
   simp at f0 f1 fg
   have c1:¬ own cl Hp.empty.n:=fun h=>by
    rcases fm _ h with h | h
    ·exact h
    ·have h:=h.1; simp at h; omega
   have c2:¬ own cl (Hp.empty.n+1):=fun h=>by
    rcases fm _ h with h | h
    ·exact h
    ·have h:=h.1; simp at h; omega
   clear fm f
   generalize Hp.empty.n=z at f0 f1 fg c1 c2 ⊢
   simp at gc
   simp [f0,gc.st (id:=z) (off:=3) f0 (by simp)]
   refine G4 n hn (by omega) ?_ gc.one _ 0 _ _ (by simp; omega) (by simp; omega) (by rw [ay,if_pos rfl]) ⟨_,by simp [f1]; rfl,rfl⟩ (gc.keep (fun j hj=>?_) (by simp)) .nil c1 c2 (fun h=>h) (fun h=>h) (fun j _ h=>h) rfl (Nat.zero_le _) fun y' H' g1 g2=>?_
   ·simp
   ·have:j≠z:=fun e=>c1 (e ▸ hj)
    simp [this]
   ·rw [hQ]
    refine .aggL (.cons (.refl rfl) (.cons (.refl rfl) (.cons (.refl rfl) (.cons ?_ (.cons ?_ .nil)))))
    ·exact g1.fz (bm _ (fun _=>rfl) _)
    ·have:=g2.fz (bm _ (fun _=>rfl) _)
     rw [show (ca n).attrs.map cS=n.attrs.map fun p=>cS (jO p) by simp [ca,Function.comp_def]]
     exact this
 obtain ⟨r,H1,hg,hf⟩:=run
 rw [hQ] at hf
 exact hg.frzR (by simp [aP,bF,j_]) hf H
end Go.Proofs.YthmaggcfghjmfaaGreat.Ev
namespace Go.Proofs.YthmaggcfghjmfaaGreat.Ev
set_option linter.unusedVariables false
set_option linter.unusedSimpArgs false
variable {σ:Sig}
theorem po {z:List Value} {sz bytes:Nat} {H:Hp} {x y:AV} {rows:List (List AV)} {C:AV × Hp→Prop} (hC:C (.sl H.n 0 sz 1 (some 1),H.new (.cells y.cells true))) (hx:Gs sz H x rows) (hl:y.cells.length=sz) (ha:y.isAny=false) (hone:y.cells.all AV.one=true)
  (hb:(rows.length+1)*bytes≤140737488355328) (hn:rows.length+1≤4611686018427387904) {K:AV × Hp→Prop} (h:∀ x' H',Gs sz H' x' (rows++[y.cells])→Fr H x H' x'→K (x',H')) :
  bnd (aw z sz 1 H [(0,sz,y)]) fun p=>C p∧bnd (bc false sz bytes p.2 x p.1) K:=by
 have:=fJ (z:=z) hx hl ha hone hb hn h
 rw [nY hl ha,aa] at this ⊢
 exact ⟨hC,this⟩
structure mj (L:List Nd) (d:List Nat) (H:Hp) (t m:Nat) (sl:AV) (ch:List AV):Prop where
 tlt:t<H.n
 tg:H.get t=some (.cells [sl] true)
 len:ch.length=m
 rows:Gs 9 H sl (eB L d ch ca)
 kid:∀ (i:Nat) (c:AV),ch[i]?=some c→Gs 1 H c ((eZ L m i).map fun j:Nat=>[I j])
 nt:¬ own sl t
 nk:∀ (i:Nat) (c:AV),ch[i]?=some c→¬ own c t
 ns:∀ (i:Nat) (c:AV),ch[i]?=some c→∀ j,own c j→¬ own sl j
 nd:∀ (i i':Nat) (c c':AV),i≠i'→ch[i]?=some c→ch[i']?=some c'→∀ j,own c j→¬ own c' j
theorem Hz {L:List Nd} {d:List Nat} {N:Nat} (hB:cH L N d) {m:Nat} (hm:m<N) (hN:N≤4096) {H:Hp} {t x7:Nat} {sl:AV} {ch:List AV} {y6 y7:AV}
  (tlt:t<H.n) (tg:H.get t=some (.cells [sl] true)) (len:ch.length=m) (rows:Gs 9 H sl (eB L d ch ca)) (kid:∀ (i:Nat) (c:AV),ch[i]?=some c→Gs 1 H c ((eZ L (m+1) i).map fun j:Nat=>[I j]))
  (nt:¬ own sl t) (nk:∀ (i:Nat) (c:AV),ch[i]?=some c→¬ own c t) (ns:∀ (i:Nat) (c:AV),ch[i]?=some c→∀ j,own c j→¬ own sl j)
  (nd:∀ (i i':Nat) (c c':AV),i≠i'→ch[i]?=some c→ch[i']?=some c'→∀ j,own c j→¬ own c' j)
  (hx7:H.get x7=some (.cells (iw L d m (.lit (.slice none 0 0)) ca) true)) {K:AV→Hp→Prop} (h:∀ H' sl' ch',mj L d H' t (m+1) sl' ch'→K (I 0) H'):bh.J1 σ K (.ptr t 0) (.ptr x7 0) y6 y7 H:=by
 refine bh.J1_step ?_
 simp [tg,hx7]
 simp only [dm (DG L d m (.lit (.slice none 0 0)) ca),aa]
 have ht':t≠H.n:=by omega
 refine po (y:=.agg (iw L d m (.lit (.slice none 0 0)) ca)) (bytes:=136) (by simp [ht',tg]) rows rfl rfl (by simp [iw,bt]) (by rw [fO]; omega) (by rw [fO]; omega) fun sl' H' g f=>?_
 have e1:H'.get t=some (.cells [sl] true):=by rw [f.same t tlt nt]; exact tg
 have sown:∀ j,own sl' j→own sl j∨(H.n≤j∧j<H'.n):=f.mine
 have nt':¬ own sl' t:=fun h=>by
  rcases sown t h with h | h
  ·exact nt h
  ·omega
 have kl:∀ (i:Nat) (c:AV),ch[i]?=some c→∀ j,own c j→j<H.n:=fun i c hc j hj=>(kid i c hc).lt hj
 simp [g.st (id:=t) (off:=0) e1 (by simp)]
 have cnew:∀ {i:Nat} {c:AV},(ch++[AV.lit (.slice none 0 0)])[i]?=some c→ch[i]?=some c∨(i=m∧c=.lit (.slice none 0 0)):=by
  intro i c hc
  by_cases hi:i<ch.length
  ·rw [List.getElem?_append_left hi] at hc; exact .inl hc
  ·rw [List.getElem?_append_right (by omega)] at hc
   have hl:=(List.getElem?_eq_some_iff.1 hc).1
   simp at hl
   have:i=m:=by omega
   subst this
   simp [len] at hc
   exact .inr ⟨rfl,hc.symm⟩
 refine h _ sl' (ch++[.lit (.slice none 0 0)]) ⟨?_,?_,?_,?_,?_,nt',?_,?_,?_⟩
 ·simp; have:=f.grow; omega
 ·simp
 ·simp [len]
 ·rw [yX,len]
  refine g.keep (fun j hj=>?_) (by simp)
  have:j≠t:=fun e=>nt' (e ▸ hj)
  simp [this]
 ·intro i c hc
  rcases cnew hc with hc | ⟨rfl,rfl⟩
  ·refine (kid i c hc).keep (fun j hj=>?_) (by simp; exact f.grow)
   have:j≠t:=fun e=>nk i c hc (e ▸ hj)
   simp [this]
   exact f.same j (kl i c hc j hj) (ns i c hc j hj)
  ·rw [yb hB (by omega) (Nat.le_refl _)]
   exact .nil
 ·intro i c hc
  rcases cnew hc with hc | ⟨rfl,rfl⟩
  ·exact nk i c hc
  ·exact fun h=>h
 ·intro i c hc j hj h
  rcases cnew hc with hc | ⟨rfl,rfl⟩
  ·rcases sown j h with h | h
   ·exact ns i c hc j hj h
   ·have:=kl i c hc j hj; omega
  ·exact hj
 ·intro i i' c c' hne hc hc' j hj hj'
  rcases cnew hc with hc | ⟨rfl,rfl⟩
  ·rcases cnew hc' with hc' | ⟨rfl,rfl⟩
   ·exact nd i i' c c' hne hc hc' j hj hj'
   ·exact hj'
  ·exact hj
theorem HG {L:List Nd} {d:List Nat} {N:Nat} (hB:cH L N d) {m p:Nat} (hm:m<N) (hN:N≤4096) (hm0:0<m) (hp:par L m=p) (hpm:p<m) {H:Hp} {t x7 id:Nat} {ch:List AV}
  (hT:mj L d H t m (.sl id 0 9 m none) ch) (hx7:H.get x7=some (.cells (iw L d m (.lit (.slice none 0 0)) ca) true)) (hn7:x7<H.n) (h7t:x7≠t) (h7s:x7≠id) (h7c:∀ (i:Nat) (c:AV),ch[i]?=some c→¬ own c x7)
  {K:AV→Hp→Prop} (h:∀ H' sl' ch',mj L d H' t (m+1) sl' ch'→K (I 0) H'):bh.J0 σ K (.ptr t 0) (.ptr x7 0) (I m) (.ptr id (p*9)) H:=by
 have hl:=hT.len
 obtain ⟨c,hc⟩:=cb (l:=ch) (k:=p) (by omega)
 have hg:∃ ex,H.get id=some (.cells (eB L d ch ca).flatten ex)∧id<H.n:=by
  have:=hT.rows
  have hlen:=fO L d ch ca
  generalize eB L d ch ca=rr at this hlen
  cases this with
  | sl hlt hg hsz=>exact ⟨_,hg,hlt⟩
 obtain ⟨ex,hg,hidn⟩:=hg
 obtain ⟨r5,h5⟩:=lY (L:=L) (d:=d) (low:=ca) hc 5 (by omega)
 have hgc:=hT.kid p c hc
 have hlast:eZ L (m+1) p=eZ L m p++[m]:=by rw [hJ,if_pos ⟨hm0,hp⟩]
 have hkl:(eZ L m p).length≤m:=by
  have:=List.length_filter_le (fun j:Nat=>decide (0<j)&&decide (par L j=(p:Int))) (List.range m)
  simp at this
  unfold eZ
  omega
 refine bh.J0_step ?_
 simp [hg,h5,iw,bt]
 refine fJ hgc rfl rfl rfl (by simp; omega) (by simp; omega) fun c' H' g f=>?_
 have cid:¬ own c id:=fun h=>(hT.ns p c hc id h) rfl
 have e1:H'.get id=some (.cells (eB L d ch ca).flatten ex):=by rw [f.same id hidn cid]; exact hg
 have hlen:p*9+5<(eB L d ch ca).flatten.length:=by
  rw [dO om,fO]; omega
 simp [g.st (id:=id) (off:=p*9+5) e1 hlen]
 have hput:=zK (L:=L) (d:=d) (low:=ca) (c':=c') hc
 rw [oT hlen] at hput
 rw [hput]
 have kl:∀ (i:Nat) (c:AV),ch[i]?=some c→∀ j,own c j→j<H.n:=fun i c hc j hj=>(hT.kid i c hc).lt hj
 have cown:∀ j,own c' j→own c j∨(H.n≤j∧j<H'.n):=f.mine
 have cset:∀ {i:Nat} {x:AV},(ch.set p c')[i]?=some x→(i≠p∧ch[i]?=some x)∨(i=p∧x=c'):=by
  intro i x hx
  rw [List.getElem?_set] at hx
  split at hx
  ·rename_i he
   split at hx
   ·cases hx; exact .inr ⟨he.symm,rfl⟩
   ·cases hx
  ·rename_i he; exact .inl ⟨fun e=>he e.symm,hx⟩
 have cid':¬ own c' id:=fun h=>by
  rcases cown id h with h | h
  ·exact cid h
  ·omega
 have ct':¬ own c' t:=fun h=>by
  rcases cown t h with h | h
  ·exact hT.nk p c hc h
  ·have:=hT.tlt; omega
 have idt:id≠t:=fun e=>hT.nt e
 refine Hz hB hm hN (sl:=.sl id 0 9 m none) (ch:=ch.set p c') ?_ ?_ (by simpa using hl) ?_ ?_ hT.nt ?_ ?_ ?_ ?_ h
 ·simp; have:=f.grow; have:=hT.tlt; omega
 ·simp [Ne.symm idt]
  rw [f.same t hT.tlt (hT.nk p c hc)]; exact hT.tg
 ·have:m=(eB L d (ch.set p c') ca).length:=by rw [fO]; simpa using hl.symm
  conv=>arg 3; rw [this]
  exact .sl (ex:=ex) (by simp; have:=f.grow; omega) (by simp) om
 ·intro i x hx
  rcases cset hx with ⟨hne,hx⟩ | ⟨rfl,rfl⟩
  ·rw [hJ,if_neg (fun h=>hne (by have:=h.2; rw [hp] at this; omega)),List.append_nil]
   refine (hT.kid i x hx).keep (fun j hj=>?_) (by simp; exact f.grow)
   have:j≠id:=fun e=>hT.ns i x hx j hj e.symm
   simp [this]
   exact f.same j (kl i x hx j hj) (hT.nd i p x c hne hx hc j hj)
  ·rw [hlast,List.map_append]
   refine Gs.keep (H:=H') g (fun j hj=>?_) (by simp)
   have:j≠id:=fun e=>cid' (e ▸ hj)
   simp [this]
 ·intro i x hx
  rcases cset hx with ⟨hne,hx⟩ | ⟨rfl,rfl⟩
  ·exact hT.nk i x hx
  ·exact ct'
 ·intro i x hx j hj h
  rcases cset hx with ⟨hne,hx⟩ | ⟨rfl,rfl⟩
  ·exact hT.ns i x hx j hj h
  ·exact cid' (by have h:id=j:=h; rw [h]; exact hj)
 ·intro i i' x x' hne hx hx' j hj hj'
  rcases cset hx with ⟨h1,hx⟩ | ⟨rfl,rfl⟩
  ·rcases cset hx' with ⟨h2,hx'⟩ | ⟨rfl,rfl⟩
   ·exact hT.nd i i' x x' hne hx hx' j hj hj'
   ·rename_i h3
    rcases cown j hj' with h | h
    ·exact hT.nd i i' x c hne h3 hc j hj h
    ·have:=kl i x h3 j hj; omega
  ·rcases cset hx' with ⟨h2,hx'⟩ | ⟨h3,rfl⟩
   ·rcases cown j hj with h | h
    ·exact hT.nd i i' c x' hne hc hx' j h hj'
    ·have:=kl i' x' hx' j hj'; omega
   ·exact hne h3.symm
 ·simp [h7s]
  rw [f.same x7 hn7 (h7c p c hc)]; exact hx7
theorem mj.new {L:List Nd} {d:List Nat} {H:Hp} {t m:Nat} {sl:AV} {ch:List AV} (h:mj L d H t m sl ch) {H':Hp} (hs:∀ j,j<H.n→H'.get j=H.get j) (hn:H.n≤H'.n):mj L d H' t m sl ch :=
 ⟨Nat.lt_of_lt_of_le h.tlt hn,by rw [hs t h.tlt]; exact h.tg,h.len,h.rows.keep (fun j hj=>hs j (h.rows.lt hj)) hn,fun i c hc=>(h.kid i c hc).keep (fun j hj=>hs j ((h.kid i c hc).lt hj)) hn,h.nt,h.nk,h.ns,h.nd⟩
theorem yF {L:List Nd} {m p:Nat} (hp:par L m=p) {j:Nat} {l:List Nat} (e:eZ L m p=l++[j]):eD L m=j∧dn L m=(l.length:Int)+1+1:=by
 rw [o_ hp] at e
 unfold eD dn ou
 rw [e]
 simp
theorem JV {L : List Nd} {d : List Nat} {N : Nat} (hB : cH L N d) (hW : ∀ n ∈ L, mV n) {m : Nat} (hm : m < N) (hN : N ≤ 4096) {H : Hp} {t : Nat} {sl : AV} {ch : List AV} (hT : mj L d H t m sl ch)
    {K:AV→Hp→Prop} (h:∀ H' sl' ch',mj L d H' t (m+1) sl' ch'→K (I 0) H'):ai Tryz.prog σ il [.ptr t 0,.agg (bt (cB L m))] H K:=by
  have hmL:m<L.length:=Nat.lt_of_lt_of_le hm hB.le
  have hnd:cB L m ∈ L:=by
    unfold cB
    rw [List.getD_eq_getElem?_getD,List.getElem?_eq_getElem hmL]
    exact List.getElem_mem hmL
  have hlow:=Gi (σ:=σ) _ (hW _ hnd)
  have htn:=hT.tlt
  have t1:t≠H.n:=by omega
  have t2:t≠H.n+1:=by omega
  have hlen:=hT.rows.len
  rw [fO,hT.len] at hlen
  refine bh.run ?_
  simp
  refine am (hlow _) ?_
  have eb:∀ c:AV,bi [I 0,Sx ⟨#[]⟩,Sx ⟨#[]⟩,.lit (.slice none 0 0),.lit (.slice none 0 0),.lit (.slice none 0 0),I 0,I 0,I 0] [(0,5,.agg (bt (ca (cB L m)))),(7,1,I 1),(8,1,I (-1))]=some (bt (ca (cB L m))++[.lit (.slice none 0 0),I 0,I 1,I (-1)]):=by
    intro c
    simp [bi,kE,rW,bt,ce]
  rw [eb .any]
  have hnew:∀ (a b:Blk),mj L d ((H.new a).new b) t m sl ch:=fun a b=>hT.new (fun j hj=>by
    have:j≠H.n:=by omega
    have:j≠H.n+1:=by omega
    simp [*]) (by simp; omega)
  by_cases h0:m=0
  · subst h0
    have hr:=hB.root (by omega)
    have hpar:(cB L 0).parent=-1:=hr.1
    simp [t1,t2,hT.tg,hlen,bt,hpar,a8]
    have hT2 := hT.new (H' := ((H.new (.cells [I (-1), Sx (cB L 0).tag, Sx (cB L 0).id, dG (cB L 0).classes, .imm 2 (List.map cS (cB L 0).attrs)] true)).new
          (.cells [I 0,Sx ⟨#[]⟩,Sx ⟨#[]⟩,.lit (.slice none 0 0),.lit (.slice none 0 0),.lit (.slice none 0 0),I 0,I 0,I 0] true)).set (H.n+1)
      (some (.cells (bt (ca (cB L 0))++[.lit (.slice none 0 0),I 0,I 1,I (-1)]) true))) (fun j hj=>by
        have a1:j≠H.n:=by omega
        have a2:j≠H.n+1:=by omega
        simp [a1,a2]) (by simp; omega)
    have hd0:d.getD 0 0=0:=by rw [List.getD_eq_getElem?_getD,hr.2]; rfl
    refine Hz hB hm hN hT2.tlt hT2.tg hT2.len hT2.rows (fun i c hc=>?_) hT2.nt hT2.nk hT2.ns hT2.nd ?_ h
    · rw [hJ,if_neg (by omega),List.append_nil]; exact hT2.kid i c hc
    · unfold iw
      rw [hd0]
      simp [dn,oO,eD,ou]
  · obtain ⟨p,x,hp,hpm,hx,hdx,h256⟩:=hB.step m (by omega) hm
    have hpar:(cB L m).parent=p:=hp
    have hm0:¬ ((m:Int)=0):=by omega
    have hm1:(0:Int)<m:=by omega
    have hp1:¬ ((p:Int)<0):=by omega
    have hp2:¬ ((m:Int)≤p):=by omega
    have hmn:¬ (m=0):=h0
    have hmp:0<m:=by omega
    obtain ⟨id,ex,rfl,hg,hidn⟩:∃ id ex,sl=.sl id 0 9 m none∧H.get id=some (.cells (eB L d ch ca).flatten ex)∧id<H.n:=by
      have:=hT.rows
      have hl:=fO L d ch ca
      rw [hT.len] at hl
      generalize eB L d ch ca=rr at this hl
      cases this with
      | nil=>simp at hl; omega
      | sl hlt hg hsz=>exact ⟨_,_,by rw [hl],hg,hlt⟩
    obtain ⟨c,hc⟩:=cb (l:=ch) (k:=p) (by rw [hT.len]; exact hpm)
    obtain ⟨r5,h5⟩:=lY (L:=L) (d:=d) (low:=ca) hc 5 (by omega)
    obtain ⟨r6,h6⟩:=lY (L:=L) (d:=d) (low:=ca) hc 6 (by omega)
    have hdp:d.getD p 0=x:=by rw [List.getD_eq_getElem?_getD,hx]; rfl
    have hdm:d.getD m 0=x+1:=by rw [List.getD_eq_getElem?_getD,hdx]; rfl
    simp only [iw,hdp] at h5 h6
    have i1:id≠H.n:=by omega
    have i2:id≠H.n+1:=by omega
    have hpi:(p:Int)<m:=by omega
    have e256:¬ ((256:Int)<(x:Int)+1):=by omega
    simp [t1,t2,hT.tg,hlen,bt,hpar,a8,hm0,hm1,hp1,hp2,hmn,hmp,oH,hpi,i1,i2,hg,h5,h6]
    have ew:wr .i64 ((x:Int)+1)=((x+1:Nat):Int):=by rw [eh (by omega) (by omega)]; rfl
    have e256':¬ ((256:Int)<((x+1:Nat):Int)):=by omega
    rw [ew,if_neg e256']
    have hG : ∃ G : Hp, G = ((((H.new (.cells [I p, Sx (cB L m).tag, Sx (cB L m).id, dG (cB L m).classes, .imm 2 (List.map cS (cB L m).attrs)] true)).new
        (.cells [I 0,Sx ⟨#[]⟩,Sx ⟨#[]⟩,.lit (.slice none 0 0),.lit (.slice none 0 0),.lit (.slice none 0 0),I 0,I 0,I 0] true)).set (H.n+1)
        (some (.cells [I (ca (cB L m)).parent,Sx (ca (cB L m)).tag,Sx (ca (cB L m)).id,dG (ca (cB L m)).classes,.imm 2 (List.map cS (ca (cB L m)).attrs),.lit (.slice none 0 0),I 0,I 1,I (-1)] true))).set (H.n+1)
        (some (.cells [I (ca (cB L m)).parent,Sx (ca (cB L m)).tag,Sx (ca (cB L m)).id,dG (ca (cB L m)).classes,.imm 2 (List.map cS (ca (cB L m)).attrs),.lit (.slice none 0 0),I ((x+1:Nat):Int),I 1,I (-1)] true))):=⟨_,rfl⟩
    obtain ⟨G,eG⟩:=hG
    rw [← eG]
    have G1:∀ j,j<H.n→G.get j=H.get j:=fun j hj=>by
      have a1:j≠H.n:=by omega
      have a2:j≠H.n+1:=by omega
      rw [eG]; simp [a1,a2]
    have G2:G.get (H.n+1)=some (.cells [I (ca (cB L m)).parent,Sx (ca (cB L m)).tag,Sx (ca (cB L m)).id,dG (ca (cB L m)).classes,.imm 2 (List.map cS (ca (cB L m)).attrs),.lit (.slice none 0 0),I ((x+1:Nat):Int),I 1,I (-1)] true):=by rw [eG]; simp
    have G3:G.n=H.n+2:=by rw [eG]; rfl
    clear eG
    have hTG:=hT.new (H':=G) G1 (by omega)
    have hgG:G.get id=some (.cells (eB L d ch ca).flatten ex):=by rw [G1 id hidn]; exact hg
    have hgc:=hTG.kid p c hc
    have hkl:=hgc.len
    rw [List.length_map] at hkl
    have own7:∀ (i:Nat) (c:AV),ch[i]?=some c→¬ own c (H.n+1):=fun i c hc hj=>by
      have:=(hT.kid i c hc).lt hj; omega
    have hpl:(eZ L m p).length≤m:=by
      have:=List.length_filter_le (fun j:Nat=>decide (0<j)&&decide (par L j=(p:Int))) (List.range m)
      simp at this
      unfold eZ
      omega
    rcases List.eq_nil_or_concat (eZ L m p) with hk | ⟨l,j,hk⟩
    · rw [hk] at hkl
      simp [hkl]
      have hs:oO L m=[]:=by rw [← o_ hp]; exact hk
      refine HG hB hm hN hmp hp hpm hTG ?_ (by omega) (by omega) (by omega) own7 h
      rw [G2]
      unfold iw
      rw [hdm]
      simp [dn,eD,ou,hs,bt]
    · rw [List.concat_eq_append] at hk
      rw [hk,List.length_append,List.length_singleton] at hkl
      have hll:l.length+1≤m:=by rw [hk] at hpl; simpa using hpl
      obtain ⟨cid,cex,rfl,hcg⟩:∃ cid cex,c=.sl cid 0 1 (l.length+1) none∧G.get cid=some (.cells (((l++[j]).map fun j:Nat=>[I j]).flatten) cex):=by
        rw [hk] at hgc
        generalize hr:((l++[j]).map fun j:Nat=>[I (j:Int)])=rr at hgc
        have hrl:rr.length=l.length+1:=by rw [← hr]; simp
        cases hgc with
        | nil=>simp at hrl
        | sl hlt hg hsz=>exact ⟨_,_,by rw [hrl],hg⟩
      have hd:((l.map fun j:Nat=>[I (j:Int)]).flatten++[I (j:Int)]).drop l.length=[I (j:Int)]:=by
        have:(l.map fun j:Nat=>[I (j:Int)]).flatten.length=l.length:=by
          rw [dO (sz:=1) (fun row hrow=>by obtain ⟨x,_,rfl⟩:=List.mem_map.1 hrow; rfl)]; simp
        rw [List.drop_append_of_le_length (by omega),List.drop_of_length_le (by omega)]
        rfl
      have e1:wr .i64 (((l.length+1:Nat):Int)+1)=(l.length:Int)+1+1:=by rw [eh (by omega) (by omega)]; omega
      have e2:wr .i64 (((l.length+1:Nat):Int) - 1)=(l.length:Int):=by rw [eh (by omega) (by omega)]; omega
      have e3:(0:Int)<((l.length+1:Nat):Int):=by omega
      have e4:(l.length:Int)<((l.length+1:Nat):Int):=by omega
      simp only [hkl,aa,eF,ah,e3,decide_true,if_true,bN,ik,e1,e2]
      rw [oH (by omega) e4]
      have cid7:cid≠H.n+1:=fun e=>own7 p _ hc e
      have id7:id≠H.n+1:=i2
      have hs:=yF hp hk
      simp [hcg,hd,G2,cid7,hgG,h5,bt,id7]
      refine HG hB hm hN hmp hp hpm (hT.new (fun j hj=>?_) ?_) ?_ ?_ (by omega) (by omega) own7 h
      · have a2:j≠H.n+1:=by omega
        simp [a2,G1 j hj]
      · simp; omega
      · simp [iw,bt]
        rw [← List.getD_eq_getElem?_getD,hdm,hs.1,hs.2]
        simp
      · simp; omega
theorem zx {L:List Nd} {d:List Nat} (hB:cH L L.length d) (hW:∀ n ∈ L,mV n) (hN:L.length≤4096) {t:Nat} {K:AV→Hp→Prop} (h:∀ H sl ch,mj L d H t L.length sl ch→K (.tup [.ptr t 0,I 0]) H) :
  ∀ (k m:Nat) (H:Hp) (sl:AV) (ch:List AV),L.length - m=k→m≤L.length→mj L d H t m sl ch→gm.L0 σ K (.ptr t 0) (nds L) (I L.length) (I m) H:=by
 intro k
 induction k with
 | zero =>
  intro m H sl ch hk hm hT
  have:m=L.length:=by omega
  subst this
  refine gm.L0_step ?_
  simp
  exact h H sl ch hT
 | succ k ih =>
  intro m H sl ch hk hm hT
  have hlt:m<L.length:=by omega
  have hget:L[m]?=some (cB L m):=by
   unfold cB
   rw [List.getD_eq_getElem?_getD,List.getElem?_eq_getElem hlt]; rfl
  refine gm.L0_step ?_
  simp [nds,hlt,bS hget,a8]
  refine JV hB hW hlt hN (hT.new (fun j hj=>?_) ?_) fun H' sl' ch' hT'=>?_
  ·have a1:j≠H.n:=by omega
   simp [a1]
  ·simp
  ·simp
   rw [bz (by omega)]
   exact ih (m+1) H' sl' ch' (by omega) (by omega) hT'
def elC (L:List Nd) (i:Nat):AV:=.imm 1 ((eZ L L.length i).map fun j:Nat=>[I j])
def elE (L:List Nd) (d:List Nat) (i:Nat):List AV:=iw L d i (elC L i) ca
def eI (L:List Nd) (d:List Nat):AV:=.ip [.imm 9 ((List.range L.length).map (elE L d))]
theorem CN (L:List Nd) (i:Nat):bF (elC L i)=true:=by unfold elC; simp only [bF]; exact bm _ (fun _=>rfl) _
theorem pB:∀ {a b:List AV},aP a=true→aP b=true→aP (a++b)=true
 | [],b,_,h=>h
 | x::a,b,ha,hb=>by
  simp only [aP,Bool.and_eq_true] at ha
  simp only [List.cons_append,aP,ha.1,pB ha.2 hb,Bool.and_self]
theorem vv (L:List Nd) (d:List Nat) (i:Nat):aP (elE L d i)=true:=by
 unfold elE iw
 exact pB (j_ _) (by simp only [aP,CN,bF,Bool.and_self])
theorem c6 (L:List Nd) (d:List Nat):bF (eI L d)=true:=by
 unfold eI
 simp only [bF,aP,bm _ (vv L d),Bool.and_self]
theorem Gw {L:List Nd} {d:List Nat} {H:Hp} {ch:List AV} (hl:ch.length=L.length) (hk:∀ (i:Nat) (c:AV),ch[i]?=some c→Gs 1 H c ((eZ L L.length i).map fun j:Nat=>[I j])) {sl:AV} (hg:Gs 9 H sl (eB L d ch ca)) :
  Fz H sl (.imm 9 ((List.range L.length).map (elE L d))):=by
 generalize hr:eB L d ch ca=rr at hg
 have hrl:rr.length=L.length:=by rw [← hr,fO,hl]
 cases hg with
 | nil =>
  have:L.length=0:=by simpa using hrl.symm
  rw [this]; exact .nil
 | sl hlt hg hsz =>
  have rowAt:∀ (i:Nat) (row:List AV),((List.range L.length).map (elE L d))[i]?=some row→∃ c,ch[i]?=some c∧row=elE L d i:=by
   intro i row h
   rw [List.getElem?_map,Option.map_eq_some_iff] at h
   obtain ⟨x,hx,rfl⟩:=h
   have hi:=(List.getElem?_eq_some_iff.1 hx).1
   simp at hi
   rw [List.getElem?_range hi] at hx
   cases hx
   obtain ⟨c,hc⟩:=cb (l:=ch) (k:=i) (by omega)
   exact ⟨c,hc,rfl⟩
  refine .sl (fun i j=>(iw L d i (ch.getD i .any) ca).getD j .any) hg (by simp [hrl]) (fun i row h=>?_) (fun i row j y h hj=>?_) (fun i row j y h hj=>?_)
  ·obtain ⟨c,_,rfl⟩:=rowAt i row h; rfl
  ·obtain ⟨c,hc,rfl⟩:=rowAt i row h
   have hj9:j<9:=by have:=(List.getElem?_eq_some_iff.1 hj).1; simpa [elE] using this
   have e:=pi (L:=L) (d:=d) (low:=ca) hc
   rw [hr] at e
   have hcd:ch.getD i .any=c:=by rw [List.getD_eq_getElem?_getD,hc]; rfl
   rw [Nat.zero_add]
   have hz:(iw L d i c ca)[j]?=some ((iw L d i c ca).getD j .any):=by
    rw [List.getD_eq_getElem?_getD,List.getElem?_eq_getElem (by simpa using hj9)]; rfl
   rw [hcd,pG hsz i _ j _ e hz]
  ·obtain ⟨c,hc,rfl⟩:=rowAt i row h
   have hcd:ch.getD i .any=c:=by rw [List.getD_eq_getElem?_getD,hc]; rfl
   rw [hcd]
   have hcs:=hk i c hc
   have h5:=hcs.fz (bm _ (fun _=>rfl) _)
   have hL:FzL H (iw L d i c ca) (elE L d i):=by
    unfold elE iw bt
    exact .cons (.refl rfl) (.cons (.refl rfl) (.cons (.refl rfl) (.cons (.refl (mS _)) (.cons (.refl (by simp only [bF]; exact bm _ (fun _=>rfl) _)) (.cons h5 (.cons (.refl rfl) (.cons (.refl rfl) (.cons (.refl rfl) .nil))))))))
   obtain ⟨x,hx,hf⟩:=hL.get.2 j y hj
   rw [List.getD_eq_getElem?_getD,hx]
   exact hf
theorem sn {L:List Nd} {d:List Nat} (hB:cH L L.length d) (hW:∀ n ∈ L,mV n) (hN:L.length≤4096) (H:Hp):az Tryz.prog σ jD [nds L] H (.tup [eI L d,I 0]) H:=by
 obtain ⟨Q,hQ⟩:∃ Q:AV→Hp→Prop,∀ r H1,Q r H1 ↔ Fz H1 r (.tup [eI L d,I 0]):=⟨_,fun _ _=>Iff.rfl⟩
 have run:∃ r H1,az Tryz.prog σ jD [nds L] Hp.empty r H1∧Q r H1:=by
  refine gm.run ?_
  have h1:¬ ((4096:Int)<(L.length:Int)):=by omega
  simp [h1,bi]
  refine zx hB hW hN (fun H sl ch hT=>?_) _ 0 _ (.lit (.slice none 0 0)) [] rfl (Nat.zero_le _) ⟨by simp,by simp,rfl,.nil,fun i c h=>by simp at h,fun h=>h,fun i c h=>by simp at h,fun i c h=>by simp at h,fun i i' c c' _ h=>by simp at h⟩
  rw [hQ]
  have hr:=Gw hT.len hT.kid hT.rows
  refine .tup rfl fun j x y hx hy=>?_
  match j with
  | 0 =>
   simp at hx hy
   subst hx; subst hy
   refine .ptr (fun _=>sl) hT.tg (fun j y hj=>?_) (fun j y hj=>?_)
   ·have:j=0:=by have:=(List.getElem?_eq_some_iff.1 hj).1; simp at this; omega
    subst this; simp
   ·have:j=0:=by have:=(List.getElem?_eq_some_iff.1 hj).1; simp at this; omega
    subst this
    simp at hj
    rw [← hj]; exact hr
  | 1=>simp at hx hy; subst hx; subst hy; exact .refl rfl
  | j+2=>simp at hx
 obtain ⟨r,H1,hg,hf⟩:=run
 rw [hQ] at hf
 exact hg.frzR (by simp [aP]) hf H
end Go.Proofs.YthmaggcfghjmfaaGreat.Ev
namespace Go.Proofs.YthmaggcfghjmfaaGreat.Ev
set_option linter.unusedVariables false
set_option linter.unusedSimpArgs false
variable {σ:Sig}
def rg (x:Nat):List AV:=[I (x:Int)]
structure Ld (L:List Nd) (H:Hp) (t m:Nat) (d:List Nat) (n e:AV):Prop where
 tlt:t<H.n
 tg:H.get t=some (.cells [n,e] true)
 rn:Gs 5 H n ((L.take m).map fun x=>bt (ca x))
 re:Gs 1 H e (d.map rg)
 nt:¬ own n t
 et:¬ own e t
 ne:∀ j,own n j→¬ own e j
theorem cH.uniq {L:List Nd} {m N:Nat} {d d':List Nat} (h:cH L m d) (h':cH L N d') (hm:m≤N):∀ (n i:Nat),i<n→i<m→d[i]?=d'[i]?:=by
 intro n
 induction n with
 | zero=>intro i hi; omega
 | succ n ih =>
  intro i hi him
  by_cases h0:i=0
  ·subst h0
   rw [(h.root (by omega)).2,(h'.root (by omega)).2]
  ·obtain ⟨p,x,e1,e2,e3,e4,_⟩:=h.step i (by omega) him
   obtain ⟨p',x',f1,f2,f3,f4,_⟩:=h'.step i (by omega) (by omega)
   have:p=p':=by omega
   subst this
   have:=ih p (by omega) (by omega)
   rw [e3,f3] at this
   cases this
   rw [e4,f4]
theorem zz {L:List Nd} (hW:∀ n ∈ L,mV n) (hN:L.length≤4096) {t:Nat} {K:AV→Hp→Prop} (hErr:(∀ d,¬ cH L L.length d)→∀ e:Int,e≠0→∀ H,K (.tup [.lit (.pointer none),I e]) H)
  (h:∀ H d n e,cH L L.length d→Ld L H t L.length d n e→K (.tup [.ptr t 0,I 0]) H) :
  ∀ (k m:Nat) (H:Hp) (d:List Nat) (n e y7:AV),L.length - m=k→m≤L.length→cH L m d→Ld L H t m d n e→bL.L0 σ K (nds L) (.ptr t 0) (I m) y7 H:=by
 intro k
 induction k with
 | zero =>
  intro m H d n e y7 hk hm hB hR
  have:m=L.length:=by omega
  subst this
  refine bL.L0_step ?_
  simp
  exact h H d n e hB hR
 | succ k ih =>
  intro m H d n e y7 hk hm hB hR
  have hlt:m<L.length:=by omega
  have hLm:L[m]=cB L m:=by
   unfold cB
   rw [List.getD_eq_getElem?_getD,List.getElem?_eq_getElem hlt]; rfl
  have hget:L[m]?=some (cB L m):=by rw [List.getElem?_eq_getElem hlt,hLm]
  have hmem:cB L m ∈ L:=List.mem_of_getElem? hget
  have hdl:=hB.len
  have next:∀ x:Nat,(x≤256→cH L (m+1) (d++[x]))→(256<x→∀ d,¬ cH L L.length d)→bL.J1 σ K (nds L) (.ptr t 0) (I m) (I (x:Int)) H:=by
   intro x hx hx'
   refine bL.J1_step ?_
   simp
   split
   ·rename_i hx256
    exact hErr (hx' (by omega)) 11 (by decide) H
   ·rename_i hx256
    have hB':=hx (by omega)
    simp [hR.tg,nds,bS hget]
    refine am (Gz _ (hW _ hmem) _) ?_
    simp [hR.tg]
    have t1:t≠H.n:=by have:=hR.tlt; omega
    refine po (y:=.agg (bt (ca (cB L m)))) (by simp [t1,hR.tg]) hR.rn rfl rfl (by simp) (by simp; omega) (by simp; omega) fun n' H' g f=>?_
    have ht':H'.get t=some (.cells [n,e] true):=by rw [f.same t hR.tlt hR.nt]; exact hR.tg
    have nt':¬ own n' t:=fun h=>by
     rcases f.mine t h with h | h
     ·exact hR.nt h
     ·have:=hR.tlt; omega
    have hre:Gs 1 H' e (d.map rg):=hR.re.keep (fun j hj=>f.same j (hR.re.lt hj) (fun h=>hR.ne j h hj)) f.grow
    have hne:∀ j,own n' j→¬ own e j:=fun j h h'=>by
     rcases f.mine j h with h | h
     ·exact hR.ne j h h'
     ·have:=hR.re.lt h'; omega
    simp [g.st (id:=t) (off:=0) ht' (by simp)]
    have hre2:Gs 1 (H'.set t (some (.cells [n',e] true))) e (d.map rg):=hre.keep (fun j hj=>by
     have:j≠t:=fun h=>hR.et (h ▸ hj)
     simp [this]) (by simp)
    refine fJ hre2 rfl rfl rfl (by simp; omega) (by simp; omega) fun e' H2 g2 f2=>?_
    have tl2:t<(H'.set t (some (.cells [n',e] true))).n:=by simp; have:=f.grow; have:=hR.tlt; omega
    have ht2:H2.get t=some (.cells [n',e] true):=by rw [f2.same t tl2 hR.et]; simp
    have et':¬ own e' t:=fun h=>by
     rcases f2.mine t h with h | h
     ·exact hR.et h
     ·omega
    simp [g2.st (id:=t) (off:=1) ht2 (by simp)]
    rw [bz (by omega)]
    have hg2n:=f2.grow
    simp at hg2n
    refine ih (m+1) _ (d++[x]) n' e' _ (by omega) (by omega) hB' ⟨?_,?_,?_,?_,nt',et',?_⟩
    ·simp; have:=f.grow; have:=hR.tlt; omega
    ·simp
    ·rw [mW hlt,hLm]
     refine g.keep (fun j hj=>?_) (by simp; omega)
     have a1:j≠t:=fun h=>nt' (h ▸ hj)
     have a2:j<(H'.set t (some (.cells [n',e] true))).n:=by simp; exact g.lt hj
     have:=f2.same j a2 (hne j hj)
     simp [a1] at this ⊢
     exact this
    ·rw [List.map_append]
     refine Gs.keep (H:=H2) g2 (fun j hj=>?_) (by simp)
     have a1:j≠t:=fun h=>et' (h ▸ hj)
     simp [a1]
    ·intro j hj h'
     rcases f2.mine j h' with h | h
     ·exact hne j hj h
     ·have:=g.lt hj; simp at h; omega
  refine bL.L0_step ?_
  simp [nds,hlt,bS hget]
  have hpar:(cB L m).parent=par L m:=rfl
  rw [hpar]
  by_cases h0:m=0
  ·subst h0
   simp
   split
   ·rename_i hp
    rw [show (AV.imm 5 (L.map bt))=nds L from rfl]
    refine next 0 (fun _=>?_) (fun h=>by omega)
    have hd:d=[]:=List.length_eq_zero_iff.1 hdl
    subst hd
    exact .first hlt hp
   ·rename_i hp
    exact hErr (fun d' hB'=>hp (hB'.root hlt).1) 10 (by decide) H
  ·have hm1:¬ ((m:Int)=0):=by omega
   have hm2:(0:Int)<m:=by omega
   have hm3:0<m:=by omega
   simp [h0,hm1,hm2,hm3]
   split
   ·rename_i hp
    exact hErr (fun d' hB'=>by obtain ⟨p,x,e1,e2,_⟩:=hB'.step m hm3 hlt; omega) 10 (by decide) H
   split
   ·rename_i _ hp
    exact hErr (fun d' hB'=>by obtain ⟨p,x,e1,e2,_⟩:=hB'.step m hm3 hlt; omega) 10 (by decide) H
   ·rename_i hp1 hp2
    obtain ⟨p,hp⟩:∃ p:Nat,par L m=p:=⟨(par L m).toNat,by omega⟩
    rw [hp] at hp2 ⊢
    have hpm:p<m:=by omega
    obtain ⟨x,hx⟩:=cb (l:=d) (k:=p) (by omega)
    obtain ⟨id,ex,he,hg⟩:∃ id ex,e=.sl id 0 1 d.length none∧H.get id=some (.cells (d.map rg).flatten ex):=by
     have:=hR.re
     generalize hr:d.map rg=rr at this
     have hrl:rr.length=d.length:=by rw [← hr]; simp
     cases this with
     | nil=>simp at hrl; omega
     | sl hlt hg hsz=>exact ⟨_,_,by rw [hrl],hg⟩
    have hdrop:∃ r,((d.map rg).flatten).drop p=I (x:Int)::r:=by
     have h1:∀ r ∈ d.map rg,r.length=1:=fun r hr=>by obtain ⟨y,_,rfl⟩:=List.mem_map.1 hr; rfl
     have h2:=kN h1 (w:=p) (by simp; omega)
     rw [Nat.mul_one] at h2
     have h3:(d.map rg)[p]'(by simp; omega)=rg x:=by
      rw [List.getElem_map]
      rw [List.getElem?_eq_getElem (by omega)] at hx
      rw [Option.some.inj hx]
     rw [h3] at h2
     exact ⟨_,h2⟩
    obtain ⟨r,hdrop⟩:=hdrop
    have e1:wr .i64 ((x:Int)+1)=((x+1:Nat):Int):=by
     have:x≤256:=by
      by_cases hp0:p=0
      ·subst hp0
       have:=(hB.root hm3).2
       rw [hx] at this
       cases this
       omega
      ·obtain ⟨_,y,_,_,_,h4,h5⟩:=hB.step p (by omega) hpm
       rw [hx] at h4
       cases h4
       omega
     rw [eh (by omega) (by omega)]; rfl
    simp [hR.tg,he]
    rw [oH (by omega) (by omega)]
    simp [hg,hdrop]
    rw [e1,show (AV.imm 5 (L.map bt))=nds L from rfl]
    have:=next (x+1) (fun h256=>hB.next hm3 hlt hp hpm hx h256) fun h d' hB'=>by
     obtain ⟨p',x',f1,f2,f3,f4,f5⟩:=hB'.step m hm3 hlt
     have e2:p=p':=by omega
     subst e2
     have e3:=hB.uniq hB' (by omega) (p+1) p (by omega) hpm
     rw [hx,f3] at e3
     cases e3
     omega
    exact this
def dZ (L:List Nd) (d:List Nat):AV:=.ip [nds (L.map ca),.imm 1 (d.map rg)]
theorem ey (L:List Nd) (d:List Nat):bF (dZ L d)=true:=by
 unfold dZ
 simp only [bF,aP,z0,bm _ (show ∀ x,aP (rg x)=true from fun _=>rfl),Bool.and_self]
theorem yK (L:List Nd) (hW:∀ n ∈ L,mV n):((L.length≤4096→∀ d,¬ cH L L.length d)∧∃ e:Int,e≠0∧∀ H,az Tryz.prog σ gV [nds L] H (.tup [.lit (.pointer none),I e]) H) ∨
  (∃ d,L.length≤4096∧cH L L.length d∧∀ H,az Tryz.prog σ gV [nds L] H (.tup [dZ L d,I 0]) H):=by
 by_cases hN:L.length≤4096
 ·obtain ⟨Q,hQ⟩:∃ Q:AV→Hp→Prop,∀ r H1,Q r H1 ↔ (((∀ d,¬ cH L L.length d)∧∃ e:Int,e≠0∧r=.tup [.lit (.pointer none),I e])∨∃ d,cH L L.length d∧Fz H1 r (.tup [dZ L d,I 0])):=⟨_,fun _ _=>Iff.rfl⟩
  have run:∃ r H1,az Tryz.prog σ gV [nds L] Hp.empty r H1∧Q r H1:=by
   refine bL.run ?_
   have h1:¬ ((4096:Int)<(L.length:Int)):=by omega
   simp [h1,bi]
   refine zz hW hN (fun hnb e he H=>by rw [hQ]; exact .inl ⟨hnb,e,he,rfl⟩) (fun H d n e hB hR=>?_) _ 0 _ [] (.lit (.slice none 0 0)) (.lit (.slice none 0 0)) _ rfl (Nat.zero_le _) (cH.nil L)
    ⟨by simp,by simp,by simpa using Gs.nil,.nil,fun h=>h,fun h=>h,fun j h=>h.elim⟩
   rw [hQ]
   refine .inr ⟨d,hB,.tup rfl fun j x y hx hy=>?_⟩
   have rn:=hR.rn
   rw [List.take_length] at rn
   match j with
   | 0 =>
    simp at hx hy
    subst hx; subst hy
    have f1:=rn.fz (bm _ (fun x=>j_ (ca x)) _)
    have f2:=hR.re.fz (bm _ (fun _=>rfl) _)
    refine .ptr (fun j=>[n,e].getD j .any) hR.tg (fun j y hj=>?_) (fun j y hj=>?_)
    ·have hl:=(List.getElem?_eq_some_iff.1 hj).1
     match j with
     | 0=>simp
     | 1=>simp
     | j+2=>simp at hl; omega
    ·match j with
     | 0=>simp at hj; rw [← hj]; simpa [nds,Function.comp_def] using f1
     | 1=>simp at hj; rw [← hj]; exact f2
     | j+2=>simp at hj
   | 1=>simp at hx hy; subst hx; subst hy; exact .refl rfl
   | j+2=>simp at hx
  obtain ⟨r,H1,hg,hf⟩:=run
  rw [hQ] at hf
  rcases hf with ⟨hnb,e,he,rfl⟩ | ⟨d,hB,hf⟩
  ·exact .inl ⟨fun _=>hnb,e,he,fun H=>hg.over (by simp [aP]) (by simp [gS,iN]) H⟩
  ·exact .inr ⟨d,hN,hB,fun H=>hg.frzR (by simp [aP]) hf H⟩
 ·have run:∃ r H1,az Tryz.prog σ gV [nds L] Hp.empty r H1∧r=.tup [.lit (.pointer none),I 3]:=by
   refine bL.run ?_
   have h1:((4096:Int)<(L.length:Int)):=by omega
   simp [h1]
  obtain ⟨r,H1,hg,rfl⟩:=run
  exact .inl ⟨fun h=>absurd h hN,3,by decide,fun H=>hg.over (by simp [aP]) (by simp [gS,iN]) H⟩
end Go.Proofs.YthmaggcfghjmfaaGreat.Ev
namespace Go.Proofs.YthmaggcfghjmfaaGreat.Ev
set_option linter.unusedVariables false
set_option linter.unusedSimpArgs false
variable {σ:Sig}
theorem sk {n k:Nat} (h:k<n):(List.range n)[k]?=some k:=by
 rw [List.getElem?_range h]
theorem yf (L:List Nd) (d:List Nat) (hN:L.length≤4096) {e:Nat} (he:e<L.length) (H:Hp):az Tryz.prog σ ep [eI L d,I (e:Int)] H (.agg (elE L d e)) H:=by
 obtain ⟨Q,hQ⟩:∃ Q:AV→Hp→Prop,∀ r H1,Q r H1 ↔ r=.agg (elE L d e):=⟨_,fun _ _=>Iff.rfl⟩
 have run:∃ r H1,az Tryz.prog σ ep [eI L d,I (e:Int)] Hp.empty r H1∧Q r H1:=by
  refine me.run ?_
  have h1:¬ ((e:Int)<0):=by omega
  have h2:¬ ((L.length:Int)≤e):=by omega
  have h3:¬ (L.length≤e):=by omega
  have hl:(elE L d e).length=9:=rfl
  have ho:(elE L d e).all AV.one=true:=by simp [elE,iw,bt,elC]
  have ho':∀ x ∈ elE L d e,AV.one x=true:=List.all_eq_true.1 ho
  simp [eI,h1,h2,h3,bS (sk he)]
  simp only [dm hl,aa]
  simp [hl,a8]
  rw [if_pos ho',aa]
  simp [dm hl,hQ]
 obtain ⟨r,H1,hg,hr⟩:=run
 rw [hQ] at hr
 subst hr
 exact hg.frzR (by simp [aP,c6,bF]) (.refl (by simp only [bF]; exact vv L d e)) H
theorem EJ (L:List Nd) (d:List Nat) (hN:L.length≤4096) {e:Nat} (he:e<L.length) (H:Hp):az Tryz.prog σ fL [eI L d,I (e:Int)] H (.agg (bt (ca (cB L e)))) H:=by
 obtain ⟨Q,hQ⟩:∃ Q:AV→Hp→Prop,∀ r H1,Q r H1 ↔ r=.agg (bt (ca (cB L e))):=⟨_,fun _ _=>Iff.rfl⟩
 have run:∃ r H1,az Tryz.prog σ fL [eI L d,I (e:Int)] Hp.empty r H1∧Q r H1:=by
  refine kC.run ?_
  simp
  refine am (yf L d hN he _) ?_
  have:(elE L d e).take 5=bt (ca (cB L e)):=rfl
  simp [this,a8,hQ]
  rw [a8 (by simp),xB]
  rfl
 obtain ⟨r,H1,hg,hr⟩:=run
 rw [hQ] at hr
 subst hr
 exact hg.frzR (by simp [aP,c6,bF]) (.refl (by simp only [bF]; exact j_ _)) H
theorem o3 (L:List Nd) (d:List Nat) (hN:L.length≤4096) {e:Nat} (he:e<L.length) (H:Hp):az Tryz.prog σ dT [eI L d,I (e:Int)] H (I (par L e)) H:=by
 refine bl (fun K hK=>jb.run ?_) (by simp [aP,c6,bF]) rfl H
 have h1:¬ ((e:Int)<0):=by omega
 have h2:¬ ((L.length:Int)≤e):=by omega
 have h3:¬ (L.length≤e):=by omega
 simp [eI,h1,h2,h3,bS (sk he),elE,iw,bt]
 exact hK _
theorem oq (L:List Nd) (d:List Nat) (hN:L.length≤4096) {e:Nat} (he:e<L.length) (H:Hp):az Tryz.prog σ du [eI L d,I (e:Int)] H (I (dn L e)) H:=by
 refine bl (fun K hK=>jV.run ?_) (by simp [aP,c6,bF]) rfl H
 refine am (yf L d hN he _) ?_
 simp [elE,iw,bt]
 exact hK _
theorem zD (L:List Nd) (d:List Nat) (hN:L.length≤4096) {e:Nat} (he:e<L.length) (H:Hp):az Tryz.prog σ fX [eI L d,I (e:Int)] H (I (eD L e)) H:=by
 refine bl (fun K hK=>jg.run ?_) (by simp [aP,c6,bF]) rfl H
 refine am (yf L d hN he _) ?_
 simp [elE,iw,bt]
 exact hK _
def ma (L:List Nd) (e k:Nat):Int:=match (eZ L L.length e)[k]? with | some j=>j | none=>-1
theorem uI (L:List Nd) (d:List Nat) (hN:L.length≤4096) {e k:Nat} (he:e<L.length) (H:Hp):az Tryz.prog σ fu [eI L d,I (e:Int),I (k:Int)] H (I (ma L e k)) H:=by
 refine bl (fun K hK=>jP.run ?_) (by simp [aP,c6,bF]) rfl H
 refine am (yf L d hN he _) ?_
 simp [elE,iw,bt,elC]
 split
 ·rename_i h
  have hget:(eZ L L.length e)[k]?=some (eZ L L.length e)[k]:=List.getElem?_eq_getElem h
  simp [bS hget]
  have:=hK Hp.empty
  simpa [ma,hget] using this
 ·rename_i h
  have hget:(eZ L L.length e)[k]?=none:=List.getElem?_eq_none (by omega)
  have:=hK Hp.empty
  simpa [ma,hget] using this
theorem IC (L:List Nd) (d:List Nat) (H:Hp):az Tryz.prog σ im [eI L d] H (I (L.length:Int)) H:=by
 refine bl (fun K hK=>lD.run ?_) (by simp [aP,c6]) rfl H
 simp [eI]
 exact hK _
theorem KN (L:List Nd) (d:List Nat) (e:Int) (H:Hp):az Tryz.prog σ lJ [eI L d,I e] H (Bo (decide (0≤e)&&decide (e<L.length))) H:=by
 refine bl (fun K hK=>qF.run ?_) (by simp [aP,c6,bF]) rfl H
 have e1:iC .neq (eI L d) (.lit (.pointer none))=some (Bo true):=rfl
 rw [e1]
 simp
 split
 ·rename_i h
  refine am (IC L d _) ?_
  simp
  simpa [h] using hK Hp.empty
 ·rename_i h
  simpa [h] using hK Hp.empty
def mI (L:List Nd) (e:Nat):Bool:=decide (par L e<0)||decide (ma L (par L e).toNat (dn L e).toNat<0)
theorem my {L:List Nd} {N:Nat} {d:List Nat} (hB:cH L N d) {e:Nat} (he:e<N):par L e=-1∨∃ p:Nat,par L e=p∧p<e:=by
 by_cases h0:e=0
 ·subst h0; exact .inl (hB.root he).1
 ·obtain ⟨p,x,h1,h2,_⟩:=hB.step e (by omega) he
  exact .inr ⟨p,h1,h2⟩
end Go.Proofs.YthmaggcfghjmfaaGreat.Ev

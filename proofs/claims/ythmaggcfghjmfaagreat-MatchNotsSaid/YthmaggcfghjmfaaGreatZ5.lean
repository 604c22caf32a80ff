/- The walks, part 5: the evaluator, the functions, the laws. Conditions: none. -/
import Derived.Test.YthmaggcfghjmfaaGreatZ4
namespace Go.Proofs.YthmaggcfghjmfaaGreat.Ev
set_option maxRecDepth 100000
set_option maxHeartbeats 4000000
set_option linter.unusedVariables false
variable {σ:Sig} {K:AV→Hp→Prop} {H:Hp}
noncomputable def mh.code:Code:=aK Tryz.f67
theorem mh.run {a0:AV} (h:eH a0 H fun x1 H2=>bg [I 0,.lit (.string ⟨#[]⟩),.lit (.string ⟨#[]⟩),.lit (.slice none 0 0),.lit (.slice none 0 0)] H2 fun x3 H4=>bnd (ae x1 3) fun x5=>bnd (ldA false 1 H4 x5) fun x6=>ai Tryz.prog σ bu [x6] H4 fun x7 H8=>bnd (ae x1 4) fun x9=>kpK (x9,some 1) H4 H8 (bnd (ldA false 1 H8 x9) fun x10=>ai Tryz.prog σ bH [x10] H8 fun x11 H12=>bnd (ae x1 3) fun x13=>bnd (stA 1 H12 x13 x7) fun H14=>bnd (ae x1 4) fun x15=>bnd (stA 1 H14 x15 x11) fun H16=>bnd (ldA true 5 H16 x1) fun x17=>bnd (stA 5 H16 x3 x17) fun H18=>bnd (ldA true 5 H18 x3) fun r19=>K r19 H18)):∃ r H1,aE Tryz.prog σ iK [a0] H r H1∧K r H1 :=
 gwp 0 (fn:=Tryz.f67) (f:=iK) (c:=mh.code) (by kernel_rfl) (by kernel_rfl) (Eq.mpr (by kernel_rfl) h)
noncomputable def bE.code:Code:=aK Tryz.f68
noncomputable def bE.Q0 (σ:Sig) (K:AV→Hp→Prop):Exit→List AV→Hp→Prop:=(nx (fQ Tryz.f68 σ K) fun T G=>wp (CZ σ) 1800 (sR (sR (sR bE.code))) T G (fQ Tryz.f68 σ K))
noncomputable def bE.L0 (σ:Sig) (K:AV→Hp→Prop) (y3 y8 y9 y10:AV) (H:Hp):Prop:=∀ j:Nat→AV,bj (CZ σ) (lB (bB (sR (sL (sR (sR bE.code)))))) [j 0,j 1,j 2,y3,j 4,j 5,j 6,j 7,y8,y9,y10,j 11,j 12,j 13,j 14,j 15,j 16,j 17,j 18,j 19,j 20,j 21,j 22,j 23,j 24,j 25,j 26,j 27,j 28,j 29] H (fun e T G=>(bE.Q0 σ K) (av 0 e) T G)
noncomputable def bE.J1 (σ:Sig) (K:AV→Hp→Prop) (y3 y8 y9 y10:AV) (H:Hp):Prop:=∀ j:Nat→AV,wp (CZ σ) 1800 (sR (sR (sR (lB (bB (sR (sL (sR (sR bE.code))))))))) [j 0,j 1,j 2,y3,j 4,j 5,j 6,j 7,y8,y9,y10,j 11,j 12,j 13,j 14,j 15,j 16,j 17,j 18,j 19,j 20,j 21,j 22,j 23,j 24,j 25,j 26,j 27,j 28,j 29] H (nx (fun e T G=>(bE.Q0 σ K) (av 0 e) T G) fun T G=>∀ j,bj (CZ σ) (lB (bB (sR (sL (sR (sR bE.code)))))) (dw 1800 j 0 T) G (fun e T G=>(bE.Q0 σ K) (av 0 e) T G))
theorem bE.L0_step {y3 y8 y9 y10:AV} (h:bnd (af .lss y10 y9) fun x1=>ifB x1 (bnd (aR 1 y8 y10) fun x2=>bnd (ldA false 1 H x2) fun x3=>bnd (af .geq x3 (.lit (.int .u8 65))) fun x4=>ifB x4 (bnd (af .leq x3 (.lit (.int .u8 90))) fun x5=>ifB x5 (bnd (af .add x3 (.lit (.int .u8 97))) fun x6=>bnd (af .sub x6 (.lit (.int .u8 65))) fun x7=>bnd (aR 1 y3 y10) fun x8=>bnd (stA 1 H x8 x7) fun H9=>bE.J1 σ K y3 y8 y9 y10 H9) (bE.J1 σ K y3 y8 y9 y10 H)) (bE.J1 σ K y3 y8 y9 y10 H)) (bnd (e_ H y3) fun x10=>K x10 H)):bE.L0 σ K y3 y8 y9 y10 H :=
 fun j=>lrd (g:=1800) (Eq.mpr (by kernel_rfl) h)
theorem bE.J1_step {y3 y8 y9 y10:AV} (h:bnd (af .add y10 (I 1)) fun x1=>bE.L0 σ K y3 y8 y9 x1 H):bE.J1 σ K y3 y8 y9 y10 H :=
 fun j=>Eq.mpr (by kernel_rfl) h
theorem bE.run {a0:AV} (h:bnd (gh H a0) fun p1=>bnd (a8 p1.1) fun x2=>bE.L0 σ K p1.1 p1.1 x2 (I 0) p1.2):∃ r H1,aE Tryz.prog σ gE [a0] H r H1∧K r H1 :=
 gwp 1800 (fn:=Tryz.f68) (f:=gE) (c:=bE.code) (by kernel_rfl) (by kernel_rfl) (Eq.mpr (by kernel_rfl) h)
noncomputable def ao.code:Code:=aK Tryz.f69
noncomputable def ao.Q0 (σ:Sig) (K:AV→Hp→Prop):Exit→List AV→Hp→Prop:=(nx (fQ Tryz.f69 σ K) fun T G=>wp (CZ σ) 29 (sR (sR (sR (sR (sR ao.code))))) T G (fQ Tryz.f69 σ K))
noncomputable def ao.J0 (σ:Sig) (K:AV→Hp→Prop) (y0 y2 y3 y4:AV) (H:Hp):Prop:=∀ j:Nat→AV,wp (CZ σ) 29 (sR (sR (sR (sR ao.code)))) [y0,j 1,y2,y3,y4,j 5,j 6,j 7,j 8,j 9,j 10,j 11,j 12,j 13,j 14,j 15,j 16,j 17,j 18,j 19,j 20,j 21,j 22,j 23,j 24,j 25,j 26,j 27,j 28,j 29,j 30,j 31,j 32,j 33,j 34,j 35,j 36,j 37,j 38,j 39,j 40,j 41,j 42,j 43,j 44,j 45,j 46,j 47,j 48,j 49,j 50,j 51,j 52,j 53,j 54,j 55,j 56,j 57,j 58,j 59,j 60,j 61,j 62,j 63,j 64,j 65,j 66,j 67,j 68,j 69,j 70,j 71,j 72,j 73,j 74,j 75,j 76,j 77,j 78,j 79,j 80,j 81,j 82,j 83,j 84,j 85,j 86,j 87,j 88,j 89,j 90,j 91,j 92,j 93,j 94,j 95,j 96,j 97,j 98,j 99,j 100,j 101,j 102,j 103,j 104,j 105,j 106,j 107,j 108,j 109,j 110,j 111,j 112,j 113,j 114,j 115,j 116,j 117,j 118,j 119,j 120,j 121,j 122,j 123,j 124,j 125,j 126,j 127,j 128,j 129,j 130,j 131,j 132] H (fQ Tryz.f69 σ K)
noncomputable def ao.L1 (σ:Sig) (K:AV→Hp→Prop) (y0 y2 y3 y4:AV) (H:Hp):Prop:=∀ j:Nat→AV,bj (CZ σ) (lB (bB (sL (sR (sR (sR (sR ao.code))))))) [y0,j 1,y2,y3,y4,j 5,j 6,j 7,j 8,j 9,j 10,j 11,j 12,j 13,j 14,j 15,j 16,j 17,j 18,j 19,j 20,j 21,j 22,j 23,j 24,j 25,j 26,j 27,j 28,j 29,j 30,j 31,j 32,j 33,j 34,j 35,j 36,j 37,j 38,j 39,j 40,j 41,j 42,j 43,j 44,j 45,j 46,j 47,j 48,j 49,j 50,j 51,j 52,j 53,j 54,j 55,j 56,j 57,j 58,j 59,j 60,j 61,j 62,j 63,j 64,j 65,j 66,j 67,j 68,j 69,j 70,j 71,j 72,j 73,j 74,j 75,j 76,j 77,j 78,j 79,j 80,j 81,j 82,j 83,j 84,j 85,j 86,j 87,j 88,j 89,j 90,j 91,j 92,j 93,j 94,j 95,j 96,j 97,j 98,j 99,j 100,j 101,j 102,j 103,j 104,j 105,j 106,j 107,j 108,j 109,j 110,j 111,j 112,j 113,j 114,j 115,j 116,j 117,j 118,j 119,j 120,j 121,j 122,j 123,j 124,j 125,j 126,j 127,j 128,j 129,j 130,j 131,j 132] H (fun e T G=>(ao.Q0 σ K) (av 0 e) T G)
noncomputable def ao.J2 (σ:Sig) (K:AV→Hp→Prop) (y0 y2 y3 y4:AV) (H:Hp):Prop:=∀ j:Nat→AV,wp (CZ σ) 29 (sR (sR (bB (sR (lB (bB (sL (sR (sR (sR (sR ao.code))))))))))) [y0,j 1,y2,y3,y4,j 5,j 6,j 7,j 8,j 9,j 10,j 11,j 12,j 13,j 14,j 15,j 16,j 17,j 18,j 19,j 20,j 21,j 22,j 23,j 24,j 25,j 26,j 27,j 28,j 29,j 30,j 31,j 32,j 33,j 34,j 35,j 36,j 37,j 38,j 39,j 40,j 41,j 42,j 43,j 44,j 45,j 46,j 47,j 48,j 49,j 50,j 51,j 52,j 53,j 54,j 55,j 56,j 57,j 58,j 59,j 60,j 61,j 62,j 63,j 64,j 65,j 66,j 67,j 68,j 69,j 70,j 71,j 72,j 73,j 74,j 75,j 76,j 77,j 78,j 79,j 80,j 81,j 82,j 83,j 84,j 85,j 86,j 87,j 88,j 89,j 90,j 91,j 92,j 93,j 94,j 95,j 96,j 97,j 98,j 99,j 100,j 101,j 102,j 103,j 104,j 105,j 106,j 107,j 108,j 109,j 110,j 111,j 112,j 113,j 114,j 115,j 116,j 117,j 118,j 119,j 120,j 121,j 122,j 123,j 124,j 125,j 126,j 127,j 128,j 129,j 130,j 131,j 132] H (fun e T G=>(nx (fun e T G=>(ao.Q0 σ K) (av 0 e) T G) fun T G=>∀ j,bj (CZ σ) (lB (bB (sL (sR (sR (sR (sR ao.code))))))) (dw 29 j 0 T) G (fun e T G=>(ao.Q0 σ K) (av 0 e) T G)) (av 1 e) T G)
theorem ao.J0_step {y0 y2 y3 y4:AV} (h:ao.L1 σ K y0 y2 y3 y4 H):ao.J0 σ K y0 y2 y3 y4 H :=
 fun j=>Eq.mpr (by kernel_rfl) h
theorem ao.L1_step {y0 y2 y3 y4:AV} (h:bnd (aq y0) fun x1=>bnd (ae x1 2) fun x2=>bnd (ldA false 1 H x2) fun x3=>bnd (unR .not x3) fun x4=>ifB x4 (ai Tryz.prog σ aH [y0,(I 0)] H fun x5 H6=>bnd (dz false 0 1 x5) fun x7=>bnd (af .eql x7 (I 3)) fun x8=>ifB x8 (bnd (ae y3 1) fun x9=>bnd (ldA false 1 H6 x9) fun x10=>ai Tryz.prog σ aH [y0,(I 0)] H6 fun x11 H12=>kpK (x9,some 1) H6 H12 (bnd (dz false 1 1 x11) fun x13=>bnd (ar [.string ⟨#[]⟩] 1 1 H12 [(0,1,x13)]) fun p14=>kpK (x9,some 1) H12 p14.2 (bnd (aW false 1 16 p14.2 x10 p14.1) fun p15=>bnd (ae y3 1) fun x16=>bnd (stA 1 p15.2 x16 p15.1) fun H17=>bnd (aq y0) fun x18=>bnd (ae x18 1) fun x19=>bnd (ldA false 1 H17 x19) fun x20=>bnd (af .add x20 (I 1)) fun x21=>bnd (aq y0) fun x22=>bnd (ae x22 1) fun x23=>bnd (stA 1 H17 x23 x21) fun H24=>ao.J2 σ K y0 y2 y3 y4 H24))) (ai Tryz.prog σ bP [y0,(I 0),(I 46)] H6 fun x25 H26=>ifB x25 (ai Tryz.prog σ aH [y0,(I 1)] H26 fun x27 H28=>bnd (dz false 0 1 x27) fun x29=>bnd (af .eql x29 (I 1)) fun x30=>ifB x30 (bnd (ae y3 2) fun x31=>bnd (ldA false 1 H28 x31) fun x32=>ai Tryz.prog σ aH [y0,(I 1)] H28 fun x33 H34=>kpK (x31,some 1) H28 H34 (bnd (dz false 1 1 x33) fun x35=>bnd (ar [.string ⟨#[]⟩] 1 1 H34 [(0,1,x35)]) fun p36=>kpK (x31,some 1) H34 p36.2 (bnd (aW false 1 16 p36.2 x32 p36.1) fun p37=>bnd (ae y3 2) fun x38=>bnd (stA 1 p37.2 x38 p37.1) fun H39=>bnd (aq y0) fun x40=>bnd (ae x40 1) fun x41=>bnd (ldA false 1 H39 x41) fun x42=>bnd (af .add x42 (I 2)) fun x43=>bnd (aq y0) fun x44=>bnd (ae x44 1) fun x45=>bnd (stA 1 H39 x45 x43) fun H46=>ao.J2 σ K y0 y2 y3 y4 H46))) (bnd (af .eql x7 (I 18)) fun x47=>ifB x47 (bnd (aq y0) fun x48=>bnd (ae x48 1) fun x49=>bnd (ldA false 1 H28 x49) fun x50=>bnd (af .add x50 (I 1)) fun x51=>bnd (aq y0) fun x52=>bnd (ae x52 1) fun x53=>bnd (stA 1 H28 x53 x51) fun H54=>ai Tryz.prog σ da [y0] H54 fun x55 H56=>bg [.lit (.string ⟨#[]⟩),I 0,.lit (.string ⟨#[]⟩)] H56 fun x57 H58=>bnd (stA 3 H58 x57 x55) fun H59=>bnd (ae y3 3) fun x60=>bnd (ldA false 1 H59 x60) fun x61=>bnd (ldA true 3 H59 x57) fun x62=>bnd (ar [.string ⟨#[]⟩,.int .i64 0,.string ⟨#[]⟩] 3 1 H59 [(0,3,x62)]) fun p63=>bnd (aW false 3 40 p63.2 x61 p63.1) fun p64=>bnd (ae y3 3) fun x65=>bnd (stA 1 p64.2 x65 p64.1) fun H66=>ao.J2 σ K y0 y2 y3 y4 H66) (bnd (af .eql x7 (I 11)) fun x67=>ifB x67 (bnd (aq y0) fun x68=>bnd (ae x68 1) fun x69=>bnd (ldA false 1 H28 x69) fun x70=>bnd (af .add x70 (I 1)) fun x71=>bnd (aq y0) fun x72=>bnd (ae x72 1) fun x73=>bnd (stA 1 H28 x73 x71) fun H74=>ai Tryz.prog σ cO [y0] H74 fun x75 H76=>bg [I 0,I 0,I 0,.lit (.slice none 0 0)] H76 fun x77 H78=>bnd (stA 4 H78 x77 x75) fun H79=>bnd (ae y3 4) fun x80=>bnd (ldA false 1 H79 x80) fun x81=>bnd (ldA true 4 H79 x77) fun x82=>bnd (ar [.int .i64 0,.int .i64 0,.int .i64 0,.slice none 0 0] 4 1 H79 [(0,4,x82)]) fun p83=>bnd (aW false 4 48 p83.2 x81 p83.1) fun p84=>bnd (ae y3 4) fun x85=>bnd (stA 1 p84.2 x85 p84.1) fun H86=>ao.J2 σ K y0 y2 y3 y4 H86) (bnd (af .eql y4 (I 0)) fun x87=>bnd (aq y0) fun x88=>bnd (ae x88 2) fun x89=>bnd (stA 1 H28 x89 x87) fun H90=>bnd (ldA true 5 H90 y3) fun x91=>bnd (stA 5 H90 y2 x91) fun H92=>bnd (ldA true 5 H92 y2) fun r93=>K r93 H92)))) (bnd (af .eql x7 (I 18)) fun x94=>ifB x94 (bnd (aq y0) fun x95=>bnd (ae x95 1) fun x96=>bnd (ldA false 1 H26 x96) fun x97=>bnd (af .add x97 (I 1)) fun x98=>bnd (aq y0) fun x99=>bnd (ae x99 1) fun x100=>bnd (stA 1 H26 x100 x98) fun H101=>ai Tryz.prog σ da [y0] H101 fun x102 H103=>bg [.lit (.string ⟨#[]⟩),I 0,.lit (.string ⟨#[]⟩)] H103 fun x104 H105=>bnd (stA 3 H105 x104 x102) fun H106=>bnd (ae y3 3) fun x107=>bnd (ldA false 1 H106 x107) fun x108=>bnd (ldA true 3 H106 x104) fun x109=>bnd (ar [.string ⟨#[]⟩,.int .i64 0,.string ⟨#[]⟩] 3 1 H106 [(0,3,x109)]) fun p110=>bnd (aW false 3 40 p110.2 x108 p110.1) fun p111=>bnd (ae y3 3) fun x112=>bnd (stA 1 p111.2 x112 p111.1) fun H113=>ao.J2 σ K y0 y2 y3 y4 H113) (bnd (af .eql x7 (I 11)) fun x114=>ifB x114 (bnd (aq y0) fun x115=>bnd (ae x115 1) fun x116=>bnd (ldA false 1 H26 x116) fun x117=>bnd (af .add x117 (I 1)) fun x118=>bnd (aq y0) fun x119=>bnd (ae x119 1) fun x120=>bnd (stA 1 H26 x120 x118) fun H121=>ai Tryz.prog σ cO [y0] H121 fun x122 H123=>bg [I 0,I 0,I 0,.lit (.slice none 0 0)] H123 fun x124 H125=>bnd (stA 4 H125 x124 x122) fun H126=>bnd (ae y3 4) fun x127=>bnd (ldA false 1 H126 x127) fun x128=>bnd (ldA true 4 H126 x124) fun x129=>bnd (ar [.int .i64 0,.int .i64 0,.int .i64 0,.slice none 0 0] 4 1 H126 [(0,4,x129)]) fun p130=>bnd (aW false 4 48 p130.2 x128 p130.1) fun p131=>bnd (ae y3 4) fun x132=>bnd (stA 1 p131.2 x132 p131.1) fun H133=>ao.J2 σ K y0 y2 y3 y4 H133) (bnd (af .eql y4 (I 0)) fun x134=>bnd (aq y0) fun x135=>bnd (ae x135 2) fun x136=>bnd (stA 1 H26 x136 x134) fun H137=>bnd (ldA true 5 H137 y3) fun x138=>bnd (stA 5 H137 y2 x138) fun H139=>bnd (ldA true 5 H139 y2) fun r140=>K r140 H139))))) (bnd (ldA true 5 H y3) fun x141=>bnd (stA 5 H y2 x141) fun H142=>bnd (ldA true 5 H142 y2) fun r143=>K r143 H142)):ao.L1 σ K y0 y2 y3 y4 H :=
 fun j=>lrd (g:=29) (Eq.mpr (by kernel_rfl) h)
theorem ao.J2_step {y0 y2 y3 y4:AV} (h:bnd (af .add y4 (I 1)) fun x1=>ao.L1 σ K y0 y2 y3 x1 H):ao.J2 σ K y0 y2 y3 y4 H :=
 fun j=>Eq.mpr (by kernel_rfl) h
theorem ao.run {a0:AV} (h:bg [.lit (.string ⟨#[]⟩),.lit (.slice none 0 0),.lit (.slice none 0 0),.lit (.slice none 0 0),.lit (.slice none 0 0)] H fun x1 H2=>bg [.lit (.string ⟨#[]⟩),.lit (.slice none 0 0),.lit (.slice none 0 0),.lit (.slice none 0 0),.lit (.slice none 0 0)] H2 fun x3 H4=>ai Tryz.prog σ aH [a0,(I 0)] H4 fun x5 H6=>bnd (dz false 0 1 x5) fun x7=>bnd (af .eql x7 (I 1)) fun x8=>ifB x8 (ai Tryz.prog σ aH [a0,(I 0)] H6 fun x9 H10=>bnd (dz false 1 1 x9) fun x11=>ai Tryz.prog σ dJ [x11] H10 fun x12 H13=>bnd (ae x3 0) fun x14=>bnd (stA 1 H13 x14 x12) fun H15=>bnd (aq a0) fun x16=>bnd (ae x16 1) fun x17=>bnd (ldA false 1 H15 x17) fun x18=>bnd (af .add x18 (I 1)) fun x19=>bnd (aq a0) fun x20=>bnd (ae x20 1) fun x21=>bnd (stA 1 H15 x21 x19) fun H22=>bnd (af .add (I 0) (I 1)) fun x23=>ao.J0 σ K a0 x1 x3 x23 H22) (ai Tryz.prog σ bP [a0,(I 0),(I 42)] H6 fun x24 H25=>ifB x24 (bnd (aq a0) fun x26=>bnd (ae x26 1) fun x27=>bnd (ldA false 1 H25 x27) fun x28=>bnd (af .add x28 (I 1)) fun x29=>bnd (aq a0) fun x30=>bnd (ae x30 1) fun x31=>bnd (stA 1 H25 x31 x29) fun H32=>bnd (af .add (I 0) (I 1)) fun x33=>ao.J0 σ K a0 x1 x3 x33 H32) (ao.J0 σ K a0 x1 x3 (I 0) H25))):∃ r H1,aE Tryz.prog σ dG [a0] H r H1∧K r H1 :=
 gwp 29 (fn:=Tryz.f69) (f:=dG) (c:=ao.code) (by kernel_rfl) (by kernel_rfl) (Eq.mpr (by kernel_rfl) h)
noncomputable def gK.code:Code:=aK Tryz.f70
theorem gK.run {a0:AV} (h:ai Tryz.prog σ bP [a0,(I 0),(I 62)] H fun x1 H2=>ifB x1 (K (I 2) H2) (ai Tryz.prog σ bP [a0,(I 0),(I 43)] H2 fun x3 H4=>ifB x3 (K (I 3) H4) (ai Tryz.prog σ bP [a0,(I 0),(I 126)] H4 fun x5 H6=>ifB x5 (K (I 4) H6) (K (I 0) H6)))):∃ r H1,aE Tryz.prog σ eN [a0] H r H1∧K r H1 :=
 gwp 0 (fn:=Tryz.f70) (f:=eN) (c:=gK.code) (by kernel_rfl) (by kernel_rfl) (Eq.mpr (by kernel_rfl) h)
noncomputable def gV.code:Code:=aK Tryz.f71
theorem gV.run {a0:AV} (h:ai Tryz.prog σ aH [a0,(I 0)] H fun x1 H2=>bnd (dz false 0 1 x1) fun x3=>ai Tryz.prog σ dU [a0] H2 fun x4 H5=>ifB x4 (K (Bo true) H5) (bnd (af .eql x3 (I 13)) fun x6=>ifB x6 (K (Bo true) H5) (bnd (af .eql x3 (I 17)) fun x7=>K x7 H5))):∃ r H1,aE Tryz.prog σ eL [a0] H r H1∧K r H1 :=
 gwp 0 (fn:=Tryz.f71) (f:=eL) (c:=gV.code) (by kernel_rfl) (by kernel_rfl) (Eq.mpr (by kernel_rfl) h)
noncomputable def pb.code:Code:=aK Tryz.f72
theorem pb.run {a0:AV} (h:bnd (af .geq a0 (I 48)) fun x1=>ifB x1 (bnd (af .leq a0 (I 57)) fun x2=>ifB x2 (bnd (af .sub a0 (I 48)) fun x3=>K x3 H) (bnd (af .geq a0 (I 97)) fun x4=>ifB x4 (bnd (af .leq a0 (I 102)) fun x5=>ifB x5 (bnd (af .sub a0 (I 97)) fun x6=>bnd (af .add x6 (I 10)) fun x7=>K x7 H) (bnd (af .geq a0 (I 65)) fun x8=>ifB x8 (bnd (af .leq a0 (I 70)) fun x9=>ifB x9 (bnd (af .sub a0 (I 65)) fun x10=>bnd (af .add x10 (I 10)) fun x11=>K x11 H) (K (I (-1)) H)) (K (I (-1)) H))) (bnd (af .geq a0 (I 65)) fun x12=>ifB x12 (bnd (af .leq a0 (I 70)) fun x13=>ifB x13 (bnd (af .sub a0 (I 65)) fun x14=>bnd (af .add x14 (I 10)) fun x15=>K x15 H) (K (I (-1)) H)) (K (I (-1)) H)))) (bnd (af .geq a0 (I 97)) fun x16=>ifB x16 (bnd (af .leq a0 (I 102)) fun x17=>ifB x17 (bnd (af .sub a0 (I 97)) fun x18=>bnd (af .add x18 (I 10)) fun x19=>K x19 H) (bnd (af .geq a0 (I 65)) fun x20=>ifB x20 (bnd (af .leq a0 (I 70)) fun x21=>ifB x21 (bnd (af .sub a0 (I 65)) fun x22=>bnd (af .add x22 (I 10)) fun x23=>K x23 H) (K (I (-1)) H)) (K (I (-1)) H))) (bnd (af .geq a0 (I 65)) fun x24=>ifB x24 (bnd (af .leq a0 (I 70)) fun x25=>ifB x25 (bnd (af .sub a0 (I 65)) fun x26=>bnd (af .add x26 (I 10)) fun x27=>K x27 H) (K (I (-1)) H)) (K (I (-1)) H)))):∃ r H1,aE Tryz.prog σ gW [a0] H r H1∧K r H1 :=
 gwp 0 (fn:=Tryz.f72) (f:=gW) (c:=pb.code) (by kernel_rfl) (by kernel_rfl) (Eq.mpr (by kernel_rfl) h)
noncomputable def pg.code:Code:=aK Tryz.f73
theorem pg.run {a0:AV} (h:bnd (af .gtr a0 (I 2147483647)) fun x1=>ifB x1 (K (I 2147483647) H) (bnd (af .lss a0 (I (-2147483647))) fun x2=>ifB x2 (K (I (-2147483647)) H) (K a0 H))):∃ r H1,aE Tryz.prog σ kD [a0] H r H1∧K r H1 :=
 gwp 0 (fn:=Tryz.f73) (f:=kD) (c:=pg.code) (by kernel_rfl) (by kernel_rfl) (Eq.mpr (by kernel_rfl) h)
noncomputable def ax.code:Code:=aK Tryz.f74
noncomputable def ax.L0 (σ:Sig) (K:AV→Hp→Prop) (y5 y7 y31 y32 y33 y47 y48 y49 y60 y61 y62:AV) (H:Hp):Prop:=∀ j:Nat→AV,bj (CZ σ) (lB (bB (sR (sL (sR (sR (sR ax.code))))))) [j 0,j 1,j 2,j 3,j 4,y5,j 6,y7,j 8,j 9,j 10,j 11,j 12,j 13,j 14,j 15,j 16,j 17,j 18,j 19,j 20,j 21,j 22,j 23,j 24,j 25,j 26,j 27,j 28,j 29,j 30,y31,y32,y33,j 34,j 35,j 36,j 37,j 38,j 39,j 40,j 41,j 42,j 43,j 44,j 45,j 46,y47,y48,y49,j 50,j 51,j 52,j 53,j 54,j 55,j 56,j 57,j 58,j 59,y60,y61,y62,j 63,j 64,j 65,j 66,j 67,j 68,j 69,j 70] H (fun e T G=>(nx (fQ Tryz.f74 σ K) fun T G=>wp (CZ σ) 8071435709698801824 (sR (sR (sR (sR ax.code)))) T G (fQ Tryz.f74 σ K)) (av 0 e) T G)
noncomputable def ax.L1 (σ:Sig) (K:AV→Hp→Prop) (y5 y7 y31 y32 y33 y47 y48 y49 y60 y61 y62:AV) (H:Hp):Prop:=∀ j:Nat→AV,bj (CZ σ) (lB (bB (sR (sL (sR (sR (sR (sR ax.code)))))))) [j 0,j 1,j 2,j 3,j 4,y5,j 6,y7,j 8,j 9,j 10,j 11,j 12,j 13,j 14,j 15,j 16,j 17,j 18,j 19,j 20,j 21,j 22,j 23,j 24,j 25,j 26,j 27,j 28,j 29,j 30,y31,y32,y33,j 34,j 35,j 36,j 37,j 38,j 39,j 40,j 41,j 42,j 43,j 44,j 45,j 46,y47,y48,y49,j 50,j 51,j 52,j 53,j 54,j 55,j 56,j 57,j 58,j 59,y60,y61,y62,j 63,j 64,j 65,j 66,j 67,j 68,j 69,j 70] H (fun e T G=>(nx (fQ Tryz.f74 σ K) fun T G=>wp (CZ σ) 8071435709698801824 (sR (sR (sR (sR (sR ax.code))))) T G (fQ Tryz.f74 σ K)) (av 2 e) T G)
noncomputable def ax.L2 (σ:Sig) (K:AV→Hp→Prop) (y5 y7 y31 y32 y33 y47 y48 y49 y60 y61 y62:AV) (H:Hp):Prop:=∀ j:Nat→AV,bj (CZ σ) (lB (bB (sR (sL (sR (sR (sR (sR (sR ax.code))))))))) [j 0,j 1,j 2,j 3,j 4,y5,j 6,y7,j 8,j 9,j 10,j 11,j 12,j 13,j 14,j 15,j 16,j 17,j 18,j 19,j 20,j 21,j 22,j 23,j 24,j 25,j 26,j 27,j 28,j 29,j 30,y31,y32,y33,j 34,j 35,j 36,j 37,j 38,j 39,j 40,j 41,j 42,j 43,j 44,j 45,j 46,y47,y48,y49,j 50,j 51,j 52,j 53,j 54,j 55,j 56,j 57,j 58,j 59,y60,y61,y62,j 63,j 64,j 65,j 66,j 67,j 68,j 69,j 70] H (fun e T G=>(nx (fQ Tryz.f74 σ K) fun T G=>wp (CZ σ) 8071435709698801824 (sR (sR (sR (sR (sR (sR ax.code)))))) T G (fQ Tryz.f74 σ K)) (av 4 e) T G)
theorem ax.L0_step {y5 y7 y31 y32 y33 y47 y48 y49 y60 y61 y62:AV} (h:bnd (af .lss y33 y32) fun x1=>ifB x1 (bnd (aR 1 y31 y33) fun x2=>bnd (ldA false 1 H x2) fun x3=>bnd (af .eql x3 (.lit (.string ⟨#[]⟩))) fun x4=>ifB x4 (K (Bo false) H) (bnd (ae y7 2) fun x5=>bnd (ldA false 1 H x5) fun x6=>bnd (af .neq x3 x6) fun x7=>ifB x7 (K (Bo false) H) (bnd (af .add y33 (I 1)) fun x8=>ax.L0 σ K y5 y7 y31 y32 x8 y47 y48 y49 y60 y61 y62 H))) (bnd (ae y5 2) fun x9=>bnd (ldA false 1 H x9) fun x10=>bnd (a8 x10) fun x11=>ax.L1 σ K y5 y7 y31 y32 y33 x10 x11 (I 0) y60 y61 y62 H)):ax.L0 σ K y5 y7 y31 y32 y33 y47 y48 y49 y60 y61 y62 H :=
 fun j=>lrd (g:=8071435709698801824) (Eq.mpr (by kernel_rfl) h)
theorem ax.L1_step {y5 y7 y31 y32 y33 y47 y48 y49 y60 y61 y62:AV} (h:bnd (af .lss y49 y48) fun x1=>ifB x1 (bnd (aR 1 y47 y49) fun x2=>bnd (ldA false 1 H x2) fun x3=>bnd (ae y7 3) fun x4=>bnd (ldA false 1 H x4) fun x5=>ai Tryz.prog σ jo [x5,x3] H fun x6 H7=>bnd (unR .not x6) fun x8=>ifB x8 (K (Bo false) H7) (bnd (af .add y49 (I 1)) fun x9=>ax.L1 σ K y5 y7 y31 y32 y33 y47 y48 x9 y60 y61 y62 H7)) (bnd (ae y5 3) fun x10=>bnd (ldA false 1 H x10) fun x11=>bnd (a8 x11) fun x12=>ax.L2 σ K y5 y7 y31 y32 y33 y47 y48 y49 x11 x12 (I 0) H)):ax.L1 σ K y5 y7 y31 y32 y33 y47 y48 y49 y60 y61 y62 H :=
 fun j=>lrd (g:=8071435709698801824) (Eq.mpr (by kernel_rfl) h)
theorem ax.L2_step {y5 y7 y31 y32 y33 y47 y48 y49 y60 y61 y62:AV} (h:bnd (af .lss y62 y61) fun x1=>ifB x1 (bnd (aR 3 y60 y62) fun x2=>bnd (ldA true 3 H x2) fun x3=>bg [.lit (.string ⟨#[]⟩),I 0,.lit (.string ⟨#[]⟩)] H fun x4 H5=>bnd (stA 3 H5 x4 x3) fun H6=>bnd (ldA true 5 H6 y7) fun x7=>bnd (ldA true 3 H6 x4) fun x8=>ai Tryz.prog σ iM [x7,x8] H6 fun x9 H10=>bnd (unR .not x9) fun x11=>ifB x11 (K (Bo false) H10) (bnd (af .add y62 (I 1)) fun x12=>ax.L2 σ K y5 y7 y31 y32 y33 y47 y48 y49 y60 y61 x12 H10)) (K (Bo true) H)):ax.L2 σ K y5 y7 y31 y32 y33 y47 y48 y49 y60 y61 y62 H :=
 fun j=>lrd (g:=8071435709698801824) (Eq.mpr (by kernel_rfl) h)
theorem ax.run {a0 a1 a2:AV} (h:eH a2 H fun x1 H2=>bnd (aq a0) fun x3=>bnd (ae x3 0) fun x4=>bnd (ldA false 1 H2 x4) fun x5=>ai Tryz.prog σ eR [x5,a1] H2 fun x6 H7=>bg [I 0,.lit (.string ⟨#[]⟩),.lit (.string ⟨#[]⟩),.lit (.slice none 0 0),.lit (.slice none 0 0)] H7 fun x8 H9=>bnd (stA 5 H9 x8 x6) fun H10=>bnd (ae x1 0) fun x11=>bnd (ldA false 1 H10 x11) fun x12=>bnd (af .neq x12 (.lit (.string ⟨#[]⟩))) fun x13=>ifB x13 (bnd (ae x1 0) fun x14=>bnd (ldA false 1 H10 x14) fun x15=>bnd (ae x8 1) fun x16=>bnd (ldA false 1 H10 x16) fun x17=>bnd (af .neq x15 x17) fun x18=>ifB x18 (K (Bo false) H10) (bnd (ae x1 1) fun x19=>bnd (ldA false 1 H10 x19) fun x20=>bnd (a8 x20) fun x21=>ax.L0 σ K x1 x8 x20 x21 (I 0) (.lit undef) (.lit undef) (.lit undef) (.lit undef) (.lit undef) (.lit undef) H10)) (bnd (ae x1 1) fun x22=>bnd (ldA false 1 H10 x22) fun x23=>bnd (a8 x23) fun x24=>ax.L0 σ K x1 x8 x23 x24 (I 0) (.lit undef) (.lit undef) (.lit undef) (.lit undef) (.lit undef) (.lit undef) H10)):∃ r H1,aE Tryz.prog σ eu [a0,a1,a2] H r H1∧K r H1 :=
 gwp 8071435709698801824 (fn:=Tryz.f74) (f:=eu) (c:=ax.code) (by kernel_rfl) (by kernel_rfl) (Eq.mpr (by kernel_rfl) h)
noncomputable def fS.code:Code:=aK Tryz.f75
theorem fS.run {a0 a1 a2 a3:AV} (h:eH a2 H fun x1 H2=>bnd (ae x1 0) fun x3=>bnd (ldA false 1 H2 x3) fun x4=>bnd (af .eql x4 (I 1)) fun x5=>ifB x5 (bnd (aq a0) fun x6=>bnd (ae x6 0) fun x7=>bnd (ldA false 1 H2 x7) fun x8=>ai Tryz.prog σ dA [x8,a1] H2 fun x9 H10=>bnd (af .lss x9 (I 0)) fun x11=>K x11 H10) (bnd (af .eql x4 (I 2)) fun x12=>ifB x12 (bnd (aq a0) fun x13=>bnd (ae x13 0) fun x14=>bnd (ldA false 1 H2 x14) fun x15=>ai Tryz.prog σ c9 [x15,a1] H2 fun x16 H17=>bnd (af .eql x16 (I 1)) fun x18=>K x18 H17) (bnd (af .eql x4 (I 3)) fun x19=>ifB x19 (ai Tryz.prog σ dW [a0,a1] H2 fun x20 H21=>K x20 H21) (bnd (af .eql x4 (I 4)) fun x22=>ifB x22 (bnd (aq a0) fun x23=>bnd (ae x23 0) fun x24=>bnd (ldA false 1 H2 x24) fun x25=>ai Tryz.prog σ c9 [x25,a1] H2 fun x26 H27=>bnd (af .eql x26 (I 1)) fun x28=>ifB x28 (ai Tryz.prog σ dW [a0,a1] H27 fun x29 H30=>K x29 H30) (K (Bo false) H27)) (bnd (af .eql x4 (I 5)) fun x31=>ifB x31 (bnd (aq a0) fun x32=>bnd (ae x32 0) fun x33=>bnd (ldA false 1 H2 x33) fun x34=>ai Tryz.prog σ eE [x34,a1,(I 0)] H2 fun x35 H36=>bnd (af .lss x35 (I 0)) fun x37=>K x37 H36) (bnd (af .eql x4 (I 6)) fun x38=>ifB x38 (bnd (aq a0) fun x39=>bnd (ae x39 0) fun x40=>bnd (ldA false 1 H2 x40) fun x41=>ai Tryz.prog σ c9 [x41,a1] H2 fun x42 H43=>bnd (ae x1 1) fun x44=>kpK (x44,some 1) H2 H43 (bnd (ldA false 1 H43 x44) fun x45=>bnd (ae x1 2) fun x46=>kpK (x46,some 1) H2 H43 (bnd (ldA false 1 H43 x46) fun x47=>ai Tryz.prog σ ju [x42,x45,x47] H43 fun x48 H49=>K x48 H49))) (bnd (af .eql x4 (I 7)) fun x50=>ifB x50 (ai Tryz.prog σ dx [a0,a1,a3] H2 fun x51 H52=>bnd (unR .not x51) fun x53=>K x53 H52) (bnd (af .eql x4 (I 8)) fun x54=>ifB x54 (ai Tryz.prog σ dx [a0,a1,a3] H2 fun x55 H56=>K x55 H56) (K (Bo false) H2))))))))):∃ r H1,aE Tryz.prog σ d7 [a0,a1,a2,a3] H r H1∧K r H1 :=
 gwp 0 (fn:=Tryz.f75) (f:=d7) (c:=fS.code) (by kernel_rfl) (by kernel_rfl) (Eq.mpr (by kernel_rfl) h)
noncomputable def aP.code:Code:=aK Tryz.f76
noncomputable def aP.J0 (σ:Sig) (K:AV→Hp→Prop) (y0 y1 y2 y8 y9 y20:AV) (H:Hp):Prop:=∀ j:Nat→AV,wp (CZ σ) 1049351 (sR (bB (sR (sL (sR aP.code))))) [y0,y1,y2,j 3,j 4,j 5,j 6,j 7,y8,y9,j 10,j 11,j 12,j 13,j 14,j 15,j 16,j 17,j 18,j 19,y20,j 21,j 22,j 23,j 24,j 25,j 26,j 27,j 28,j 29,j 30] H (fun e T G=>(nx (fQ Tryz.f76 σ K) fun T G=>wp (CZ σ) 1049351 (sR (sR aP.code)) T G (fQ Tryz.f76 σ K)) (av 0 e) T G)
noncomputable def aP.J1 (σ:Sig) (K:AV→Hp→Prop) (y0 y1 y2 y8 y9 y20:AV) (H:Hp):Prop:=∀ j:Nat→AV,wp (CZ σ) 1049351 (sR (cE (sR (bB (sR (sL (sR aP.code))))))) [y0,y1,y2,j 3,j 4,j 5,j 6,j 7,y8,y9,j 10,j 11,j 12,j 13,j 14,j 15,j 16,j 17,j 18,j 19,y20,j 21,j 22,j 23,j 24,j 25,j 26,j 27,j 28,j 29,j 30] H (fun e T G=>(nx (fQ Tryz.f76 σ K) fun T G=>wp (CZ σ) 1049351 (sR (sR aP.code)) T G (fQ Tryz.f76 σ K)) (av 0 e) T G)
theorem aP.J0_step {y0 y1 y2 y8 y9 y20:AV} (h:ifB y9 (bnd (aq y0) fun x1=>bnd (ae x1 0) fun x2=>bnd (ldA false 1 H x2) fun x3=>ai Tryz.prog σ dA [x3,y1] H fun x4 H5=>bnd (af .eql y2 (I 1)) fun x6=>K (.tup [x4,x6]) H5) (bnd (af .eql y8 (I 3)) fun x7=>ifB x7 (aP.J1 σ K y0 y1 y2 y8 y9 x7 H) (bnd (af .eql y8 (I 4)) fun x8=>aP.J1 σ K y0 y1 y2 y8 y9 x8 H))):aP.J0 σ K y0 y1 y2 y8 y9 y20 H :=
 fun j=>Eq.mpr (by kernel_rfl) h
theorem aP.J1_step {y0 y1 y2 y8 y9 y20:AV} (h:ifB y20 (bnd (aq y0) fun x1=>bnd (ae x1 0) fun x2=>bnd (ldA false 1 H x2) fun x3=>ai Tryz.prog σ fc [x3,y1] H fun x4 H5=>bnd (af .eql y2 (I 4)) fun x6=>K (.tup [x4,x6]) H5) (K (.tup [(I (-1)),(Bo false)]) H)):aP.J1 σ K y0 y1 y2 y8 y9 y20 H :=
 fun j=>Eq.mpr (by kernel_rfl) h
theorem aP.run {a0 a1 a2:AV} (h:bnd (af .eql a2 (I 1)) fun x1=>ifB x1 (aP.J0 σ K a0 a1 a2 a2 x1 (.lit undef) H) (bnd (af .eql a2 (I 2)) fun x2=>aP.J0 σ K a0 a1 a2 a2 x2 (.lit undef) H)):∃ r H1,aE Tryz.prog σ d9 [a0,a1,a2] H r H1∧K r H1 :=
 gwp 1049351 (fn:=Tryz.f76) (f:=d9) (c:=aP.code) (by kernel_rfl) (by kernel_rfl) (Eq.mpr (by kernel_rfl) h)
noncomputable def fE.code:Code:=aK Tryz.f77
theorem fE.run {a0 a1 a2 a3 a4:AV} (h:bnd (ldA false 1 H a0) fun x1=>bnd (ldA false 1 H a1) fun x2=>bnd (ldA false 1 H a2) fun x3=>bnd (af .sub x3 (I 1)) fun x4=>bnd (ldA false 1 H a3) fun x5=>ai Tryz.prog σ dc [x1,x2,x4,x5] H fun x6 H7=>ifB x6 (K (Bo true) H7) (bnd (ldA false 1 H7 a4) fun x8=>ifB x8 (bnd (ldA false 1 H7 a0) fun x9=>bnd (ldA false 1 H7 a1) fun x10=>bnd (ldA false 1 H7 a2) fun x11=>bnd (ldA false 1 H7 a3) fun x12=>ai Tryz.prog σ cV [x9,x10,x11,x12] H7 fun x13 H14=>K x13 H14) (K (Bo false) H7))):∃ r H1,aE Tryz.prog σ eY [a0,a1,a2,a3,a4] H r H1∧K r H1 :=
 gwp 0 (fn:=Tryz.f77) (f:=eY) (c:=fE.code) (by kernel_rfl) (by kernel_rfl) (Eq.mpr (by kernel_rfl) h)
noncomputable def cA.code:Code:=aK Tryz.f83
theorem cA.run {a0:AV} (h:bnd (oK .eql a0 (.lit (.slice none 0 0))) fun x1=>ifB x1 (K (.lit (.slice none 0 0)) H) (bnd (ar [.string ⟨#[]⟩] 1 0 H []) fun p2=>bnd (aW false 1 16 p2.2 p2.1 a0) fun p3=>K p3.1 p3.2)):∃ r H1,aE Tryz.prog σ bu [a0] H r H1∧K r H1 :=
 gwp 0 (fn:=Tryz.f83) (f:=bu) (c:=cA.code) (by kernel_rfl) (by kernel_rfl) (Eq.mpr (by kernel_rfl) h)
noncomputable def b8.code:Code:=aK Tryz.f84
theorem b8.run {a0:AV} (h:bnd (oK .eql a0 (.lit (.slice none 0 0))) fun x1=>ifB x1 (K (.lit (.slice none 0 0)) H) (bnd (ar [.string ⟨#[]⟩,.string ⟨#[]⟩] 2 0 H []) fun p2=>bnd (aW false 2 32 p2.2 p2.1 a0) fun p3=>K p3.1 p3.2)):∃ r H1,aE Tryz.prog σ bH [a0] H r H1∧K r H1 :=
 gwp 0 (fn:=Tryz.f84) (f:=bH) (c:=b8.code) (by kernel_rfl) (by kernel_rfl) (Eq.mpr (by kernel_rfl) h)
noncomputable def gk.code:Code:=aK Tryz.f85
theorem gk.run {a0 a1 a2:AV} (h:ai Tryz.prog σ aH [a0,a1] H fun x1 H2=>bnd (dz false 0 1 x1) fun x3=>bnd (af .eql x3 (I 10)) fun x4=>ifB x4 (ai Tryz.prog σ aH [a0,a1] H2 fun x5 H6=>bnd (dz false 4 1 x5) fun x7=>bnd (af .eql x7 a2) fun x8=>K x8 H6) (K (Bo false) H2)):∃ r H1,aE Tryz.prog σ bP [a0,a1,a2] H r H1∧K r H1 :=
 gwp 0 (fn:=Tryz.f85) (f:=bP) (c:=gk.code) (by kernel_rfl) (by kernel_rfl) (Eq.mpr (by kernel_rfl) h)
noncomputable def am.code:Code:=aK Tryz.f86
noncomputable def am.Q0 (σ:Sig) (K:AV→Hp→Prop):Exit→List AV→Hp→Prop:=(nx (fQ Tryz.f86 σ K) fun T G=>∀ j,wp (CZ σ) 125 (sR (sR (sR (sR (sR (sR (sR (sR (sR am.code))))))))) (dw 125 j 0 T) G (fQ Tryz.f86 σ K))
noncomputable def am.Q1 (σ:Sig) (K:AV→Hp→Prop):Exit→List AV→Hp→Prop:=(nx (am.Q0 σ K) fun T G=>wp (CZ σ) 125 (sR (sR (cT (sR (cE (sR (sL (sR (sR (sR (sR (sR (sR (sR (sR am.code))))))))))))))) T G (am.Q0 σ K))
noncomputable def am.J0 (σ:Sig) (K:AV→Hp→Prop) (y0 y2 y3 y4 y5 y6:AV) (H:Hp):Prop:=∀ j:Nat→AV,wp (CZ σ) 125 (sR (sR (sR (sR (sR (sR (sR (sR (sR am.code))))))))) [y0,j 1,y2,y3,y4,y5,y6,j 7,j 8,j 9,j 10,j 11,j 12,j 13,j 14,j 15,j 16,j 17,j 18,j 19,j 20,j 21,j 22,j 23,j 24,j 25,j 26,j 27,j 28,j 29,j 30,j 31,j 32,j 33,j 34,j 35,j 36,j 37,j 38,j 39,j 40,j 41,j 42,j 43,j 44,j 45,j 46,j 47,j 48,j 49,j 50,j 51,j 52,j 53,j 54,j 55,j 56,j 57,j 58,j 59,j 60,j 61,j 62,j 63,j 64,j 65,j 66,j 67,j 68,j 69,j 70,j 71,j 72,j 73,j 74,j 75,j 76,j 77,j 78,j 79,j 80,j 81,j 82,j 83,j 84,j 85,j 86,j 87,j 88,j 89,j 90,j 91,j 92,j 93,j 94,j 95,j 96,j 97,j 98,j 99,j 100,j 101,j 102,j 103,j 104,j 105,j 106,j 107,j 108,j 109,j 110,j 111,j 112,j 113,j 114,j 115,j 116,j 117,j 118,j 119,j 120,j 121,j 122,j 123,j 124,j 125,j 126,j 127,j 128,j 129,j 130,j 131,j 132,j 133,j 134,j 135,j 136,j 137,j 138,j 139,j 140,j 141,j 142,j 143] H (fQ Tryz.f86 σ K)
noncomputable def am.L1 (σ:Sig) (K:AV→Hp→Prop) (y0 y2 y3 y4 y5 y6:AV) (H:Hp):Prop:=∀ j:Nat→AV,bj (CZ σ) (lB (bB (sR (sL (sR (cT (sR (cE (sR (sL (sR (sR (sR (sR (sR (sR (sR (sR am.code)))))))))))))))))) [y0,j 1,y2,y3,y4,y5,y6,j 7,j 8,j 9,j 10,j 11,j 12,j 13,j 14,j 15,j 16,j 17,j 18,j 19,j 20,j 21,j 22,j 23,j 24,j 25,j 26,j 27,j 28,j 29,j 30,j 31,j 32,j 33,j 34,j 35,j 36,j 37,j 38,j 39,j 40,j 41,j 42,j 43,j 44,j 45,j 46,j 47,j 48,j 49,j 50,j 51,j 52,j 53,j 54,j 55,j 56,j 57,j 58,j 59,j 60,j 61,j 62,j 63,j 64,j 65,j 66,j 67,j 68,j 69,j 70,j 71,j 72,j 73,j 74,j 75,j 76,j 77,j 78,j 79,j 80,j 81,j 82,j 83,j 84,j 85,j 86,j 87,j 88,j 89,j 90,j 91,j 92,j 93,j 94,j 95,j 96,j 97,j 98,j 99,j 100,j 101,j 102,j 103,j 104,j 105,j 106,j 107,j 108,j 109,j 110,j 111,j 112,j 113,j 114,j 115,j 116,j 117,j 118,j 119,j 120,j 121,j 122,j 123,j 124,j 125,j 126,j 127,j 128,j 129,j 130,j 131,j 132,j 133,j 134,j 135,j 136,j 137,j 138,j 139,j 140,j 141,j 142,j 143] H (fun e T G=>(am.Q1 σ K) (av 0 e) T G)
noncomputable def am.J2 (σ:Sig) (K:AV→Hp→Prop) (y0 y2 y3 y4 y5 y6:AV) (H:Hp):Prop:=∀ j:Nat→AV,wp (CZ σ) 125 (sR (sR (sR (sR (sR (sR (sR (sR (sR (sR (sR (sR (sR (sR (sR (sR (sR am.code))))))))))))))))) [y0,j 1,y2,y3,y4,y5,y6,j 7,j 8,j 9,j 10,j 11,j 12,j 13,j 14,j 15,j 16,j 17,j 18,j 19,j 20,j 21,j 22,j 23,j 24,j 25,j 26,j 27,j 28,j 29,j 30,j 31,j 32,j 33,j 34,j 35,j 36,j 37,j 38,j 39,j 40,j 41,j 42,j 43,j 44,j 45,j 46,j 47,j 48,j 49,j 50,j 51,j 52,j 53,j 54,j 55,j 56,j 57,j 58,j 59,j 60,j 61,j 62,j 63,j 64,j 65,j 66,j 67,j 68,j 69,j 70,j 71,j 72,j 73,j 74,j 75,j 76,j 77,j 78,j 79,j 80,j 81,j 82,j 83,j 84,j 85,j 86,j 87,j 88,j 89,j 90,j 91,j 92,j 93,j 94,j 95,j 96,j 97,j 98,j 99,j 100,j 101,j 102,j 103,j 104,j 105,j 106,j 107,j 108,j 109,j 110,j 111,j 112,j 113,j 114,j 115,j 116,j 117,j 118,j 119,j 120,j 121,j 122,j 123,j 124,j 125,j 126,j 127,j 128,j 129,j 130,j 131,j 132,j 133,j 134,j 135,j 136,j 137,j 138,j 139,j 140,j 141,j 142,j 143] H (fQ Tryz.f86 σ K)
noncomputable def am.J3 (σ:Sig) (K:AV→Hp→Prop) (y0 y2 y3 y4 y5 y6:AV) (H:Hp):Prop:=∀ j:Nat→AV,wp (CZ σ) 125 (sR (sR (lB (bB (sR (sL (sR (cT (sR (cE (sR (sL (sR (sR (sR (sR (sR (sR (sR (sR am.code)))))))))))))))))))) [y0,j 1,y2,y3,y4,y5,y6,j 7,j 8,j 9,j 10,j 11,j 12,j 13,j 14,j 15,j 16,j 17,j 18,j 19,j 20,j 21,j 22,j 23,j 24,j 25,j 26,j 27,j 28,j 29,j 30,j 31,j 32,j 33,j 34,j 35,j 36,j 37,j 38,j 39,j 40,j 41,j 42,j 43,j 44,j 45,j 46,j 47,j 48,j 49,j 50,j 51,j 52,j 53,j 54,j 55,j 56,j 57,j 58,j 59,j 60,j 61,j 62,j 63,j 64,j 65,j 66,j 67,j 68,j 69,j 70,j 71,j 72,j 73,j 74,j 75,j 76,j 77,j 78,j 79,j 80,j 81,j 82,j 83,j 84,j 85,j 86,j 87,j 88,j 89,j 90,j 91,j 92,j 93,j 94,j 95,j 96,j 97,j 98,j 99,j 100,j 101,j 102,j 103,j 104,j 105,j 106,j 107,j 108,j 109,j 110,j 111,j 112,j 113,j 114,j 115,j 116,j 117,j 118,j 119,j 120,j 121,j 122,j 123,j 124,j 125,j 126,j 127,j 128,j 129,j 130,j 131,j 132,j 133,j 134,j 135,j 136,j 137,j 138,j 139,j 140,j 141,j 142,j 143] H (nx (fun e T G=>(am.Q1 σ K) (av 0 e) T G) fun T G=>∀ j,bj (CZ σ) (lB (bB (sR (sL (sR (cT (sR (cE (sR (sL (sR (sR (sR (sR (sR (sR (sR (sR am.code)))))))))))))))))) (dw 125 j 0 T) G (fun e T G=>(am.Q1 σ K) (av 0 e) T G))
theorem am.J0_step {y0 y2 y3 y4 y5 y6:AV} (h:bnd (ae y3 1) fun x1=>bnd (ldA false 1 H x1) fun x2=>bnd (af .eql x2 (I 0)) fun x3=>ifB x3 (bnd (aq y0) fun x4=>bnd (ae x4 2) fun x5=>bnd (stA 1 H x5 (Bo true)) fun H6=>bnd (ldA true 3 H6 y3) fun x7=>bnd (stA 3 H6 y2 x7) fun H8=>bnd (ldA true 3 H8 y2) fun r9=>K r9 H8) (ai Tryz.prog σ bn [y0] H fun x10 H11=>ai Tryz.prog σ aH [y0,(I 0)] H11 fun x12 H13=>bnd (dz false 0 1 x12) fun x14=>ai Tryz.prog σ aH [y0,(I 0)] H13 fun x15 H16=>bnd (dz false 1 1 x15) fun x17=>bnd (ae y3 2) fun x18=>bnd (stA 1 H16 x18 x17) fun H19=>bnd (af .neq x14 (I 1)) fun x20=>ifB x20 (bnd (af .neq x14 (I 4)) fun x21=>ifB x21 (bnd (aq y0) fun x22=>bnd (ae x22 2) fun x23=>bnd (stA 1 H19 x23 (Bo true)) fun H24=>bnd (ldA true 3 H24 y3) fun x25=>bnd (stA 3 H24 y2 x25) fun H26=>bnd (ldA true 3 H26 y2) fun r27=>K r27 H26) (bnd (aq y0) fun x28=>bnd (ae x28 1) fun x29=>bnd (ldA false 1 H19 x29) fun x30=>bnd (af .add x30 (I 1)) fun x31=>bnd (aq y0) fun x32=>bnd (ae x32 1) fun x33=>bnd (stA 1 H19 x33 x31) fun H34=>ai Tryz.prog σ bn [y0] H34 fun x35 H36=>ai Tryz.prog σ aH [y0,(I 0)] H36 fun x37 H38=>bnd (dz false 0 1 x37) fun x39=>bnd (af .neq x39 (I 19)) fun x40=>ifB x40 (bnd (aq y0) fun x41=>bnd (ae x41 2) fun x42=>bnd (stA 1 H38 x42 (Bo true)) fun H43=>am.J2 σ K y0 y2 y3 y4 y5 y6 H43) (am.J2 σ K y0 y2 y3 y4 y5 y6 H38))) (bnd (aq y0) fun x44=>bnd (ae x44 1) fun x45=>bnd (ldA false 1 H19 x45) fun x46=>bnd (af .add x46 (I 1)) fun x47=>bnd (aq y0) fun x48=>bnd (ae x48 1) fun x49=>bnd (stA 1 H19 x49 x47) fun H50=>ai Tryz.prog σ bn [y0] H50 fun x51 H52=>ai Tryz.prog σ aH [y0,(I 0)] H52 fun x53 H54=>bnd (dz false 0 1 x53) fun x55=>bnd (af .neq x55 (I 19)) fun x56=>ifB x56 (bnd (aq y0) fun x57=>bnd (ae x57 2) fun x58=>bnd (stA 1 H54 x58 (Bo true)) fun H59=>am.J2 σ K y0 y2 y3 y4 y5 y6 H59) (am.J2 σ K y0 y2 y3 y4 y5 y6 H54)))):am.J0 σ K y0 y2 y3 y4 y5 y6 H :=
 fun j=>Eq.mpr (by kernel_rfl) h
theorem am.L1_step {y0 y2 y3 y4 y5 y6:AV} (h:bnd (a8 y5) fun x1=>bnd (af .lss y6 x1) fun x2=>ifB x2 (bnd (aR 1 y5 y6) fun x3=>bnd (ldA false 1 H x3) fun x4=>bnd (ae y4 4) fun x5=>bnd (ldA false 1 H x5) fun x6=>bnd (af .eql x4 x6) fun x7=>ifB x7 (bnd (af .add (I 2) y6) fun x8=>bnd (ae y3 1) fun x9=>bnd (stA 1 H x9 x8) fun H10=>am.J3 σ K y0 y2 y3 y4 y5 y6 H10) (am.J3 σ K y0 y2 y3 y4 y5 y6 H)) (bnd (aq y0) fun x11=>bnd (ae x11 1) fun x12=>bnd (ldA false 1 H x12) fun x13=>bnd (af .add x13 (I 2)) fun x14=>bnd (aq y0) fun x15=>bnd (ae x15 1) fun x16=>bnd (stA 1 H x16 x14) fun H17=>am.J0 σ K y0 y2 y3 y4 y5 y6 H17)):am.L1 σ K y0 y2 y3 y4 y5 y6 H :=
 fun j=>lrd (g:=125) (Eq.mpr (by kernel_rfl) h)
theorem am.J2_step {y0 y2 y3 y4 y5 y6:AV} (h:bnd (aq y0) fun x1=>bnd (ae x1 1) fun x2=>bnd (ldA false 1 H x2) fun x3=>bnd (af .add x3 (I 1)) fun x4=>bnd (aq y0) fun x5=>bnd (ae x5 1) fun x6=>bnd (stA 1 H x6 x4) fun H7=>bnd (ldA true 3 H7 y3) fun x8=>bnd (stA 3 H7 y2 x8) fun H9=>bnd (ldA true 3 H9 y2) fun r10=>K r10 H9):am.J2 σ K y0 y2 y3 y4 y5 y6 H :=
 fun j=>Eq.mpr (by kernel_rfl) h
theorem am.J3_step {y0 y2 y3 y4 y5 y6:AV} (h:bnd (af .add y6 (I 1)) fun x1=>am.L1 σ K y0 y2 y3 y4 y5 x1 H):am.J3 σ K y0 y2 y3 y4 y5 y6 H :=
 fun j=>Eq.mpr (by kernel_rfl) h
theorem am.run {a0:AV} (h:bg [.lit (.string ⟨#[]⟩),I 0,.lit (.string ⟨#[]⟩)] H fun x1 H2=>ai Tryz.prog σ bn [a0] H2 fun x3 H4=>ai Tryz.prog σ aH [a0,(I 0)] H4 fun x5 H6=>bnd (dz false 1 1 x5) fun x7=>ai Tryz.prog σ dJ [x7] H6 fun x8 H9=>bnd (aT [.lit (.string ⟨#[]⟩),I 0,.lit (.string ⟨#[]⟩)] [(0,1,x8)]) fun l10=>bg [.lit (.string ⟨#[]⟩),I 0,.lit (.string ⟨#[]⟩)] H9 fun x11 H12=>bnd (stA 3 H12 x11 (.agg l10)) fun H13=>ai Tryz.prog σ aH [a0,(I 0)] H13 fun x14 H15=>bnd (dz false 0 1 x14) fun x16=>bnd (af .neq x16 (I 1)) fun x17=>ifB x17 (bnd (aq a0) fun x18=>bnd (ae x18 2) fun x19=>bnd (stA 1 H15 x19 (Bo true)) fun H20=>bnd (ldA true 3 H20 x11) fun x21=>bnd (stA 3 H20 x1 x21) fun H22=>bnd (ldA true 3 H22 x1) fun r23=>K r23 H22) (bnd (aq a0) fun x24=>bnd (ae x24 1) fun x25=>bnd (ldA false 1 H15 x25) fun x26=>bnd (af .add x26 (I 1)) fun x27=>bnd (aq a0) fun x28=>bnd (ae x28 1) fun x29=>bnd (stA 1 H15 x29 x27) fun H30=>ai Tryz.prog σ bn [a0] H30 fun x31 H32=>ai Tryz.prog σ aH [a0,(I 0)] H32 fun x33 H34=>bnd (dz false 0 1 x33) fun x35=>bnd (af .eql x35 (I 19)) fun x36=>ifB x36 (bnd (aq a0) fun x37=>bnd (ae x37 1) fun x38=>bnd (ldA false 1 H34 x38) fun x39=>bnd (af .add x39 (I 1)) fun x40=>bnd (aq a0) fun x41=>bnd (ae x41 1) fun x42=>bnd (stA 1 H34 x42 x40) fun H43=>bnd (ldA true 3 H43 x11) fun x44=>bnd (stA 3 H43 x1 x44) fun H45=>bnd (ldA true 3 H45 x1) fun r46=>K r46 H45) (ai Tryz.prog σ aH [a0,(I 0)] H34 fun x47 H48=>bg [I 0,.lit (.string ⟨#[]⟩),I 0,Bo false,I 0] H48 fun x49 H50=>bnd (stA 5 H50 x49 x47) fun H51=>bnd (ae x49 0) fun x52=>bnd (ldA false 1 H51 x52) fun x53=>bnd (af .eql x53 (I 10)) fun x54=>ifB x54 (bnd (ae x49 4) fun x55=>bnd (ldA false 1 H51 x55) fun x56=>bnd (af .eql x56 (I 61)) fun x57=>ifB x57 (bnd (ae x11 1) fun x58=>bnd (stA 1 H51 x58 (I 1)) fun H59=>bnd (aq a0) fun x60=>bnd (ae x60 1) fun x61=>bnd (ldA false 1 H59 x61) fun x62=>bnd (af .add x62 (I 1)) fun x63=>bnd (aq a0) fun x64=>bnd (ae x64 1) fun x65=>bnd (stA 1 H59 x65 x63) fun H66=>am.J0 σ K a0 x1 x11 x49 (.lit undef) (.lit undef) H66) (bnd (ae x49 0) fun x67=>bnd (ldA false 1 H51 x67) fun x68=>bnd (af .eql x68 (I 10)) fun x69=>ifB x69 (ai Tryz.prog σ bP [a0,(I 1),(I 61)] H51 fun x70 H71=>ifB x70 (bnd (ar [.int .i64 0] 1 5 H71 [(0,1,(I 126)),(1,1,(I 124)),(2,1,(I 94)),(3,1,(I 36)),(4,1,(I 42))]) fun p72=>am.L1 σ K a0 x1 x11 x49 p72.1 (I 0) p72.2) (am.J0 σ K a0 x1 x11 x49 (.lit undef) (.lit undef) H71)) (am.J0 σ K a0 x1 x11 x49 (.lit undef) (.lit undef) H51))) (bnd (ae x49 0) fun x73=>bnd (ldA false 1 H51 x73) fun x74=>bnd (af .eql x74 (I 10)) fun x75=>ifB x75 (ai Tryz.prog σ bP [a0,(I 1),(I 61)] H51 fun x76 H77=>ifB x76 (bnd (ar [.int .i64 0] 1 5 H77 [(0,1,(I 126)),(1,1,(I 124)),(2,1,(I 94)),(3,1,(I 36)),(4,1,(I 42))]) fun p78=>am.L1 σ K a0 x1 x11 x49 p78.1 (I 0) p78.2) (am.J0 σ K a0 x1 x11 x49 (.lit undef) (.lit undef) H77)) (am.J0 σ K a0 x1 x11 x49 (.lit undef) (.lit undef) H51))))):∃ r H1,aE Tryz.prog σ da [a0] H r H1∧K r H1 :=
 gwp 125 (fn:=Tryz.f86) (f:=da) (c:=am.code) (by kernel_rfl) (by kernel_rfl) (Eq.mpr (by kernel_rfl) h)
noncomputable def aJ.code:Code:=aK Tryz.f87
noncomputable def aJ.J0 (σ:Sig) (K:AV→Hp→Prop) (y0 y2 y4 y7 y49:AV) (H:Hp):Prop:=∀ j:Nat→AV,wp (CZ σ) 562949953421461 (sR (cE (sR (bB (sR (sL (sR (sR (sR (sR (sR (sR aJ.code)))))))))))) [y0,j 1,y2,j 3,y4,j 5,j 6,y7,j 8,j 9,j 10,j 11,j 12,j 13,j 14,j 15,j 16,j 17,j 18,j 19,j 20,j 21,j 22,j 23,j 24,j 25,j 26,j 27,j 28,j 29,j 30,j 31,j 32,j 33,j 34,j 35,j 36,j 37,j 38,j 39,j 40,j 41,j 42,j 43,j 44,j 45,j 46,j 47,j 48,y49,j 50,j 51,j 52,j 53,j 54,j 55,j 56,j 57,j 58,j 59,j 60,j 61,j 62,j 63] H (fun e T G=>(nx (fQ Tryz.f87 σ K) fun T G=>wp (CZ σ) 562949953421461 (sR (sR (sR (sR (sR (sR (sR aJ.code))))))) T G (fQ Tryz.f87 σ K)) (av 0 e) T G)
noncomputable def aJ.J1 (σ:Sig) (K:AV→Hp→Prop) (y0 y2 y4 y7 y49:AV) (H:Hp):Prop:=∀ j:Nat→AV,wp (CZ σ) 562949953421461 (sR (sR (cT (sR (cE (sR (bB (sR (sL (sR (sR (sR (sR (sR (sR aJ.code))))))))))))))) [y0,j 1,y2,j 3,y4,j 5,j 6,y7,j 8,j 9,j 10,j 11,j 12,j 13,j 14,j 15,j 16,j 17,j 18,j 19,j 20,j 21,j 22,j 23,j 24,j 25,j 26,j 27,j 28,j 29,j 30,j 31,j 32,j 33,j 34,j 35,j 36,j 37,j 38,j 39,j 40,j 41,j 42,j 43,j 44,j 45,j 46,j 47,j 48,y49,j 50,j 51,j 52,j 53,j 54,j 55,j 56,j 57,j 58,j 59,j 60,j 61,j 62,j 63] H (fun e T G=>(nx (fQ Tryz.f87 σ K) fun T G=>wp (CZ σ) 562949953421461 (sR (sR (sR (sR (sR (sR (sR aJ.code))))))) T G (fQ Tryz.f87 σ K)) (av 0 e) T G)
theorem aJ.J0_step {y0 y2 y4 y7 y49:AV} (h:ifB y49 (bnd (aT [I 0,I 0,I 0,.lit (.slice none 0 0)] [(0,1,(I 7))]) fun l1=>bg [I 0,I 0,I 0,.lit (.slice none 0 0)] H fun x2 H3=>bnd (stA 4 H3 x2 (.agg l1)) fun H4=>bnd (af .eql y4 (.lit (.string ⟨#[105,115]⟩))) fun x5=>ifB x5 (bnd (ae x2 0) fun x6=>bnd (stA 1 H4 x6 (I 8)) fun H7=>aJ.J1 σ K y0 y2 y4 x2 y49 H7) (aJ.J1 σ K y0 y2 y4 x2 y49 H4)) (bnd (aq y0) fun x8=>bnd (ae x8 2) fun x9=>bnd (stA 1 H x9 (Bo true)) fun H10=>bnd (aT [I 0,I 0,I 0,.lit (.slice none 0 0)] []) fun l11=>bnd (stA 4 H10 y2 (.agg l11)) fun H12=>bnd (ldA true 4 H12 y2) fun r13=>K r13 H12)):aJ.J0 σ K y0 y2 y4 y7 y49 H :=
 fun j=>Eq.mpr (by kernel_rfl) h
theorem aJ.J1_step {y0 y2 y4 y7 y49:AV} (h:ai Tryz.prog σ ev [y0] H fun x1 H2=>bnd (ae y7 3) fun x3=>bnd (stA 1 H2 x3 x1) fun H4=>bnd (ldA true 4 H4 y7) fun x5=>bnd (stA 4 H4 y2 x5) fun H6=>bnd (ldA true 4 H6 y2) fun r7=>K r7 H6):aJ.J1 σ K y0 y2 y4 y7 y49 H :=
 fun j=>Eq.mpr (by kernel_rfl) h
theorem aJ.run {a0:AV} (h:bg [I 0,I 0,I 0,.lit (.slice none 0 0)] H fun x1 H2=>ai Tryz.prog σ aH [a0,(I 0)] H2 fun x3 H4=>bg [I 0,.lit (.string ⟨#[]⟩),I 0,Bo false,I 0] H4 fun x5 H6=>bnd (stA 5 H6 x5 x3) fun H7=>bnd (aq a0) fun x8=>bnd (ae x8 1) fun x9=>bnd (ldA false 1 H7 x9) fun x10=>bnd (af .add x10 (I 1)) fun x11=>bnd (aq a0) fun x12=>bnd (ae x12 1) fun x13=>bnd (stA 1 H7 x13 x11) fun H14=>bnd (ae x5 1) fun x15=>bnd (ldA false 1 H14 x15) fun x16=>ai Tryz.prog σ dJ [x16] H14 fun x17 H18=>bnd (ae x5 0) fun x19=>bnd (ldA false 1 H18 x19) fun x20=>bnd (af .eql x20 (I 1)) fun x21=>ifB x21 (bnd (ar [.string ⟨#[]⟩] 1 5 H18 [(0,1,(.lit (.string ⟨#[114,111,111,116]⟩))),(1,1,(.lit (.string ⟨#[102,105,114,115,116,45,99,104,105,108,100]⟩))),(2,1,(.lit (.string ⟨#[108,97,115,116,45,99,104,105,108,100]⟩))),(3,1,(.lit (.string ⟨#[111,110,108,121,45,99,104,105,108,100]⟩))),(4,1,(.lit (.string ⟨#[101,109,112,116,121]⟩)))]) fun p22=>ai Tryz.prog σ jq [x17,p22.1] p22.2 fun x23 H24=>bnd (exR x23 0) fun x25=>bnd (exR x23 1) fun x26=>ifB x26 (bnd (af .add (I 1) x25) fun x27=>bnd (aT [I 0,I 0,I 0,.lit (.slice none 0 0)] [(0,1,x27)]) fun l28=>bnd (stA 4 H24 x1 (.agg l28)) fun H29=>bnd (ldA true 4 H29 x1) fun r30=>K r30 H29) (bnd (aq a0) fun x31=>bnd (ae x31 2) fun x32=>bnd (stA 1 H24 x32 (Bo true)) fun H33=>bnd (aT [I 0,I 0,I 0,.lit (.slice none 0 0)] []) fun l34=>bnd (stA 4 H33 x1 (.agg l34)) fun H35=>bnd (ldA true 4 H35 x1) fun r36=>K r36 H35)) (bnd (ae x5 0) fun x37=>bnd (ldA false 1 H18 x37) fun x38=>bnd (af .neq x38 (I 20)) fun x39=>ifB x39 (bnd (aq a0) fun x40=>bnd (ae x40 2) fun x41=>bnd (stA 1 H18 x41 (Bo true)) fun H42=>bnd (aT [I 0,I 0,I 0,.lit (.slice none 0 0)] []) fun l43=>bnd (stA 4 H42 x1 (.agg l43)) fun H44=>bnd (ldA true 4 H44 x1) fun r45=>K r45 H44) (bnd (af .eql x17 (.lit (.string ⟨#[110,116,104,45,99,104,105,108,100]⟩))) fun x46=>ifB x46 (ai Tryz.prog σ fd [a0] H18 fun x47 H48=>bnd (stA 4 H48 x1 x47) fun H49=>bnd (ldA true 4 H49 x1) fun r50=>K r50 H49) (bnd (af .eql x17 (.lit (.string ⟨#[110,111,116]⟩))) fun x51=>ifB x51 (aJ.J0 σ K a0 x1 x17 (.lit undef) x51 H18) (bnd (af .eql x17 (.lit (.string ⟨#[105,115]⟩))) fun x52=>aJ.J0 σ K a0 x1 x17 (.lit undef) x52 H18))))):∃ r H1,aE Tryz.prog σ cO [a0] H r H1∧K r H1 :=
 gwp 562949953421461 (fn:=Tryz.f87) (f:=cO) (c:=aJ.code) (by kernel_rfl) (by kernel_rfl) (Eq.mpr (by kernel_rfl) h)
noncomputable def jF.code:Code:=aK Tryz.f88
theorem jF.run {a0 a1:AV} (h:bg [I 0,.lit (.string ⟨#[]⟩),.lit (.string ⟨#[]⟩),.lit (.slice none 0 0),.lit (.slice none 0 0)] H fun x1 H2=>ai Tryz.prog σ dO [a0,a1] H2 fun x3 H4=>bnd (dz true 0 5 x3) fun x5=>bnd (stA 5 H4 x1 x5) fun H6=>bnd (ldA true 5 H6 x1) fun r7=>K r7 H6):∃ r H1,aE Tryz.prog σ eR [a0,a1] H r H1∧K r H1 :=
 gwp 0 (fn:=Tryz.f88) (f:=eR) (c:=jF.code) (by kernel_rfl) (by kernel_rfl) (Eq.mpr (by kernel_rfl) h)
noncomputable def dQ.code:Code:=aK Tryz.f89
noncomputable def dQ.L0 (σ:Sig) (K:AV→Hp→Prop) (y1 y7 y8 y9:AV) (H:Hp):Prop:=∀ j:Nat→AV,bj (CZ σ) (lB (bB (sR (sL (sR dQ.code))))) [j 0,y1,j 2,j 3,j 4,j 5,j 6,y7,y8,y9,j 10,j 11,j 12,j 13,j 14,j 15,j 16] H (fun e T G=>(nx (fQ Tryz.f89 σ K) fun T G=>wp (CZ σ) 898 (sR (sR dQ.code)) T G (fQ Tryz.f89 σ K)) (av 0 e) T G)
theorem dQ.L0_step {y1 y7 y8 y9:AV} (h:bnd (af .lss y9 y8) fun x1=>ifB x1 (bnd (aR 1 y7 y9) fun x2=>bnd (ldA false 1 H x2) fun x3=>bnd (af .eql x3 y1) fun x4=>ifB x4 (K (Bo true) H) (bnd (af .add y9 (I 1)) fun x5=>dQ.L0 σ K y1 y7 y8 x5 H)) (K (Bo false) H)):dQ.L0 σ K y1 y7 y8 y9 H :=
 fun j=>lrd (g:=898) (Eq.mpr (by kernel_rfl) h)
theorem dQ.run {a0 a1:AV} (h:bnd (a8 a0) fun x1=>dQ.L0 σ K a1 a0 x1 (I 0) H):∃ r H1,aE Tryz.prog σ jo [a0,a1] H r H1∧K r H1 :=
 gwp 898 (fn:=Tryz.f89) (f:=jo) (c:=dQ.code) (by kernel_rfl) (by kernel_rfl) (Eq.mpr (by kernel_rfl) h)
noncomputable def c_.code:Code:=aK Tryz.f90
noncomputable def c_.L0 (σ:Sig) (K:AV→Hp→Prop) (y3 y8 y9 y10:AV) (H:Hp):Prop:=∀ j:Nat→AV,bj (CZ σ) (lB (bB (sR (sL (sR c_.code))))) [j 0,j 1,j 2,y3,j 4,j 5,j 6,j 7,y8,y9,y10,j 11,j 12,j 13,j 14,j 15,j 16,j 17,j 18,j 19,j 20,j 21,j 22,j 23] H (fun e T G=>(nx (fQ Tryz.f90 σ K) fun T G=>wp (CZ σ) 1800 (sR (sR c_.code)) T G (fQ Tryz.f90 σ K)) (av 0 e) T G)
theorem c_.L0_step {y3 y8 y9 y10:AV} (h:bnd (af .lss y10 y9) fun x1=>ifB x1 (bnd (aR 2 y8 y10) fun x2=>bnd (ldA true 2 H x2) fun x3=>bg [.lit (.string ⟨#[]⟩),.lit (.string ⟨#[]⟩)] H fun x4 H5=>bnd (stA 2 H5 x4 x3) fun H6=>bnd (ae x4 0) fun x7=>bnd (ldA false 1 H6 x7) fun x8=>bnd (ae y3 0) fun x9=>bnd (ldA false 1 H6 x9) fun x10=>bnd (af .eql x8 x10) fun x11=>ifB x11 (bnd (ae x4 1) fun x12=>bnd (ldA false 1 H6 x12) fun x13=>bnd (ldA true 3 H6 y3) fun x14=>ai Tryz.prog σ kv [x13,x14] H6 fun x15 H16=>K x15 H16) (bnd (af .add y10 (I 1)) fun x17=>c_.L0 σ K y3 y8 y9 x17 H6)) (K (Bo false) H)):c_.L0 σ K y3 y8 y9 y10 H :=
 fun j=>lrd (g:=1800) (Eq.mpr (by kernel_rfl) h)
theorem c_.run {a0 a1:AV} (h:eH a0 H fun x1 H2=>eH a1 H2 fun x3 H4=>bnd (ae x1 4) fun x5=>bnd (ldA false 1 H4 x5) fun x6=>bnd (a8 x6) fun x7=>c_.L0 σ K x3 x6 x7 (I 0) H4):∃ r H1,aE Tryz.prog σ iM [a0,a1] H r H1∧K r H1 :=
 gwp 1800 (fn:=Tryz.f90) (f:=iM) (c:=c_.code) (by kernel_rfl) (by kernel_rfl) (Eq.mpr (by kernel_rfl) h)
noncomputable def iA.code:Code:=aK Tryz.f91
theorem iA.run {a0 a1:AV} (h:bnd (af .lss a1 (I 0)) fun x1=>ifB x1 (K (I (-1)) H) (bnd (aq a0) fun x2=>bnd (ae x2 0) fun x3=>bnd (ldA false 1 H x3) fun x4=>bnd (a8 x4) fun x5=>bnd (af .geq a1 x5) fun x6=>ifB x6 (K (I (-1)) H) (bnd (aq a0) fun x7=>bnd (ae x7 0) fun x8=>bnd (ldA false 1 H x8) fun x9=>bnd (aR 9 x9 a1) fun x10=>bnd (ae x10 0) fun x11=>bnd (ae x11 0) fun x12=>bnd (ldA false 1 H x12) fun x13=>K x13 H))):∃ r H1,aE Tryz.prog σ dA [a0,a1] H r H1∧K r H1 :=
 gwp 0 (fn:=Tryz.f91) (f:=dA) (c:=iA.code) (by kernel_rfl) (by kernel_rfl) (Eq.mpr (by kernel_rfl) h)
noncomputable def iT.code:Code:=aK Tryz.f92
theorem iT.run {a0 a1:AV} (h:ai Tryz.prog σ dO [a0,a1] H fun x1 H2=>bnd (dz false 7 1 x1) fun x3=>K x3 H2):∃ r H1,aE Tryz.prog σ c9 [a0,a1] H r H1∧K r H1 :=
 gwp 0 (fn:=Tryz.f92) (f:=c9) (c:=iT.code) (by kernel_rfl) (by kernel_rfl) (Eq.mpr (by kernel_rfl) h)
noncomputable def gT.code:Code:=aK Tryz.f93
theorem gT.run {a0 a1:AV} (h:bnd (aq a0) fun x1=>bnd (ae x1 0) fun x2=>bnd (ldA false 1 H x2) fun x3=>ai Tryz.prog σ dA [x3,a1] H fun x4 H5=>bnd (af .lss x4 (I 0)) fun x6=>ifB x6 (K (Bo true) H5) (bnd (aq a0) fun x7=>bnd (ae x7 0) fun x8=>bnd (ldA false 1 H5 x8) fun x9=>bnd (aq a0) fun x10=>bnd (ae x10 0) fun x11=>bnd (ldA false 1 H5 x11) fun x12=>ai Tryz.prog σ c9 [x12,a1] H5 fun x13 H14=>kpK (x8,some 1) H5 H14 (ai Tryz.prog σ eE [x9,x4,x13] H14 fun x15 H16=>bnd (af .lss x15 (I 0)) fun x17=>K x17 H16))):∃ r H1,aE Tryz.prog σ dW [a0,a1] H r H1∧K r H1 :=
 gwp 0 (fn:=Tryz.f93) (f:=dW) (c:=gT.code) (by kernel_rfl) (by kernel_rfl) (Eq.mpr (by kernel_rfl) h)
noncomputable def iY.code:Code:=aK Tryz.f94
theorem iY.run {a0 a1 a2:AV} (h:ai Tryz.prog σ dO [a0,a1] H fun x1 H2=>bnd (dz false 5 1 x1) fun x3=>bnd (a8 x3) fun x4=>bnd (af .lss a2 x4) fun x5=>ifB x5 (bnd (aR 1 x3 a2) fun x6=>bnd (ldA false 1 H2 x6) fun x7=>K x7 H2) (K (I (-1)) H2)):∃ r H1,aE Tryz.prog σ eE [a0,a1,a2] H r H1∧K r H1 :=
 gwp 0 (fn:=Tryz.f94) (f:=eE) (c:=iY.code) (by kernel_rfl) (by kernel_rfl) (Eq.mpr (by kernel_rfl) h)
noncomputable def nD.code:Code:=aK Tryz.f95
theorem nD.run {a0 a1 a2:AV} (h:bnd (af .eql a1 (I 0)) fun x1=>ifB x1 (bnd (af .eql a0 a2) fun x2=>K x2 H) (bnd (af .gtr a1 (I 0)) fun x3=>ifB x3 (bnd (af .leq a2 a0) fun x4=>ifB x4 (bnd (ee .u64 a0) fun x5=>bnd (ee .u64 a2) fun x6=>bnd (af .sub x5 x6) fun x7=>bnd (ee .u64 a1) fun x8=>bnd (af .rem x7 x8) fun x9=>bnd (af .eql x9 (.lit (.int .u64 0))) fun x10=>K x10 H) (K (Bo false) H)) (bnd (af .geq a2 a0) fun x11=>ifB x11 (bnd (ee .u64 a2) fun x12=>bnd (ee .u64 a0) fun x13=>bnd (af .sub x12 x13) fun x14=>bnd (ee .u64 a1) fun x15=>bnd (unR .neg x15) fun x16=>bnd (af .rem x14 x16) fun x17=>bnd (af .eql x17 (.lit (.int .u64 0))) fun x18=>K x18 H) (K (Bo false) H)))):∃ r H1,aE Tryz.prog σ ju [a0,a1,a2] H r H1∧K r H1 :=
 gwp 0 (fn:=Tryz.f95) (f:=ju) (c:=nD.code) (by kernel_rfl) (by kernel_rfl) (Eq.mpr (by kernel_rfl) h)
noncomputable def iC.code:Code:=aK Tryz.f96
theorem iC.run {a0 a1:AV} (h:ai Tryz.prog σ dO [a0,a1] H fun x1 H2=>bnd (dz false 8 1 x1) fun x3=>K x3 H2):∃ r H1,aE Tryz.prog σ fc [a0,a1] H r H1∧K r H1 :=
 gwp 0 (fn:=Tryz.f96) (f:=fc) (c:=iC.code) (by kernel_rfl) (by kernel_rfl) (Eq.mpr (by kernel_rfl) h)
noncomputable def dv.code:Code:=aK Tryz.f106
noncomputable def dv.L0 (σ:Sig) (K:AV→Hp→Prop) (y0 y1 y6:AV) (H:Hp):Prop:=∀ j:Nat→AV,bj (CZ σ) (lB (bB (sR (sL (sR dv.code))))) [y0,y1,j 2,j 3,j 4,j 5,y6,j 7,j 8,j 9,j 10,j 11,j 12,j 13,j 14,j 15,j 16,j 17,j 18,j 19] H (fun e T G=>(nx (fQ Tryz.f106 σ K) fun T G=>wp (CZ σ) 67 (sR (sR dv.code)) T G (fQ Tryz.f106 σ K)) (av 0 e) T G)
theorem dv.L0_step {y0 y1 y6:AV} (h:bnd (a8 y1) fun x1=>bnd (af .lss y6 x1) fun x2=>ifB x2 (bnd (aR 1 y1 y6) fun x3=>bnd (ldA false 1 H x3) fun x4=>bnd (af .eql x4 y0) fun x5=>ifB x5 (K (.tup [y6,(Bo true)]) H) (bnd (af .add y6 (I 1)) fun x6=>dv.L0 σ K y0 y1 x6 H)) (K (.tup [(I 0),(Bo false)]) H)):dv.L0 σ K y0 y1 y6 H :=
 fun j=>lrd (g:=67) (Eq.mpr (by kernel_rfl) h)
theorem dv.run {a0 a1:AV} (h:dv.L0 σ K a0 a1 (I 0) H):∃ r H1,aE Tryz.prog σ jq [a0,a1] H r H1∧K r H1 :=
 gwp 67 (fn:=Tryz.f106) (f:=jq) (c:=dv.code) (by kernel_rfl) (by kernel_rfl) (Eq.mpr (by kernel_rfl) h)
noncomputable def aA.code:Code:=aK Tryz.f107
noncomputable def aA.J0 (σ:Sig) (K:AV→Hp→Prop) (y0 y2 y3:AV) (H:Hp):Prop:=∀ j:Nat→AV,wp (CZ σ) 13 (sR (sR (sR (sR (sR (sR (sR aA.code))))))) [y0,j 1,y2,y3,j 4,j 5,j 6,j 7,j 8,j 9,j 10,j 11,j 12,j 13,j 14,j 15,j 16,j 17,j 18,j 19,j 20,j 21,j 22,j 23,j 24,j 25,j 26,j 27,j 28,j 29,j 30,j 31,j 32,j 33,j 34,j 35,j 36,j 37,j 38,j 39,j 40,j 41,j 42,j 43,j 44,j 45,j 46,j 47,j 48,j 49,j 50,j 51,j 52,j 53,j 54,j 55,j 56,j 57,j 58,j 59,j 60,j 61,j 62,j 63,j 64,j 65,j 66,j 67,j 68,j 69,j 70,j 71] H (fQ Tryz.f107 σ K)
noncomputable def aA.J1 (σ:Sig) (K:AV→Hp→Prop) (y0 y2 y3:AV) (H:Hp):Prop:=∀ j:Nat→AV,wp (CZ σ) 13 (sR (sR (sR (sR (sR (sR (sR (sR (sR aA.code))))))))) [y0,j 1,y2,y3,j 4,j 5,j 6,j 7,j 8,j 9,j 10,j 11,j 12,j 13,j 14,j 15,j 16,j 17,j 18,j 19,j 20,j 21,j 22,j 23,j 24,j 25,j 26,j 27,j 28,j 29,j 30,j 31,j 32,j 33,j 34,j 35,j 36,j 37,j 38,j 39,j 40,j 41,j 42,j 43,j 44,j 45,j 46,j 47,j 48,j 49,j 50,j 51,j 52,j 53,j 54,j 55,j 56,j 57,j 58,j 59,j 60,j 61,j 62,j 63,j 64,j 65,j 66,j 67,j 68,j 69,j 70,j 71] H (fQ Tryz.f107 σ K)
theorem aA.J0_step {y0 y2 y3:AV} (h:ai Tryz.prog σ bn [y0] H fun x1 H2=>ai Tryz.prog σ aH [y0,(I 0)] H2 fun x3 H4=>bnd (dz false 0 1 x3) fun x5=>bnd (af .neq x5 (I 17)) fun x6=>ifB x6 (bnd (aq y0) fun x7=>bnd (ae x7 2) fun x8=>bnd (stA 1 H4 x8 (Bo true)) fun H9=>aA.J1 σ K y0 y2 y3 H9) (aA.J1 σ K y0 y2 y3 H4)):aA.J0 σ K y0 y2 y3 H :=
 fun j=>Eq.mpr (by kernel_rfl) h
theorem aA.J1_step {y0 y2 y3:AV} (h:bnd (aq y0) fun x1=>bnd (ae x1 1) fun x2=>bnd (ldA false 1 H x2) fun x3=>bnd (af .add x3 (I 1)) fun x4=>bnd (aq y0) fun x5=>bnd (ae x5 1) fun x6=>bnd (stA 1 H x6 x4) fun H7=>bnd (ldA true 4 H7 y3) fun x8=>bnd (stA 4 H7 y2 x8) fun H9=>bnd (ldA true 4 H9 y2) fun r10=>K r10 H9):aA.J1 σ K y0 y2 y3 H :=
 fun j=>Eq.mpr (by kernel_rfl) h
theorem aA.run {a0:AV} (h:bg [I 0,I 0,I 0,.lit (.slice none 0 0)] H fun x1 H2=>bnd (aT [I 0,I 0,I 0,.lit (.slice none 0 0)] [(0,1,(I 6))]) fun l3=>bg [I 0,I 0,I 0,.lit (.slice none 0 0)] H2 fun x4 H5=>bnd (stA 4 H5 x4 (.agg l3)) fun H6=>ai Tryz.prog σ bn [a0] H6 fun x7 H8=>ai Tryz.prog σ aH [a0,(I 0)] H8 fun x9 H10=>bg [I 0,.lit (.string ⟨#[]⟩),I 0,Bo false,I 0] H10 fun x11 H12=>bnd (stA 5 H12 x11 x9) fun H13=>bnd (aq a0) fun x14=>bnd (ae x14 1) fun x15=>bnd (ldA false 1 H13 x15) fun x16=>bnd (af .add x16 (I 1)) fun x17=>bnd (aq a0) fun x18=>bnd (ae x18 1) fun x19=>bnd (stA 1 H13 x19 x17) fun H20=>bnd (ae x11 1) fun x21=>bnd (ldA false 1 H20 x21) fun x22=>ai Tryz.prog σ dJ [x22] H20 fun x23 H24=>bnd (ae x11 0) fun x25=>bnd (ldA false 1 H24 x25) fun x26=>bnd (af .eql x26 (I 1)) fun x27=>ifB x27 (bnd (af .eql x23 (.lit (.string ⟨#[111,100,100]⟩))) fun x28=>ifB x28 (bnd (ae x4 1) fun x29=>bnd (stA 1 H24 x29 (I 2)) fun H30=>bnd (ae x4 2) fun x31=>bnd (stA 1 H30 x31 (I 1)) fun H32=>aA.J0 σ K a0 x1 x4 H32) (bnd (ae x11 0) fun x33=>bnd (ldA false 1 H24 x33) fun x34=>bnd (af .eql x34 (I 1)) fun x35=>ifB x35 (bnd (af .eql x23 (.lit (.string ⟨#[101,118,101,110]⟩))) fun x36=>ifB x36 (bnd (ae x4 1) fun x37=>bnd (stA 1 H24 x37 (I 2)) fun H38=>aA.J0 σ K a0 x1 x4 H38) (bnd (ae x11 0) fun x39=>bnd (ldA false 1 H24 x39) fun x40=>bnd (af .eql x40 (I 6)) fun x41=>ifB x41 (bnd (ae x11 3) fun x42=>bnd (ldA false 1 H24 x42) fun x43=>ifB x43 (bnd (ae x11 2) fun x44=>bnd (ldA false 1 H24 x44) fun x45=>bnd (af .quo x45 (I 1000)) fun x46=>bnd (ae x4 2) fun x47=>bnd (stA 1 H24 x47 x46) fun H48=>aA.J0 σ K a0 x1 x4 H48) (bnd (aq a0) fun x49=>bnd (ae x49 2) fun x50=>bnd (stA 1 H24 x50 (Bo true)) fun H51=>aA.J0 σ K a0 x1 x4 H51)) (bnd (aq a0) fun x52=>bnd (ae x52 2) fun x53=>bnd (stA 1 H24 x53 (Bo true)) fun H54=>aA.J0 σ K a0 x1 x4 H54))) (bnd (ae x11 0) fun x55=>bnd (ldA false 1 H24 x55) fun x56=>bnd (af .eql x56 (I 6)) fun x57=>ifB x57 (bnd (ae x11 3) fun x58=>bnd (ldA false 1 H24 x58) fun x59=>ifB x59 (bnd (ae x11 2) fun x60=>bnd (ldA false 1 H24 x60) fun x61=>bnd (af .quo x61 (I 1000)) fun x62=>bnd (ae x4 2) fun x63=>bnd (stA 1 H24 x63 x62) fun H64=>aA.J0 σ K a0 x1 x4 H64) (bnd (aq a0) fun x65=>bnd (ae x65 2) fun x66=>bnd (stA 1 H24 x66 (Bo true)) fun H67=>aA.J0 σ K a0 x1 x4 H67)) (bnd (aq a0) fun x68=>bnd (ae x68 2) fun x69=>bnd (stA 1 H24 x69 (Bo true)) fun H70=>aA.J0 σ K a0 x1 x4 H70)))) (bnd (ae x11 0) fun x71=>bnd (ldA false 1 H24 x71) fun x72=>bnd (af .eql x72 (I 1)) fun x73=>ifB x73 (bnd (af .eql x23 (.lit (.string ⟨#[101,118,101,110]⟩))) fun x74=>ifB x74 (bnd (ae x4 1) fun x75=>bnd (stA 1 H24 x75 (I 2)) fun H76=>aA.J0 σ K a0 x1 x4 H76) (bnd (ae x11 0) fun x77=>bnd (ldA false 1 H24 x77) fun x78=>bnd (af .eql x78 (I 6)) fun x79=>ifB x79 (bnd (ae x11 3) fun x80=>bnd (ldA false 1 H24 x80) fun x81=>ifB x81 (bnd (ae x11 2) fun x82=>bnd (ldA false 1 H24 x82) fun x83=>bnd (af .quo x83 (I 1000)) fun x84=>bnd (ae x4 2) fun x85=>bnd (stA 1 H24 x85 x84) fun H86=>aA.J0 σ K a0 x1 x4 H86) (bnd (aq a0) fun x87=>bnd (ae x87 2) fun x88=>bnd (stA 1 H24 x88 (Bo true)) fun H89=>aA.J0 σ K a0 x1 x4 H89)) (bnd (aq a0) fun x90=>bnd (ae x90 2) fun x91=>bnd (stA 1 H24 x91 (Bo true)) fun H92=>aA.J0 σ K a0 x1 x4 H92))) (bnd (ae x11 0) fun x93=>bnd (ldA false 1 H24 x93) fun x94=>bnd (af .eql x94 (I 6)) fun x95=>ifB x95 (bnd (ae x11 3) fun x96=>bnd (ldA false 1 H24 x96) fun x97=>ifB x97 (bnd (ae x11 2) fun x98=>bnd (ldA false 1 H24 x98) fun x99=>bnd (af .quo x99 (I 1000)) fun x100=>bnd (ae x4 2) fun x101=>bnd (stA 1 H24 x101 x100) fun H102=>aA.J0 σ K a0 x1 x4 H102) (bnd (aq a0) fun x103=>bnd (ae x103 2) fun x104=>bnd (stA 1 H24 x104 (Bo true)) fun H105=>aA.J0 σ K a0 x1 x4 H105)) (bnd (aq a0) fun x106=>bnd (ae x106 2) fun x107=>bnd (stA 1 H24 x107 (Bo true)) fun H108=>aA.J0 σ K a0 x1 x4 H108)))):∃ r H1,aE Tryz.prog σ fd [a0] H r H1∧K r H1 :=
 gwp 13 (fn:=Tryz.f107) (f:=fd) (c:=aA.code) (by kernel_rfl) (by kernel_rfl) (Eq.mpr (by kernel_rfl) h)
noncomputable def bC.code:Code:=aK Tryz.f108
noncomputable def bC.J0 (σ:Sig) (K:AV→Hp→Prop) (y0:AV) (H:Hp):Prop:=∀ j:Nat→AV,wp (CZ σ) 1 (sR (sR (sR bC.code))) [y0,j 1,j 2,j 3,j 4,j 5,j 6,j 7,j 8,j 9,j 10,j 11,j 12,j 13,j 14,j 15,j 16,j 17,j 18,j 19,j 20,j 21,j 22,j 23,j 24,j 25,j 26,j 27,j 28] H (fQ Tryz.f108 σ K)
theorem bC.J0_step {y0:AV} (h:ai Tryz.prog σ dg [y0] H fun x1 H2=>bnd (aq y0) fun x3=>bnd (ae x3 3) fun x4=>bnd (ldA false 1 H2 x4) fun x5=>bnd (af .sub x5 (I 1)) fun x6=>bnd (aq y0) fun x7=>bnd (ae x7 3) fun x8=>bnd (stA 1 H2 x8 x6) fun H9=>K x1 H9):bC.J0 σ K y0 H :=
 fun j=>Eq.mpr (by kernel_rfl) h
theorem bC.run {a0:AV} (h:bnd (aq a0) fun x1=>bnd (ae x1 3) fun x2=>bnd (ldA false 1 H x2) fun x3=>bnd (af .add x3 (I 1)) fun x4=>bnd (aq a0) fun x5=>bnd (ae x5 3) fun x6=>bnd (stA 1 H x6 x4) fun H7=>bnd (aq a0) fun x8=>bnd (ae x8 3) fun x9=>bnd (ldA false 1 H7 x9) fun x10=>bnd (af .gtr x10 (I 8)) fun x11=>ifB x11 (bnd (aq a0) fun x12=>bnd (ae x12 2) fun x13=>bnd (stA 1 H7 x13 (Bo true)) fun H14=>bC.J0 σ K a0 H14) (bC.J0 σ K a0 H7)):∃ r H1,aE Tryz.prog σ ev [a0] H r H1∧K r H1 :=
 gwp 1 (fn:=Tryz.f108) (f:=ev) (c:=bC.code) (by kernel_rfl) (by kernel_rfl) (Eq.mpr (by kernel_rfl) h)
noncomputable def kO.code:Code:=aK Tryz.f109
theorem kO.run {a0 a1:AV} (h:bg [I 0,.lit (.string ⟨#[]⟩),.lit (.string ⟨#[]⟩),.lit (.slice none 0 0),.lit (.slice none 0 0),.lit (.slice none 0 0),I 0,I 0,I 0] H fun x1 H2=>bnd (af .lss a1 (I 0)) fun x3=>ifB x3 (bnd (aT [I 0,.lit (.string ⟨#[]⟩),.lit (.string ⟨#[]⟩),.lit (.slice none 0 0),.lit (.slice none 0 0)] []) fun l4=>bnd (aT [I 0,.lit (.string ⟨#[]⟩),.lit (.string ⟨#[]⟩),.lit (.slice none 0 0),.lit (.slice none 0 0),.lit (.slice none 0 0),I 0,I 0,I 0] [(0,5,(.agg l4)),(8,1,(I (-1)))]) fun l5=>bnd (stA 9 H2 x1 (.agg l5)) fun H6=>bnd (ldA true 9 H6 x1) fun r7=>K r7 H6) (bnd (aq a0) fun x8=>bnd (ae x8 0) fun x9=>bnd (ldA false 1 H2 x9) fun x10=>bnd (a8 x10) fun x11=>bnd (af .geq a1 x11) fun x12=>ifB x12 (bnd (aT [I 0,.lit (.string ⟨#[]⟩),.lit (.string ⟨#[]⟩),.lit (.slice none 0 0),.lit (.slice none 0 0)] []) fun l13=>bnd (aT [I 0,.lit (.string ⟨#[]⟩),.lit (.string ⟨#[]⟩),.lit (.slice none 0 0),.lit (.slice none 0 0),.lit (.slice none 0 0),I 0,I 0,I 0] [(0,5,(.agg l13)),(8,1,(I (-1)))]) fun l14=>bnd (stA 9 H2 x1 (.agg l14)) fun H15=>bnd (ldA true 9 H15 x1) fun r16=>K r16 H15) (bnd (aq a0) fun x17=>bnd (ae x17 0) fun x18=>bnd (ldA false 1 H2 x18) fun x19=>bnd (aR 9 x19 a1) fun x20=>bnd (ldA true 9 H2 x20) fun x21=>bnd (stA 9 H2 x1 x21) fun H22=>bnd (ldA true 9 H22 x1) fun r23=>K r23 H22))):∃ r H1,aE Tryz.prog σ dO [a0,a1] H r H1∧K r H1 :=
 gwp 0 (fn:=Tryz.f109) (f:=dO) (c:=kO.code) (by kernel_rfl) (by kernel_rfl) (Eq.mpr (by kernel_rfl) h)
noncomputable def pF.code:Code:=aK Tryz.f110
theorem pF.run {a0 a1:AV} (h:eH a1 H fun x1 H2=>bnd (ae x1 2) fun x3=>bnd (ldA false 1 H2 x3) fun x4=>bnd (af .neq x4 (.lit (.string ⟨#[]⟩))) fun x5=>bnd (ae x1 1) fun x6=>bnd (ldA false 1 H2 x6) fun x7=>bnd (af .eql x7 (I 0)) fun x8=>ifB x8 (K (Bo true) H2) (bnd (af .eql x7 (I 1)) fun x9=>ifB x9 (bnd (ae x1 2) fun x10=>bnd (ldA false 1 H2 x10) fun x11=>bnd (af .eql a0 x11) fun x12=>K x12 H2) (bnd (af .eql x7 (I 2)) fun x13=>ifB x13 (ifB x5 (bnd (ae x1 2) fun x14=>bnd (ldA false 1 H2 x14) fun x15=>ai Tryz.prog σ iG [a0,x15] H2 fun x16 H17=>K x16 H17) (K (Bo false) H2)) (bnd (af .eql x7 (I 3)) fun x18=>ifB x18 (bnd (ae x1 2) fun x19=>bnd (ldA false 1 H2 x19) fun x20=>bnd (af .eql a0 x20) fun x21=>ifB x21 (K (Bo true) H2) (bnd (ae x1 2) fun x22=>bnd (ldA false 1 H2 x22) fun x23=>bnd (af .add x23 (.lit (.string ⟨#[45]⟩))) fun x24=>ai Tryz.prog σ dC [a0,x24] H2 fun x25 H26=>K x25 H26)) (bnd (af .eql x7 (I 4)) fun x27=>ifB x27 (ifB x5 (bnd (ae x1 2) fun x28=>bnd (ldA false 1 H2 x28) fun x29=>ai Tryz.prog σ dC [a0,x29] H2 fun x30 H31=>K x30 H31) (K (Bo false) H2)) (bnd (af .eql x7 (I 5)) fun x32=>ifB x32 (ifB x5 (bnd (ae x1 2) fun x33=>bnd (ldA false 1 H2 x33) fun x34=>ai Tryz.prog σ eo [a0,x34] H2 fun x35 H36=>K x35 H36) (K (Bo false) H2)) (bnd (af .eql x7 (I 6)) fun x37=>ifB x37 (ifB x5 (bnd (ae x1 2) fun x38=>bnd (ldA false 1 H2 x38) fun x39=>ai Tryz.prog σ i6 [a0,x39] H2 fun x40 H41=>K x40 H41) (K (Bo false) H2)) (K (Bo false) H2)))))))):∃ r H1,aE Tryz.prog σ kv [a0,a1] H r H1∧K r H1 :=
 gwp 0 (fn:=Tryz.f110) (f:=kv) (c:=pF.code) (by kernel_rfl) (by kernel_rfl) (Eq.mpr (by kernel_rfl) h)
noncomputable def bw.code:Code:=aK Tryz.f113
noncomputable def bw.R0 (j:Nat→AV) (y3 y4:AV):ou:=⟨[j 0,j 1,j 2,y3,y4,j 5,j 6,j 7,j 8,j 9,j 10,j 11],rP (bB (sR (sL (sR bw.code)))),rA (bB (sR (sL (sR bw.code)))),rB (bB (sR (sL (sR bw.code))))⟩
theorem bw.R0_round {j:Nat→AV} {y3 y4 p0:AV} {id:Nat} (hl:H.get id=some (.loop (bw.R0 j y3 y4) .ready none)) (h:H.get id=some (.loop (bw.R0 j y3 y4) .ready none)∧(bnd (some (H.set id (some (.loop (bw.R0 j y3 y4) .busy none)))) fun H1=>bnd (ldA false 1 H1 y3) fun x2=>bnd (af .eql p0 x2) fun x3=>ifB x3 (bnd (stA 1 H1 y4 (Bo true)) fun H4=>vR id (bw.R0 j y3 y4) K .ret H4) (vR id (bw.R0 j y3 y4) K .normal H1))):jy Tryz.prog σ (.yl id) [p0] H K :=
 tz (CZ σ) mixed 24 hl (by kernel_rfl) (by kernel_rfl) (by kernel_rfl) (Eq.mpr (by kernel_rfl) h)
theorem bw.run {a0 a1:AV} (h:eH a1 H fun x1 H2=>bg [Bo false] H2 fun x3 H4=>ai Tryz.prog σ jD [a0] H4 fun x5 H6=>∀ j:Nat→AV,rK Tryz.prog σ x5 (bw.R0 j x1 x3) H6 (fun H7=>bnd (stA 1 H7 x3 (Bo false)) fun H9=>bnd (ldA false 1 H9 x3) fun r10=>K r10 H9) (fun H7=>bnd (ldA false 1 H7 x3) fun r11=>K r11 H7) (fun i8 H7=>False)):∃ r H1,aE Tryz.prog σ iG [a0,a1] H r H1∧K r H1 :=
 gwp 24 (fn:=Tryz.f113) (f:=iG) (c:=bw.code) (by kernel_rfl) (by kernel_rfl) (Eq.mpr (by kernel_rfl) h)
noncomputable def gA.code:Code:=aK Tryz.f114
theorem gA.run {a0 a1:AV} (h:ai Tryz.prog σ cp [a0,a1] H fun x1 H2=>K x1 H2):∃ r H1,aE Tryz.prog σ dC [a0,a1] H r H1∧K r H1 :=
 gwp 0 (fn:=Tryz.f114) (f:=dC) (c:=gA.code) (by kernel_rfl) (by kernel_rfl) (Eq.mpr (by kernel_rfl) h)
noncomputable def gj.code:Code:=aK Tryz.f115
theorem gj.run {a0 a1:AV} (h:ai Tryz.prog σ cq [a0,a1] H fun x1 H2=>K x1 H2):∃ r H1,aE Tryz.prog σ eo [a0,a1] H r H1∧K r H1 :=
 gwp 0 (fn:=Tryz.f115) (f:=eo) (c:=gj.code) (by kernel_rfl) (by kernel_rfl) (Eq.mpr (by kernel_rfl) h)
noncomputable def lu.code:Code:=aK Tryz.f117
theorem lu.run {a0:AV} (h:eH a0 H fun x1 H2=>K (.fn iD [x1]) H2):∃ r H1,aE Tryz.prog σ jD [a0] H r H1∧K r H1 :=
 gwp 0 (fn:=Tryz.f117) (f:=jD) (c:=lu.code) (by kernel_rfl) (by kernel_rfl) (Eq.mpr (by kernel_rfl) h)
noncomputable def df.code:Code:=aK Tryz.f118
theorem df.run {a0 a1:AV} (h:bnd (cJ a0) fun x1=>bnd (cJ a1) fun x2=>bnd (af .geq x1 x2) fun x3=>ifB x3 (bnd (cJ a1) fun x4=>bnd (gJ a0 none (some x4)) fun x5=>bnd (af .eql x5 a1) fun x6=>K x6 H) (K (Bo false) H)):∃ r H1,aE Tryz.prog σ cp [a0,a1] H r H1∧K r H1 :=
 gwp 0 (fn:=Tryz.f118) (f:=cp) (c:=df.code) (by kernel_rfl) (by kernel_rfl) (Eq.mpr (by kernel_rfl) h)
noncomputable def de.code:Code:=aK Tryz.f119
theorem de.run {a0 a1:AV} (h:bnd (cJ a0) fun x1=>bnd (cJ a1) fun x2=>bnd (af .geq x1 x2) fun x3=>ifB x3 (bnd (cJ a0) fun x4=>bnd (cJ a1) fun x5=>bnd (af .sub x4 x5) fun x6=>bnd (gJ a0 (some x6) none) fun x7=>bnd (af .eql x7 a1) fun x8=>K x8 H) (K (Bo false) H)):∃ r H1,aE Tryz.prog σ cq [a0,a1] H r H1∧K r H1 :=
 gwp 0 (fn:=Tryz.f119) (f:=cq) (c:=de.code) (by kernel_rfl) (by kernel_rfl) (Eq.mpr (by kernel_rfl) h)
noncomputable def aL.code:Code:=aK Tryz.f121
noncomputable def aL.Q0 (σ:Sig) (K:AV→Hp→Prop):Exit→List AV→Hp→Prop:=(nx (fun e T G=>(fQ Tryz.f121 σ K) (av 0 e) T G) fun T G=>∀ j,bj (CZ σ) (lB (bB aL.code)) (dw 11 j 0 T) G (fun e T G=>(fQ Tryz.f121 σ K) (av 0 e) T G))
noncomputable def aL.L0 (σ:Sig) (K:AV→Hp→Prop) (y0 y1 y3:AV) (H:Hp):Prop:=∀ j:Nat→AV,bj (CZ σ) (lB (bB aL.code)) [y0,y1,j 2,y3,j 4,j 5,j 6,j 7,j 8,j 9,j 10,j 11,j 12,j 13,j 14,j 15,j 16,j 17,j 18,j 19,j 20,j 21,j 22,j 23,j 24,j 25,j 26,j 27,j 28,j 29,j 30,j 31,j 32,j 33,j 34,j 35] H (fun e T G=>(fQ Tryz.f121 σ K) (av 0 e) T G)
noncomputable def aL.L1 (σ:Sig) (K:AV→Hp→Prop) (y0 y1 y3:AV) (H:Hp):Prop:=∀ j:Nat→AV,bj (CZ σ) (lB (bB (sL (sR (bB (sR (lB (bB aL.code)))))))) [y0,y1,j 2,y3,j 4,j 5,j 6,j 7,j 8,j 9,j 10,j 11,j 12,j 13,j 14,j 15,j 16,j 17,j 18,j 19,j 20,j 21,j 22,j 23,j 24,j 25,j 26,j 27,j 28,j 29,j 30,j 31,j 32,j 33,j 34,j 35] H (fun e T G=>(nx (fun e T G=>(aL.Q0 σ K) (av 1 e) T G) fun T G=>wp (CZ σ) 11 (sR (sR (bB (sR (lB (bB aL.code)))))) T G (fun e T G=>(aL.Q0 σ K) (av 1 e) T G)) (av 2 e) T G)
theorem aL.L0_step {y0 y1 y3:AV} (h:bnd (ldA false 1 H y1) fun x1=>bnd (af .neq x1 (.lit (.string ⟨#[]⟩))) fun x2=>ifB x2 (aL.L1 σ K y0 y1 (I 0) H) (K (.tup []) H)):aL.L0 σ K y0 y1 y3 H :=
 fun j=>lrd (g:=11) (Eq.mpr (by kernel_rfl) h)
theorem aL.L1_step {y0 y1 y3:AV} (h:bnd (ldA false 1 H y1) fun x1=>bnd (cJ x1) fun x2=>bnd (af .lss y3 x2) fun x3=>ifB x3 (bnd (ldA false 1 H y1) fun x4=>bnd (gI x4 y3) fun x5=>ai Tryz.prog σ g_ [x5] H fun x6 H7=>bnd (unR .not x6) fun x8=>ifB x8 (bnd (af .add y3 (I 1)) fun x9=>aL.L1 σ K y0 y1 x9 H7) (bnd (af .gtr y3 (I 0)) fun x10=>ifB x10 (bnd (ldA false 1 H7 y1) fun x11=>bnd (gJ x11 none (some y3)) fun x12=>jy Tryz.prog σ y0 [x12] H7 fun x13 H14=>bnd (unR .not x13) fun x15=>ifB x15 (K (.tup []) H14) (bnd (ldA false 1 H14 y1) fun x16=>bnd (af .add y3 (I 1)) fun x17=>bnd (ldA false 1 H14 y1) fun x18=>bnd (cJ x18) fun x19=>bnd (nO [x17,x19]) fun x20=>bnd (gJ x16 (some x20) none) fun x21=>bnd (stA 1 H14 y1 x21) fun H22=>aL.L0 σ K y0 y1 y3 H22)) (bnd (ldA false 1 H7 y1) fun x23=>bnd (af .add y3 (I 1)) fun x24=>bnd (ldA false 1 H7 y1) fun x25=>bnd (cJ x25) fun x26=>bnd (nO [x24,x26]) fun x27=>bnd (gJ x23 (some x27) none) fun x28=>bnd (stA 1 H7 y1 x28) fun H29=>aL.L0 σ K y0 y1 y3 H29))) (bnd (af .gtr y3 (I 0)) fun x30=>ifB x30 (bnd (ldA false 1 H y1) fun x31=>bnd (gJ x31 none (some y3)) fun x32=>jy Tryz.prog σ y0 [x32] H fun x33 H34=>bnd (unR .not x33) fun x35=>ifB x35 (K (.tup []) H34) (bnd (ldA false 1 H34 y1) fun x36=>bnd (af .add y3 (I 1)) fun x37=>bnd (ldA false 1 H34 y1) fun x38=>bnd (cJ x38) fun x39=>bnd (nO [x37,x39]) fun x40=>bnd (gJ x36 (some x40) none) fun x41=>bnd (stA 1 H34 y1 x41) fun H42=>aL.L0 σ K y0 y1 y3 H42)) (bnd (ldA false 1 H y1) fun x43=>bnd (af .add y3 (I 1)) fun x44=>bnd (ldA false 1 H y1) fun x45=>bnd (cJ x45) fun x46=>bnd (nO [x44,x46]) fun x47=>bnd (gJ x43 (some x47) none) fun x48=>bnd (stA 1 H y1 x48) fun H49=>aL.L0 σ K y0 y1 y3 H49))):aL.L1 σ K y0 y1 y3 H :=
 fun j=>lrd (g:=11) (Eq.mpr (by kernel_rfl) h)
theorem aL.run {a0 a1:AV} (h:aL.L0 σ K a0 a1 (.lit undef) H):∃ r H1,aE Tryz.prog σ iD [a0,a1] H r H1∧K r H1 :=
 gwp 11 (fn:=Tryz.f121) (f:=iD) (c:=aL.code) (by kernel_rfl) (by kernel_rfl) (Eq.mpr (by kernel_rfl) h)
noncomputable def kS.code:Code:=aK Tryz.f122
theorem kS.run {a0:AV} (h:bnd (af .eql a0 (.lit (.int .u8 9))) fun x1=>ifB x1 (K (Bo true) H) (bnd (af .eql a0 (.lit (.int .u8 10))) fun x2=>ifB x2 (K (Bo true) H) (bnd (af .eql a0 (.lit (.int .u8 12))) fun x3=>ifB x3 (K (Bo true) H) (bnd (af .eql a0 (.lit (.int .u8 13))) fun x4=>ifB x4 (K (Bo true) H) (bnd (af .eql a0 (.lit (.int .u8 32))) fun x5=>K x5 H))))):∃ r H1,aE Tryz.prog σ g_ [a0] H r H1∧K r H1 :=
 gwp 0 (fn:=Tryz.f122) (f:=g_) (c:=kS.code) (by kernel_rfl) (by kernel_rfl) (Eq.mpr (by kernel_rfl) h)
end Go.Proofs.YthmaggcfghjmfaaGreat.Ev
namespace Go.Proofs.YthmaggcfghjmfaaGreat.Ev
set_option linter.unusedVariables false
set_option linter.unusedSimpArgs false
variable {σ:Sig}
def gF (c:UInt8):UInt8:=if 65≤c.toNat∧c.toNat≤90 then UInt8.ofNat (c.toNat+32) else c
def jV (s:ByteArray):ByteArray:=⟨(s.data.toList.map gF).toArray⟩
def dq (c:UInt8):AV:=.lit (.int .u8 c.toNat)
theorem wr8 {n:Int} (h0:0≤n) (h1:n≤255):wr .u8 n=n:=by
 unfold wr
 simp [IntKind.wrap,IntKind.signed,IntKind.bits]
 omega
theorem md:∀ (l:List UInt8),kZ (l.map dq)=some l
 | []=>rfl
 | c::l=>by
  have ih:=md l
  rw [List.map_cons]
  show (kZ (l.map dq)).map (UInt8.ofNat ((c.toNat:Int)).toNat::·)=_
  rw [ih]
  simp
theorem qo (l:List UInt8):(l.map dq).all AV.one=true:=by
 rw [List.all_map,List.all_eq_true]
 intro x _; rfl
theorem wu {H:Hp} {id:Nat} {l:List UInt8} {n:Nat} {ex:Bool} (hg:H.get id=some (.cells (l.map dq) ex)) (hn:n=l.length):e_ H (.sl id 0 1 n none)=some (Sx ⟨l.toArray⟩):=by
 subst hn
 simp only [e_,gS,hg]
 have e:List.take l.length (l.map dq)=l.map dq:=by
  have:=List.take_length (l:=l.map dq)
  rwa [List.length_map] at this
 simp only [List.drop_zero,Nat.mul_one,iI,e,List.length_map,decide_true,Bool.and_self,cond_true,qo,md]
 rfl
theorem pV {l:List UInt8} {k:Nat} {c:UInt8} (h:l[k]?=some c) (v:UInt8) (hv:v=gF c):(l.set k v).take (k+1)++((l.set k v).drop (k+1)).map gF=l.take k++(l.drop k).map gF:=by
 subst hv
 obtain ⟨hlt,rfl⟩:=List.getElem?_eq_some_iff.1 h
 rw [List.drop_eq_getElem_cons hlt,List.take_succ_eq_append_getElem (by simpa using hlt),List.drop_set_of_lt (by omega),List.take_set_of_le (by omega)]
 simp
 rw [List.drop_eq_getElem_cons (i:=k) (l:=List.map gF l) (by simpa using hlt)]
 simp
theorem m7 {l:List UInt8} {k:Nat} {c:UInt8} (h:l[k]?=some c) (hv:gF c=c):l.take (k+1)++(l.drop (k+1)).map gF=l.take k++(l.drop k).map gF:=by
 have:=pV h c hv.symm
 rwa [show l.set k c=l from by
  obtain ⟨hlt,rfl⟩:=List.getElem?_eq_some_iff.1 h
  simp] at this
theorem Ca {K:AV→Hp→Prop} {n id:Nat} (hn:n<9000000000000000000):∀ (d k:Nat) (l:List UInt8) (H:Hp) (ex:Bool),H.get id=some (.cells (l.map dq) ex)→l.length=n→n - k=d→k≤n→(∀ H,K (Sx ⟨(l.take k++(l.drop k).map gF).toArray⟩) H) →
  bE.L0 σ K (.sl id 0 1 n none) (.sl id 0 1 n none) (I n) (I k) H:=by
 intro d
 induction d with
 | zero =>
  intro k l H ex hg hl hd hk hK
  have e:k=n:=by omega
  subst e
  refine bE.L0_step ?_
  simp [wu hg hl.symm]
  simpa [← hl] using hK H
 | succ d ih =>
  intro k l H ex hg hl hd hk hK
  have hlt:k<n:=by omega
  have hlt':k<l.length:=by omega
  have hget:l[k]?=some l[k]:=List.getElem?_eq_getElem hlt'
  have hc:=(l[k]).toNat_lt
  refine bE.L0_step ?_
  simp [hlt,mL,hg,rQ hlt',dq]
  have next:∀ (l':List UInt8) (H':Hp),H'.get id=some (.cells (l'.map dq) ex)→l'.length=n→l'.take (k+1)++(l'.drop (k+1)).map gF=l.take k++(l.drop k).map gF→bE.J1 σ K (.sl id 0 1 n none) (.sl id 0 1 n none) (I n) (I k) H':=by
   intro l' H' hg' hl' he
   refine bE.J1_step ?_
   simp
   rw [ci (Nat.lt_trans hlt hn)]
   exact ih (k+1) l' H' ex hg' hl' (by omega) (by omega) (by rw [he]; exact hK)
  split
  ·split
   ·rename_i h1 h2
    have e1:wr .u8 ((l[k].toNat:Int)+97)=(l[k].toNat:Int)+97:=wr8 (by omega) (by omega)
    have e2:wr .u8 ((l[k].toNat:Int)+97 - 65)=((gF l[k]).toNat:Int):=by
     rw [wr8 (by omega) (by omega)]
     unfold gF
     rw [if_pos ⟨by omega,by omega⟩]
     simp; omega
    rw [e1,e2]
    have e3:(k:Int).toNat=k:=by omega
    rw [if_pos (show k+1≤l.length from hlt'),aa]
    have e4:AV.lit (.int .u8 (gF l[k]).toNat)=dq (gF l[k]):=rfl
    rw [e4,Aj _ hlt']
    exact next (l.set k (gF l[k])) _ (by simp) (by simpa using hl) (pV hget _ rfl)
   ·rename_i h1 h2
    exact next l H hg hl (m7 hget (by unfold gF; rw [if_neg (by omega)]))
  ·rename_i h1
   exact next l H hg hl (m7 hget (by unfold gF; rw [if_neg (by omega)]))
theorem pE (s:ByteArray) (hs:s.data.size<9000000000000000000) (H:Hp):aE Tryz.prog σ gE [Sx s] H (Sx (jV s)) H:=by
 refine bO (fun K hK=>bE.run ?_) rfl rfl H
 simp only [gh,aa,oa]
 refine Ca hs _ 0 s.data.toList _ false (by simp [dq]) (by simp) rfl (Nat.zero_le _) fun H=>?_
 simpa [jV] using hK H
theorem xr {K:AV→Hp→Prop} {n id:Nat} (hn:n<9000000000000000000):∀ (d k:Nat) (l:List UInt8) (H:Hp) (ex:Bool),H.get id=some (.cells (l.map dq) ex)→l.length=n→n - k=d→k≤n→(∀ H,K (Sx ⟨(l.take k++(l.drop k).map gF).toArray⟩) H) →
  bD.L0 σ K (.sl id 0 1 n none) (I k) H:=by
 intro d
 induction d with
 | zero =>
  intro k l H ex hg hl hd hk hK
  have e:k=n:=by omega
  subst e
  refine bD.L0_step ?_
  simp [wu hg hl.symm]
  simpa [← hl] using hK H
 | succ d ih =>
  intro k l H ex hg hl hd hk hK
  have hlt:k<n:=by omega
  have hlt':k<l.length:=by omega
  have hget:l[k]?=some l[k]:=List.getElem?_eq_getElem hlt'
  have hc:=(l[k]).toNat_lt
  refine bD.L0_step ?_
  simp [hlt,mL,hg,rQ hlt',dq]
  have next:∀ (l':List UInt8) (H':Hp),H'.get id=some (.cells (l'.map dq) ex)→l'.length=n→l'.take (k+1)++(l'.drop (k+1)).map gF=l.take k++(l.drop k).map gF→bD.J1 σ K (.sl id 0 1 n none) (I k) H':=by
   intro l' H' hg' hl' he
   refine bD.J1_step ?_
   simp
   rw [ci (Nat.lt_trans hlt hn)]
   exact ih (k+1) l' H' ex hg' hl' (by omega) (by omega) (by rw [he]; exact hK)
  split
  ·split
   ·rename_i h1 h2
    have e2:wr .u8 ((l[k].toNat:Int)+32)=((gF l[k]).toNat:Int):=by
     rw [wr8 (by omega) (by omega)]
     unfold gF
     rw [if_pos ⟨by omega,by omega⟩]
     simp; omega
    rw [e2]
    rw [if_pos (show k+1≤l.length from hlt'),aa]
    have e4:AV.lit (.int .u8 (gF l[k]).toNat)=dq (gF l[k]):=rfl
    rw [e4,Aj _ hlt']
    exact next (l.set k (gF l[k])) _ (by simp) (by simpa using hl) (pV hget _ rfl)
   ·rename_i h1 h2
    exact next l H hg hl (m7 hget (by unfold gF; rw [if_neg (by omega)]))
  ·rename_i h1
   exact next l H hg hl (m7 hget (by unfold gF; rw [if_neg (by omega)]))
theorem iP (s:ByteArray) (hs:s.data.size<9000000000000000000) (H:Hp):aE Tryz.prog σ dJ [Sx s] H (Sx (jV s)) H:=by
 refine bO (fun K hK=>bD.run ?_) rfl rfl H
 simp only [gh,aa,oa]
 refine xr hs _ 0 s.data.toList _ false (by simp [dq]) (by simp) rfl (Nat.zero_le _) fun H=>?_
 simpa [jV] using hK H
end Go.Proofs.YthmaggcfghjmfaaGreat.Ev
namespace Go.Proofs.YthmaggcfghjmfaaGreat.Ev
set_option linter.unusedVariables false
set_option linter.unusedSimpArgs false
variable {σ:Sig}
theorem aE.imm0 {P:Program} {f sz:Nat} {r:AV} {H H':Hp} (h:∀ (a:Option Addr) (c:Nat),aE P σ f [.lit (.slice a 0 c)] H r H'):aE P σ f [.imm sz []] H r H':=by
 refine ⟨(h none 0).1,fun B w0 E w vs hσ hst hxs=>?_⟩
 have hl:=hxs.len
 have hv:vs[0]?=some (vs[0]'(by simp at hl; omega)):=Array.getElem?_eq_getElem _
 have hr:=hxs.at_ 0 _ _ rfl hv
 have:∃ a c,vs[0]'(by simp at hl; omega)=.slice a 0 c:=by
  generalize vs[0]'(by simp at hl; omega)=v at hr
  cases hr with
  | immE=>exact ⟨_,_,rfl⟩
  | imm val hn=>subst hn; exact ⟨_,_,rfl⟩
 obtain ⟨a,c,e⟩:=this
 refine (h a c).2 B w0 E w vs hσ hst ⟨by simpa using hl,fun i x v hx hv'=>?_⟩
 match i with
 | 0 =>
  simp at hx; subst hx
  rw [hv] at hv'
  cases hv'
  rw [e]; exact .lit _
 | i+1=>simp at hx
theorem vn (H:Hp):aE Tryz.prog σ bu [d_ []] H (d_ []) H:=by
 refine aE.imm0 fun a c=>?_
 cases a with
 | none =>
  have run:∃ r H1,aE Tryz.prog σ bu [.lit (.slice none 0 c)] Hp.empty r H1∧r=.lit (.slice none 0 0):=cA.run (by simp)
  obtain ⟨r,H1,hg,rfl⟩:=run
  exact hg.frzR rfl .nil H
 | some a =>
  have run:∃ r H1,aE Tryz.prog σ bu [.lit (.slice (some a) 0 c)] Hp.empty r H1∧Fz H1 r (d_ []):=by
   refine cA.run ?_
   simp [ar,aT,aW,gS,iI,jG,pO]
   exact .sl (cs:=[]) (ex:=true) (fun _ _=>.any) (by simp) rfl (by simp) (by simp) (by simp)
  obtain ⟨r,H1,hg,hf⟩:=run
  exact hg.frzR rfl hf H
theorem wU (H:Hp):aE Tryz.prog σ bH [.imm 2 []] H (.imm 2 []) H:=by
 refine aE.imm0 fun a c=>?_
 cases a with
 | none =>
  have run:∃ r H1,aE Tryz.prog σ bH [.lit (.slice none 0 c)] Hp.empty r H1∧r=.lit (.slice none 0 0):=b8.run (by simp)
  obtain ⟨r,H1,hg,rfl⟩:=run
  exact hg.frzR rfl .nil H
 | some a =>
  have run:∃ r H1,aE Tryz.prog σ bH [.lit (.slice (some a) 0 c)] Hp.empty r H1∧Fz H1 r (.imm 2 []):=by
   refine b8.run ?_
   simp [ar,aT,aW,gS,iI,jG,pO]
   exact .sl (cs:=[]) (ex:=true) (fun _ _=>.any) (by simp) rfl (by simp) (by simp) (by simp)
  obtain ⟨r,H1,hg,hf⟩:=run
  exact hg.frzR rfl hf H
theorem wH {sz bytes:Nat} {z:List Value} {H:Hp} {rows:List (List AV)} (hr:rows≠[]) (h2:∀ row ∈ rows,row.length=sz) (hone:rows.flatten.all AV.one=true) (hb:rows.length*bytes≤140737488355328) (hn:rows.length≤4611686018427387904)
  {K:AV × Hp→Prop} (h:K (.sl (H.n+1) 0 sz rows.length none,(H.new (.cells [] true)).new (.cells rows.flatten false))) :
  bnd (ar z sz 0 H []) fun p=>bnd (aW false sz bytes p.2 p.1 (.imm sz rows)) K:=by
 have h0:rows.length≠0:=by cases rows<;>simp at hr ⊢
 have e:pO z 0=[]:=by simp [pO]
 simp only [ar,aT,Nat.zero_mul,e,List.length_nil,iI,decide_true,cond_true,aa]
 simp only [aW,jG,cond_true,rR,hone,iI,h0,decide_false,cond_false,pD]
 simp [hb,hn,h0]
 exact h
theorem wV (l:List ByteArray) (hb:l.length*16≤140737488355328) (H:Hp):aE Tryz.prog σ bu [d_ l] H (d_ l) H:=by
 cases l with
 | nil=>exact vn H
 | cons s l =>
  have run:∃ r H1,aE Tryz.prog σ bu [d_ (s::l)] Hp.empty r H1∧Fz H1 r (d_ (s::l)):=by
   refine cA.run ?_
   simp only [d_,List.map_cons,Ge,aa,aj,Bool.false_eq_true,if_false]
   refine wH (rows:=[Sx s]::l.map fun s=>[Sx s]) (K:=fun q=>Fz q.2 q.1 (.imm 1 ([Sx s]::l.map fun s=>[Sx s]))) (by simp) (fun row hrow=>?_) ?_ (by simpa using hb) (by simp at hb ⊢; omega) ?_
   ·rw [← List.map_cons (f:=fun s=>[Sx s])] at hrow
    obtain ⟨x,_,rfl⟩:=List.mem_map.1 hrow; rfl
   ·rw [← List.map_cons (f:=fun s=>[Sx s]),List.all_eq_true]
    intro x hx
    obtain ⟨row,hrow,hx⟩:=List.mem_flatten.1 hx
    obtain ⟨x,_,rfl⟩:=List.mem_map.1 hrow
    simp at hx; subst hx; rfl
   ·refine Fz.rows (cs:=([Sx s]::l.map fun s=>[Sx s]).flatten) (ex:=false) (by simp) (fun row hrow=>?_) ?_ ?_
    ·rw [← List.map_cons (f:=fun s=>[Sx s])] at hrow
     obtain ⟨x,_,rfl⟩:=List.mem_map.1 hrow; rfl
    ·rw [List.drop_zero]
     refine List.take_of_length_le ?_
     rw [dt (sz:=1)]
     ·simp
     ·intro row hrow
      rw [← List.map_cons (f:=fun s=>[Sx s])] at hrow
      obtain ⟨x,_,rfl⟩:=List.mem_map.1 hrow; rfl
    ·rw [← List.map_cons (f:=fun s=>[Sx s])]; exact ba _ (fun _=>rfl) _
  obtain ⟨r,H1,hg,hf⟩:=run
  exact hg.frzR (by simp [aU]) hf H
def iZ (p:ByteArray × ByteArray):ByteArray × ByteArray:=(jV p.1,p.2)
def cm (n:Nd):Nd:={ n with tag:=jV n.tag,attrs:=n.attrs.map iZ }
structure lS (n:Nd):Prop where
 parent:i64 n.parent
 tag:n.tag.data.size≤reachBytes
 classes:n.classes.length*16≤reachBytes
 attrs:n.attrs.length*32≤reachBytes
 names:∀ p ∈ n.attrs,p.1.data.size≤reachBytes
theorem eC:reachBytes=140737488351232:=rfl
@[simp] theorem Kr (H:Hp) (id off:Nat) (l:List ByteArray):stA 1 H (.ptr id off) (d_ l)=stO 1 off [d_ l] H id (H.get id):=iW 1 H id off _ rfl rfl
theorem iN {rows:List (ByteArray × ByteArray)}:∀ row ∈ rows.map cK,row.length=2:=by
 intro row hrow
 obtain ⟨x,_,rfl⟩:=List.mem_map.1 hrow; rfl
theorem yk {rows:List (ByteArray × ByteArray)}:(rows.map cK).flatten.all AV.one=true:=by
 rw [List.all_eq_true]
 intro x hx
 obtain ⟨row,hrow,hx⟩:=List.mem_flatten.1 hx
 obtain ⟨x,_,rfl⟩:=List.mem_map.1 hrow
 simp [cK] at hx
 rcases hx with rfl | rfl<;>rfl
theorem xd (n:Nd) (hn:lS n) {H:Hp} {K:AV→Hp→Prop}
  (h0:n.attrs=[]→∀ H',H'.n ≥ H.n→(∀ j,j<H.n→H'.get j=H.get j)→K (.agg (bF n)) H')
  (h1:n.attrs≠[]→∀ H' id,H'.n ≥ H.n→(∀ j,j<H.n→H'.get j=H.get j)→H.n≤id→id<H'.n→H'.get id=some (.cells (n.attrs.map cK).flatten false) →
   K (.agg [I n.parent,Sx n.tag,Sx n.id,d_ n.classes,.sl id 0 2 n.attrs.length none]) H') :
  ai Tryz.prog σ iK [.agg (bF n)] H K:=by
 have hc:=hn.classes
 have ha:=hn.attrs
 rw [eC] at hc ha
 have nlt:∀ {j:Nat},j<H.n→j≠H.n∧j≠H.n+1∧j≠H.n+2∧j≠H.n+3:=fun h=>by omega
 refine mh.run ?_
 simp [bF]
 refine au (wV _ (by omega) _) ?_
 simp
 by_cases he:n.attrs=[]
 ·rw [he]
  refine au (wU _) ?_
  have e:bF n=[I n.parent,Sx n.tag,Sx n.id,d_ n.classes,.imm 2 []]:=by simp [bF,he]
  rw [e] at h0
  simp [cQ]
  exact h0 he _ (by simp; omega) (fun j hj=>by have:=nlt hj; simp [this])
 ·obtain ⟨p,ps,hps⟩:=List.exists_cons_of_ne_nil he
  refine b8.run ?_
  rw [hps,List.map_cons]
  simp only [Ge,aa,aj,Bool.false_eq_true,if_false]
  rw [← List.map_cons,← hps]
  refine wH (rows:=n.attrs.map cK) (by simpa using he) iN yk (by simpa using Nat.le_trans ha (by omega)) (by simp; omega) ?_
  have q1:¬ (H.n=H.n+1+1+1):=by omega
  have q2:¬ (H.n=H.n+1+1):=by omega
  have q3:¬ (H.n+1=H.n+1+1+1):=by omega
  simp [cQ,q1,q2,q3]
  refine h1 he _ _ ?_ (fun j hj=>?_) ?_ ?_ ?_
  ·simp; omega
  ·have:=nlt hj
   have q4:j≠H.n+1+1:=by omega
   have q5:j≠H.n+1+1+1:=by omega
   simp [this,q4,q5]
  ·omega
  ·simp
  ·have q6:¬ (H.n+1+1=H.n):=by omega
   have q7:¬ (H.n+1+1+1=H.n):=by omega
   have q8:¬ (H.n+1+1+1=H.n+1):=by omega
   have q9:¬ (H.n+1+1=H.n+1):=by omega
   simp [q6,q7,q8,q9]
theorem BM {l l0:List (ByteArray × ByteArray)} {k:Nat} (hk:k<l0.length) (hl:l.length=l0.length) (h1:l.take k=(l0.take k).map iZ) (h2:l.drop k=l0.drop k) :
  ∃ hk':k<l.length,l[k]=l0[k]∧(l.set k (iZ l0[k])).take (k+1)=(l0.take (k+1)).map iZ∧(l.set k (iZ l0[k])).drop (k+1)=l0.drop (k+1):=by
 have hk':k<l.length:=by omega
 rw [List.drop_eq_getElem_cons hk',List.drop_eq_getElem_cons hk] at h2
 have h3:=List.cons.inj h2
 refine ⟨hk',h3.1,?_,?_⟩
 ·rw [List.take_succ_eq_append_getElem (by simpa using hk'),List.take_succ_eq_append_getElem hk,List.map_append,← h1,List.take_set_of_le (by omega)]
  simp
 ·rw [List.drop_set_of_lt (by omega)]; exact h3.2
theorem DT (n:Nd) (hn:lS n) {K:AV→Hp→Prop} {id b1 b2:Nat} {par tg idd cl:AV} (h12:b1≠b2) (hi1:id≠b1) (hi2:id≠b2) (ho:[par,tg,idd,cl].all AV.one=true):∀ (d k:Nat) (l:List (ByteArray × ByteArray)) (H:Hp),H.get b1=some (.cells [par,tg,idd,cl,.sl id 0 2 n.attrs.length none] true)→(∃ cs,H.get b2=some (.cells cs true)∧cs.length=5) →
  H.get id=some (.cells (l.map cK).flatten false)→l.length=n.attrs.length→n.attrs.length - k=d→k≤n.attrs.length→l.take k=(n.attrs.take k).map iZ→l.drop k=n.attrs.drop k →
  (∀ H',H'.get id=some (.cells ((n.attrs.map iZ).map cK).flatten false)→K (.agg [par,tg,idd,cl,.sl id 0 2 n.attrs.length none]) H') →
  cG.L0 σ K (.ptr b1 0) (.ptr b2 0) (I n.attrs.length) (I k) H:=by
 have ha:=hn.attrs
 rw [eC] at ha
 intro d
 induction d with
 | zero =>
  intro k l H g1 g2 gi hl hd hk h1 h2 hK
  obtain ⟨cs,g2,hcs⟩:=g2
  have e:k=n.attrs.length:=by omega
  subst e
  have el:l=n.attrs.map iZ:=by
   rw [← hl,List.take_length,hl,List.take_length] at h1
   exact h1
  refine cG.L0_step ?_
  simp [g1,g2,cQ,hcs]
  simp at ho
  simp [ho,aQ,hcs,cQ]
  refine hK _ ?_
  simp [hi2,gi,el]
 | succ d ih =>
  intro k l H g1 g2 gi hl hd hk h1 h2 hK
  have hlt:k<n.attrs.length:=by omega
  obtain ⟨hlt',hlk,h3,h4⟩:=BM hlt hl h1 h2
  have hsz:(n.attrs[k]).1.data.size<9000000000000000000:=by
   have:=hn.names _ (List.getElem_mem hlt)
   rw [eC] at this
   omega
  have hdrop:((l.map cK).flatten).drop (k*2)=cK n.attrs[k]++((l.map cK).drop (k+1)).flatten:=by
   rw [jQ iN (by simpa using hlt'),List.getElem_map,hlk]
  refine cG.L0_step ?_
  simp [g1,hlt,mL,gi,hdrop,cK]
  refine au (pE _ hsz _) ?_
  have hlen:k*2+1≤((l.map cK).flatten).length:=by
   rw [dt iN,List.length_map]; omega
  simp [g1,gi]
  rw [if_pos (by simpa using hlen),aa,ci (by omega)]
  refine ih (k+1) (l.set k (iZ n.attrs[k])) _ (by simp [Ne.symm hi1,g1]) ?_ ?_ (by simpa using hl) (by omega) (by omega) h3 h4 hK
  ·obtain ⟨cs,g2,hcs⟩:=g2
   exact ⟨cs,by simp [Ne.symm hi2,g2],hcs⟩
  ·simp
   have:=iJ (sz:=2) (xs:=[Sx (jV n.attrs[k].1)]) (k:=0) (by simp) (rows:=l.map cK) (w:=k) iN (by simpa using hlt')
   rw [Nat.add_zero] at this
   rw [this]
   congr 3
   simp [cK,iZ,hlk]
theorem EK (n:Nd) (hn:lS n) (H:Hp):aE Tryz.prog σ fM [.agg (bF n)] H (.agg (bF (cm n))) H:=by
 have ht:n.tag.data.size<9000000000000000000:=by
  have:=hn.tag
  rw [eC] at this; omega
 obtain ⟨Q,hQ⟩:∃ Q:AV→Hp→Prop,∀ r H1,Q r H1 ↔ Fz H1 r (.agg (bF (cm n))):=⟨_,fun _ _=>Iff.rfl⟩
 have run:∃ r H1,aE Tryz.prog σ fM [.agg (bF n)] Hp.empty r H1∧Q r H1:=by
  refine cG.run ?_
  simp
  refine xd n hn (fun he H' hn' hs=>?_) (fun he H' id hn' hs hid hid' hg=>?_)
  ·have e0:H'.get Hp.empty.n=some (.cells (bF n) true):=by rw [hs _ (by simp; omega)]; simp
   have e1:H'.get (Hp.empty.n+1)=some (.cells [I 0,Sx ⟨#[]⟩,Sx ⟨#[]⟩,.lit (.slice none 0 0),.lit (.slice none 0 0)] true):=by rw [hs _ (by simp)]; simp
   generalize Hp.empty.n=z at e0 e1 ⊢
   simp [e0,e1,bF,he,aQ]
   refine au (pE _ ht _) ?_
   simp [e0,e1,aQ]
   refine cG.L0_step ?_
   simp [e0,e1,cQ,aQ]
   rw [hQ]
   have e2:bF (cm n)=[I n.parent,Sx (jV n.tag),Sx n.id,d_ n.classes,.imm 2 []]:=by simp [cm,bF,he]
   rw [e2]
   exact .refl (by simp [aU,bS,dV])
  ·have e0:H'.get Hp.empty.n=some (.cells (bF n) true):=by rw [hs _ (by simp; omega)]; simp
   have e1:H'.get (Hp.empty.n+1)=some (.cells [I 0,Sx ⟨#[]⟩,Sx ⟨#[]⟩,.lit (.slice none 0 0),.lit (.slice none 0 0)] true):=by rw [hs _ (by simp)]; simp
   have hid:Hp.empty.n+2≤id:=by simpa using hid
   generalize Hp.empty.n=z at e0 e1 hid ⊢
   have d1:id≠z:=by omega
   have d2:id≠z+1:=by omega
   simp [e0,e1,bF,aQ]
   refine au (pE _ ht _) ?_
   simp [e0,e1,aQ]
   refine DT n hn (id:=id) (by omega) d1 d2 ?_ _ 0 n.attrs _ (by rw [aw,if_pos rfl]) ⟨_,by simp [e1]; rfl,rfl⟩ (by simp [d1,hg]) rfl rfl (Nat.zero_le _) (by simp) rfl fun H2 h2=>?_
   ·simp
   rw [hQ]
   refine .aggL (.cons (.refl rfl) (.cons (.refl rfl) (.cons (.refl rfl) (.cons (.refl (lI _)) (.cons ?_ .nil)))))
   have:=Fz.rows (cap:=none) h2 (rows:=(n.attrs.map iZ).map cK) (off:=0) iN (by rw [List.drop_zero]; exact List.take_of_length_le (by rw [dt iN]; exact Nat.le_refl _)) (ba _ (fun _=>rfl) _)
   simpa [cm] using this
 obtain ⟨r,H1,hg,hf⟩:=run
 rw [hQ] at hf
 exact hg.frzR (by simp [aU,bS,kw]) hf H
end Go.Proofs.YthmaggcfghjmfaaGreat.Ev
namespace Go.Proofs.YthmaggcfghjmfaaGreat.Ev
set_option linter.unusedVariables false
set_option linter.unusedSimpArgs false
variable {σ:Sig}
theorem lT {α β:Type} {f:α→β} {l:List α} {k:Nat} (h:k<l.length):(l.take (k+1)).map f=(l.take k).map f++[f l[k]]:=by
 rw [List.take_succ_eq_append_getElem h,List.map_append]; rfl
theorem Dy (n:Nd) (hn:lS n) {K:AV→Hp→Prop} {b1 b2:Nat} {par tg idd cl:AV} {cr:List (List AV)} (h12:b1≠b2) (ho:[par,tg,idd].all AV.one=true) (ho1:AV.one cl=true):∀ (d k:Nat) (y:AV) (H:Hp),b1<H.n→b2<H.n→H.get b1=some (.cells [par,tg,idd,cl,.imm 2 (n.attrs.map cK)] true)→(∃ cs,H.get b2=some (.cells cs true)∧cs.length=5) →
  Gs 1 H cl cr→Gs 2 H y ((n.attrs.take k).map fun p=>cK (iZ p))→¬ own cl b1→¬ own cl b2→¬ own y b1→¬ own y b2→(∀ j,own cl j→¬ own y j)→n.attrs.length - k=d→k≤n.attrs.length →
  (∀ y' H',Gs 1 H' cl cr→Gs 2 H' y' (n.attrs.map fun p=>cK (iZ p))→K (.agg [par,tg,idd,cl,y']) H') →
  cC.L0 σ K (.ptr b1 0) (.ptr b2 0) y (I k) H:=by
 have ha:=hn.attrs
 rw [eC] at ha
 intro d
 induction d with
 | zero =>
  intro k y H l1 l2 g1 g2 gc gy c1 c2 y1 y2 hd' hd hk hK
  obtain ⟨cs,g2,hcs⟩:=g2
  have e:k=n.attrs.length:=by omega
  subst e
  rw [List.take_length] at gy
  refine cC.L0_step ?_
  simp at ho
  have o5:=gy.one
  simp [g1,gy.st (id:=b1) (off:=4) g1 (by simp),cQ,g2,hcs,Ne.symm h12,ho,ho1,o5,aQ]
  refine hK _ _ (gc.keep (fun j hj=>?_) (by simp)) (gy.keep (fun j hj=>?_) (by simp))
  ·have:j≠b1:=fun e=>c1 (e ▸ hj)
   have:j≠b2:=fun e=>c2 (e ▸ hj)
   simp [*]
  ·have:j≠b1:=fun e=>y1 (e ▸ hj)
   have:j≠b2:=fun e=>y2 (e ▸ hj)
   simp [*]
 | succ d ih =>
  intro k y H l1 l2 g1 g2 gc gy c1 c2 y1 y2 hd' hd hk hK
  have hlt:k<n.attrs.length:=by omega
  have hget:n.attrs[k]?=some n.attrs[k]:=List.getElem?_eq_getElem hlt
  have hsz:(n.attrs[k]).1.data.size<9000000000000000000:=by
   have:=hn.names _ (List.getElem_mem hlt)
   rw [eC] at this
   omega
  refine cC.L0_step ?_
  simp [g1,hlt,cd hget,cK]
  refine au (iP _ hsz _) ?_
  simp [g1,cd hget,cK,aT,iI,pD]
  refine fN gy rfl rfl rfl (by simp; omega) (by simp; omega) fun y' H' gy' f=>?_
  have n1:∀ {j:Nat},j<H.n→¬ own y j→¬ own y' j:=fun hj hy h=>by
   rcases f.mine _ h with h | h
   ·exact hy h
   ·omega
  rw [ci (by omega)]
  refine ih (k+1) y' H' (Nat.lt_of_lt_of_le l1 f.grow) (Nat.lt_of_lt_of_le l2 f.grow) (by rw [f.same _ l1 y1]; exact g1) ?_ (gc.keep (fun j hj=>f.same j (gc.lt hj) (hd' j hj)) f.grow) ?_ c1 c2 (n1 l1 y1) (n1 l2 y2) (fun j hj=>n1 (gc.lt hj) (hd' j hj)) (by omega) (by omega) hK
  ·obtain ⟨cs,g2,hcs⟩:=g2
   exact ⟨cs,by rw [f.same _ l2 y2]; exact g2,hcs⟩
  ·rw [lT hlt]
   exact gy'
theorem Fu (n:Nd) (hn:lS n) (H:Hp):aE Tryz.prog σ ff [.agg (bF n)] H (.agg (bF (cm n))) H:=by
 have ht:n.tag.data.size<9000000000000000000:=by
  have:=hn.tag
  rw [eC] at this; omega
 have hc:=hn.classes
 rw [eC] at hc
 obtain ⟨Q,hQ⟩:∃ Q:AV→Hp→Prop,∀ r H1,Q r H1 ↔ Fz H1 r (.agg (bF (cm n))):=⟨_,fun _ _=>Iff.rfl⟩
 have run:∃ r H1,aE Tryz.prog σ ff [.agg (bF n)] Hp.empty r H1∧Q r H1:=by
  refine cC.run ?_
  simp [bF]
  refine au (iP _ ht _) ?_
  simp
  refine mO (rows2:=n.classes.map fun s=>[Sx s]) .nil rfl rR (fun row hrow=>?_) ?_ (by simp; omega) (by simp; omega) fun cl H2 gc f=>?_
  ·obtain ⟨x,_,rfl⟩:=List.mem_map.1 hrow; rfl
  ·rw [List.all_eq_true]
   intro x hx
   obtain ⟨row,hrow,hx⟩:=List.mem_flatten.1 hx
   obtain ⟨x,_,rfl⟩:=List.mem_map.1 hrow
   simp at hx; subst hx; rfl
  ·have f0:=f.same Hp.empty.n (by simp; omega) (fun h=>h)
   have f1:=f.same (Hp.empty.n+1) (by simp) (fun h=>h)
   have fm:=f.mine
   have fg:=f.grow
   simp at f0 f1 fg
   have c1:¬ own cl Hp.empty.n:=fun h=>by
    rcases fm _ h with h | h
    ·exact h
    ·have h:=h.1; simp at h; omega
   have c2:¬ own cl (Hp.empty.n+1):=fun h=>by
    rcases fm _ h with h | h
    ·exact h
    ·have h:=h.1; simp at h; omega
   clear fm f
   generalize Hp.empty.n=z at f0 f1 fg c1 c2 ⊢
   simp at gc
   simp [f0,gc.st (id:=z) (off:=3) f0 (by simp)]
   refine Dy n hn (by omega) ?_ gc.one _ 0 _ _ (by simp; omega) (by simp; omega) (by rw [aw,if_pos rfl]) ⟨_,by simp [f1]; rfl,rfl⟩ (gc.keep (fun j hj=>?_) (by simp)) .nil c1 c2 (fun h=>h) (fun h=>h) (fun j _ h=>h) rfl (Nat.zero_le _) fun y' H' g1 g2=>?_
   ·simp
   ·have:j≠z:=fun e=>c1 (e ▸ hj)
    simp [this]
   ·rw [hQ]
    refine .aggL (.cons (.refl rfl) (.cons (.refl rfl) (.cons (.refl rfl) (.cons ?_ (.cons ?_ .nil)))))
    ·exact g1.fz (ba _ (fun _=>rfl) _)
    ·have:=g2.fz (ba _ (fun _=>rfl) _)
     rw [show (cm n).attrs.map cK=n.attrs.map fun p=>cK (iZ p) by simp [cm,Function.comp_def]]
     exact this
 obtain ⟨r,H1,hg,hf⟩:=run
 rw [hQ] at hf
 exact hg.frzR (by simp [aU,bS,kw]) hf H
end Go.Proofs.YthmaggcfghjmfaaGreat.Ev
namespace Go.Proofs.YthmaggcfghjmfaaGreat.Ev
set_option linter.unusedVariables false
set_option linter.unusedSimpArgs false
variable {σ:Sig}
theorem oc {z:List Value} {sz bytes:Nat} {H:Hp} {x y:AV} {rows:List (List AV)} {C:AV × Hp→Prop} (hC:C (.sl H.n 0 sz 1 (some 1),H.new (.cells y.cells true))) (hx:Gs sz H x rows) (hl:y.cells.length=sz) (ha:y.isAny=false) (hone:y.cells.all AV.one=true)
  (hb:(rows.length+1)*bytes≤140737488355328) (hn:rows.length+1≤4611686018427387904) {K:AV × Hp→Prop} (h:∀ x' H',Gs sz H' x' (rows++[y.cells])→Fr H x H' x'→K (x',H')) :
  bnd (ar z sz 1 H [(0,sz,y)]) fun p=>C p∧bnd (aW false sz bytes p.2 x p.1) K:=by
 have:=fN (z:=z) hx hl ha hone hb hn h
 rw [kr hl ha,aa] at this ⊢
 exact ⟨hC,this⟩
structure lD (L:List Nd) (d:List Nat) (H:Hp) (t m:Nat) (sl:AV) (ch:List AV):Prop where
 tlt:t<H.n
 tg:H.get t=some (.cells [sl] true)
 len:ch.length=m
 rows:Gs 9 H sl (dT L d ch cm)
 kid:∀ (i:Nat) (c:AV),ch[i]?=some c→Gs 1 H c ((iR L m i).map fun j:Nat=>[I j])
 nt:¬ own sl t
 nk:∀ (i:Nat) (c:AV),ch[i]?=some c→¬ own c t
 ns:∀ (i:Nat) (c:AV),ch[i]?=some c→∀ j,own c j→¬ own sl j
 nd:∀ (i i':Nat) (c c':AV),i≠i'→ch[i]?=some c→ch[i']?=some c'→∀ j,own c j→¬ own c' j
theorem FZ {L:List Nd} {d:List Nat} {N:Nat} (hB:dh L N d) {m:Nat} (hm:m<N) (hN:N≤4096) {H:Hp} {t x7:Nat} {sl:AV} {ch:List AV} {y6 y7:AV}
  (tlt:t<H.n) (tg:H.get t=some (.cells [sl] true)) (len:ch.length=m) (rows:Gs 9 H sl (dT L d ch cm)) (kid:∀ (i:Nat) (c:AV),ch[i]?=some c→Gs 1 H c ((iR L (m+1) i).map fun j:Nat=>[I j]))
  (nt:¬ own sl t) (nk:∀ (i:Nat) (c:AV),ch[i]?=some c→¬ own c t) (ns:∀ (i:Nat) (c:AV),ch[i]?=some c→∀ j,own c j→¬ own sl j)
  (nd:∀ (i i':Nat) (c c':AV),i≠i'→ch[i]?=some c→ch[i']?=some c'→∀ j,own c j→¬ own c' j)
  (hx7:H.get x7=some (.cells (gH L d m (.lit (.slice none 0 0)) cm) true)) {K:AV→Hp→Prop} (h:∀ H' sl' ch',lD L d H' t (m+1) sl' ch'→K (I 0) H'):a_.J1 σ K (.ptr t 0) (.ptr x7 0) y6 y7 H:=by
 refine a_.J1_step ?_
 simp [tg,hx7]
 simp only [cQ (Ao L d m (.lit (.slice none 0 0)) cm),aa]
 have ht':t≠H.n:=by omega
 refine oc (y:=.agg (gH L d m (.lit (.slice none 0 0)) cm)) (bytes:=136) (by simp [ht',tg]) rows rfl rfl (by simp [gH,bF]) (by rw [eX]; omega) (by rw [eX]; omega) fun sl' H' g f=>?_
 have e1:H'.get t=some (.cells [sl] true):=by rw [f.same t tlt nt]; exact tg
 have sown:∀ j,own sl' j→own sl j∨(H.n≤j∧j<H'.n):=f.mine
 have nt':¬ own sl' t:=fun h=>by
  rcases sown t h with h | h
  ·exact nt h
  ·omega
 have kl:∀ (i:Nat) (c:AV),ch[i]?=some c→∀ j,own c j→j<H.n:=fun i c hc j hj=>(kid i c hc).lt hj
 simp [g.st (id:=t) (off:=0) e1 (by simp)]
 have cnew:∀ {i:Nat} {c:AV},(ch++[AV.lit (.slice none 0 0)])[i]?=some c→ch[i]?=some c∨(i=m∧c=.lit (.slice none 0 0)):=by
  intro i c hc
  by_cases hi:i<ch.length
  ·rw [List.getElem?_append_left hi] at hc; exact .inl hc
  ·rw [List.getElem?_append_right (by omega)] at hc
   have hl:=(List.getElem?_eq_some_iff.1 hc).1
   simp at hl
   have:i=m:=by omega
   subst this
   simp [len] at hc
   exact .inr ⟨rfl,hc.symm⟩
 refine h _ sl' (ch++[.lit (.slice none 0 0)]) ⟨?_,?_,?_,?_,?_,nt',?_,?_,?_⟩
 ·simp; have:=f.grow; omega
 ·simp
 ·simp [len]
 ·rw [x_,len]
  refine g.keep (fun j hj=>?_) (by simp)
  have:j≠t:=fun e=>nt' (e ▸ hj)
  simp [this]
 ·intro i c hc
  rcases cnew hc with hc | ⟨rfl,rfl⟩
  ·refine (kid i c hc).keep (fun j hj=>?_) (by simp; exact f.grow)
   have:j≠t:=fun e=>nk i c hc (e ▸ hj)
   simp [this]
   exact f.same j (kl i c hc j hj) (ns i c hc j hj)
  ·rw [EV hB (by omega) (Nat.le_refl _)]
   exact .nil
 ·intro i c hc
  rcases cnew hc with hc | ⟨rfl,rfl⟩
  ·exact nk i c hc
  ·exact fun h=>h
 ·intro i c hc j hj h
  rcases cnew hc with hc | ⟨rfl,rfl⟩
  ·rcases sown j h with h | h
   ·exact ns i c hc j hj h
   ·have:=kl i c hc j hj; omega
  ·exact hj
 ·intro i i' c c' hne hc hc' j hj hj'
  rcases cnew hc with hc | ⟨rfl,rfl⟩
  ·rcases cnew hc' with hc' | ⟨rfl,rfl⟩
   ·exact nd i i' c c' hne hc hc' j hj hj'
   ·exact hj'
  ·exact hj
theorem Gb {L:List Nd} {d:List Nat} {N:Nat} (hB:dh L N d) {m p:Nat} (hm:m<N) (hN:N≤4096) (hm0:0<m) (hp:par L m=p) (hpm:p<m) {H:Hp} {t x7 id:Nat} {ch:List AV}
  (hT:lD L d H t m (.sl id 0 9 m none) ch) (hx7:H.get x7=some (.cells (gH L d m (.lit (.slice none 0 0)) cm) true)) (hn7:x7<H.n) (h7t:x7≠t) (h7s:x7≠id) (h7c:∀ (i:Nat) (c:AV),ch[i]?=some c→¬ own c x7)
  {K:AV→Hp→Prop} (h:∀ H' sl' ch',lD L d H' t (m+1) sl' ch'→K (I 0) H'):a_.J0 σ K (.ptr t 0) (.ptr x7 0) (I m) (.ptr id (p*9)) H:=by
 have hl:=hT.len
 obtain ⟨c,hc⟩:=ce (l:=ch) (k:=p) (by omega)
 have hg:∃ ex,H.get id=some (.cells (dT L d ch cm).flatten ex)∧id<H.n:=by
  have:=hT.rows
  have hlen:=eX L d ch cm
  generalize dT L d ch cm=rr at this hlen
  cases this with
  | sl hlt hg hsz=>exact ⟨_,hg,hlt⟩
 obtain ⟨ex,hg,hidn⟩:=hg
 obtain ⟨r5,h5⟩:=lC (L:=L) (d:=d) (low:=cm) hc 5 (by omega)
 have hgc:=hT.kid p c hc
 have hlast:iR L (m+1) p=iR L m p++[m]:=by rw [nE,if_pos ⟨hm0,hp⟩]
 have hkl:(iR L m p).length≤m:=by
  have:=List.length_filter_le (fun j:Nat=>decide (0<j)&&decide (par L j=(p:Int))) (List.range m)
  simp at this
  unfold iR
  omega
 refine a_.J0_step ?_
 simp [hg,h5,gH,bF]
 refine fN hgc rfl rfl rfl (by simp; omega) (by simp; omega) fun c' H' g f=>?_
 have cid:¬ own c id:=fun h=>(hT.ns p c hc id h) rfl
 have e1:H'.get id=some (.cells (dT L d ch cm).flatten ex):=by rw [f.same id hidn cid]; exact hg
 have hlen:p*9+5<(dT L d ch cm).flatten.length:=by
  rw [dt nf,eX]; omega
 simp [g.st (id:=id) (off:=p*9+5) e1 hlen]
 have hput:=xK (L:=L) (d:=d) (low:=cm) (c':=c') hc
 rw [nu hlen] at hput
 rw [hput]
 have kl:∀ (i:Nat) (c:AV),ch[i]?=some c→∀ j,own c j→j<H.n:=fun i c hc j hj=>(hT.kid i c hc).lt hj
 have cown:∀ j,own c' j→own c j∨(H.n≤j∧j<H'.n):=f.mine
 have cset:∀ {i:Nat} {x:AV},(ch.set p c')[i]?=some x→(i≠p∧ch[i]?=some x)∨(i=p∧x=c'):=by
  intro i x hx
  rw [List.getElem?_set] at hx
  split at hx
  ·rename_i he
   split at hx
   ·cases hx; exact .inr ⟨he.symm,rfl⟩
   ·cases hx
  ·rename_i he; exact .inl ⟨fun e=>he e.symm,hx⟩
 have cid':¬ own c' id:=fun h=>by
  rcases cown id h with h | h
  ·exact cid h
  ·omega
 have ct':¬ own c' t:=fun h=>by
  rcases cown t h with h | h
  ·exact hT.nk p c hc h
  ·have:=hT.tlt; omega
 have idt:id≠t:=fun e=>hT.nt e
 refine FZ hB hm hN (sl:=.sl id 0 9 m none) (ch:=ch.set p c') ?_ ?_ (by simpa using hl) ?_ ?_ hT.nt ?_ ?_ ?_ ?_ h
 ·simp; have:=f.grow; have:=hT.tlt; omega
 ·simp [Ne.symm idt]
  rw [f.same t hT.tlt (hT.nk p c hc)]; exact hT.tg
 ·have:m=(dT L d (ch.set p c') cm).length:=by rw [eX]; simpa using hl.symm
  conv=>arg 3; rw [this]
  exact .sl (ex:=ex) (by simp; have:=f.grow; omega) (by simp) nf
 ·intro i x hx
  rcases cset hx with ⟨hne,hx⟩ | ⟨rfl,rfl⟩
  ·rw [nE,if_neg (fun h=>hne (by have:=h.2; rw [hp] at this; omega)),List.append_nil]
   refine (hT.kid i x hx).keep (fun j hj=>?_) (by simp; exact f.grow)
   have:j≠id:=fun e=>hT.ns i x hx j hj e.symm
   simp [this]
   exact f.same j (kl i x hx j hj) (hT.nd i p x c hne hx hc j hj)
  ·rw [hlast,List.map_append]
   refine Gs.keep (H:=H') g (fun j hj=>?_) (by simp)
   have:j≠id:=fun e=>cid' (e ▸ hj)
   simp [this]
 ·intro i x hx
  rcases cset hx with ⟨hne,hx⟩ | ⟨rfl,rfl⟩
  ·exact hT.nk i x hx
  ·exact ct'
 ·intro i x hx j hj h
  rcases cset hx with ⟨hne,hx⟩ | ⟨rfl,rfl⟩
  ·exact hT.ns i x hx j hj h
  ·exact cid' (by have h:id=j:=h; rw [h]; exact hj)
 ·intro i i' x x' hne hx hx' j hj hj'
  rcases cset hx with ⟨h1,hx⟩ | ⟨rfl,rfl⟩
  ·rcases cset hx' with ⟨h2,hx'⟩ | ⟨rfl,rfl⟩
   ·exact hT.nd i i' x x' hne hx hx' j hj hj'
   ·rename_i h3
    rcases cown j hj' with h | h
    ·exact hT.nd i i' x c hne h3 hc j hj h
    ·have:=kl i x h3 j hj; omega
  ·rcases cset hx' with ⟨h2,hx'⟩ | ⟨h3,rfl⟩
   ·rcases cown j hj with h | h
    ·exact hT.nd i i' c x' hne hc hx' j h hj'
    ·have:=kl i' x' hx' j hj'; omega
   ·exact hne h3.symm
 ·simp [h7s]
  rw [f.same x7 hn7 (h7c p c hc)]; exact hx7
theorem lD.new {L:List Nd} {d:List Nat} {H:Hp} {t m:Nat} {sl:AV} {ch:List AV} (h:lD L d H t m sl ch) {H':Hp} (hs:∀ j,j<H.n→H'.get j=H.get j) (hn:H.n≤H'.n):lD L d H' t m sl ch :=
 ⟨Nat.lt_of_lt_of_le h.tlt hn,by rw [hs t h.tlt]; exact h.tg,h.len,h.rows.keep (fun j hj=>hs j (h.rows.lt hj)) hn,fun i c hc=>(h.kid i c hc).keep (fun j hj=>hs j ((h.kid i c hc).lt hj)) hn,h.nt,h.nk,h.ns,h.nd⟩
theorem xA {L:List Nd} {m p:Nat} (hp:par L m=p) {j:Nat} {l:List Nat} (e:iR L m p=l++[j]):jl L m=j∧cZ L m=(l.length:Int)+1+1:=by
 rw [ry hp] at e
 unfold jl cZ rh
 rw [e]
 simp
theorem IN {L : List Nd} {d : List Nat} {N : Nat} (hB : dh L N d) (hW : ∀ n ∈ L, lS n) {m : Nat} (hm : m < N) (hN : N ≤ 4096) {H : Hp} {t : Nat} {sl : AV} {ch : List AV} (hT : lD L d H t m sl ch)
    {K:AV→Hp→Prop} (h:∀ H' sl' ch',lD L d H' t (m+1) sl' ch'→K (I 0) H'):ai Tryz.prog σ gn [.ptr t 0,.agg (bF (cW L m))] H K:=by
  have hmL:m<L.length:=Nat.lt_of_lt_of_le hm hB.le
  have hnd:cW L m ∈ L:=by
    unfold cW
    rw [List.getD_eq_getElem?_getD,List.getElem?_eq_getElem hmL]
    exact List.getElem_mem hmL
  have hlow:=EK (σ:=σ) _ (hW _ hnd)
  have htn:=hT.tlt
  have t1:t≠H.n:=by omega
  have t2:t≠H.n+1:=by omega
  have hlen:=hT.rows.len
  rw [eX,hT.len] at hlen
  refine a_.run ?_
  simp
  refine au (hlow _) ?_
  have eb:∀ c:AV,aT [I 0,Sx ⟨#[]⟩,Sx ⟨#[]⟩,.lit (.slice none 0 0),.lit (.slice none 0 0),.lit (.slice none 0 0),I 0,I 0,I 0] [(0,5,.agg (bF (cm (cW L m)))),(7,1,I 1),(8,1,I (-1))]=some (bF (cm (cW L m))++[.lit (.slice none 0 0),I 0,I 1,I (-1)]):=by
    intro c
    simp [aT,iI,pD,bF,bN]
  rw [eb .any]
  have hnew:∀ (a b:Blk),lD L d ((H.new a).new b) t m sl ch:=fun a b=>hT.new (fun j hj=>by
    have:j≠H.n:=by omega
    have:j≠H.n+1:=by omega
    simp [*]) (by simp; omega)
  by_cases h0:m=0
  · subst h0
    have hr:=hB.root (by omega)
    have hpar:(cW L 0).parent=-1:=hr.1
    simp [t1,t2,hT.tg,hlen,bF,hpar,aQ]
    have hT2 := hT.new (H' := ((H.new (.cells [I (-1), Sx (cW L 0).tag, Sx (cW L 0).id, d_ (cW L 0).classes, .imm 2 (List.map cK (cW L 0).attrs)] true)).new
          (.cells [I 0,Sx ⟨#[]⟩,Sx ⟨#[]⟩,.lit (.slice none 0 0),.lit (.slice none 0 0),.lit (.slice none 0 0),I 0,I 0,I 0] true)).set (H.n+1)
      (some (.cells (bF (cm (cW L 0))++[.lit (.slice none 0 0),I 0,I 1,I (-1)]) true))) (fun j hj=>by
        have a1:j≠H.n:=by omega
        have a2:j≠H.n+1:=by omega
        simp [a1,a2]) (by simp; omega)
    have hd0:d.getD 0 0=0:=by rw [List.getD_eq_getElem?_getD,hr.2]; rfl
    refine FZ hB hm hN hT2.tlt hT2.tg hT2.len hT2.rows (fun i c hc=>?_) hT2.nt hT2.nk hT2.ns hT2.nd ?_ h
    · rw [nE,if_neg (by omega),List.append_nil]; exact hT2.kid i c hc
    · unfold gH
      rw [hd0]
      simp [cZ,pi,jl,rh]
  · obtain ⟨p,x,hp,hpm,hx,hdx,h256⟩:=hB.step m (by omega) hm
    have hpar:(cW L m).parent=p:=hp
    have hm0:¬ ((m:Int)=0):=by omega
    have hm1:(0:Int)<m:=by omega
    have hp1:¬ ((p:Int)<0):=by omega
    have hp2:¬ ((m:Int)≤p):=by omega
    have hmn:¬ (m=0):=h0
    have hmp:0<m:=by omega
    obtain ⟨id,ex,rfl,hg,hidn⟩:∃ id ex,sl=.sl id 0 9 m none∧H.get id=some (.cells (dT L d ch cm).flatten ex)∧id<H.n:=by
      have:=hT.rows
      have hl:=eX L d ch cm
      rw [hT.len] at hl
      generalize dT L d ch cm=rr at this hl
      cases this with
      | nil=>simp at hl; omega
      | sl hlt hg hsz=>exact ⟨_,_,by rw [hl],hg,hlt⟩
    obtain ⟨c,hc⟩:=ce (l:=ch) (k:=p) (by rw [hT.len]; exact hpm)
    obtain ⟨r5,h5⟩:=lC (L:=L) (d:=d) (low:=cm) hc 5 (by omega)
    obtain ⟨r6,h6⟩:=lC (L:=L) (d:=d) (low:=cm) hc 6 (by omega)
    have hdp:d.getD p 0=x:=by rw [List.getD_eq_getElem?_getD,hx]; rfl
    have hdm:d.getD m 0=x+1:=by rw [List.getD_eq_getElem?_getD,hdx]; rfl
    simp only [gH,hdp] at h5 h6
    have i1:id≠H.n:=by omega
    have i2:id≠H.n+1:=by omega
    have hpi:(p:Int)<m:=by omega
    have e256:¬ ((256:Int)<(x:Int)+1):=by omega
    simp [t1,t2,hT.tg,hlen,bF,hpar,aQ,hm0,hm1,hp1,hp2,hmn,hmp,mL,hpi,i1,i2,hg,h5,h6]
    have ew:wr .i64 ((x:Int)+1)=((x+1:Nat):Int):=by rw [fw (by omega) (by omega)]; rfl
    have e256':¬ ((256:Int)<((x+1:Nat):Int)):=by omega
    rw [ew,if_neg e256']
    have hG : ∃ G : Hp, G = ((((H.new (.cells [I p, Sx (cW L m).tag, Sx (cW L m).id, d_ (cW L m).classes, .imm 2 (List.map cK (cW L m).attrs)] true)).new
        (.cells [I 0,Sx ⟨#[]⟩,Sx ⟨#[]⟩,.lit (.slice none 0 0),.lit (.slice none 0 0),.lit (.slice none 0 0),I 0,I 0,I 0] true)).set (H.n+1)
        (some (.cells [I (cm (cW L m)).parent,Sx (cm (cW L m)).tag,Sx (cm (cW L m)).id,d_ (cm (cW L m)).classes,.imm 2 (List.map cK (cm (cW L m)).attrs),.lit (.slice none 0 0),I 0,I 1,I (-1)] true))).set (H.n+1)
        (some (.cells [I (cm (cW L m)).parent,Sx (cm (cW L m)).tag,Sx (cm (cW L m)).id,d_ (cm (cW L m)).classes,.imm 2 (List.map cK (cm (cW L m)).attrs),.lit (.slice none 0 0),I ((x+1:Nat):Int),I 1,I (-1)] true))):=⟨_,rfl⟩
    obtain ⟨G,eG⟩:=hG
    rw [← eG]
    have G1:∀ j,j<H.n→G.get j=H.get j:=fun j hj=>by
      have a1:j≠H.n:=by omega
      have a2:j≠H.n+1:=by omega
      rw [eG]; simp [a1,a2]
    have G2:G.get (H.n+1)=some (.cells [I (cm (cW L m)).parent,Sx (cm (cW L m)).tag,Sx (cm (cW L m)).id,d_ (cm (cW L m)).classes,.imm 2 (List.map cK (cm (cW L m)).attrs),.lit (.slice none 0 0),I ((x+1:Nat):Int),I 1,I (-1)] true):=by rw [eG]; simp
    have G3:G.n=H.n+2:=by rw [eG]; rfl
    clear eG
    have hTG:=hT.new (H':=G) G1 (by omega)
    have hgG:G.get id=some (.cells (dT L d ch cm).flatten ex):=by rw [G1 id hidn]; exact hg
    have hgc:=hTG.kid p c hc
    have hkl:=hgc.len
    rw [List.length_map] at hkl
    have own7:∀ (i:Nat) (c:AV),ch[i]?=some c→¬ own c (H.n+1):=fun i c hc hj=>by
      have:=(hT.kid i c hc).lt hj; omega
    have hpl:(iR L m p).length≤m:=by
      have:=List.length_filter_le (fun j:Nat=>decide (0<j)&&decide (par L j=(p:Int))) (List.range m)
      simp at this
      unfold iR
      omega
    rcases List.eq_nil_or_concat (iR L m p) with hk | ⟨l,j,hk⟩
    · rw [hk] at hkl
      simp [hkl]
      have hs:pi L m=[]:=by rw [← ry hp]; exact hk
      refine Gb hB hm hN hmp hp hpm hTG ?_ (by omega) (by omega) (by omega) own7 h
      rw [G2]
      unfold gH
      rw [hdm]
      simp [cZ,jl,rh,hs,bF]
    · rw [List.concat_eq_append] at hk
      rw [hk,List.length_append,List.length_singleton] at hkl
      have hll:l.length+1≤m:=by rw [hk] at hpl; simpa using hpl
      obtain ⟨cid,cex,rfl,hcg⟩:∃ cid cex,c=.sl cid 0 1 (l.length+1) none∧G.get cid=some (.cells (((l++[j]).map fun j:Nat=>[I j]).flatten) cex):=by
        rw [hk] at hgc
        generalize hr:((l++[j]).map fun j:Nat=>[I (j:Int)])=rr at hgc
        have hrl:rr.length=l.length+1:=by rw [← hr]; simp
        cases hgc with
        | nil=>simp at hrl
        | sl hlt hg hsz=>exact ⟨_,_,by rw [hrl],hg⟩
      have hd:((l.map fun j:Nat=>[I (j:Int)]).flatten++[I (j:Int)]).drop l.length=[I (j:Int)]:=by
        have:(l.map fun j:Nat=>[I (j:Int)]).flatten.length=l.length:=by
          rw [dt (sz:=1) (fun row hrow=>by obtain ⟨x,_,rfl⟩:=List.mem_map.1 hrow; rfl)]; simp
        rw [List.drop_append_of_le_length (by omega),List.drop_of_length_le (by omega)]
        rfl
      have e1:wr .i64 (((l.length+1:Nat):Int)+1)=(l.length:Int)+1+1:=by rw [fw (by omega) (by omega)]; omega
      have e2:wr .i64 (((l.length+1:Nat):Int) - 1)=(l.length:Int):=by rw [fw (by omega) (by omega)]; omega
      have e3:(0:Int)<((l.length+1:Nat):Int):=by omega
      have e4:(l.length:Int)<((l.length+1:Nat):Int):=by omega
      simp only [hkl,aa,eQ,aj,e3,decide_true,if_true,cx,kL,e1,e2]
      rw [mL (by omega) e4]
      have cid7:cid≠H.n+1:=fun e=>own7 p _ hc e
      have id7:id≠H.n+1:=i2
      have hs:=xA hp hk
      simp [hcg,hd,G2,cid7,hgG,h5,bF,id7]
      refine Gb hB hm hN hmp hp hpm (hT.new (fun j hj=>?_) ?_) ?_ ?_ (by omega) (by omega) own7 h
      · have a2:j≠H.n+1:=by omega
        simp [a2,G1 j hj]
      · simp; omega
      · simp [gH,bF]
        rw [← List.getD_eq_getElem?_getD,hdm,hs.1,hs.2]
        simp
      · simp; omega
theorem xw {L:List Nd} {d:List Nat} (hB:dh L L.length d) (hW:∀ n ∈ L,lS n) (hN:L.length≤4096) {t:Nat} {K:AV→Hp→Prop} (h:∀ H sl ch,lD L d H t L.length sl ch→K (.tup [.ptr t 0,I 0]) H) :
  ∀ (k m:Nat) (H:Hp) (sl:AV) (ch:List AV),L.length - m=k→m≤L.length→lD L d H t m sl ch→fp.L0 σ K (.ptr t 0) (nds L) (I L.length) (I m) H:=by
 intro k
 induction k with
 | zero =>
  intro m H sl ch hk hm hT
  have:m=L.length:=by omega
  subst this
  refine fp.L0_step ?_
  simp
  exact h H sl ch hT
 | succ k ih =>
  intro m H sl ch hk hm hT
  have hlt:m<L.length:=by omega
  have hget:L[m]?=some (cW L m):=by
   unfold cW
   rw [List.getD_eq_getElem?_getD,List.getElem?_eq_getElem hlt]; rfl
  refine fp.L0_step ?_
  simp [nds,hlt,cd hget,aQ]
  refine IN hB hW hlt hN (hT.new (fun j hj=>?_) ?_) fun H' sl' ch' hT'=>?_
  ·have a1:j≠H.n:=by omega
   simp [a1]
  ·simp
  ·simp
   rw [ci (by omega)]
   exact ih (m+1) H' sl' ch' (by omega) (by omega) hT'
def elC (L:List Nd) (i:Nat):AV:=.imm 1 ((iR L L.length i).map fun j:Nat=>[I j])
def elE (L:List Nd) (d:List Nat) (i:Nat):List AV:=gH L d i (elC L i) cm
def dL (L:List Nd) (d:List Nat):AV:=.ip [.imm 9 ((List.range L.length).map (elE L d))]
theorem yZ (L:List Nd) (i:Nat):bS (elC L i)=true:=by unfold elC; simp only [bS]; exact ba _ (fun _=>rfl) _
theorem od:∀ {a b:List AV},aU a=true→aU b=true→aU (a++b)=true
 | [],b,_,h=>h
 | x::a,b,ha,hb=>by
  simp only [aU,Bool.and_eq_true] at ha
  simp only [List.cons_append,aU,ha.1,od ha.2 hb,Bool.and_self]
theorem uB (L:List Nd) (d:List Nat) (i:Nat):aU (elE L d i)=true:=by
 unfold elE gH
 exact od (kw _) (by simp only [aU,yZ,bS,Bool.and_self])
theorem cb (L:List Nd) (d:List Nat):bS (dL L d)=true:=by
 unfold dL
 simp only [bS,aU,ba _ (uB L d),Bool.and_self]
theorem FF {L:List Nd} {d:List Nat} {H:Hp} {ch:List AV} (hl:ch.length=L.length) (hk:∀ (i:Nat) (c:AV),ch[i]?=some c→Gs 1 H c ((iR L L.length i).map fun j:Nat=>[I j])) {sl:AV} (hg:Gs 9 H sl (dT L d ch cm)) :
  Fz H sl (.imm 9 ((List.range L.length).map (elE L d))):=by
 generalize hr:dT L d ch cm=rr at hg
 have hrl:rr.length=L.length:=by rw [← hr,eX,hl]
 cases hg with
 | nil =>
  have:L.length=0:=by simpa using hrl.symm
  rw [this]; exact .nil
 | sl hlt hg hsz =>
  have rowAt:∀ (i:Nat) (row:List AV),((List.range L.length).map (elE L d))[i]?=some row→∃ c,ch[i]?=some c∧row=elE L d i:=by
   intro i row h
   rw [List.getElem?_map,Option.map_eq_some_iff] at h
   obtain ⟨x,hx,rfl⟩:=h
   have hi:=(List.getElem?_eq_some_iff.1 hx).1
   simp at hi
   rw [List.getElem?_range hi] at hx
   cases hx
   obtain ⟨c,hc⟩:=ce (l:=ch) (k:=i) (by omega)
   exact ⟨c,hc,rfl⟩
  refine .sl (fun i j=>(gH L d i (ch.getD i .any) cm).getD j .any) hg (by simp [hrl]) (fun i row h=>?_) (fun i row j y h hj=>?_) (fun i row j y h hj=>?_)
  ·obtain ⟨c,_,rfl⟩:=rowAt i row h; rfl
  ·obtain ⟨c,hc,rfl⟩:=rowAt i row h
   have hj9:j<9:=by have:=(List.getElem?_eq_some_iff.1 hj).1; simpa [elE] using this
   have e:=nM (L:=L) (d:=d) (low:=cm) hc
   rw [hr] at e
   have hcd:ch.getD i .any=c:=by rw [List.getD_eq_getElem?_getD,hc]; rfl
   rw [Nat.zero_add]
   have hz:(gH L d i c cm)[j]?=some ((gH L d i c cm).getD j .any):=by
    rw [List.getD_eq_getElem?_getD,List.getElem?_eq_getElem (by simpa using hj9)]; rfl
   rw [hcd,nY hsz i _ j _ e hz]
  ·obtain ⟨c,hc,rfl⟩:=rowAt i row h
   have hcd:ch.getD i .any=c:=by rw [List.getD_eq_getElem?_getD,hc]; rfl
   rw [hcd]
   have hcs:=hk i c hc
   have h5:=hcs.fz (ba _ (fun _=>rfl) _)
   have hL:FzL H (gH L d i c cm) (elE L d i):=by
    unfold elE gH bF
    exact .cons (.refl rfl) (.cons (.refl rfl) (.cons (.refl rfl) (.cons (.refl (lI _)) (.cons (.refl (by simp only [bS]; exact ba _ (fun _=>rfl) _)) (.cons h5 (.cons (.refl rfl) (.cons (.refl rfl) (.cons (.refl rfl) .nil))))))))
   obtain ⟨x,hx,hf⟩:=hL.get.2 j y hj
   rw [List.getD_eq_getElem?_getD,hx]
   exact hf
theorem rJ {L:List Nd} {d:List Nat} (hB:dh L L.length d) (hW:∀ n ∈ L,lS n) (hN:L.length≤4096) (H:Hp):aE Tryz.prog σ iQ [nds L] H (.tup [dL L d,I 0]) H:=by
 obtain ⟨Q,hQ⟩:∃ Q:AV→Hp→Prop,∀ r H1,Q r H1 ↔ Fz H1 r (.tup [dL L d,I 0]):=⟨_,fun _ _=>Iff.rfl⟩
 have run:∃ r H1,aE Tryz.prog σ iQ [nds L] Hp.empty r H1∧Q r H1:=by
  refine fp.run ?_
  have h1:¬ ((4096:Int)<(L.length:Int)):=by omega
  simp [h1,aT]
  refine xw hB hW hN (fun H sl ch hT=>?_) _ 0 _ (.lit (.slice none 0 0)) [] rfl (Nat.zero_le _) ⟨by simp,by simp,rfl,.nil,fun i c h=>by simp at h,fun h=>h,fun i c h=>by simp at h,fun i c h=>by simp at h,fun i i' c c' _ h=>by simp at h⟩
  rw [hQ]
  have hr:=FF hT.len hT.kid hT.rows
  refine .tup rfl fun j x y hx hy=>?_
  match j with
  | 0 =>
   simp at hx hy
   subst hx; subst hy
   refine .ptr (fun _=>sl) hT.tg (fun j y hj=>?_) (fun j y hj=>?_)
   ·have:j=0:=by have:=(List.getElem?_eq_some_iff.1 hj).1; simp at this; omega
    subst this; simp
   ·have:j=0:=by have:=(List.getElem?_eq_some_iff.1 hj).1; simp at this; omega
    subst this
    simp at hj
    rw [← hj]; exact hr
  | 1=>simp at hx hy; subst hx; subst hy; exact .refl rfl
  | j+2=>simp at hx
 obtain ⟨r,H1,hg,hf⟩:=run
 rw [hQ] at hf
 exact hg.frzR (by simp [aU]) hf H
end Go.Proofs.YthmaggcfghjmfaaGreat.Ev
namespace Go.Proofs.YthmaggcfghjmfaaGreat.Ev
set_option linter.unusedVariables false
set_option linter.unusedSimpArgs false
variable {σ:Sig}
def pP (x:Nat):List AV:=[I (x:Int)]
structure Jc (L:List Nd) (H:Hp) (t m:Nat) (d:List Nat) (n e:AV):Prop where
 tlt:t<H.n
 tg:H.get t=some (.cells [n,e] true)
 rn:Gs 5 H n ((L.take m).map fun x=>bF (cm x))
 re:Gs 1 H e (d.map pP)
 nt:¬ own n t
 et:¬ own e t
 ne:∀ j,own n j→¬ own e j
theorem dh.uniq {L:List Nd} {m N:Nat} {d d':List Nat} (h:dh L m d) (h':dh L N d') (hm:m≤N):∀ (n i:Nat),i<n→i<m→d[i]?=d'[i]?:=by
 intro n
 induction n with
 | zero=>intro i hi; omega
 | succ n ih =>
  intro i hi him
  by_cases h0:i=0
  ·subst h0
   rw [(h.root (by omega)).2,(h'.root (by omega)).2]
  ·obtain ⟨p,x,e1,e2,e3,e4,_⟩:=h.step i (by omega) him
   obtain ⟨p',x',f1,f2,f3,f4,_⟩:=h'.step i (by omega) (by omega)
   have:p=p':=by omega
   subst this
   have:=ih p (by omega) (by omega)
   rw [e3,f3] at this
   cases this
   rw [e4,f4]
theorem xe {L:List Nd} (hW:∀ n ∈ L,lS n) (hN:L.length≤4096) {t:Nat} {K:AV→Hp→Prop} (hErr:(∀ d,¬ dh L L.length d)→∀ e:Int,e≠0→∀ H,K (.tup [.lit (.pointer none),I e]) H)
  (h:∀ H d n e,dh L L.length d→Jc L H t L.length d n e→K (.tup [.ptr t 0,I 0]) H) :
  ∀ (k m:Nat) (H:Hp) (d:List Nat) (n e y7:AV),L.length - m=k→m≤L.length→dh L m d→Jc L H t m d n e→bz.L0 σ K (nds L) (.ptr t 0) (I m) y7 H:=by
 intro k
 induction k with
 | zero =>
  intro m H d n e y7 hk hm hB hR
  have:m=L.length:=by omega
  subst this
  refine bz.L0_step ?_
  simp
  exact h H d n e hB hR
 | succ k ih =>
  intro m H d n e y7 hk hm hB hR
  have hlt:m<L.length:=by omega
  have hLm:L[m]=cW L m:=by
   unfold cW
   rw [List.getD_eq_getElem?_getD,List.getElem?_eq_getElem hlt]; rfl
  have hget:L[m]?=some (cW L m):=by rw [List.getElem?_eq_getElem hlt,hLm]
  have hmem:cW L m ∈ L:=List.mem_of_getElem? hget
  have hdl:=hB.len
  have next:∀ x:Nat,(x≤256→dh L (m+1) (d++[x]))→(256<x→∀ d,¬ dh L L.length d)→bz.J1 σ K (nds L) (.ptr t 0) (I m) (I (x:Int)) H:=by
   intro x hx hx'
   refine bz.J1_step ?_
   simp
   split
   ·rename_i hx256
    exact hErr (hx' (by omega)) 11 (by decide) H
   ·rename_i hx256
    have hB':=hx (by omega)
    simp [hR.tg,nds,cd hget]
    refine au (Fu _ (hW _ hmem) _) ?_
    simp [hR.tg]
    have t1:t≠H.n:=by have:=hR.tlt; omega
    refine oc (y:=.agg (bF (cm (cW L m)))) (by simp [t1,hR.tg]) hR.rn rfl rfl (by simp) (by simp; omega) (by simp; omega) fun n' H' g f=>?_
    have ht':H'.get t=some (.cells [n,e] true):=by rw [f.same t hR.tlt hR.nt]; exact hR.tg
    have nt':¬ own n' t:=fun h=>by
     rcases f.mine t h with h | h
     ·exact hR.nt h
     ·have:=hR.tlt; omega
    have hre:Gs 1 H' e (d.map pP):=hR.re.keep (fun j hj=>f.same j (hR.re.lt hj) (fun h=>hR.ne j h hj)) f.grow
    have hne:∀ j,own n' j→¬ own e j:=fun j h h'=>by
     rcases f.mine j h with h | h
     ·exact hR.ne j h h'
     ·have:=hR.re.lt h'; omega
    simp [g.st (id:=t) (off:=0) ht' (by simp)]
    have hre2:Gs 1 (H'.set t (some (.cells [n',e] true))) e (d.map pP):=hre.keep (fun j hj=>by
     have:j≠t:=fun h=>hR.et (h ▸ hj)
     simp [this]) (by simp)
    refine fN hre2 rfl rfl rfl (by simp; omega) (by simp; omega) fun e' H2 g2 f2=>?_
    have tl2:t<(H'.set t (some (.cells [n',e] true))).n:=by simp; have:=f.grow; have:=hR.tlt; omega
    have ht2:H2.get t=some (.cells [n',e] true):=by rw [f2.same t tl2 hR.et]; simp
    have et':¬ own e' t:=fun h=>by
     rcases f2.mine t h with h | h
     ·exact hR.et h
     ·omega
    simp [g2.st (id:=t) (off:=1) ht2 (by simp)]
    rw [ci (by omega)]
    have hg2n:=f2.grow
    simp at hg2n
    refine ih (m+1) _ (d++[x]) n' e' _ (by omega) (by omega) hB' ⟨?_,?_,?_,?_,nt',et',?_⟩
    ·simp; have:=f.grow; have:=hR.tlt; omega
    ·simp
    ·rw [lT hlt,hLm]
     refine g.keep (fun j hj=>?_) (by simp; omega)
     have a1:j≠t:=fun h=>nt' (h ▸ hj)
     have a2:j<(H'.set t (some (.cells [n',e] true))).n:=by simp; exact g.lt hj
     have:=f2.same j a2 (hne j hj)
     simp [a1] at this ⊢
     exact this
    ·rw [List.map_append]
     refine Gs.keep (H:=H2) g2 (fun j hj=>?_) (by simp)
     have a1:j≠t:=fun h=>et' (h ▸ hj)
     simp [a1]
    ·intro j hj h'
     rcases f2.mine j h' with h | h
     ·exact hne j hj h
     ·have:=g.lt hj; simp at h; omega
  refine bz.L0_step ?_
  simp [nds,hlt,cd hget]
  have hpar:(cW L m).parent=par L m:=rfl
  rw [hpar]
  by_cases h0:m=0
  ·subst h0
   simp
   split
   ·rename_i hp
    rw [show (AV.imm 5 (L.map bF))=nds L from rfl]
    refine next 0 (fun _=>?_) (fun h=>by omega)
    have hd:d=[]:=List.length_eq_zero_iff.1 hdl
    subst hd
    exact .first hlt hp
   ·rename_i hp
    exact hErr (fun d' hB'=>hp (hB'.root hlt).1) 10 (by decide) H
  ·have hm1:¬ ((m:Int)=0):=by omega
   have hm2:(0:Int)<m:=by omega
   have hm3:0<m:=by omega
   simp [h0,hm1,hm2,hm3]
   split
   ·rename_i hp
    exact hErr (fun d' hB'=>by obtain ⟨p,x,e1,e2,_⟩:=hB'.step m hm3 hlt; omega) 10 (by decide) H
   split
   ·rename_i _ hp
    exact hErr (fun d' hB'=>by obtain ⟨p,x,e1,e2,_⟩:=hB'.step m hm3 hlt; omega) 10 (by decide) H
   ·rename_i hp1 hp2
    obtain ⟨p,hp⟩:∃ p:Nat,par L m=p:=⟨(par L m).toNat,by omega⟩
    rw [hp] at hp2 ⊢
    have hpm:p<m:=by omega
    obtain ⟨x,hx⟩:=ce (l:=d) (k:=p) (by omega)
    obtain ⟨id,ex,he,hg⟩:∃ id ex,e=.sl id 0 1 d.length none∧H.get id=some (.cells (d.map pP).flatten ex):=by
     have:=hR.re
     generalize hr:d.map pP=rr at this
     have hrl:rr.length=d.length:=by rw [← hr]; simp
     cases this with
     | nil=>simp at hrl; omega
     | sl hlt hg hsz=>exact ⟨_,_,by rw [hrl],hg⟩
    have hdrop:∃ r,((d.map pP).flatten).drop p=I (x:Int)::r:=by
     have h1:∀ r ∈ d.map pP,r.length=1:=fun r hr=>by obtain ⟨y,_,rfl⟩:=List.mem_map.1 hr; rfl
     have h2:=jQ h1 (w:=p) (by simp; omega)
     rw [Nat.mul_one] at h2
     have h3:(d.map pP)[p]'(by simp; omega)=pP x:=by
      rw [List.getElem_map]
      rw [List.getElem?_eq_getElem (by omega)] at hx
      rw [Option.some.inj hx]
     rw [h3] at h2
     exact ⟨_,h2⟩
    obtain ⟨r,hdrop⟩:=hdrop
    have e1:wr .i64 ((x:Int)+1)=((x+1:Nat):Int):=by
     have:x≤256:=by
      by_cases hp0:p=0
      ·subst hp0
       have:=(hB.root hm3).2
       rw [hx] at this
       cases this
       omega
      ·obtain ⟨_,y,_,_,_,h4,h5⟩:=hB.step p (by omega) hpm
       rw [hx] at h4
       cases h4
       omega
     rw [fw (by omega) (by omega)]; rfl
    simp [hR.tg,he]
    rw [mL (by omega) (by omega)]
    simp [hg,hdrop]
    rw [e1,show (AV.imm 5 (L.map bF))=nds L from rfl]
    have:=next (x+1) (fun h256=>hB.next hm3 hlt hp hpm hx h256) fun h d' hB'=>by
     obtain ⟨p',x',f1,f2,f3,f4,f5⟩:=hB'.step m hm3 hlt
     have e2:p=p':=by omega
     subst e2
     have e3:=hB.uniq hB' (by omega) (p+1) p (by omega) hpm
     rw [hx,f3] at e3
     cases e3
     omega
    exact this
def AT (L:List Nd) (d:List Nat):AV:=.ip [nds (L.map cm),.imm 1 (d.map pP)]
theorem xN (L:List Nd) (d:List Nat):bS (AT L d)=true:=by
 unfold AT
 simp only [bS,aU,Cb,ba _ (show ∀ x,aU (pP x)=true from fun _=>rfl),Bool.and_self]
theorem xQ (L:List Nd) (hW:∀ n ∈ L,lS n):((L.length≤4096→∀ d,¬ dh L L.length d)∧∃ e:Int,e≠0∧∀ H,aE Tryz.prog σ fY [nds L] H (.tup [.lit (.pointer none),I e]) H) ∨
  (∃ d,L.length≤4096∧dh L L.length d∧∀ H,aE Tryz.prog σ fY [nds L] H (.tup [AT L d,I 0]) H):=by
 by_cases hN:L.length≤4096
 ·obtain ⟨Q,hQ⟩:∃ Q:AV→Hp→Prop,∀ r H1,Q r H1 ↔ (((∀ d,¬ dh L L.length d)∧∃ e:Int,e≠0∧r=.tup [.lit (.pointer none),I e])∨∃ d,dh L L.length d∧Fz H1 r (.tup [AT L d,I 0])):=⟨_,fun _ _=>Iff.rfl⟩
  have run:∃ r H1,aE Tryz.prog σ fY [nds L] Hp.empty r H1∧Q r H1:=by
   refine bz.run ?_
   have h1:¬ ((4096:Int)<(L.length:Int)):=by omega
   simp [h1,aT]
   refine xe hW hN (fun hnb e he H=>by rw [hQ]; exact .inl ⟨hnb,e,he,rfl⟩) (fun H d n e hB hR=>?_) _ 0 _ [] (.lit (.slice none 0 0)) (.lit (.slice none 0 0)) _ rfl (Nat.zero_le _) (dh.nil L)
    ⟨by simp,by simp,by simpa using Gs.nil,.nil,fun h=>h,fun h=>h,fun j h=>h.elim⟩
   rw [hQ]
   refine .inr ⟨d,hB,.tup rfl fun j x y hx hy=>?_⟩
   have rn:=hR.rn
   rw [List.take_length] at rn
   match j with
   | 0 =>
    simp at hx hy
    subst hx; subst hy
    have f1:=rn.fz (ba _ (fun x=>kw (cm x)) _)
    have f2:=hR.re.fz (ba _ (fun _=>rfl) _)
    refine .ptr (fun j=>[n,e].getD j .any) hR.tg (fun j y hj=>?_) (fun j y hj=>?_)
    ·have hl:=(List.getElem?_eq_some_iff.1 hj).1
     match j with
     | 0=>simp
     | 1=>simp
     | j+2=>simp at hl; omega
    ·match j with
     | 0=>simp at hj; rw [← hj]; simpa [nds,Function.comp_def] using f1
     | 1=>simp at hj; rw [← hj]; exact f2
     | j+2=>simp at hj
   | 1=>simp at hx hy; subst hx; subst hy; exact .refl rfl
   | j+2=>simp at hx
  obtain ⟨r,H1,hg,hf⟩:=run
  rw [hQ] at hf
  rcases hf with ⟨hnb,e,he,rfl⟩ | ⟨d,hB,hf⟩
  ·exact .inl ⟨fun _=>hnb,e,he,fun H=>hg.over (by simp [aU]) (by simp [fT,hU]) H⟩
  ·exact .inr ⟨d,hN,hB,fun H=>hg.frzR (by simp [aU]) hf H⟩
 ·have run:∃ r H1,aE Tryz.prog σ fY [nds L] Hp.empty r H1∧r=.tup [.lit (.pointer none),I 3]:=by
   refine bz.run ?_
   have h1:((4096:Int)<(L.length:Int)):=by omega
   simp [h1]
  obtain ⟨r,H1,hg,rfl⟩:=run
  exact .inl ⟨fun h=>absurd h hN,3,by decide,fun H=>hg.over (by simp [aU]) (by simp [fT,hU]) H⟩
end Go.Proofs.YthmaggcfghjmfaaGreat.Ev
namespace Go.Proofs.YthmaggcfghjmfaaGreat.Ev
set_option linter.unusedVariables false
set_option linter.unusedSimpArgs false
variable {σ:Sig}
theorem qW {n k:Nat} (h:k<n):(List.range n)[k]?=some k:=by
 rw [List.getElem?_range h]
theorem wP (L:List Nd) (d:List Nat) (hN:L.length≤4096) {e:Nat} (he:e<L.length) (H:Hp):aE Tryz.prog σ dO [dL L d,I (e:Int)] H (.agg (elE L d e)) H:=by
 obtain ⟨Q,hQ⟩:∃ Q:AV→Hp→Prop,∀ r H1,Q r H1 ↔ r=.agg (elE L d e):=⟨_,fun _ _=>Iff.rfl⟩
 have run:∃ r H1,aE Tryz.prog σ dO [dL L d,I (e:Int)] Hp.empty r H1∧Q r H1:=by
  refine kO.run ?_
  have h1:¬ ((e:Int)<0):=by omega
  have h2:¬ ((L.length:Int)≤e):=by omega
  have h3:¬ (L.length≤e):=by omega
  have hl:(elE L d e).length=9:=rfl
  have ho:(elE L d e).all AV.one=true:=by simp [elE,gH,bF,elC]
  have ho':∀ x ∈ elE L d e,AV.one x=true:=List.all_eq_true.1 ho
  simp [dL,h1,h2,h3,cd (qW he)]
  simp only [cQ hl,aa]
  simp [hl,aQ]
  rw [if_pos ho',aa]
  simp [cQ hl,hQ]
 obtain ⟨r,H1,hg,hr⟩:=run
 rw [hQ] at hr
 subst hr
 exact hg.frzR (by simp [aU,cb,bS]) (.refl (by simp only [bS]; exact uB L d e)) H
theorem DI (L:List Nd) (d:List Nat) (hN:L.length≤4096) {e:Nat} (he:e<L.length) (H:Hp):aE Tryz.prog σ eR [dL L d,I (e:Int)] H (.agg (bF (cm (cW L e)))) H:=by
 obtain ⟨Q,hQ⟩:∃ Q:AV→Hp→Prop,∀ r H1,Q r H1 ↔ r=.agg (bF (cm (cW L e))):=⟨_,fun _ _=>Iff.rfl⟩
 have run:∃ r H1,aE Tryz.prog σ eR [dL L d,I (e:Int)] Hp.empty r H1∧Q r H1:=by
  refine jF.run ?_
  simp
  refine au (wP L d hN he _) ?_
  have:(elE L d e).take 5=bF (cm (cW L e)):=rfl
  simp [this,aQ,hQ]
  rw [aQ (by simp),IT]
  rfl
 obtain ⟨r,H1,hg,hr⟩:=run
 rw [hQ] at hr
 subst hr
 exact hg.frzR (by simp [aU,cb,bS]) (.refl (by simp only [bS]; exact kw _)) H
theorem nT (L:List Nd) (d:List Nat) (hN:L.length≤4096) {e:Nat} (he:e<L.length) (H:Hp):aE Tryz.prog σ dA [dL L d,I (e:Int)] H (I (par L e)) H:=by
 refine bO (fun K hK=>iA.run ?_) (by simp [aU,cb,bS]) rfl H
 have h1:¬ ((e:Int)<0):=by omega
 have h2:¬ ((L.length:Int)≤e):=by omega
 have h3:¬ (L.length≤e):=by omega
 simp [dL,h1,h2,h3,cd (qW he),elE,gH,bF]
 exact hK _
theorem nC (L:List Nd) (d:List Nat) (hN:L.length≤4096) {e:Nat} (he:e<L.length) (H:Hp):aE Tryz.prog σ c9 [dL L d,I (e:Int)] H (I (cZ L e)) H:=by
 refine bO (fun K hK=>iT.run ?_) (by simp [aU,cb,bS]) rfl H
 refine au (wP L d hN he _) ?_
 simp [elE,gH,bF]
 exact hK _
theorem yc (L:List Nd) (d:List Nat) (hN:L.length≤4096) {e:Nat} (he:e<L.length) (H:Hp):aE Tryz.prog σ fc [dL L d,I (e:Int)] H (I (jl L e)) H:=by
 refine bO (fun K hK=>iC.run ?_) (by simp [aU,cb,bS]) rfl H
 refine au (wP L d hN he _) ?_
 simp [elE,gH,bF]
 exact hK _
def pu (L:List Nd) (e k:Nat):Int:=match (iR L L.length e)[k]? with | some j=>j | none=>-1
theorem tu (L:List Nd) (d:List Nat) (hN:L.length≤4096) {e k:Nat} (he:e<L.length) (H:Hp):aE Tryz.prog σ eE [dL L d,I (e:Int),I (k:Int)] H (I (pu L e k)) H:=by
 refine bO (fun K hK=>iY.run ?_) (by simp [aU,cb,bS]) rfl H
 refine au (wP L d hN he _) ?_
 simp [elE,gH,bF,elC]
 split
 ·rename_i h
  have hget:(iR L L.length e)[k]?=some (iR L L.length e)[k]:=List.getElem?_eq_getElem h
  simp [cd hget]
  have:=hK Hp.empty
  simpa [pu,hget] using this
 ·rename_i h
  have hget:(iR L L.length e)[k]?=none:=List.getElem?_eq_none (by omega)
  have:=hK Hp.empty
  simpa [pu,hget] using this
theorem GH (L:List Nd) (d:List Nat) (H:Hp):aE Tryz.prog σ gu [dL L d] H (I (L.length:Int)) H:=by
 refine bO (fun K hK=>ky.run ?_) (by simp [aU,cb]) rfl H
 simp [dL]
 exact hK _
theorem Jr (L:List Nd) (d:List Nat) (e:Int) (H:Hp):aE Tryz.prog σ ki [dL L d,I e] H (Bo (decide (0≤e)&&decide (e<L.length))) H:=by
 refine bO (fun K hK=>qp.run ?_) (by simp [aU,cb,bS]) rfl H
 have e1:i7 .neq (dL L d) (.lit (.pointer none))=some (Bo true):=rfl
 rw [e1]
 simp
 split
 ·rename_i h
  refine au (GH L d _) ?_
  simp
  simpa [h] using hK Hp.empty
 ·rename_i h
  simpa [h] using hK Hp.empty
def wJ (L:List Nd) (e:Nat):Bool:=decide (par L e<0)||decide (pu L (par L e).toNat (cZ L e).toNat<0)
theorem rT {L:List Nd} {N:Nat} {d:List Nat} (hB:dh L N d) {e:Nat} (he:e<N):par L e=-1∨∃ p:Nat,par L e=p∧p<e:=by
 by_cases h0:e=0
 ·subst h0; exact .inl (hB.root he).1
 ·obtain ⟨p,x,h1,h2,_⟩:=hB.step e (by omega) he
  exact .inr ⟨p,h1,h2⟩
end Go.Proofs.YthmaggcfghjmfaaGreat.Ev
namespace Go.Proofs.YthmaggcfghjmfaaGreat.Ev
set_option linter.unusedVariables false
set_option linter.unusedSimpArgs false
variable {σ:Sig}
def nr (σ:Sig):Prop:=∀ (s t:ByteArray) (H:Hp),s.data.size<4294967281→aE Tryz.prog σ i6 [Sx s,Sx t] H (Bo (decide (0≤Go.Lib.index (tl s) (tl t)))) H
theorem tn (c:UInt8) (H:Hp):aE Tryz.prog σ g_ [.lit (.int .u8 c.toNat)] H (Bo (wht c)) H:=by
  refine bO (fun K hK=>kS.run ?_) (by simp [aU,bS]) rfl H
  have hK:=hK Hp.empty
  simp only [bZ,aa,aj,decide_eq_true_eq]
  split
  · rename_i h
    rwa [show wht c = true by have : c.toNat = 9 := by omega
                              simp [wht,this]] at hK
  rename_i h9
  split
  · rename_i h
    rwa [show wht c = true by have : c.toNat = 10 := by omega
                              simp [wht,this]] at hK
  rename_i h10
  split
  · rename_i h
    rwa [show wht c = true by have : c.toNat = 12 := by omega
                              simp [wht,this]] at hK
  rename_i h12
  split
  · rename_i h
    rwa [show wht c = true by have : c.toNat = 13 := by omega
                              simp [wht,this]] at hK
  rename_i h13
  have e:wht c=decide ((c.toNat:Int)=32):=by
    have a9:¬ c.toNat=9:=by omega
    have a10:¬ c.toNat=10:=by omega
    have a12:¬ c.toNat=12:=by omega
    have a13:¬ c.toNat=13:=by omega
    by_cases h:c.toNat=32
    · simp [wht,h]
    · have h':¬ ((c.toNat:Int)=32):=by omega
      simp [wht,a9,a10,a12,a13,h,h']
  rwa [e] at hK
theorem Eb (s p:ByteArray) (H:Hp):aE Tryz.prog σ cp [Sx s,Sx p] H (Bo (tS (tl s) (tl p))) H:=by
 refine bO (fun K hK=>df.run ?_) (by simp [aU,bS]) rfl H
 simp only [hY,aa,iF,aj,decide_eq_true_eq]
 split
 ·rename_i h
  rw [wo (by omega),aa]
  simp only [jH,aa]
  have:=zD (tl s) (tl p) (by rw [gX,gX]; omega)
  rw [gX,zK] at this
  rw [this]
  exact hK _
 ·rename_i h
  have:=Ag (s:=tl s) (p:=tl p) (by rw [gX,gX]; omega)
  rw [this] at hK
  exact hK _
theorem Az (s p:ByteArray) (H:Hp):aE Tryz.prog σ dC [Sx s,Sx p] H (Bo (tS (tl s) (tl p))) H :=
 bO (fun K hK=>gA.run (au (Eb s p _) (hK _))) (by simp [aU,bS]) rfl H
theorem Fb (s p:ByteArray) (hs:s.data.size<9000000000000000000) (H:Hp):aE Tryz.prog σ cq [Sx s,Sx p] H (Bo (vt (tl s) (tl p))) H:=by
 refine bO (fun K hK=>de.run ?_) (by simp [aU,bS]) rfl H
 simp only [hY,aa,iF,aj,decide_eq_true_eq]
 split
 ·rename_i h
  simp only [kL,aa]
  have e:wr .i64 ((s.data.size:Int) - p.data.size)=((s.data.size - p.data.size:Nat):Int):=by rw [fw (by omega) (by omega)]; omega
  rw [e,wL (by omega),aa]
  simp only [jH,aa]
  have:=B9 (tl s) (tl p) (by rw [gX,gX]; omega)
  rw [gX,gX,zK] at this
  rw [this]
  exact hK _
 ·rename_i h
  have:=A0 (s:=tl s) (p:=tl p) (by rw [gX,gX]; omega)
  rw [this] at hK
  exact hK _
theorem HT (s p:ByteArray) (hs:s.data.size<9000000000000000000) (H:Hp):aE Tryz.prog σ eo [Sx s,Sx p] H (Bo (vt (tl s) (tl p))) H :=
 bO (fun K hK=>gj.run (au (Fb s p hs _) (hK _))) (by simp [aU,bS]) rfl H
def sY (l:List ByteArray) (s:ByteArray):Bool:=l.any fun x=>decide (x=s)
theorem Hl {l:List ByteArray} (hl:l.length≤reachBytes) {s:ByteArray} {K:AV→Hp→Prop}:∀ (m k:Nat) (H:Hp),l.length - m=k→m≤l.length→(∀ H,K (Bo (sY (l.drop m) s)) H)→dQ.L0 σ K (Sx s) (d_ l) (I l.length) (I m) H:=by
 intro m k
 revert m
 induction k with
 | zero =>
  intro m H hk hm hK
  have:m=l.length:=by omega
  subst this
  refine dQ.L0_step ?_
  simp
  simpa [sY] using hK H
 | succ k ih =>
  intro m H hk hm hK
  have hlt:m<l.length:=by omega
  obtain ⟨x,hx⟩:=ce hlt
  rw [cI hx] at hK
  refine dQ.L0_step ?_
  simp [d_,hlt,cd hx]
  split
  ·rename_i h
   have:=hK H
   simpa [sY,h] using this
  ·rename_i h
   rw [dr hlt hl (by decide)]
   refine ih (m+1) H (by omega) (by omega) fun H'=>?_
   have:=hK H'
   simpa [sY,h] using this
theorem Gw (l:List ByteArray) (hl:l.length≤reachBytes) (s:ByteArray) (H:Hp):aE Tryz.prog σ jo [d_ l,Sx s] H (Bo (sY l s)) H:=by
 refine bO (fun K hK=>dQ.run ?_) (by simp [aU,bS]) rfl H
 simp
 exact Hl hl 0 _ _ rfl (Nat.zero_le _) (by simpa using hK)
section
attribute [local irreducible] aL.L0 aL.L1
theorem vF {js:Nat→AV} {K:AV→Hp→Prop} {H:Hp} {w t:ByteArray} {b:AV} (g0:H.get 0=some (.cells [Sx t] true)) (g1:H.get 1=some (.cells [b] true)) (g3:H.get 3=some (.loop (bw.R0 js (.ptr 0 0) (.ptr 1 0)) .ready none))
  (hT:w=t→K (Bo false) (((H.set 3 (some (.loop (bw.R0 js (.ptr 0 0) (.ptr 1 0)) .busy none))).set 1 (some (.cells [Bo true] true))).set 3 (some (.loop (bw.R0 js (.ptr 0 0) (.ptr 1 0)) .done (some .ret)))))
  (hF:w≠t→K (Bo true) ((H.set 3 (some (.loop (bw.R0 js (.ptr 0 0) (.ptr 1 0)) .busy none))).set 3 (some (.loop (bw.R0 js (.ptr 0 0) (.ptr 1 0)) .ready none)))):jy Tryz.prog σ (.yl 3) [Sx w] H K:=by
 refine bw.R0_round g3 ⟨g3,?_⟩
 simp only [aa,bq,aw]
 simp only [show ¬ ((0:Nat)=3) by decide,if_false,g0,bo,List.drop_zero,jx,aa,jH,aj,decide_eq_true_eq]
 split
 ·rename_i h
  simp only [wC,aw,show ¬ ((1:Nat)=3) by decide,if_false,g1,cw]
  rw [if_pos (by simp),aa]
  refine ⟨by simp,?_⟩
  simpa using hT h
 ·rename_i h
  exact ⟨by simp,hF h⟩
theorem ld2 {H:Hp} {id:Nat} {x:AV} (g:H.get id=some (.cells [x] true)):ldA false 1 H (.ptr id 0)=some x:=by simp [g]
theorem Cy {js:Nat→AV} {K:AV→Hp→Prop} {t:ByteArray} {b:AV} {N:Nat} (hN:N<9000000000000000000):∀ (f:Nat) (l:List UInt8) (H:Hp) (y3:AV),l.length<f→l.length≤N→H.get 0=some (.cells [Sx t] true)→H.get 1=some (.cells [b] true)→H.get 2=some (.cells [Sx (mk l)] true)→H.get 3=some (.loop (bw.R0 js (.ptr 0 0) (.ptr 1 0)) .ready none) →
  (tl t ∈ ld l→∀ H,H.get 1=some (.cells [Bo true] true)→H.get 3=some (.loop (bw.R0 js (.ptr 0 0) (.ptr 1 0)) .done (some .ret))→K (.tup []) H) →
  (tl t ∉ ld l→∀ H,H.get 1=some (.cells [b] true)→H.get 3=some (.loop (bw.R0 js (.ptr 0 0) (.ptr 1 0)) .ready none)→K (.tup []) H) →
  aL.L0 σ K (.yl 3) (.ptr 2 0) y3 H:=by
 intro f
 induction f with
 | zero=>intro l H y3 h; omega
 | succ f ih =>
  intro l H y3 hf hlN g0 g1 g2 g3 hT hF
  refine aL.L0_step ?_
  simp only [ld2 g2,aa,Ib,aj]
  by_cases hl:l=[]
  ·subst hl
   simp only [show (mk []=(⟨#[]⟩:ByteArray)) from rfl,decide_true,Bool.not_true,Bool.false_eq_true,if_false]
   exact hF (by simp [vP]) H g1 g3
  ·have hmk:¬ (mk l=⟨#[]⟩):=fun h=>hl (vI (h.trans (show (⟨#[]⟩:ByteArray)=mk [] from rfl)))
   have hpos:0<l.length:=List.length_pos_iff.2 hl
   simp only [hmk,decide_false,Bool.not_false,if_true]
   have hwl:=FR l
   rw [wZ hl] at hT hF
   have hsz:(mk l).data.size=l.length:=EL l
   have rest:∀ (H:Hp),H.get 0=some (.cells [Sx t] true)→H.get 1=some (.cells [b] true)→H.get 2=some (.cells [Sx (mk l)] true)→H.get 3=some (.loop (bw.R0 js (.ptr 0 0) (.ptr 1 0)) .ready none) →
     (wl l=0∨tl t≠l.take (wl l)) →
     bnd (ldA false 1 H (.ptr 2 0)) fun x23=>bnd (af .add (I (wl l:Nat)) (I 1)) fun x24=>bnd (ldA false 1 H (.ptr 2 0)) fun x25=>bnd (cJ x25) fun x26=>bnd (nO [x24,x26]) fun x27=>bnd (gJ x23 (some x27) none) fun x28=>bnd (stA 1 H (.ptr 2 0) x28) fun H29=>aL.L0 σ K (.yl 3) (.ptr 2 0) (I (wl l:Nat)) H29:=by
    intro H g0 g1 g2 g3 hno
    simp only [ld2 g2,aa,cx,hY,hsz]
    rw [ci (by omega)]
    have hmin:nO [I ((wl l+1:Nat):Int),I (l.length:Int)]=some (I ((min (wl l+1) l.length:Nat):Int)):=by
     simp only [nO,toI,List.foldl,kC]
     congr 2
     split
     ·congr 2; omega
     ·congr 2; omega
    rw [hmin,aa,wL (by rw [hsz]; omega),aa]
    simp only [Ia,g2,cw]
    rw [if_pos (by simp),aa,oC]
    have hdrop:l.drop (min (wl l+1) l.length)=l.drop (wl l+1):=by
     by_cases h:wl l+1≤l.length
     ·rw [Nat.min_eq_left h]
     ·rw [Nat.min_eq_right (by omega),List.drop_of_length_le (Nat.le_refl _),List.drop_of_length_le (by omega)]
    rw [hdrop]
    refine ih (l.drop (wl l+1)) _ _ (by simp; omega) (by simp; omega) (by simp [g0]) (by simp [g1]) (by simp) (by simp [g3]) (fun h=>hT ?_) (fun h=>hF ?_)
    ·split
     ·rename_i h0; rw [h0] at h; exact h
     ·exact List.mem_cons_of_mem _ h
    ·split
     ·rename_i h0; rw [h0] at h; exact h
     ·rename_i h0
      rcases hno with h1 | h1
      ·exact absurd h1 h0
      ·intro hm
       rcases List.mem_cons.1 hm with h2 | h2
       ·exact h1 h2
       ·exact h h2
   have stop:∀ (H:Hp),H.get 0=some (.cells [Sx t] true)→H.get 1=some (.cells [b] true)→H.get 2=some (.cells [Sx (mk l)] true)→H.get 3=some (.loop (bw.R0 js (.ptr 0 0) (.ptr 1 0)) .ready none) →
     bnd (af .gtr (I (wl l:Nat)) (I 0)) fun x10=>ifB x10 (bnd (ldA false 1 H (.ptr 2 0)) fun x11=>bnd (gJ x11 none (some (I (wl l:Nat)))) fun x12=>jy Tryz.prog σ (.yl 3) [x12] H fun x13 H14=>bnd (unR .not x13) fun x15=>ifB x15 (K (.tup []) H14) (bnd (ldA false 1 H14 (.ptr 2 0)) fun x16=>bnd (af .add (I (wl l:Nat)) (I 1)) fun x17=>bnd (ldA false 1 H14 (.ptr 2 0)) fun x18=>bnd (cJ x18) fun x19=>bnd (nO [x17,x19]) fun x20=>bnd (gJ x16 (some x20) none) fun x21=>bnd (stA 1 H14 (.ptr 2 0) x21) fun H22=>aL.L0 σ K (.yl 3) (.ptr 2 0) (I (wl l:Nat)) H22))
      (bnd (ldA false 1 H (.ptr 2 0)) fun x23=>bnd (af .add (I (wl l:Nat)) (I 1)) fun x24=>bnd (ldA false 1 H (.ptr 2 0)) fun x25=>bnd (cJ x25) fun x26=>bnd (nO [x24,x26]) fun x27=>bnd (gJ x23 (some x27) none) fun x28=>bnd (stA 1 H (.ptr 2 0) x28) fun H29=>aL.L0 σ K (.yl 3) (.ptr 2 0) (I (wl l:Nat)) H29):=by
    intro H g0 g1 g2 g3
    simp only [eQ,aa,aj,decide_eq_true_eq]
    split
    ·rename_i h0
     have h0':wl l≠0:=by omega
     rw [if_neg h0'] at hT hF
     simp only [ld2 g2,aa]
     rw [wo (by rw [hsz]; omega),aa,oC]
     refine vF g0 g1 g3 (fun he=>?_) (fun he=>?_)
     ·simp only [eS,aa,aj,Bool.not_false,if_true]
      refine hT ?_ _ (by simp) (by simp)
      rw [← he,oC]; simp
     ·simp only [eS,aa,aj,Bool.not_true,Bool.false_eq_true,if_false]
      refine rest _ ?_ ?_ ?_ ?_ (.inr fun h=>he ?_)
      ·simp [g0]
      ·simp [g1]
      ·simp [g2]
      ·simp
      ·rw [← h,zK]
    ·rename_i h0
     exact rest H g0 g1 g2 g3 (.inl (by omega))
   have L1:∀ (m k:Nat) (H:Hp),wl l - k=m→k≤wl l→H.get 0=some (.cells [Sx t] true)→H.get 1=some (.cells [b] true)→H.get 2=some (.cells [Sx (mk l)] true)→H.get 3=some (.loop (bw.R0 js (.ptr 0 0) (.ptr 1 0)) .ready none)→aL.L1 σ K (.yl 3) (.ptr 2 0) (I (k:Int)) H:=by
    intro m
    induction m with
    | zero =>
     intro k H hm hk g0 g1 g2 g3
     have:k=wl l:=by omega
     subst this
     refine aL.L1_step ?_
     simp only [ld2 g2,aa,hY,hsz,ca,aj,decide_eq_true_eq]
     split
     ·rename_i hlt
      obtain ⟨c,hc⟩:=ce (l:=l) (k:=wl l) (by omega)
      rw [vQ (by rw [oC]; exact hc),aa]
      refine au (tn c H) ?_
      rw [FV hc]
      simp only [eS,aa,aj,Bool.not_true,Bool.false_eq_true,if_false]
      exact stop H g0 g1 g2 g3
     ·have:=stop H g0 g1 g2 g3
      simp only [ld2 g2,aa] at this
      exact this
    | succ m ihm =>
     intro k H hm hk g0 g1 g2 g3
     obtain ⟨c,hc,hw⟩:=F9 (l:=l) (k:=k) (by omega)
     have hkl:=(List.getElem?_eq_some_iff.1 hc).1
     refine aL.L1_step ?_
     have h1:(k:Int)<l.length:=by omega
     simp only [ld2 g2,aa,hY,hsz,ca,aj,decide_eq_true_eq,h1,if_true]
     rw [vQ (by rw [oC]; exact hc),aa]
     refine au (tn c H) ?_
     rw [hw]
     simp only [eS,aa,aj,Bool.not_false,if_true,cx]
     rw [ci (by omega)]
     exact ihm (k+1) H (by omega) (by omega) g0 g1 g2 g3
   exact L1 _ 0 H rfl (Nat.zero_le _) g0 g1 g2 g3
end
def ue (s t:ByteArray):Bool:=decide (tl t ∈ ld (tl s))
theorem EI (s t:ByteArray) (hs:s.data.size<9000000000000000000) (H:Hp):aE Tryz.prog σ iG [Sx s,Sx t] H (Bo (ue s t)) H:=by
 refine bO (fun K hK=>bw.run ?_) (by simp [aU,bS]) rfl H
 have hbx:∀ (x:ByteArray) (H:Hp) (K:AV→Hp→Prop),eH (Sx x) H K=K (.ptr H.n 0) (H.new (.cells [Sx x] true)):=fun x H K=>qj rfl rfl H K
 rw [hbx]
 simp only [bl]
 refine lu.run ?_
 rw [hbx]
 intro js
 simp only [yj]
 refine aL.run ?_
 refine Cy (js:=js) (t:=t) (b:=Bo false) (N:=(tl s).length) (by rw [gX]; exact hs) ((tl s).length+1) (tl s) _ _ (by omega) (Nat.le_refl _) (by simp [Hp.empty]) (by simp [Hp.empty]) (by simp [Hp.empty]) (by simp [Hp.empty]) (fun hm H g1 g3=>?_) (fun hm H g1 g3=>?_)
 ·have e3:H.get (((Hp.empty.new (Blk.cells [Sx t] true)).new (Blk.cells [AV.lit (Value.bool false)] true)).new (Blk.cells [Sx s] true)).n=some (.loop (bw.R0 js (.ptr 0 0) (.ptr 1 0)) .done (some .ret)):=g3
  rw [e3,zZ]
  have g1':(H.set (((Hp.empty.new (Blk.cells [Sx t] true)).new (Blk.cells [AV.lit (Value.bool false)] true)).new (Blk.cells [Sx s] true)).n none).get (Hp.empty.new (Blk.cells [Sx t] true)).n=some (.cells [Bo true] true):=by
   rw [aw,if_neg (by simp [Hp.empty])]; exact g1
  rw [ld2 g1',aa]
  have:=hK (H.set (((Hp.empty.new (Blk.cells [Sx t] true)).new (Blk.cells [AV.lit (Value.bool false)] true)).new (Blk.cells [Sx s] true)).n none)
  simpa [ue,hm] using this
 ·have e3:H.get (((Hp.empty.new (Blk.cells [Sx t] true)).new (Blk.cells [AV.lit (Value.bool false)] true)).new (Blk.cells [Sx s] true)).n=some (.loop (bw.R0 js (.ptr 0 0) (.ptr 1 0)) .ready none):=g3
  rw [e3,uP]
  have g1':(H.set (((Hp.empty.new (Blk.cells [Sx t] true)).new (Blk.cells [AV.lit (Value.bool false)] true)).new (Blk.cells [Sx s] true)).n none).get (Hp.empty.new (Blk.cells [Sx t] true)).n=some (.cells [Bo false] true):=by
   rw [aw,if_neg (by simp [Hp.empty])]; exact g1
  rw [wC,g1',cw,if_pos (by simp),aa,ld2 (x:=Bo false) (by simp),aa]
  have hw:ue s t=false:=by simp [ue,hm]
  rw [hw] at hK
  exact hK _
def emp:ByteArray:=⟨#[]⟩
def soB (s:ByteArray) (a:At):Bool :=
 if a.op=0 then true else if a.op=1 then decide (s=a.text) else if a.op=2 then !decide (a.text=emp)&&ue s a.text
 else if a.op=3 then decide (s=a.text)||tS (tl s) (tl a.text++[45]) else if a.op=4 then !decide (a.text=emp)&&tS (tl s) (tl a.text)
 else if a.op=5 then !decide (a.text=emp)&&vt (tl s) (tl a.text) else if a.op=6 then !decide (a.text=emp)&&decide (0≤Go.Lib.index (tl s) (tl a.text)) else false
structure ER (a:At):Prop where
 text:a.text.data.size≤reachBytes
theorem Ji (hC:nr σ) (s:ByteArray) (hs:s.data.size<4294967281) (a:At) (ha:ER a) (H:Hp):aE Tryz.prog σ kv [Sx s,.agg (bU a)] H (Bo (soB s a)) H:=by
 refine bO (fun K hK=>pF.run ?_) (by simp [aU,bS,o4]) rfl H
 have ht:=ha.text
 rw [eC] at ht
 have g:∀ {H:Hp} {j:Nat},True:=fun {_ _}=>trivial
 simp [bU]
 unfold soB at hK
 split
 ·rename_i h; simp [h] at hK; exact hK _
 rename_i h0
 simp only [h0,if_false] at hK
 split
 ·rename_i h
  have:=hK (Hp.empty.new (.cells (bU a) true))
  rw [if_pos h] at this
  simpa [bU] using this
 rename_i h1
 simp only [h1,if_false] at hK
 split
 ·rename_i h
  simp only [h,if_true] at hK
  split
  ·rename_i he
   have he':a.text=emp:=he
   simp [he'] at hK
   exact hK _
  ·rename_i he
   have he':¬ (a.text=emp):=he
   simp [he'] at hK
   exact au (EI s a.text (by omega) _) (hK _)
 rename_i h2
 simp only [h2,if_false] at hK
 split
 ·rename_i h
  simp only [h,if_true] at hK
  split
  ·rename_i he
   simp [he] at hK
   exact hK _
  ·rename_i he
   simp [he] at hK
   rw [HD (by show a.text.data.size+1≤_; omega),aa]
   have:=Az (σ:=σ) s (mk (tl a.text++tl ⟨#[45]⟩))
   rw [oC] at this
   exact au (this _) (hK _)
 rename_i h3
 simp only [h3,if_false] at hK
 split
 ·rename_i h
  simp only [h,if_true] at hK
  split
  ·rename_i he
   have he':a.text=emp:=he
   simp [he'] at hK
   exact hK _
  ·rename_i he
   have he':¬ (a.text=emp):=he
   simp [he'] at hK
   exact au (Az s a.text _) (hK _)
 rename_i h4
 simp only [h4,if_false] at hK
 split
 ·rename_i h
  simp only [h,if_true] at hK
  split
  ·rename_i he
   have he':a.text=emp:=he
   simp [he'] at hK
   exact hK _
  ·rename_i he
   have he':¬ (a.text=emp):=he
   simp [he'] at hK
   exact au (HT s a.text (by omega) _) (hK _)
 rename_i h5
 simp only [h5,if_false] at hK
 split
 ·rename_i h
  simp only [h,if_true] at hK
  split
  ·rename_i he
   have he':a.text=emp:=he
   simp [he'] at hK
   exact hK _
  ·rename_i he
   have he':¬ (a.text=emp):=he
   simp [he'] at hK
   exact au (hC s a.text _ hs) (hK _)
 ·rename_i h
  simp [h] at hK
  exact hK _
def jN (l:List (ByteArray × ByteArray)) (a:At):Bool:=match l.find? fun p=>decide (p.1=a.name) with
 | some p=>soB p.2 a
 | none=>false
theorem D0 (hC:nr σ) {l:List (ByteArray × ByteArray)} (hl:l.length≤reachBytes) (ht:∀ p ∈ l,p.2.data.size<4294967281) {a:At} (ha:ER a) {K:AV→Hp→Prop} {y3:Nat}:∀ (m k:Nat) (H:Hp),l.length - m=k→m≤l.length→y3<H.n→H.get y3=some (.cells (bU a) true)→(∀ H,K (Bo (jN (l.drop m) a)) H)→c_.L0 σ K (.ptr y3 0) (.imm 2 (l.map cK)) (I l.length) (I m) H:=by
 intro m k
 revert m
 induction k with
 | zero =>
  intro m H hk hm hn hg hK
  have:m=l.length:=by omega
  subst this
  refine c_.L0_step ?_
  simp
  simpa [jN] using hK H
 | succ k ih =>
  intro m H hk hm hn hg hK
  have hlt:m<l.length:=by omega
  obtain ⟨x,hx⟩:=ce hlt
  have hxl:=ht x (List.mem_of_getElem? hx)
  rw [cI hx] at hK
  have hny:y3≠H.n:=by omega
  have h1:(m:Int)<l.length:=by omega
  refine c_.L0_step ?_
  have hlx:ldL true 2 (cK x)=some (.agg (cK x)):=rfl
  simp only [ca,h1,decide_true,aa,aj,if_true,cd hx,fL,hlx,bl]
  simp [cK,hny,hg,aQ]
  simp only [bU,jx,aa,jH,aj,decide_eq_true_eq]
  split
  ·rename_i h
   refine au (Ji hC x.2 hxl a ha _) ?_
   have:jN (x::l.drop (m+1)) a=soB x.2 a:=by simp [jN,h]
   rw [this] at hK
   exact hK _
  ·rename_i h
   rw [dr hlt hl (by decide)]
   refine ih (m+1) _ (by omega) (by omega) (by simp; omega) (by simp [hny,hg,bU]) fun H'=>?_
   have:jN (x::l.drop (m+1)) a=jN (l.drop (m+1)) a:=by simp [jN,h]
   rw [this] at hK
   exact hK _
theorem EC (hC:nr σ) (n:Nd) (hl:n.attrs.length≤reachBytes) (ht:∀ p ∈ n.attrs,p.2.data.size<4294967281) (a:At) (ha:ER a) (H:Hp):aE Tryz.prog σ iM [.agg (bF n),.agg (bU a)] H (Bo (jN n.attrs a)) H:=by
 refine bO (fun K hK=>c_.run ?_) (by simp [aU,bS,o4,kw]) rfl H
 simp [bF]
 exact D0 hC hl ht ha 0 _ _ rfl (Nat.zero_le _) (by simp) (by simp) (by simpa using hK)
end Go.Proofs.YthmaggcfghjmfaaGreat.Ev
namespace Go.Proofs.YthmaggcfghjmfaaGreat.Ev
set_option linter.unusedVariables false
set_option linter.unusedSimpArgs false
variable {σ:Sig}
structure SmN (n:Nd):Prop where
 classes:n.classes.length≤reachBytes
 attrs:n.attrs.length≤reachBytes
 texts:∀ p ∈ n.attrs,p.2.data.size<4294967281
structure sv (c:Cp):Prop where
 ids:c.ids.length≤reachBytes
 classes:c.classes.length≤reachBytes
 attrs:c.attrs.length≤reachBytes
 texts:∀ a ∈ c.attrs,ER a
 ps:c.pseudos.length≤reachBytes
def ub (n:Nd) (c:Cp):Bool:=decide (c.tag=emp)||decide (c.tag=n.tag)
def idB (n:Nd) (x:ByteArray):Bool:=!decide (x=emp)&&decide (x=n.id)
def mD (n:Nd) (c:Cp):Bool:=ub n c&&(c.ids.all (idB n)&&(c.classes.all (sY n.classes)&&c.attrs.all (jN n.attrs)))
section
attribute [local irreducible] ax.L0 ax.L1 ax.L2
theorem AL (hC:nr σ) {n:Nd} (hn:SmN n) {c:Cp} (hc:sv c) {K:AV→Hp→Prop} {b7:Nat} {y5 y31 y32 y33 y47 y48 y49:AV}:∀ (m k:Nat) (H:Hp),c.attrs.length - m=k→m≤c.attrs.length→b7<H.n→H.get b7=some (.cells (bF n) true)→(∀ H,K (Bo ((c.attrs.drop m).all (jN n.attrs))) H) →
  ax.L2 σ K y5 (.ptr b7 0) y31 y32 y33 y47 y48 y49 (.imm 3 (c.attrs.map bU)) (I c.attrs.length) (I m) H:=by
 intro m k
 revert m
 induction k with
 | zero =>
  intro m H hk hm hb hg hK
  have:m=c.attrs.length:=by omega
  subst this
  refine ax.L2_step ?_
  simp
  simpa using hK H
 | succ k ih =>
  intro m H hk hm hb hg hK
  have hlt:m<c.attrs.length:=by omega
  obtain ⟨x,hx⟩:=ce hlt
  rw [cI hx] at hK
  have h1:(m:Int)<c.attrs.length:=by omega
  have hny:b7≠H.n:=by omega
  refine ax.L2_step ?_
  simp only [ca,h1,decide_true,aa,aj,if_true,cd hx,fL,II,bl]
  simp [bU,hny,hg,aQ]
  have e1:ldL true 3 [Sx x.name,I x.op,Sx x.text]=some (.agg (bU x)):=rfl
  rw [e1,aa]
  refine au (EC hC n hn.attrs hn.texts x (hc.texts x (List.mem_of_getElem? hx)) _) ?_
  simp only [eS,aa,aj]
  cases hb2:jN n.attrs x with
  | false =>
   simp
   simp [hb2] at hK
   exact hK _
  | true =>
   simp
   rw [dr hlt hc.attrs (by decide)]
   refine ih (m+1) _ (by omega) (by omega) (by simp; omega) (by simp [hny,hg]) fun H'=>?_
   simp [hb2] at hK
   simpa using hK H'
theorem As (hC:nr σ) {n:Nd} (hn:SmN n) {c:Cp} (hc:sv c) {K:AV→Hp→Prop} {b5 b7:Nat} {y31 y32 y33 y60 y61 y62:AV}:∀ (m k:Nat) (H:Hp),c.classes.length - m=k→m≤c.classes.length→b7<H.n→H.get b7=some (.cells (bF n) true)→H.get b5=some (.cells (bG c) true)→(∀ H,K (Bo ((c.classes.drop m).all (sY n.classes)&&c.attrs.all (jN n.attrs))) H) →
  ax.L1 σ K (.ptr b5 0) (.ptr b7 0) y31 y32 y33 (d_ c.classes) (I c.classes.length) (I m) y60 y61 y62 H:=by
 intro m k
 revert m
 induction k with
 | zero =>
  intro m H hk hm hb hg hg5 hK
  have:m=c.classes.length:=by omega
  subst this
  refine ax.L1_step ?_
  simp [hg5]
  exact AL hC hn hc 0 _ H rfl (Nat.zero_le _) hb hg (by simpa using hK)
 | succ k ih =>
  intro m H hk hm hb hg hg5 hK
  have hlt:m<c.classes.length:=by omega
  obtain ⟨x,hx⟩:=ce hlt
  rw [cI hx] at hK
  refine ax.L1_step ?_
  have h1:(m:Int)<c.classes.length:=by omega
  simp [h1,d_,cd hx,hg]
  refine au (Gw n.classes hn.classes x _) ?_
  simp only [eS,aa,aj]
  cases hb2:sY n.classes x with
  | false =>
   simp
   simp [hb2] at hK
   exact hK _
  | true =>
   simp
   rw [dr hlt hc.classes (by decide)]
   refine ih (m+1) _ (by omega) (by omega) hb hg hg5 fun H'=>?_
   simp [hb2] at hK
   simpa using hK H'
theorem B2 (hC:nr σ) {n:Nd} (hn:SmN n) {c:Cp} (hc:sv c) {K:AV→Hp→Prop} {b5 b7:Nat} {y47 y48 y49 y60 y61 y62:AV}:∀ (m k:Nat) (H:Hp),c.ids.length - m=k→m≤c.ids.length→b7<H.n→H.get b7=some (.cells (bF n) true)→H.get b5=some (.cells (bG c) true)→(∀ H,K (Bo ((c.ids.drop m).all (idB n)&&(c.classes.all (sY n.classes)&&c.attrs.all (jN n.attrs)))) H) →
  ax.L0 σ K (.ptr b5 0) (.ptr b7 0) (d_ c.ids) (I c.ids.length) (I m) y47 y48 y49 y60 y61 y62 H:=by
 intro m k
 revert m
 induction k with
 | zero =>
  intro m H hk hm hb hg hg5 hK
  have:m=c.ids.length:=by omega
  subst this
  refine ax.L0_step ?_
  simp [hg5]
  exact As hC hn hc 0 _ H rfl (Nat.zero_le _) hb hg hg5 (by simpa using hK)
 | succ k ih =>
  intro m H hk hm hb hg hg5 hK
  have hlt:m<c.ids.length:=by omega
  obtain ⟨x,hx⟩:=ce hlt
  rw [cI hx] at hK
  refine ax.L0_step ?_
  have h1:(m:Int)<c.ids.length:=by omega
  simp [h1,d_,cd hx,hg]
  split
  ·rename_i h
   have h':x=emp:=h
   simp [idB,h'] at hK
   exact hK _
  ·rename_i h
   have h':¬ (x=emp):=h
   split
   ·rename_i h2
    have h3:idB n x=true:=by simp [idB,h',← h2]
    simp [h3] at hK
    rw [dr hlt hc.ids (by decide)]
    exact ih (m+1) _ (by omega) (by omega) hb hg hg5 fun H'=>by simpa using hK H'
   ·rename_i h2
    simp [idB,h',h2] at hK
    exact hK _
end
theorem yM (hC:nr σ) {L:List Nd} {d:List Nat} (hN:L.length≤4096) {e:Nat} (he:e<L.length) (hn:SmN (cm (cW L e))) {c:Cp} (hc:sv c) (r:List AV) (hr:aU r=true) (H:Hp) :
  aE Tryz.prog σ eu [.ip (dL L d::r),I (e:Int),.agg (bG c)] H (Bo (mD (cm (cW L e)) c)) H:=by
 refine bO (fun K hK=>ax.run ?_) (by simp [aU,bS,cb,lL,hr]) rfl H
 simp
 refine au (DI L d hN he _) ?_
 have hgo:∀ H b5 b7,b7<H.n→H.get b7=some (.cells (bF (cm (cW L e))) true)→H.get b5=some (.cells (bG c) true)→ub (cm (cW L e)) c=true→ax.L0 σ K (.ptr b5 0) (.ptr b7 0) (d_ c.ids) (I c.ids.length) (I 0) (.lit undef) (.lit undef) (.lit undef) (.lit undef) (.lit undef) (.lit undef) H:=by
  intro H b5 b7 hb hg hg5 ht
  unfold mD at hK
  rw [ht,Bool.true_and] at hK
  exact B2 hC hn hc 0 _ H rfl (Nat.zero_le _) hb hg hg5 (by simpa using hK)
 have hov:bN [I 0,Sx ⟨#[]⟩,Sx ⟨#[]⟩,.lit (.slice none 0 0),.lit (.slice none 0 0)] 0 (bF (cm (cW L e)))=bF (cm (cW L e)):=aQ (by simp)
 simp [hov]
 split
 ·rename_i h
  exact hgo _ _ _ (by simp) (by simp) (by simp) (by simp [ub,show c.tag=emp from h])
 ·rename_i h
  have h':¬ (c.tag=emp):=h
  split
  ·rename_i h2
   refine hgo _ _ _ (by simp) (by simp) (by simp) ?_
   simp [ub,h2]
  ·rename_i h2
   have:ub (cm (cW L e)) c=false:=by simp [ub,h',h2]
   unfold mD at hK
   rw [this,Bool.false_and] at hK
   exact hK _
def Hg (p a b:Int):Bool:=if a=0 then decide (p=b) else if 0<a then decide (b≤p)&&decide ((p - b) % a=0) else decide (p≤b)&&decide ((b - p) % (-a)=0)
theorem wrU (n:Int):wr .u64 n=n % 18446744073709551616:=by
 unfold wr
 simp [IntKind.wrap,IntKind.signed,IntKind.bits]
theorem HR {n:Int} (h0:0≤n) (h1:n<18446744073709551616):wr .u64 n=n:=by rw [wrU]; omega
theorem J6 (a b:Int):wr .u64 (wr .u64 a - wr .u64 b)=(a - b) % 18446744073709551616:=by
 rw [wrU,wrU,wrU]
 omega
theorem IK {p a b:Int} (hp:i64 p) (ha:i64 a) (hb:i64 b) (H:Hp):aE Tryz.prog σ ju [I p,I a,I b] H (Bo (Hg p a b)) H:=by
 refine bO (fun K hK=>nD.run ?_) (by simp [aU,bS]) rfl H
 unfold i64 at hp ha hb
 unfold Hg at hK
 simp
 split
 ·rename_i h
  rw [if_pos h] at hK
  exact hK _
 rename_i h0
 rw [if_neg h0] at hK
 split
 ·rename_i h1
  rw [if_pos h1] at hK
  split
  ·rename_i h2
   have e1:wr .u64 a=a:=HR (by omega) (by omega)
   have e2:(p - b) % 18446744073709551616=p - b:=by omega
   rw [J6,e1,e2,F7 _ _ _ h0,aa,bZ,aa]
   have e3:(p - b).tmod a=(p - b) % a:=Int.tmod_eq_emod_of_nonneg (by omega)
   rw [e3]
   simpa [h2] using hK Hp.empty
  ·rename_i h2
   simpa [h2] using hK Hp.empty
 ·rename_i h1
  rw [if_neg h1] at hK
  split
  ·rename_i h2
   have e1:wr .u64 (-wr .u64 a)=-a:=by rw [wrU,wrU]; omega
   have e2:(b - p) % 18446744073709551616=b - p:=by omega
   have h3:(-a)≠0:=by omega
   rw [J6,e2]
   rw [e1,F7 _ _ _ h3,aa,bZ,aa]
   have e3:(b - p).tmod (-a)=(b - p) % (-a):=Int.tmod_eq_emod_of_nonneg (by omega)
   rw [e3]
   simpa [h2] using hK Hp.empty
  ·rename_i h2
   simpa [h2] using hK Hp.empty
theorem CA (L:List Nd) (e:Nat):(pi L e).length≤e:=by
 have:=List.length_filter_le (fun j:Nat=>decide (0<j)&&decide (par L j=par L e)) (List.range e)
 simp at this
 unfold pi; omega
theorem tO (L:List Nd) (e:Nat):1≤cZ L e∧cZ L e≤(e:Int)+1:=by
 have:=CA L e
 unfold cZ; omega
theorem tF {L:List Nd} {d:List Nat} (hB:dh L L.length d) (hN:L.length≤4096) {e:Nat} (he:e<L.length) (r:List AV) (hr:aU r=true) (H:Hp):aE Tryz.prog σ dW [.ip (dL L d::r),I (e:Int)] H (Bo (wJ L e)) H:=by
 refine bO (fun K hK=>gT.run ?_) (by simp [aU,bS,cb,hr]) rfl H
 simp
 refine au (nT L d hN he _) ?_
 simp
 unfold wJ at hK
 split
 ·rename_i h
  simpa [h] using hK Hp.empty
 ·rename_i h
  refine au (nC L d hN he _) ?_
  rcases rT hB he with h1 | ⟨p,h1,h2⟩
  ·omega
  ·have hpl:=tO L e
   obtain ⟨k,hk⟩:∃ k:Nat,cZ L e=k:=⟨(cZ L e).toNat,by omega⟩
   rw [h1,hk] at hK ⊢
   refine au (tu L d hN (by omega) _) ?_
   have h3:¬ ((p:Int)<0):=by omega
   simp
   simpa [h3] using hK Hp.empty
def cY (L:List Nd) (e:Nat) (k:Int):Int:=if k=1∨k=2 then par L e else if k=3∨k=4 then jl L e else -1
def oR (k:Int):Bool:=decide (k=1)||decide (k=4)
theorem xu {L:List Nd} {d:List Nat} (hN:L.length≤4096) {e:Nat} (he:e<L.length) (k:Int) (r:List AV) (hr:aU r=true) (H:Hp):aE Tryz.prog σ d9 [.ip (dL L d::r),I (e:Int),I k] H (.tup [I (cY L e k),Bo (oR k)]) H:=by
 refine bO (fun K hK=>aP.run ?_) (by simp [aU,bS,cb,hr]) (by simp [fT,hU]) H
 have j0:∀ (b:Bool) (H:Hp),(b=true→k=1∨k=2)→(b=false→¬ (k=1∨k=2))→aP.J0 σ K (.ip (dL L d::r)) (I (e:Int)) (I k) (I k) (Bo b) (.lit undef) H:=by
  intro b H h1 h2
  refine aP.J0_step ?_
  cases b with
  | true =>
   have h:=h1 rfl
   simp
   refine au (nT L d hN he _) ?_
   have h4:¬ (k=4):=by omega
   simpa [cY,oR,h,h4] using hK H
  | false =>
   have h:=h2 rfl
   have j1:∀ (c:Bool),(c=true→k=3∨k=4)→(c=false→¬ (k=3∨k=4))→aP.J1 σ K (.ip (dL L d::r)) (I (e:Int)) (I k) (I k) (Bo false) (Bo c) H:=by
    intro c h3 h4
    refine aP.J1_step ?_
    have h5:¬ (k=1):=by omega
    cases c with
    | true =>
     have h6:=h3 rfl
     simp
     refine au (yc L d hN he _) ?_
     have h7:cY L e k=jl L e:=by unfold cY; rw [if_neg h,if_pos h6]
     have h8:oR k=decide (k=4):=by unfold oR; simp [h5]
     rw [h7,h8] at hK
     exact hK H
    | false =>
     have h6:=h4 rfl
     have h7:cY L e k=-1:=by unfold cY; rw [if_neg h,if_neg h6]
     have h8:oR k=false:=by unfold oR; simp; omega
     rw [h7,h8] at hK
     exact hK H
   simp
   split
   ·rename_i h3
    exact j1 (decide (k=3)) (fun _=>.inl h3) (fun h=>by simp [h3] at h)
   ·rename_i h3
    refine j1 _ (fun h=>.inr (by simpa using h)) (fun h=>?_)
    simp at h
    omega
 simp
 split
 ·rename_i h
  exact j0 (decide (k=1)) _ (fun _=>.inl h) (fun h'=>by simp [h] at h')
 ·rename_i h
  refine j0 _ _ (fun h=>.inr (by simpa using h)) (fun h'=>?_)
  simp at h'
  omega
end Go.Proofs.YthmaggcfghjmfaaGreat.Ev
namespace Go.Proofs.YthmaggcfghjmfaaGreat.Ev
set_option linter.unusedVariables false
set_option linter.unusedSimpArgs false
variable {σ:Sig}
structure Lk where
 part:Pt
 lists:List (List Nat)
def qG (n:Nat):List AV:=[I (n:Int)]
def lF (l:List Nat):AV:=.imm 1 (l.map qG)
def dN (x:Lk):List AV:=bm x.part++[.imm 1 (x.lists.map fun l=>[lF l])]
def il (c:List Lk):AV:=.imm 7 (c.map dN)
theorem ra (l:List Nat):bS (lF l)=true:=by unfold lF; simp only [bS]; exact ba _ (fun _=>rfl) _
theorem C5 (x:Lk):aU (dN x)=true:=by
 unfold dN
 exact od (o8 _) (by simp only [aU,bS,ba _ (show ∀ l,aU [lF l]=true from fun l=>by simp [aU,ra]),Bool.and_self])
@[simp] theorem GZ (x:Lk):(dN x).length=7:=by simp [dN]
def jT (n i e:Nat) (a:Bool):List AV:=[I (n:Int),I (i:Int),I (e:Int),Bo a]
abbrev qKK:List KK:=[.int .i64,.int .i64,.int .i64,.bool]
theorem BB {n i e n' i' e':Nat} {a a':Bool} (h:jT n i e a=jT n' i' e' a'):n=n'∧i=i'∧e=e'∧a=a':=by
 simp only [jT,List.cons.injEq,AV.lit.injEq,Value.int.injEq,Value.bool.injEq,true_and,and_true] at h
 exact ⟨by omega,by omega,by omega,h.2.2.2⟩
def lh (N:Nat) (T:Nat→Nat→Nat→Bool→Bool) (es:List (AV × AV)):Prop:=∀ p ∈ es,∃ n i e a,n<N∧p=(.agg (jT n i e a),Bo (T n i e a))∧kOk true qKK p.1=true
theorem ri {N:Nat} {T:Nat→Nat→Nat→Bool→Bool}:∀ {es:List (AV × AV)},lh N T es→∀ n i e a,ji (.agg (jT n i e a)) es=none∨ji (.agg (jT n i e a)) es=some (Bo (T n i e a))
 | [],_,n,i,e,a=>.inl rfl
 | (x,y)::r,h,n,i,e,a=>by
  obtain ⟨n',i',e',a',_,hp,_⟩:=h (x,y) (by simp)
  cases hp
  unfold ji
  by_cases he:AV.agg (jT n' i' e' a')=.agg (jT n i e a)
  ·rw [if_pos he]
   obtain ⟨rfl,rfl,rfl,rfl⟩:=BB (AV.agg.inj he)
   exact .inr rfl
  ·rw [if_neg he]
   exact ri (fun p hp=>h p (by simp [hp])) n i e a
theorem uq {N:Nat} {T:Nat→Nat→Nat→Bool→Bool} {n i e:Nat} {a:Bool} (hnN:n<N) (hk:kOk true qKK (.agg (jT n i e a))=true):∀ {es:List (AV × AV)},lh N T es→lh N T (ma (.agg (jT n i e a)) (Bo (T n i e a)) es)
 | [],_=>fun p hp=>by
  simp [ma] at hp
  subst hp
  exact ⟨n,i,e,a,hnN,rfl,hk⟩
 | (x,y)::r,h=>by
  obtain ⟨n',i',e',a',hn',hp,hk'⟩:=h (x,y) (by simp)
  cases hp
  unfold ma
  by_cases he:AV.agg (jT n' i' e' a')=.agg (jT n i e a)
  ·rw [if_pos he]
   intro p hp
   rcases List.mem_cons.1 hp with rfl | hp
   ·exact ⟨n,i,e,a,hnN,by rw [he],by rw [he]; exact hk⟩
   ·exact h p (by simp [hp])
  ·rw [if_neg he]
   intro p hp
   rcases List.mem_cons.1 hp with rfl | hp
   ·exact ⟨n',i',e',a',hn',rfl,hk'⟩
   ·exact uq hnN hk (fun p hp=>h p (by simp [hp])) p hp
theorem tK {N:Nat} {T:Nat→Nat→Nat→Bool→Bool} {es:List (AV × AV)} (h:lh N T es):es.all (fun p=>kOk true qKK p.1)=true:=by
 rw [List.all_eq_true]
 intro p hp
 obtain ⟨n,i,e,a,_,_,hk⟩:=h p hp
 exact hk
structure gG (t:AV) (C:List (List Lk)) (T:Nat→Nat→Nat→Bool→Bool) (ab mb:Nat) (cs:AV) (H:Hp):Prop where
 gab:H.get ab=some (.cells [t,cs,.mp mb] true)
 nab:ab<H.n
 nmb:mb<H.n
 ne:ab≠mb
 gcs:Gs 1 H cs (C.map fun c=>[il c])
 csm:¬ own cs mb
 memo:∃ es,H.get mb=some (.map es)∧lh C.length T es
structure Kp (mb:Nat) (H H':Hp):Prop where
 up:H.n≤H'.n
 get:∀ (j:Nat),j<H.n→j≠mb→H'.get j=H.get j
theorem Kp.refl (mb:Nat) (H:Hp):Kp mb H H:=⟨Nat.le_refl _,fun _ _ _=>rfl⟩
theorem Kp.trans {mb:Nat} {H H1 H2:Hp} (h:Kp mb H H1) (k:Kp mb H1 H2):Kp mb H H2:=⟨Nat.le_trans h.up k.up,fun j hj hne=>by rw [k.get j (Nat.lt_of_lt_of_le hj h.up) hne,h.get j hj hne]⟩
theorem Kp.new (mb:Nat) (H:Hp) (b:Blk):Kp mb H (H.new b):=by
 refine ⟨by simp,fun j hj _=>?_⟩
 have:j≠H.n:=by omega
 simp [this]
theorem Kp.setN {mb:Nat} {H H':Hp} (h:Kp mb H H') {j:Nat} (hj:H.n≤j) (b:Option Blk):Kp mb H (H'.set j b):=by
 refine ⟨by simpa using h.up,fun i hi hne=>?_⟩
 have:i≠j:=by omega
 simp [this]; exact h.get i hi hne
theorem gG.keep {t:AV} {C:List (List Lk)} {T:Nat→Nat→Nat→Bool→Bool} {ab mb:Nat} {cs:AV} {H H':Hp} (h:gG t C T ab mb cs H) (hn:H.n≤H'.n) (hg:∀ j,j<H.n→H'.get j=H.get j):gG t C T ab mb cs H':=by
 obtain ⟨es,he,hm⟩:=h.memo
 exact ⟨by rw [hg _ h.nab]; exact h.gab,Nat.lt_of_lt_of_le h.nab hn,Nat.lt_of_lt_of_le h.nmb hn,h.ne,h.gcs.keep (fun j hj=>hg j (h.gcs.lt hj)) hn,h.csm,es,by rw [hg _ h.nmb]; exact he,hm⟩
theorem gG.new {t:AV} {C:List (List Lk)} {T:Nat→Nat→Nat→Bool→Bool} {ab mb:Nat} {cs:AV} {H:Hp} (h:gG t C T ab mb cs H) (b:Blk):gG t C T ab mb cs (H.new b):=by
 refine h.keep (by simp) fun j hj=>?_
 have:j≠H.n:=by omega
 simp [this]
theorem gG.setN {t:AV} {C:List (List Lk)} {T:Nat→Nat→Nat→Bool→Bool} {ab mb:Nat} {cs:AV} {H0 H:Hp} (h0:gG t C T ab mb cs H0) (h:gG t C T ab mb cs H) {j:Nat} (hj:H0.n≤j) (b:Option Blk):gG t C T ab mb cs (H.set j b):=by
 obtain ⟨es,he,hm⟩:=h.memo
 have a1:=h0.nab
 have a2:=h0.nmb
 have e1:ab≠j:=by omega
 have e2:mb≠j:=by omega
 refine ⟨by simp [e1,h.gab],by simpa using h.nab,by simpa using h.nmb,h.ne,h.gcs.keep (fun i hi=>?_) (by simp),h.csm,es,by simp [e2,he],hm⟩
 have:=h0.gcs.lt hi
 have:i≠j:=by omega
 simp [this]
theorem gG.pure {L:List Nd} {d:List Nat} {C:List (List Lk)} {T:Nat→Nat→Nat→Bool→Bool} {ab mb:Nat} {cs:AV} {H:Hp} (h:gG (dL L d) C T ab mb cs H) {f:Nat} {xs:List AV} {r:AV}
  (hg:aE Tryz.prog σ f (.ip (dL L d::[])::xs) Hp.empty r Hp.empty) (hx:aU xs=true) (hr:fT r=true):aE Tryz.prog σ f (.ptr ab 0::xs) H r H:=by
 refine hg.frzA (.cons (.ptr (fun _=>dL L d) h.gab (fun j y hj=>?_) (fun j y hj=>?_)) (FzL.refl hx)) hr
 ·have:j=0:=by have:=(List.getElem?_eq_some_iff.1 hj).1; simp at this; omega
  subst this; simp
 ·have:j=0:=by have:=(List.getElem?_eq_some_iff.1 hj).1; simp at this; omega
  subst this
  simp at hj; subst hj
  exact .refl (cb L d)
theorem ww {t:AV} {C:List (List Lk)} {T:Nat→Nat→Nat→Bool→Bool} {ab mb:Nat} {cs:AV} {H:Hp} (h:gG t C T ab mb cs H) {n i e:Nat} {a:Bool} (hnN:n<C.length) (hk:kOk true qKK (.agg (jT n i e a))=true) {fv:AV} {K:AV→Hp→Prop}
  (how:∀ H1 (K1:AV→Hp→Prop),gG t C T ab mb cs H1→Kp mb H H1→(∀ H2,gG t C T ab mb cs H2→Kp mb H1 H2→K1 (Bo (T n i e a)) H2)→jy Tryz.prog σ fv [] H1 K1)
  (hK:∀ H',gG t C T ab mb cs H'→Kp mb H H'→K (Bo (T n i e a)) H'):ai Tryz.prog σ dS [.ptr ab 0,.agg (jT n i e a),fv] H K:=by
 obtain ⟨es,hes,hm⟩:=h.memo
 have e1:ab≠H.n:=by have:=h.nab; omega
 have e2:mb≠H.n:=by have:=h.nmb; omega
 refine gL.run ?_
 have hl:ldL true 4 (jT n i e a)=some (.agg (jT n i e a)):=rfl
 simp only [fI,fG,aa,bx,Nat.zero_add,bq,ay,e1,if_false,if_true,h.gab,bo,List.drop_zero,hl]
 simp only [List.drop,jx,aa,qw,ay,e2,if_false,hes,hk,tK hm,Bool.and_self,cond_true]
 rcases ri hm n i e a with hf | hf
 ·rw [hf]
  simp [xV]
  refine how _ _ (h.new _) (Kp.new _ _ _) fun H2 h2 k2=>?_
  obtain ⟨es2,hes2,hm2⟩:=h2.memo
  have hbox:H2.get H.n=some (.cells (jT n i e a) true):=by rw [k2.get H.n (by simp) (Ne.symm e2)]; simp
  simp only [h2.gab,bo,List.drop_succ_cons,List.drop_zero,jx,aa,hbox,hl,Aq,hes2,hk,tK hm2,xL,Bool.not_false,Bool.and_self,cond_true]
  refine hK _ ?_ ?_
  ·refine ⟨by simp [h2.ne,h2.gab],by simpa using h2.nab,by simpa using h2.nmb,h2.ne,h2.gcs.keep (fun j hj=>?_) (by simp),h2.csm,_,by simp,uq hnN hk hm2⟩
   have:j≠mb:=fun e=>h2.csm (e ▸ hj)
   simp [this]
  ·have:=(Kp.new mb H (.cells (jT n i e a) true)).trans k2
   exact ⟨by simpa using this.up,fun j hj hne=>by simp [hne]; exact this.get j hj hne⟩
 ·rw [hf]
  simp [xV]
  exact hK _ (h.new _) (Kp.new _ _ _)
end Go.Proofs.YthmaggcfghjmfaaGreat.Ev
namespace Go.Proofs.YthmaggcfghjmfaaGreat.Ev
set_option linter.unusedVariables false
set_option linter.unusedSimpArgs false
variable {σ:Sig}
def DD (c:Cp):Prop:=c.ids.length≤5∧c.classes.length≤5∧c.attrs.length≤5∧c.pseudos.length≤5
def nN:Nat→List Sl→Prop
 | 0,_=>False
 | f+1,l=>∀ s ∈ l,s.length≤60∧∀ p ∈ s,DD p.c∧∀ q ∈ p.c.pseudos,nN f q.list
def DR (f:Nat) (s:Sl):Prop:=s.length≤60∧∀ p ∈ s,DD p.c∧∀ q ∈ p.c.pseudos,nN f q.list
def Fm (f:Nat) (p:Pt):Prop:=DD p.c∧∀ q ∈ p.c.pseudos,nN f q.list
def wI (f:Nat) (l:List Sl) (n:Int):Prop:=0≤n∧n≤200*4 ^ f∧(n≤40→nN f l)
theorem xT (f:Nat) (hf:f≤10) (ih:∀ l,gd cF l→∃ n,(∀ H,aE Tryz.prog σ dH [sls l,I ((11 - f:Nat):Int)] H (I n) H)∧wI f l n) (l:List Sl) (hl:gd cF l) :
  ∃ n,(∀ H,aE Tryz.prog σ dH [sls l,I ((10 - f:Nat):Int)] H (I n) H)∧wI (f+1) l n:=by
 have h4:4 ^ f ≥ 1:=Nat.one_le_pow _ _ (by omega)
 have h4b:4 ^ f≤1048576:=by
  calc 4 ^ f≤4 ^ 10:=Nat.pow_le_pow_right (by omega) hf
   _=1048576:=by decide
 have hpow:(200*4 ^ (f+1):Int)=800*4 ^ f:=by rw [Int.pow_succ]; omega
 have cast4:((4 ^ f:Nat):Int)=(4:Int) ^ f:=by simp
 let K:AV→Hp→Prop:=fun r _=>∃ n,r=I n∧wI (f+1) l n
 have stop:∀ H,K (I 100) H:=fun H=>⟨100,rfl,by omega,by rw [hpow]; omega,fun h=>by omega⟩
 have L0:∀ (d k:Nat) (H:Hp) (n:Int) (y7 y8 y9 y10:AV),l.length - k=d→k≤l.length→0≤n→n≤200*4 ^ (f+1)→(n≤40→∀ s ∈ l.take k,DR f s) →
   aG.L0 σ K (sls l) (I ((10 - f:Nat):Int)) (I n) (I k) y7 y8 y9 y10 H:=by
  intro d
  induction d with
  | zero =>
   intro k H n y7 y8 y9 y10 hd hk hn hn2 hfit
   have e:k=l.length:=by omega
   subst e
   refine aG.L0_step ?_
   simp [sls]
   exact ⟨n,rfl,hn,hn2,fun h=>by simpa [nN,DR] using hfit h⟩
  | succ d ihd =>
   intro k H n y7 y8 y9 y10 hd hk hn hn2 hfit
   have hlt:k<l.length:=by omega
   obtain ⟨s,hs⟩:=ce hlt
   have hsw:=hl.2 s (List.mem_of_getElem? hs)
   have htake:∀ (P:Sl→Prop),(∀ x ∈ l.take k,P x)→P s→∀ x ∈ l.take (k+1),P x:=by
    intro P h1 h2 x hx
    rw [List.take_add_one,hs] at hx
    simp only [Option.toList_some,List.mem_append,List.mem_singleton] at hx
    rcases hx with hx | rfl
    ·exact h1 x hx
    ·exact h2
   have L1:∀ (d2 j:Nat) (H:Hp) (n:Int) (y9 y10:AV),s.length - j=d2→j≤s.length→s.length≤60→0≤n→n≤200*4 ^ (f+1)→(n≤40→(∀ s ∈ l.take k,DR f s)∧∀ p ∈ s.take j,Fm f p) →
     aG.L1 σ K (sls l) (I ((10 - f:Nat):Int)) (I n) (I k) (.imm 6 (s.map bm)) (I j) y9 y10 H:=by
    intro d2
    induction d2 with
    | zero =>
     intro j H n y9 y10 hd2 hj h60 hn hn2 hfit2
     have e:j=s.length:=by omega
     subst e
     refine aG.L1_step ?_
     simp
     rw [dr hlt hl.1]
     exact ihd (k+1) H n _ _ _ _ (by omega) (by omega) hn hn2 fun h=>htake _ (hfit2 h).1 ⟨h60,by simpa [Fm] using (hfit2 h).2⟩
    | succ d2 ihd2 =>
     intro j H n y9 y10 hd2 hj h60 hn hn2 hfit2
     have hjlt:j<s.length:=by omega
     obtain ⟨p,hp⟩:=ce hjlt
     have hpw:=(Pt.wf_iff.1 (hsw.2 p (List.mem_of_getElem? hp))).2
     have htake2:∀ (P:Pt→Prop),(∀ x ∈ s.take j,P x)→P p→∀ x ∈ s.take (j+1),P x:=by
      intro P h1 h2 x hx
      rw [List.take_add_one,hp] at hx
      simp only [Option.toList_some,List.mem_append,List.mem_singleton] at hx
      rcases hx with hx | rfl
      ·exact h1 x hx
      ·exact h2
     have L2:∀ (d3 i:Nat) (H:Hp) (n:Int) (id:Nat),H.get id=some (.cells (bG p.c) true)→p.c.pseudos.length - i=d3→i≤p.c.pseudos.length→DD p.c→0≤n→n≤200*4 ^ (f+1) →
       (n≤40→(∀ s ∈ l.take k,DR f s)∧(∀ p ∈ s.take j,Fm f p)∧∀ q ∈ p.c.pseudos.take i,nN f q.list) →
       aG.L2 σ K (sls l) (I ((10 - f:Nat):Int)) (I n) (I k) (.imm 6 (s.map bm)) (I j) (.ptr id 0) (I i) H:=by
      intro d3
      induction d3 with
      | zero =>
       intro i H n id hid hd3 hi hc hn hn2 hfit3
       have e:i=p.c.pseudos.length:=by omega
       subst e
       refine aG.L2_step ?_
       simp [hid,cD]
       rw [dr hjlt hsw.1]
       exact ihd2 (j+1) H n _ _ (by omega) (by omega) h60 hn hn2 fun h=>⟨(hfit3 h).1,htake2 _ (hfit3 h).2.1 ⟨hc,by simpa using (hfit3 h).2.2⟩⟩
      | succ d3 ihd3 =>
       intro i H n id hid hd3 hi hc hn hn2 hfit3
       have hilt:i<p.c.pseudos.length:=by omega
       obtain ⟨q,hq⟩:=ce hilt
       have hqw:=(Ps.wf_iff.1 (hpw.ps q (List.mem_of_getElem? hq))).2.2.2
       obtain ⟨m,hm,hm0,hm1,hm2⟩:=ih q.list hqw
       refine aG.L2_step ?_
       have e1:wr .i64 (((10 - f:Nat):Int)+1)=((11 - f:Nat):Int):=by rw [fw (by omega) (by omega)]; omega
       simp [hid,cD,cd hq,dF,hilt]
       split
       ·rename_i hlt100
        refine au (by rw [e1]; exact hm H) ?_
        simp only [pY,aa,cx]
        have e2:wr .i64 (3*m)=3*m:=fw (by omega) (by omega)
        have e3:wr .i64 (n+3*m)=n+3*m:=fw (by omega) (by omega)
        rw [e2,e3,dr hilt hpw.psL]
        refine ihd3 (i+1) H (n+3*m) id hid (by omega) (by omega) hc (by omega) (by rw [hpow]; omega) fun h=>?_
        have:=hfit3 (by omega)
        refine ⟨this.1,this.2.1,fun x hx=>?_⟩
        rw [List.take_add_one,hq] at hx
        simp only [Option.toList_some,List.mem_append,List.mem_singleton] at hx
        rcases hx with hx | rfl
        ·exact this.2.2 x hx
        ·exact hm2 (by omega)
       ·rw [dr hjlt hsw.1]
        refine ihd2 (j+1) H n _ _ (by omega) (by omega) h60 hn hn2 fun h=>by omega
     refine aG.L1_step ?_
     simp [cd hp,cQ,aQ,dE,cD,hjlt]
     split
     ·rename_i hlt100
      have e1:wr .i64 (n+1)=n+1:=fw (by omega) (by omega)
      have e2:wr .i64 (n+1+((10 - f:Nat):Int))=n+1+((10 - f:Nat):Int):=fw (by omega) (by omega)
      simp only [e1,e2]
      split
      ·exact stop Hp.empty
      split
      ·exact stop Hp.empty
      split
      ·exact stop Hp.empty
      split
      ·exact stop Hp.empty
      ·refine L2 _ 0 _ _ H.n ?_ rfl (Nat.zero_le _) ⟨by omega,by omega,by omega,by omega⟩ (by omega) (by rw [hpow]; omega) fun h=>?_
       ·simp [cD]
       ·have:=hfit2 (by omega)
        exact ⟨this.1,this.2,fun x hx=>by simp at hx⟩
     ·rw [dr hlt hl.1]
      exact ihd (k+1) H n _ _ _ _ (by omega) (by omega) hn hn2 fun h=>by omega
   refine aG.L0_step ?_
   simp only [sls]
   simp [cd hs,aX,hlt]
   have go:s.length≤60→∀ H,aG.L1 σ K (.imm 1 (l.map aX)) (I ((10 - f:Nat):Int)) (I n) (I k) (.imm 6 (s.map bm)) (I 0) y9 y10 H :=
    fun h60 H=>L1 _ 0 H n y9 y10 rfl (Nat.zero_le _) h60 hn hn2 fun h=>⟨hfit h,fun x hx=>by simp at hx⟩
   split
   ·split
    ·split
     ·exact stop Hp.empty
     ·split
      ·exact stop Hp.empty
      ·exact go (by omega) _
    ·split
     ·exact stop Hp.empty
     ·exact go (by omega) _
   ·exact ⟨n,rfl,hn,hn2,fun h=>by omega⟩
 have run:∃ r H1,aE Tryz.prog σ dH [sls l,I ((10 - f:Nat):Int)] Hp.empty r H1∧K r H1:=by
  refine aG.run ?_
  simp
  rw [if_neg (by omega)]
  exact L0 _ 0 _ 0 _ _ _ _ rfl (Nat.zero_le _) (by omega) (by rw [hpow]; omega) fun _ x hx=>by simp at hx
 obtain ⟨r,H1,hg,n,rfl,hd⟩:=run
 exact ⟨n,fun H=>hg.over (by simp [aU,bS]) rfl H,hd⟩
theorem ws:∀ (f:Nat),f≤11→∀ (l:List Sl),gd cF l→∃ n,(∀ H,aE Tryz.prog σ dH [sls l,I ((11 - f:Nat):Int)] H (I n) H)∧wI f l n
 | 0,_,l,hl=>by
  have run:∃ r H1,aE Tryz.prog σ dH [sls l,I ((11 - 0:Nat):Int)] Hp.empty r H1∧r=I 100:=aG.run (by simp)
  obtain ⟨r,H1,hg,rfl⟩:=run
  exact ⟨100,fun H=>hg.over (by simp [aU,bS]) rfl H,by omega,by simp,fun h=>by omega⟩
 | f+1,hf,l,hl=>by
  have:=xT f (by omega) (ws f (by omega)) l hl
  rwa [show 10 - f=11 - (f+1) by omega] at this
theorem vW (l:List Sl) (hl:gd cF l):∃ b,(∀ H,aE Tryz.prog σ fu [sls l] H (Bo b) H)∧(b=false→nN 11 l):=by
 obtain ⟨n,hn,h0,h1,h2⟩:=ws (σ:=σ) 11 (by omega) l hl
 have run:∃ r H1,aE Tryz.prog σ fu [sls l] Hp.empty r H1∧r=Bo (decide (40<n)):=by
  refine mf.run (au (hn _) ?_)
  simp
 obtain ⟨r,H1,hg,rfl⟩:=run
 exact ⟨_,fun H=>hg.over (by simp [aU,bS]) rfl H,fun h=>h2 (by simpa using h)⟩
end Go.Proofs.YthmaggcfghjmfaaGreat.Ev

/- The walks, part 5: the evaluator, the functions, the laws. Conditions: none. -/
import Derived.Test.YthmaggcfghjmfaaZ4
namespace Go.Proofs.Ythmaggcfghjmfaa.Ev
set_option maxRecDepth 100000
set_option maxHeartbeats 4000000
set_option linter.unusedVariables false
variable {σ:Sig} {K:AV→Hp→Prop} {H:Hp}
noncomputable def eE.code:Code:=aM Try.f75
noncomputable def eE.J0 (σ:Sig) (K:AV→Hp→Prop) (y0 y1:AV) (H:Hp):Prop:=∀ j:Nat→AV,wp (CZ σ) 3 (sR (sR eE.code)) [y0,y1,j 2,j 3,j 4,j 5,j 6,j 7,j 8,j 9,j 10,j 11,j 12,j 13,j 14,j 15,j 16,j 17,j 18,j 19,j 20,j 21,j 22,j 23,j 24,j 25,j 26,j 27,j 28,j 29,j 30,j 31,j 32,j 33,j 34,j 35,j 36,j 37,j 38,j 39,j 40,j 41,j 42,j 43,j 44,j 45,j 46,j 47,j 48,j 49,j 50,j 51,j 52,j 53,j 54,j 55,j 56,j 57,j 58,j 59,j 60,j 61,j 62,j 63,j 64,j 65,j 66,j 67,j 68,j 69] H (fQ Try.f75 σ K)
theorem eE.J0_step {y0 y1:AV} (h:bnd (af .lss y1 (I 128)) fun x1=>ifB x1 (bnd (d4 .u8 y1) fun x2=>bnd (au [.int .u8 0] 1 1 H [(0,1,x2)]) fun p3=>bnd (aT false 1 1 p3.2 y0 p3.1) fun p4=>K p4.1 p4.2) (bnd (af .lss y1 (I 2048)) fun x5=>ifB x5 (bnd (af .shr y1 (.lit (.int .u64 6))) fun x6=>bnd (af .or (I 192) x6) fun x7=>bnd (d4 .u8 x7) fun x8=>bnd (af .and y1 (I 63)) fun x9=>bnd (af .or (I 128) x9) fun x10=>bnd (d4 .u8 x10) fun x11=>bnd (au [.int .u8 0] 1 2 H [(0,1,x8),(1,1,x11)]) fun p12=>bnd (aT false 1 1 p12.2 y0 p12.1) fun p13=>K p13.1 p13.2) (bnd (af .lss y1 (I 65536)) fun x14=>ifB x14 (bnd (af .shr y1 (.lit (.int .u64 12))) fun x15=>bnd (af .or (I 224) x15) fun x16=>bnd (d4 .u8 x16) fun x17=>bnd (af .shr y1 (.lit (.int .u64 6))) fun x18=>bnd (af .and x18 (I 63)) fun x19=>bnd (af .or (I 128) x19) fun x20=>bnd (d4 .u8 x20) fun x21=>bnd (af .and y1 (I 63)) fun x22=>bnd (af .or (I 128) x22) fun x23=>bnd (d4 .u8 x23) fun x24=>bnd (au [.int .u8 0] 1 3 H [(0,1,x17),(1,1,x21),(2,1,x24)]) fun p25=>bnd (aT false 1 1 p25.2 y0 p25.1) fun p26=>K p26.1 p26.2) (bnd (af .shr y1 (.lit (.int .u64 18))) fun x27=>bnd (af .or (I 240) x27) fun x28=>bnd (d4 .u8 x28) fun x29=>bnd (af .shr y1 (.lit (.int .u64 12))) fun x30=>bnd (af .and x30 (I 63)) fun x31=>bnd (af .or (I 128) x31) fun x32=>bnd (d4 .u8 x32) fun x33=>bnd (af .shr y1 (.lit (.int .u64 6))) fun x34=>bnd (af .and x34 (I 63)) fun x35=>bnd (af .or (I 128) x35) fun x36=>bnd (d4 .u8 x36) fun x37=>bnd (af .and y1 (I 63)) fun x38=>bnd (af .or (I 128) x38) fun x39=>bnd (d4 .u8 x39) fun x40=>bnd (au [.int .u8 0] 1 4 H [(0,1,x29),(1,1,x33),(2,1,x37),(3,1,x40)]) fun p41=>bnd (aT false 1 1 p41.2 y0 p41.1) fun p42=>K p42.1 p42.2)))):eE.J0 σ K y0 y1 H :=
 fun j=>Eq.mpr (by kernel_rfl) h
theorem eE.run {a0 a1:AV} (h:ai Try.prog σ ev [a1] H fun x1 H2=>bnd (unR .not x1) fun x3=>ifB x3 (eE.J0 σ K a0 (I 65533) H2) (eE.J0 σ K a0 a1 H2)):∃ r H1,aH Try.prog σ bV [a0,a1] H r H1∧K r H1 :=
 gwp 3 (fn:=Try.f75) (f:=bV) (c:=eE.code) (by kernel_rfl) (by kernel_rfl) (Eq.mpr (by kernel_rfl) h)
noncomputable def aC.code:Code:=aM Try.f76
noncomputable def aC.Q0 (σ:Sig) (K:AV→Hp→Prop):Exit→List AV→Hp→Prop:=(nx (fQ Try.f76 σ K) fun T G=>wp (CZ σ) 2033 (sR (sR (sR (sR (sR (sR (sR aC.code))))))) T G (fQ Try.f76 σ K))
noncomputable def aC.J0 (σ:Sig) (K:AV→Hp→Prop) (y0 y4 y5 y6 y7 y8 y9 y10:AV) (H:Hp):Prop:=∀ j:Nat→AV,wp (CZ σ) 2033 (sR (sR (sR (sR aC.code)))) [y0,j 1,j 2,j 3,y4,y5,y6,y7,y8,y9,y10,j 11,j 12,j 13,j 14,j 15,j 16,j 17,j 18,j 19,j 20,j 21,j 22,j 23,j 24,j 25,j 26,j 27,j 28,j 29,j 30,j 31,j 32,j 33,j 34,j 35,j 36,j 37,j 38,j 39,j 40,j 41,j 42,j 43,j 44,j 45,j 46,j 47,j 48,j 49,j 50,j 51,j 52,j 53,j 54,j 55,j 56,j 57,j 58,j 59,j 60,j 61,j 62,j 63,j 64,j 65,j 66,j 67,j 68,j 69,j 70,j 71,j 72,j 73,j 74,j 75,j 76,j 77,j 78,j 79,j 80,j 81,j 82,j 83,j 84,j 85,j 86,j 87,j 88,j 89,j 90,j 91,j 92,j 93,j 94,j 95,j 96,j 97,j 98,j 99,j 100,j 101,j 102,j 103,j 104,j 105,j 106,j 107,j 108,j 109,j 110,j 111,j 112,j 113,j 114,j 115,j 116,j 117,j 118,j 119,j 120,j 121,j 122] H (fQ Try.f76 σ K)
noncomputable def aC.L1 (σ:Sig) (K:AV→Hp→Prop) (y0 y4 y5 y6 y7 y8 y9 y10:AV) (H:Hp):Prop:=∀ j:Nat→AV,bi (CZ σ) (lB (bB (sL (sR (sR (sR (sR (sR (sR aC.code))))))))) [y0,j 1,j 2,j 3,y4,y5,y6,y7,y8,y9,y10,j 11,j 12,j 13,j 14,j 15,j 16,j 17,j 18,j 19,j 20,j 21,j 22,j 23,j 24,j 25,j 26,j 27,j 28,j 29,j 30,j 31,j 32,j 33,j 34,j 35,j 36,j 37,j 38,j 39,j 40,j 41,j 42,j 43,j 44,j 45,j 46,j 47,j 48,j 49,j 50,j 51,j 52,j 53,j 54,j 55,j 56,j 57,j 58,j 59,j 60,j 61,j 62,j 63,j 64,j 65,j 66,j 67,j 68,j 69,j 70,j 71,j 72,j 73,j 74,j 75,j 76,j 77,j 78,j 79,j 80,j 81,j 82,j 83,j 84,j 85,j 86,j 87,j 88,j 89,j 90,j 91,j 92,j 93,j 94,j 95,j 96,j 97,j 98,j 99,j 100,j 101,j 102,j 103,j 104,j 105,j 106,j 107,j 108,j 109,j 110,j 111,j 112,j 113,j 114,j 115,j 116,j 117,j 118,j 119,j 120,j 121,j 122] H (fun e T G=>(aC.Q0 σ K) (av 0 e) T G)
noncomputable def aC.J2 (σ:Sig) (K:AV→Hp→Prop) (y0 y4 y5 y6 y7 y8 y9 y10:AV) (H:Hp):Prop:=∀ j:Nat→AV,wp (CZ σ) 2033 (sR (sR (bB (sR (lB (bB (sL (sR (sR (sR (sR (sR (sR aC.code))))))))))))) [y0,j 1,j 2,j 3,y4,y5,y6,y7,y8,y9,y10,j 11,j 12,j 13,j 14,j 15,j 16,j 17,j 18,j 19,j 20,j 21,j 22,j 23,j 24,j 25,j 26,j 27,j 28,j 29,j 30,j 31,j 32,j 33,j 34,j 35,j 36,j 37,j 38,j 39,j 40,j 41,j 42,j 43,j 44,j 45,j 46,j 47,j 48,j 49,j 50,j 51,j 52,j 53,j 54,j 55,j 56,j 57,j 58,j 59,j 60,j 61,j 62,j 63,j 64,j 65,j 66,j 67,j 68,j 69,j 70,j 71,j 72,j 73,j 74,j 75,j 76,j 77,j 78,j 79,j 80,j 81,j 82,j 83,j 84,j 85,j 86,j 87,j 88,j 89,j 90,j 91,j 92,j 93,j 94,j 95,j 96,j 97,j 98,j 99,j 100,j 101,j 102,j 103,j 104,j 105,j 106,j 107,j 108,j 109,j 110,j 111,j 112,j 113,j 114,j 115,j 116,j 117,j 118,j 119,j 120,j 121,j 122] H (fun e T G=>(nx (fun e T G=>(aC.Q0 σ K) (av 0 e) T G) fun T G=>∀ j,bi (CZ σ) (lB (bB (sL (sR (sR (sR (sR (sR (sR aC.code))))))))) (dr 2033 j 0 T) G (fun e T G=>(aC.Q0 σ K) (av 0 e) T G)) (av 1 e) T G)
noncomputable def aC.L3 (σ:Sig) (K:AV→Hp→Prop) (y0 y4 y5 y6 y7 y8 y9 y10:AV) (H:Hp):Prop:=∀ j:Nat→AV,bi (CZ σ) (lB (bB (sR (sR (cT (sR (sL (sR (sR (sR (sR (sR (sR (sR (sR (sR (sR aC.code))))))))))))))))) [y0,j 1,j 2,j 3,y4,y5,y6,y7,y8,y9,y10,j 11,j 12,j 13,j 14,j 15,j 16,j 17,j 18,j 19,j 20,j 21,j 22,j 23,j 24,j 25,j 26,j 27,j 28,j 29,j 30,j 31,j 32,j 33,j 34,j 35,j 36,j 37,j 38,j 39,j 40,j 41,j 42,j 43,j 44,j 45,j 46,j 47,j 48,j 49,j 50,j 51,j 52,j 53,j 54,j 55,j 56,j 57,j 58,j 59,j 60,j 61,j 62,j 63,j 64,j 65,j 66,j 67,j 68,j 69,j 70,j 71,j 72,j 73,j 74,j 75,j 76,j 77,j 78,j 79,j 80,j 81,j 82,j 83,j 84,j 85,j 86,j 87,j 88,j 89,j 90,j 91,j 92,j 93,j 94,j 95,j 96,j 97,j 98,j 99,j 100,j 101,j 102,j 103,j 104,j 105,j 106,j 107,j 108,j 109,j 110,j 111,j 112,j 113,j 114,j 115,j 116,j 117,j 118,j 119,j 120,j 121,j 122] H (fun e T G=>(nx (fQ Try.f76 σ K) fun T G=>∀ j,wp (CZ σ) 2033 (sR (sR (sR (sR (sR (sR (sR (sR (sR (sR (sR aC.code))))))))))) (dr 2033 j 0 T) G (fQ Try.f76 σ K)) (av 2 e) T G)
noncomputable def aC.J4 (σ:Sig) (K:AV→Hp→Prop) (y0 y4 y5 y6 y7 y8 y9 y10:AV) (H:Hp):Prop:=∀ j:Nat→AV,wp (CZ σ) 2033 (sR (sR (sR (sR (sR (sR (sR (sR (sR (sR (sR aC.code))))))))))) [y0,j 1,j 2,j 3,y4,y5,y6,y7,y8,y9,y10,j 11,j 12,j 13,j 14,j 15,j 16,j 17,j 18,j 19,j 20,j 21,j 22,j 23,j 24,j 25,j 26,j 27,j 28,j 29,j 30,j 31,j 32,j 33,j 34,j 35,j 36,j 37,j 38,j 39,j 40,j 41,j 42,j 43,j 44,j 45,j 46,j 47,j 48,j 49,j 50,j 51,j 52,j 53,j 54,j 55,j 56,j 57,j 58,j 59,j 60,j 61,j 62,j 63,j 64,j 65,j 66,j 67,j 68,j 69,j 70,j 71,j 72,j 73,j 74,j 75,j 76,j 77,j 78,j 79,j 80,j 81,j 82,j 83,j 84,j 85,j 86,j 87,j 88,j 89,j 90,j 91,j 92,j 93,j 94,j 95,j 96,j 97,j 98,j 99,j 100,j 101,j 102,j 103,j 104,j 105,j 106,j 107,j 108,j 109,j 110,j 111,j 112,j 113,j 114,j 115,j 116,j 117,j 118,j 119,j 120,j 121,j 122] H (fQ Try.f76 σ K)
noncomputable def aC.J5 (σ:Sig) (K:AV→Hp→Prop) (y0 y4 y5 y6 y7 y8 y9 y10:AV) (H:Hp):Prop:=∀ j:Nat→AV,wp (CZ σ) 2033 (sR (sR (sR (sR (sR (sR (sR (sR (sR (sR (sR (sR (sR aC.code))))))))))))) [y0,j 1,j 2,j 3,y4,y5,y6,y7,y8,y9,y10,j 11,j 12,j 13,j 14,j 15,j 16,j 17,j 18,j 19,j 20,j 21,j 22,j 23,j 24,j 25,j 26,j 27,j 28,j 29,j 30,j 31,j 32,j 33,j 34,j 35,j 36,j 37,j 38,j 39,j 40,j 41,j 42,j 43,j 44,j 45,j 46,j 47,j 48,j 49,j 50,j 51,j 52,j 53,j 54,j 55,j 56,j 57,j 58,j 59,j 60,j 61,j 62,j 63,j 64,j 65,j 66,j 67,j 68,j 69,j 70,j 71,j 72,j 73,j 74,j 75,j 76,j 77,j 78,j 79,j 80,j 81,j 82,j 83,j 84,j 85,j 86,j 87,j 88,j 89,j 90,j 91,j 92,j 93,j 94,j 95,j 96,j 97,j 98,j 99,j 100,j 101,j 102,j 103,j 104,j 105,j 106,j 107,j 108,j 109,j 110,j 111,j 112,j 113,j 114,j 115,j 116,j 117,j 118,j 119,j 120,j 121,j 122] H (fQ Try.f76 σ K)
theorem aC.J0_step {y0 y4 y5 y6 y7 y8 y9 y10:AV} (h:aC.L1 σ K y0 y4 y5 (I 0) (I 0) y8 y9 y10 H):aC.J0 σ K y0 y4 y5 y6 y7 y8 y9 y10 H :=
 fun j=>Eq.mpr (by kernel_rfl) h
theorem aC.L1_step {y0 y4 y5 y6 y7 y8 y9 y10:AV} (h:bnd (cG y0) fun x1=>bnd (af .lss y4 x1) fun x2=>ifB x2 (bnd (gv y0 y4) fun x3=>bnd (d4 .i64 x3) fun x4=>ai Try.prog σ cM [x4] H fun x5 H6=>ifB x5 (bnd (af .mul y6 (I 10)) fun x7=>bnd (gv y0 y4) fun x8=>bnd (d4 .i64 x8) fun x9=>bnd (af .add x7 x9) fun x10=>bnd (af .sub x10 (I 48)) fun x11=>bnd (af .gtr x11 (I 2147483647)) fun x12=>ifB x12 (aC.J2 σ K y0 y4 y5 (I 2147483647) y7 y8 y9 y10 H6) (aC.J2 σ K y0 y4 y5 x11 y7 y8 y9 y10 H6)) (bnd (af .mul y6 (I 1000)) fun x13=>bnd (cG y0) fun x14=>bnd (af .lss y4 x14) fun x15=>ifB x15 (bnd (gv y0 y4) fun x16=>bnd (af .eql x16 (.lit (.int .u8 46))) fun x17=>ifB x17 (bnd (af .add y4 (I 1)) fun x18=>aC.L3 σ K y0 x18 y5 x13 y7 (I 0) x17 (I 100) H6) (aC.J4 σ K y0 y4 y5 x13 y7 (I 0) x17 y10 H6)) (aC.J4 σ K y0 y4 y5 x13 y7 (I 0) (Bo false) y10 H6))) (bnd (af .mul y6 (I 1000)) fun x19=>bnd (cG y0) fun x20=>bnd (af .lss y4 x20) fun x21=>ifB x21 (bnd (gv y0 y4) fun x22=>bnd (af .eql x22 (.lit (.int .u8 46))) fun x23=>ifB x23 (bnd (af .add y4 (I 1)) fun x24=>aC.L3 σ K y0 x24 y5 x19 y7 (I 0) x23 (I 100) H) (aC.J4 σ K y0 y4 y5 x19 y7 (I 0) x23 y10 H)) (aC.J4 σ K y0 y4 y5 x19 y7 (I 0) (Bo false) y10 H))):aC.L1 σ K y0 y4 y5 y6 y7 y8 y9 y10 H :=
 fun j=>lrd (g:=2033) (Eq.mpr (by kernel_rfl) h)
theorem aC.J2_step {y0 y4 y5 y6 y7 y8 y9 y10:AV} (h:bnd (af .add y7 (I 1)) fun x1=>bnd (af .add y4 (I 1)) fun x2=>aC.L1 σ K y0 x2 y5 y6 x1 y8 y9 y10 H):aC.J2 σ K y0 y4 y5 y6 y7 y8 y9 y10 H :=
 fun j=>Eq.mpr (by kernel_rfl) h
theorem aC.L3_step {y0 y4 y5 y6 y7 y8 y9 y10:AV} (h:bnd (cG y0) fun x1=>bnd (af .lss y4 x1) fun x2=>ifB x2 (bnd (gv y0 y4) fun x3=>bnd (d4 .i64 x3) fun x4=>ai Try.prog σ cM [x4] H fun x5 H6=>ifB x5 (bnd (gv y0 y4) fun x7=>bnd (d4 .i64 x7) fun x8=>bnd (af .sub x8 (I 48)) fun x9=>bnd (af .mul y10 x9) fun x10=>bnd (af .add y6 x10) fun x11=>bnd (af .quo y10 (I 10)) fun x12=>bnd (af .add y8 (I 1)) fun x13=>bnd (af .add y4 (I 1)) fun x14=>aC.L3 σ K y0 x14 y5 x11 y7 x13 y9 x12 H6) (aC.J4 σ K y0 y4 y5 y6 y7 y8 y9 y10 H6)) (aC.J4 σ K y0 y4 y5 y6 y7 y8 y9 y10 H)):aC.L3 σ K y0 y4 y5 y6 y7 y8 y9 y10 H :=
 fun j=>lrd (g:=2033) (Eq.mpr (by kernel_rfl) h)
theorem aC.J4_step {y0 y4 y5 y6 y7 y8 y9 y10:AV} (h:bnd (cG y0) fun x1=>bnd (af .neq y4 x1) fun x2=>ifB x2 (K (.tup [(I 0),(Bo false)]) H) (ifB y9 (bnd (af .eql y8 (I 0)) fun x3=>ifB x3 (K (.tup [(I 0),(Bo false)]) H) (bnd (unR .not y9) fun x4=>ifB x4 (bnd (af .eql y7 (I 0)) fun x5=>ifB x5 (K (.tup [(I 0),(Bo false)]) H) (ifB y5 (bnd (unR .neg y6) fun x6=>aC.J5 σ K y0 y4 y5 x6 y7 y8 y9 y10 H) (aC.J5 σ K y0 y4 y5 y6 y7 y8 y9 y10 H))) (ifB y5 (bnd (unR .neg y6) fun x7=>aC.J5 σ K y0 y4 y5 x7 y7 y8 y9 y10 H) (aC.J5 σ K y0 y4 y5 y6 y7 y8 y9 y10 H)))) (bnd (unR .not y9) fun x8=>ifB x8 (bnd (af .eql y7 (I 0)) fun x9=>ifB x9 (K (.tup [(I 0),(Bo false)]) H) (ifB y5 (bnd (unR .neg y6) fun x10=>aC.J5 σ K y0 y4 y5 x10 y7 y8 y9 y10 H) (aC.J5 σ K y0 y4 y5 y6 y7 y8 y9 y10 H))) (ifB y5 (bnd (unR .neg y6) fun x11=>aC.J5 σ K y0 y4 y5 x11 y7 y8 y9 y10 H) (aC.J5 σ K y0 y4 y5 y6 y7 y8 y9 y10 H))))):aC.J4 σ K y0 y4 y5 y6 y7 y8 y9 y10 H :=
 fun j=>Eq.mpr (by kernel_rfl) h
theorem aC.J5_step {y0 y4 y5 y6 y7 y8 y9 y10:AV} (h:ai Try.prog σ kh [y6] H fun x1 H2=>K (.tup [x1,(Bo true)]) H2):aC.J5 σ K y0 y4 y5 y6 y7 y8 y9 y10 H :=
 fun j=>Eq.mpr (by kernel_rfl) h
theorem aC.run {a0:AV} (h:bnd (cG a0) fun x1=>bnd (af .lss (I 0) x1) fun x2=>ifB x2 (bnd (gv a0 (I 0)) fun x3=>bnd (af .eql x3 (.lit (.int .u8 43))) fun x4=>ifB x4 (bnd (gv a0 (I 0)) fun x5=>bnd (af .eql x5 (.lit (.int .u8 45))) fun x6=>bnd (af .add (I 0) (I 1)) fun x7=>aC.J0 σ K a0 x7 x6 (.lit undef) (.lit undef) (.lit undef) (.lit undef) (.lit undef) H) (bnd (gv a0 (I 0)) fun x8=>bnd (af .eql x8 (.lit (.int .u8 45))) fun x9=>ifB x9 (bnd (gv a0 (I 0)) fun x10=>bnd (af .eql x10 (.lit (.int .u8 45))) fun x11=>bnd (af .add (I 0) (I 1)) fun x12=>aC.J0 σ K a0 x12 x11 (.lit undef) (.lit undef) (.lit undef) (.lit undef) (.lit undef) H) (aC.J0 σ K a0 (I 0) (Bo false) (.lit undef) (.lit undef) (.lit undef) (.lit undef) (.lit undef) H))) (aC.J0 σ K a0 (I 0) (Bo false) (.lit undef) (.lit undef) (.lit undef) (.lit undef) (.lit undef) H)):∃ r H1,aH Try.prog σ j8 [a0] H r H1∧K r H1 :=
 gwp 2033 (fn:=Try.f76) (f:=j8) (c:=aC.code) (by kernel_rfl) (by kernel_rfl) (Eq.mpr (by kernel_rfl) h)
noncomputable def br.code:Code:=aM Try.f77
noncomputable def br.J0 (σ:Sig) (K:AV→Hp→Prop) (y0 y5 y6 y7 y8:AV) (H:Hp):Prop:=∀ j:Nat→AV,wp (CZ σ) 481 (sR (sR (sR (sR (sR (sR br.code)))))) [y0,j 1,j 2,j 3,j 4,y5,y6,y7,y8,j 9,j 10,j 11,j 12,j 13,j 14,j 15,j 16,j 17,j 18,j 19,j 20,j 21,j 22,j 23,j 24,j 25,j 26,j 27,j 28,j 29,j 30,j 31,j 32,j 33,j 34,j 35,j 36,j 37,j 38,j 39,j 40,j 41,j 42,j 43,j 44,j 45,j 46,j 47,j 48,j 49,j 50,j 51,j 52,j 53,j 54,j 55,j 56,j 57,j 58,j 59,j 60,j 61,j 62,j 63,j 64,j 65,j 66,j 67,j 68,j 69,j 70,j 71,j 72,j 73,j 74,j 75,j 76,j 77,j 78,j 79] H (fQ Try.f77 σ K)
noncomputable def br.L1 (σ:Sig) (K:AV→Hp→Prop) (y0 y5 y6 y7 y8:AV) (H:Hp):Prop:=∀ j:Nat→AV,bi (CZ σ) (lB (bB (sR (sL (sR (sR (sR (sR (sR (sR (sR br.code))))))))))) [y0,j 1,j 2,j 3,j 4,y5,y6,y7,y8,j 9,j 10,j 11,j 12,j 13,j 14,j 15,j 16,j 17,j 18,j 19,j 20,j 21,j 22,j 23,j 24,j 25,j 26,j 27,j 28,j 29,j 30,j 31,j 32,j 33,j 34,j 35,j 36,j 37,j 38,j 39,j 40,j 41,j 42,j 43,j 44,j 45,j 46,j 47,j 48,j 49,j 50,j 51,j 52,j 53,j 54,j 55,j 56,j 57,j 58,j 59,j 60,j 61,j 62,j 63,j 64,j 65,j 66,j 67,j 68,j 69,j 70,j 71,j 72,j 73,j 74,j 75,j 76,j 77,j 78,j 79] H (fun e T G=>(nx (fQ Try.f77 σ K) fun T G=>wp (CZ σ) 481 (sR (sR (sR (sR (sR (sR (sR (sR br.code)))))))) T G (fQ Try.f77 σ K)) (av 1 e) T G)
theorem br.J0_step {y0 y5 y6 y7 y8:AV} (h:bnd (a8 y0) fun x1=>bnd (af .lss x1 y5) fun x2=>ifB x2 (K (.tup [(I 65533),(I 1)]) H) (br.L1 σ K y0 y5 y6 y7 (I 1) H)):br.J0 σ K y0 y5 y6 y7 y8 H :=
 fun j=>Eq.mpr (by kernel_rfl) h
theorem br.L1_step {y0 y5 y6 y7 y8:AV} (h:bnd (af .lss y8 y5) fun x1=>ifB x1 (bnd (aQ 1 y0 y8) fun x2=>bnd (ldA false 1 H x2) fun x3=>bnd (d4 .i64 x3) fun x4=>bnd (af .lss x4 (I 128)) fun x5=>ifB x5 (K (.tup [(I 65533),(I 1)]) H) (bnd (af .gtr x4 (I 191)) fun x6=>ifB x6 (K (.tup [(I 65533),(I 1)]) H) (bnd (af .mul y7 (I 64)) fun x7=>bnd (af .and x4 (I 63)) fun x8=>bnd (af .add x7 x8) fun x9=>bnd (af .add y8 (I 1)) fun x10=>br.L1 σ K y0 y5 y6 x9 x10 H))) (bnd (af .lss y7 y6) fun x11=>ifB x11 (K (.tup [(I 65533),(I 1)]) H) (ai Try.prog σ ev [y7] H fun x12 H13=>bnd (unR .not x12) fun x14=>ifB x14 (K (.tup [(I 65533),(I 1)]) H13) (K (.tup [y7,y5]) H13)))):br.L1 σ K y0 y5 y6 y7 y8 H :=
 fun j=>lrd (g:=481) (Eq.mpr (by kernel_rfl) h)
theorem br.run {a0:AV} (h:bnd (aQ 1 a0 (I 0)) fun x1=>bnd (ldA false 1 H x1) fun x2=>bnd (d4 .i64 x2) fun x3=>bnd (af .lss x3 (I 128)) fun x4=>ifB x4 (K (.tup [x3,(I 1)]) H) (bnd (af .geq x3 (I 194)) fun x5=>ifB x5 (bnd (af .lss x3 (I 224)) fun x6=>ifB x6 (bnd (af .and x3 (I 31)) fun x7=>br.J0 σ K a0 (I 2) (I 128) x7 (.lit undef) H) (bnd (af .geq x3 (I 224)) fun x8=>ifB x8 (bnd (af .lss x3 (I 240)) fun x9=>ifB x9 (bnd (af .and x3 (I 15)) fun x10=>br.J0 σ K a0 (I 3) (I 2048) x10 (.lit undef) H) (bnd (af .geq x3 (I 240)) fun x11=>ifB x11 (bnd (af .lss x3 (I 245)) fun x12=>ifB x12 (bnd (af .and x3 (I 7)) fun x13=>br.J0 σ K a0 (I 4) (I 65536) x13 (.lit undef) H) (K (.tup [(I 65533),(I 1)]) H)) (K (.tup [(I 65533),(I 1)]) H))) (bnd (af .geq x3 (I 240)) fun x14=>ifB x14 (bnd (af .lss x3 (I 245)) fun x15=>ifB x15 (bnd (af .and x3 (I 7)) fun x16=>br.J0 σ K a0 (I 4) (I 65536) x16 (.lit undef) H) (K (.tup [(I 65533),(I 1)]) H)) (K (.tup [(I 65533),(I 1)]) H)))) (bnd (af .geq x3 (I 224)) fun x17=>ifB x17 (bnd (af .lss x3 (I 240)) fun x18=>ifB x18 (bnd (af .and x3 (I 15)) fun x19=>br.J0 σ K a0 (I 3) (I 2048) x19 (.lit undef) H) (bnd (af .geq x3 (I 240)) fun x20=>ifB x20 (bnd (af .lss x3 (I 245)) fun x21=>ifB x21 (bnd (af .and x3 (I 7)) fun x22=>br.J0 σ K a0 (I 4) (I 65536) x22 (.lit undef) H) (K (.tup [(I 65533),(I 1)]) H)) (K (.tup [(I 65533),(I 1)]) H))) (bnd (af .geq x3 (I 240)) fun x23=>ifB x23 (bnd (af .lss x3 (I 245)) fun x24=>ifB x24 (bnd (af .and x3 (I 7)) fun x25=>br.J0 σ K a0 (I 4) (I 65536) x25 (.lit undef) H) (K (.tup [(I 65533),(I 1)]) H)) (K (.tup [(I 65533),(I 1)]) H))))):∃ r H1,aH Try.prog σ il [a0] H r H1∧K r H1 :=
 gwp 481 (fn:=Try.f77) (f:=il) (c:=br.code) (by kernel_rfl) (by kernel_rfl) (Eq.mpr (by kernel_rfl) h)
noncomputable def lX.code:Code:=aM Try.f85
theorem lX.run {a0:AV} (h:eU a0 H fun x1 H2=>bh [I 0,.lit (.string ⟨#[]⟩),.lit (.string ⟨#[]⟩),.lit (.slice none 0 0),.lit (.slice none 0 0)] H2 fun x3 H4=>bnd (ae x1 3) fun x5=>bnd (ldA false 1 H4 x5) fun x6=>ai Try.prog σ bo [x6] H4 fun x7 H8=>bnd (ae x1 4) fun x9=>kpK (x9,some 1) H4 H8 (bnd (ldA false 1 H8 x9) fun x10=>ai Try.prog σ bE [x10] H8 fun x11 H12=>bnd (ae x1 3) fun x13=>bnd (stA 1 H12 x13 x7) fun H14=>bnd (ae x1 4) fun x15=>bnd (stA 1 H14 x15 x11) fun H16=>bnd (ldA true 5 H16 x1) fun x17=>bnd (stA 5 H16 x3 x17) fun H18=>bnd (ldA true 5 H18 x3) fun r19=>K r19 H18)):∃ r H1,aH Try.prog σ im [a0] H r H1∧K r H1 :=
 gwp 0 (fn:=Try.f85) (f:=im) (c:=lX.code) (by kernel_rfl) (by kernel_rfl) (Eq.mpr (by kernel_rfl) h)
noncomputable def bv.code:Code:=aM Try.f86
noncomputable def bv.Q0 (σ:Sig) (K:AV→Hp→Prop):Exit→List AV→Hp→Prop:=(nx (fQ Try.f86 σ K) fun T G=>wp (CZ σ) 1800 (sR (sR (sR bv.code))) T G (fQ Try.f86 σ K))
noncomputable def bv.L0 (σ:Sig) (K:AV→Hp→Prop) (y3 y8 y9 y10:AV) (H:Hp):Prop:=∀ j:Nat→AV,bi (CZ σ) (lB (bB (sR (sL (sR (sR bv.code)))))) [j 0,j 1,j 2,y3,j 4,j 5,j 6,j 7,y8,y9,y10,j 11,j 12,j 13,j 14,j 15,j 16,j 17,j 18,j 19,j 20,j 21,j 22,j 23,j 24,j 25,j 26,j 27,j 28,j 29] H (fun e T G=>(bv.Q0 σ K) (av 0 e) T G)
noncomputable def bv.J1 (σ:Sig) (K:AV→Hp→Prop) (y3 y8 y9 y10:AV) (H:Hp):Prop:=∀ j:Nat→AV,wp (CZ σ) 1800 (sR (sR (sR (lB (bB (sR (sL (sR (sR bv.code))))))))) [j 0,j 1,j 2,y3,j 4,j 5,j 6,j 7,y8,y9,y10,j 11,j 12,j 13,j 14,j 15,j 16,j 17,j 18,j 19,j 20,j 21,j 22,j 23,j 24,j 25,j 26,j 27,j 28,j 29] H (nx (fun e T G=>(bv.Q0 σ K) (av 0 e) T G) fun T G=>∀ j,bi (CZ σ) (lB (bB (sR (sL (sR (sR bv.code)))))) (dr 1800 j 0 T) G (fun e T G=>(bv.Q0 σ K) (av 0 e) T G))
theorem bv.L0_step {y3 y8 y9 y10:AV} (h:bnd (af .lss y10 y9) fun x1=>ifB x1 (bnd (aQ 1 y8 y10) fun x2=>bnd (ldA false 1 H x2) fun x3=>bnd (af .geq x3 (.lit (.int .u8 65))) fun x4=>ifB x4 (bnd (af .leq x3 (.lit (.int .u8 90))) fun x5=>ifB x5 (bnd (af .add x3 (.lit (.int .u8 97))) fun x6=>bnd (af .sub x6 (.lit (.int .u8 65))) fun x7=>bnd (aQ 1 y3 y10) fun x8=>bnd (stA 1 H x8 x7) fun H9=>bv.J1 σ K y3 y8 y9 y10 H9) (bv.J1 σ K y3 y8 y9 y10 H)) (bv.J1 σ K y3 y8 y9 y10 H)) (bnd (eO H y3) fun x10=>K x10 H)):bv.L0 σ K y3 y8 y9 y10 H :=
 fun j=>lrd (g:=1800) (Eq.mpr (by kernel_rfl) h)
theorem bv.J1_step {y3 y8 y9 y10:AV} (h:bnd (af .add y10 (I 1)) fun x1=>bv.L0 σ K y3 y8 y9 x1 H):bv.J1 σ K y3 y8 y9 y10 H :=
 fun j=>Eq.mpr (by kernel_rfl) h
theorem bv.run {a0:AV} (h:bnd (fL H a0) fun p1=>bnd (a8 p1.1) fun x2=>bv.L0 σ K p1.1 p1.1 x2 (I 0) p1.2):∃ r H1,aH Try.prog σ gg [a0] H r H1∧K r H1 :=
 gwp 1800 (fn:=Try.f86) (f:=gg) (c:=bv.code) (by kernel_rfl) (by kernel_rfl) (Eq.mpr (by kernel_rfl) h)
noncomputable def gD.code:Code:=aM Try.f87
theorem gD.run {a0 a1 a2:AV} (h:eU a1 H fun x1 H2=>bnd (ar a0) fun x3=>bnd (ae x3 2) fun x4=>bnd (ldA false 1 H2 x4) fun x5=>bnd (ldA true 4 H2 x1) fun x6=>bnd (pz (Bo false) true [.int .i64,.int .i64,.int .i64,.bool] true H2 x5 x6) fun x7=>bnd (exR x7 0) fun x8=>bnd (exR x7 1) fun x9=>ifB x9 (K x8 H2) (jj Try.prog σ a2 [] H2 fun x10 H11=>bnd (ar a0) fun x12=>bnd (ae x12 2) fun x13=>bnd (ldA false 1 H11 x13) fun x14=>bnd (ldA true 4 H11 x1) fun x15=>bnd (A_ true [.int .i64,.int .i64,.int .i64,.bool] H11 x14 x15 x10) fun H16=>K x10 H16)):∃ r H1,aH Try.prog σ dP [a0,a1,a2] H r H1∧K r H1 :=
 gwp 0 (fn:=Try.f87) (f:=dP) (c:=gD.code) (by kernel_rfl) (by kernel_rfl) (Eq.mpr (by kernel_rfl) h)
noncomputable def gw.code:Code:=aM Try.f88
theorem gw.run {a0 a1 a2 a3:AV} (h:bnd (ldA false 1 H a0) fun x1=>bnd (ldA false 1 H a1) fun x2=>bnd (ldA false 1 H a0) fun x3=>bnd (ar x3) fun x4=>bnd (ae x4 1) fun x5=>bnd (ldA false 1 H x5) fun x6=>bnd (ldA false 1 H a2) fun x7=>bnd (aQ 1 x6 x7) fun x8=>bnd (ldA false 1 H x8) fun x9=>bnd (ldA false 1 H a3) fun x10=>bnd (aQ 7 x9 x10) fun x11=>bnd (ldA true 7 H x11) fun x12=>ai Try.prog σ dD [x1,x2,x12] H fun x13 H14=>ifB x13 (bnd (ldA false 1 H14 a3) fun x15=>bnd (af .eql x15 (I 0)) fun x16=>ifB x16 (K (Bo true) H14) (bnd (ldA false 1 H14 a0) fun x17=>bnd (ldA false 1 H14 a2) fun x18=>bnd (ldA false 1 H14 a3) fun x19=>bnd (ldA false 1 H14 a1) fun x20=>ai Try.prog σ cO [x17,x18,x19,x20] H14 fun x21 H22=>K x21 H22)) (K (Bo false) H14)):∃ r H1,aH Try.prog σ fE [a0,a1,a2,a3] H r H1∧K r H1 :=
 gwp 0 (fn:=Try.f88) (f:=fE) (c:=gw.code) (by kernel_rfl) (by kernel_rfl) (Eq.mpr (by kernel_rfl) h)
noncomputable def bg.code:Code:=aM Try.f89
noncomputable def bg.L0 (σ:Sig) (K:AV→Hp→Prop) (y0 y1 y5 y19 y20 y21:AV) (H:Hp):Prop:=∀ j:Nat→AV,bi (CZ σ) (lB (bB (sR (sL (sR (sR bg.code)))))) [y0,y1,j 2,j 3,j 4,y5,j 6,j 7,j 8,j 9,j 10,j 11,j 12,j 13,j 14,j 15,j 16,j 17,j 18,y19,y20,y21,j 22,j 23,j 24,j 25,j 26,j 27,j 28,j 29,j 30,j 31,j 32,j 33,j 34,j 35,j 36] H (fun e T G=>(nx (fQ Try.f89 σ K) fun T G=>wp (CZ σ) 3670051 (sR (sR (sR bg.code))) T G (fQ Try.f89 σ K)) (av 0 e) T G)
theorem bg.L0_step {y0 y1 y5 y19 y20 y21:AV} (h:bnd (af .lss y21 y20) fun x1=>ifB x1 (bnd (aQ 4 y19 y21) fun x2=>bnd (ldA true 4 H x2) fun x3=>bh [I 0,I 0,I 0,.lit (.slice none 0 0)] H fun x4 H5=>bnd (stA 4 H5 x4 x3) fun H6=>bnd (ldA true 4 H6 x4) fun x7=>bnd (ae y5 6) fun x8=>bnd (ldA false 1 H6 x8) fun x9=>bnd (aQ 1 x9 y21) fun x10=>bnd (ldA false 1 H6 x10) fun x11=>ai Try.prog σ dT [y0,y1,x7,x11] H6 fun x12 H13=>bnd (unR .not x12) fun x14=>ifB x14 (K (Bo false) H13) (bnd (af .add y21 (I 1)) fun x15=>bg.L0 σ K y0 y1 y5 y19 y20 x15 H13)) (K (Bo true) H)):bg.L0 σ K y0 y1 y5 y19 y20 y21 H :=
 fun j=>lrd (g:=3670051) (Eq.mpr (by kernel_rfl) h)
theorem bg.run {a0 a1 a2:AV} (h:eU a2 H fun x1 H2=>bnd (ae x1 0) fun x3=>bnd (ae x3 1) fun x4=>bnd (ldA true 5 H2 x4) fun x5=>ai Try.prog σ d9 [a0,a1,x5] H2 fun x6 H7=>bnd (unR .not x6) fun x8=>ifB x8 (K (Bo false) H7) (bnd (ae x1 0) fun x9=>bnd (ae x9 1) fun x10=>bnd (ae x10 4) fun x11=>bnd (ldA false 1 H7 x11) fun x12=>bnd (a8 x12) fun x13=>bg.L0 σ K a0 a1 x1 x12 x13 (I 0) H7)):∃ r H1,aH Try.prog σ dD [a0,a1,a2] H r H1∧K r H1 :=
 gwp 3670051 (fn:=Try.f89) (f:=dD) (c:=bg.code) (by kernel_rfl) (by kernel_rfl) (Eq.mpr (by kernel_rfl) h)
noncomputable def fW.code:Code:=aM Try.f90
theorem fW.run {a0 a1 a2 a3:AV} (h:eU a0 H fun x1 H2=>eU a1 H2 fun x3 H4=>eU a2 H4 fun x5 H6=>bnd (ldA false 1 H6 x1) fun x7=>bnd (ldA false 1 H6 x1) fun x8=>bnd (ar x8) fun x9=>bnd (ae x9 1) fun x10=>bnd (ldA false 1 H6 x10) fun x11=>bnd (ldA false 1 H6 x3) fun x12=>bnd (aQ 1 x11 x12) fun x13=>bnd (ldA false 1 H6 x13) fun x14=>bnd (ldA false 1 H6 x5) fun x15=>bnd (aQ 7 x14 x15) fun x16=>bnd (ae x16 0) fun x17=>bnd (ae x17 0) fun x18=>bnd (ldA false 1 H6 x18) fun x19=>ai Try.prog σ dV [x7,a3,x19] H6 fun x20 H21=>bnd (exR x20 0) fun x22=>bnd (exR x20 1) fun x23=>bh [I 0] H21 fun x24 H25=>bh [Bo false] H25 fun x26 H27=>bnd (stA 1 H27 x24 x22) fun H28=>bnd (stA 1 H28 x26 x23) fun H29=>bnd (ldA false 1 H29 x24) fun x30=>bnd (af .geq x30 (I 0)) fun x31=>ifB x31 (bnd (ldA false 1 H29 x1) fun x32=>bnd (ldA false 1 H29 x3) fun x33=>bnd (ldA false 1 H29 x5) fun x34=>bnd (aY [I 0,I 0,I 0,Bo false] [(0,1,x33),(1,1,x34),(2,1,a3),(3,1,(Bo true))]) fun l35=>ai Try.prog σ dP [x32,(.agg l35),(.fn eL [x1,x3,x5,x24,x26])] H29 fun x36 H37=>K x36 H37) (K (Bo false) H29)):∃ r H1,aH Try.prog σ cO [a0,a1,a2,a3] H r H1∧K r H1 :=
 gwp 0 (fn:=Try.f90) (f:=cO) (c:=fW.code) (by kernel_rfl) (by kernel_rfl) (Eq.mpr (by kernel_rfl) h)
noncomputable def ap.code:Code:=aM Try.f91
noncomputable def ap.Q0 (σ:Sig) (K:AV→Hp→Prop):Exit→List AV→Hp→Prop:=(nx (fQ Try.f91 σ K) fun T G=>wp (CZ σ) 29 (sR (sR (sR (sR (sR ap.code))))) T G (fQ Try.f91 σ K))
noncomputable def ap.J0 (σ:Sig) (K:AV→Hp→Prop) (y0 y2 y3 y4:AV) (H:Hp):Prop:=∀ j:Nat→AV,wp (CZ σ) 29 (sR (sR (sR (sR ap.code)))) [y0,j 1,y2,y3,y4,j 5,j 6,j 7,j 8,j 9,j 10,j 11,j 12,j 13,j 14,j 15,j 16,j 17,j 18,j 19,j 20,j 21,j 22,j 23,j 24,j 25,j 26,j 27,j 28,j 29,j 30,j 31,j 32,j 33,j 34,j 35,j 36,j 37,j 38,j 39,j 40,j 41,j 42,j 43,j 44,j 45,j 46,j 47,j 48,j 49,j 50,j 51,j 52,j 53,j 54,j 55,j 56,j 57,j 58,j 59,j 60,j 61,j 62,j 63,j 64,j 65,j 66,j 67,j 68,j 69,j 70,j 71,j 72,j 73,j 74,j 75,j 76,j 77,j 78,j 79,j 80,j 81,j 82,j 83,j 84,j 85,j 86,j 87,j 88,j 89,j 90,j 91,j 92,j 93,j 94,j 95,j 96,j 97,j 98,j 99,j 100,j 101,j 102,j 103,j 104,j 105,j 106,j 107,j 108,j 109,j 110,j 111,j 112,j 113,j 114,j 115,j 116,j 117,j 118,j 119,j 120,j 121,j 122,j 123,j 124,j 125,j 126,j 127,j 128,j 129,j 130,j 131,j 132] H (fQ Try.f91 σ K)
noncomputable def ap.L1 (σ:Sig) (K:AV→Hp→Prop) (y0 y2 y3 y4:AV) (H:Hp):Prop:=∀ j:Nat→AV,bi (CZ σ) (lB (bB (sL (sR (sR (sR (sR ap.code))))))) [y0,j 1,y2,y3,y4,j 5,j 6,j 7,j 8,j 9,j 10,j 11,j 12,j 13,j 14,j 15,j 16,j 17,j 18,j 19,j 20,j 21,j 22,j 23,j 24,j 25,j 26,j 27,j 28,j 29,j 30,j 31,j 32,j 33,j 34,j 35,j 36,j 37,j 38,j 39,j 40,j 41,j 42,j 43,j 44,j 45,j 46,j 47,j 48,j 49,j 50,j 51,j 52,j 53,j 54,j 55,j 56,j 57,j 58,j 59,j 60,j 61,j 62,j 63,j 64,j 65,j 66,j 67,j 68,j 69,j 70,j 71,j 72,j 73,j 74,j 75,j 76,j 77,j 78,j 79,j 80,j 81,j 82,j 83,j 84,j 85,j 86,j 87,j 88,j 89,j 90,j 91,j 92,j 93,j 94,j 95,j 96,j 97,j 98,j 99,j 100,j 101,j 102,j 103,j 104,j 105,j 106,j 107,j 108,j 109,j 110,j 111,j 112,j 113,j 114,j 115,j 116,j 117,j 118,j 119,j 120,j 121,j 122,j 123,j 124,j 125,j 126,j 127,j 128,j 129,j 130,j 131,j 132] H (fun e T G=>(ap.Q0 σ K) (av 0 e) T G)
noncomputable def ap.J2 (σ:Sig) (K:AV→Hp→Prop) (y0 y2 y3 y4:AV) (H:Hp):Prop:=∀ j:Nat→AV,wp (CZ σ) 29 (sR (sR (bB (sR (lB (bB (sL (sR (sR (sR (sR ap.code))))))))))) [y0,j 1,y2,y3,y4,j 5,j 6,j 7,j 8,j 9,j 10,j 11,j 12,j 13,j 14,j 15,j 16,j 17,j 18,j 19,j 20,j 21,j 22,j 23,j 24,j 25,j 26,j 27,j 28,j 29,j 30,j 31,j 32,j 33,j 34,j 35,j 36,j 37,j 38,j 39,j 40,j 41,j 42,j 43,j 44,j 45,j 46,j 47,j 48,j 49,j 50,j 51,j 52,j 53,j 54,j 55,j 56,j 57,j 58,j 59,j 60,j 61,j 62,j 63,j 64,j 65,j 66,j 67,j 68,j 69,j 70,j 71,j 72,j 73,j 74,j 75,j 76,j 77,j 78,j 79,j 80,j 81,j 82,j 83,j 84,j 85,j 86,j 87,j 88,j 89,j 90,j 91,j 92,j 93,j 94,j 95,j 96,j 97,j 98,j 99,j 100,j 101,j 102,j 103,j 104,j 105,j 106,j 107,j 108,j 109,j 110,j 111,j 112,j 113,j 114,j 115,j 116,j 117,j 118,j 119,j 120,j 121,j 122,j 123,j 124,j 125,j 126,j 127,j 128,j 129,j 130,j 131,j 132] H (fun e T G=>(nx (fun e T G=>(ap.Q0 σ K) (av 0 e) T G) fun T G=>∀ j,bi (CZ σ) (lB (bB (sL (sR (sR (sR (sR ap.code))))))) (dr 29 j 0 T) G (fun e T G=>(ap.Q0 σ K) (av 0 e) T G)) (av 1 e) T G)
theorem ap.J0_step {y0 y2 y3 y4:AV} (h:ap.L1 σ K y0 y2 y3 y4 H):ap.J0 σ K y0 y2 y3 y4 H :=
 fun j=>Eq.mpr (by kernel_rfl) h
theorem ap.L1_step {y0 y2 y3 y4:AV} (h:bnd (ar y0) fun x1=>bnd (ae x1 2) fun x2=>bnd (ldA false 1 H x2) fun x3=>bnd (unR .not x3) fun x4=>ifB x4 (ai Try.prog σ aI [y0,(I 0)] H fun x5 H6=>bnd (dm false 0 1 x5) fun x7=>bnd (af .eql x7 (I 3)) fun x8=>ifB x8 (bnd (ae y3 1) fun x9=>bnd (ldA false 1 H6 x9) fun x10=>ai Try.prog σ aI [y0,(I 0)] H6 fun x11 H12=>kpK (x9,some 1) H6 H12 (bnd (dm false 1 1 x11) fun x13=>bnd (au [.string ⟨#[]⟩] 1 1 H12 [(0,1,x13)]) fun p14=>kpK (x9,some 1) H12 p14.2 (bnd (aT false 1 16 p14.2 x10 p14.1) fun p15=>bnd (ae y3 1) fun x16=>bnd (stA 1 p15.2 x16 p15.1) fun H17=>bnd (ar y0) fun x18=>bnd (ae x18 1) fun x19=>bnd (ldA false 1 H17 x19) fun x20=>bnd (af .add x20 (I 1)) fun x21=>bnd (ar y0) fun x22=>bnd (ae x22 1) fun x23=>bnd (stA 1 H17 x23 x21) fun H24=>ap.J2 σ K y0 y2 y3 y4 H24))) (ai Try.prog σ bJ [y0,(I 0),(I 46)] H6 fun x25 H26=>ifB x25 (ai Try.prog σ aI [y0,(I 1)] H26 fun x27 H28=>bnd (dm false 0 1 x27) fun x29=>bnd (af .eql x29 (I 1)) fun x30=>ifB x30 (bnd (ae y3 2) fun x31=>bnd (ldA false 1 H28 x31) fun x32=>ai Try.prog σ aI [y0,(I 1)] H28 fun x33 H34=>kpK (x31,some 1) H28 H34 (bnd (dm false 1 1 x33) fun x35=>bnd (au [.string ⟨#[]⟩] 1 1 H34 [(0,1,x35)]) fun p36=>kpK (x31,some 1) H34 p36.2 (bnd (aT false 1 16 p36.2 x32 p36.1) fun p37=>bnd (ae y3 2) fun x38=>bnd (stA 1 p37.2 x38 p37.1) fun H39=>bnd (ar y0) fun x40=>bnd (ae x40 1) fun x41=>bnd (ldA false 1 H39 x41) fun x42=>bnd (af .add x42 (I 2)) fun x43=>bnd (ar y0) fun x44=>bnd (ae x44 1) fun x45=>bnd (stA 1 H39 x45 x43) fun H46=>ap.J2 σ K y0 y2 y3 y4 H46))) (bnd (af .eql x7 (I 18)) fun x47=>ifB x47 (bnd (ar y0) fun x48=>bnd (ae x48 1) fun x49=>bnd (ldA false 1 H28 x49) fun x50=>bnd (af .add x50 (I 1)) fun x51=>bnd (ar y0) fun x52=>bnd (ae x52 1) fun x53=>bnd (stA 1 H28 x53 x51) fun H54=>ai Try.prog σ da [y0] H54 fun x55 H56=>bh [.lit (.string ⟨#[]⟩),I 0,.lit (.string ⟨#[]⟩)] H56 fun x57 H58=>bnd (stA 3 H58 x57 x55) fun H59=>bnd (ae y3 3) fun x60=>bnd (ldA false 1 H59 x60) fun x61=>bnd (ldA true 3 H59 x57) fun x62=>bnd (au [.string ⟨#[]⟩,.int .i64 0,.string ⟨#[]⟩] 3 1 H59 [(0,3,x62)]) fun p63=>bnd (aT false 3 40 p63.2 x61 p63.1) fun p64=>bnd (ae y3 3) fun x65=>bnd (stA 1 p64.2 x65 p64.1) fun H66=>ap.J2 σ K y0 y2 y3 y4 H66) (bnd (af .eql x7 (I 11)) fun x67=>ifB x67 (bnd (ar y0) fun x68=>bnd (ae x68 1) fun x69=>bnd (ldA false 1 H28 x69) fun x70=>bnd (af .add x70 (I 1)) fun x71=>bnd (ar y0) fun x72=>bnd (ae x72 1) fun x73=>bnd (stA 1 H28 x73 x71) fun H74=>ai Try.prog σ cK [y0] H74 fun x75 H76=>bh [I 0,I 0,I 0,.lit (.slice none 0 0)] H76 fun x77 H78=>bnd (stA 4 H78 x77 x75) fun H79=>bnd (ae y3 4) fun x80=>bnd (ldA false 1 H79 x80) fun x81=>bnd (ldA true 4 H79 x77) fun x82=>bnd (au [.int .i64 0,.int .i64 0,.int .i64 0,.slice none 0 0] 4 1 H79 [(0,4,x82)]) fun p83=>bnd (aT false 4 48 p83.2 x81 p83.1) fun p84=>bnd (ae y3 4) fun x85=>bnd (stA 1 p84.2 x85 p84.1) fun H86=>ap.J2 σ K y0 y2 y3 y4 H86) (bnd (af .eql y4 (I 0)) fun x87=>bnd (ar y0) fun x88=>bnd (ae x88 2) fun x89=>bnd (stA 1 H28 x89 x87) fun H90=>bnd (ldA true 5 H90 y3) fun x91=>bnd (stA 5 H90 y2 x91) fun H92=>bnd (ldA true 5 H92 y2) fun r93=>K r93 H92)))) (bnd (af .eql x7 (I 18)) fun x94=>ifB x94 (bnd (ar y0) fun x95=>bnd (ae x95 1) fun x96=>bnd (ldA false 1 H26 x96) fun x97=>bnd (af .add x97 (I 1)) fun x98=>bnd (ar y0) fun x99=>bnd (ae x99 1) fun x100=>bnd (stA 1 H26 x100 x98) fun H101=>ai Try.prog σ da [y0] H101 fun x102 H103=>bh [.lit (.string ⟨#[]⟩),I 0,.lit (.string ⟨#[]⟩)] H103 fun x104 H105=>bnd (stA 3 H105 x104 x102) fun H106=>bnd (ae y3 3) fun x107=>bnd (ldA false 1 H106 x107) fun x108=>bnd (ldA true 3 H106 x104) fun x109=>bnd (au [.string ⟨#[]⟩,.int .i64 0,.string ⟨#[]⟩] 3 1 H106 [(0,3,x109)]) fun p110=>bnd (aT false 3 40 p110.2 x108 p110.1) fun p111=>bnd (ae y3 3) fun x112=>bnd (stA 1 p111.2 x112 p111.1) fun H113=>ap.J2 σ K y0 y2 y3 y4 H113) (bnd (af .eql x7 (I 11)) fun x114=>ifB x114 (bnd (ar y0) fun x115=>bnd (ae x115 1) fun x116=>bnd (ldA false 1 H26 x116) fun x117=>bnd (af .add x117 (I 1)) fun x118=>bnd (ar y0) fun x119=>bnd (ae x119 1) fun x120=>bnd (stA 1 H26 x120 x118) fun H121=>ai Try.prog σ cK [y0] H121 fun x122 H123=>bh [I 0,I 0,I 0,.lit (.slice none 0 0)] H123 fun x124 H125=>bnd (stA 4 H125 x124 x122) fun H126=>bnd (ae y3 4) fun x127=>bnd (ldA false 1 H126 x127) fun x128=>bnd (ldA true 4 H126 x124) fun x129=>bnd (au [.int .i64 0,.int .i64 0,.int .i64 0,.slice none 0 0] 4 1 H126 [(0,4,x129)]) fun p130=>bnd (aT false 4 48 p130.2 x128 p130.1) fun p131=>bnd (ae y3 4) fun x132=>bnd (stA 1 p131.2 x132 p131.1) fun H133=>ap.J2 σ K y0 y2 y3 y4 H133) (bnd (af .eql y4 (I 0)) fun x134=>bnd (ar y0) fun x135=>bnd (ae x135 2) fun x136=>bnd (stA 1 H26 x136 x134) fun H137=>bnd (ldA true 5 H137 y3) fun x138=>bnd (stA 5 H137 y2 x138) fun H139=>bnd (ldA true 5 H139 y2) fun r140=>K r140 H139))))) (bnd (ldA true 5 H y3) fun x141=>bnd (stA 5 H y2 x141) fun H142=>bnd (ldA true 5 H142 y2) fun r143=>K r143 H142)):ap.L1 σ K y0 y2 y3 y4 H :=
 fun j=>lrd (g:=29) (Eq.mpr (by kernel_rfl) h)
theorem ap.J2_step {y0 y2 y3 y4:AV} (h:bnd (af .add y4 (I 1)) fun x1=>ap.L1 σ K y0 y2 y3 x1 H):ap.J2 σ K y0 y2 y3 y4 H :=
 fun j=>Eq.mpr (by kernel_rfl) h
theorem ap.run {a0:AV} (h:bh [.lit (.string ⟨#[]⟩),.lit (.slice none 0 0),.lit (.slice none 0 0),.lit (.slice none 0 0),.lit (.slice none 0 0)] H fun x1 H2=>bh [.lit (.string ⟨#[]⟩),.lit (.slice none 0 0),.lit (.slice none 0 0),.lit (.slice none 0 0),.lit (.slice none 0 0)] H2 fun x3 H4=>ai Try.prog σ aI [a0,(I 0)] H4 fun x5 H6=>bnd (dm false 0 1 x5) fun x7=>bnd (af .eql x7 (I 1)) fun x8=>ifB x8 (ai Try.prog σ aI [a0,(I 0)] H6 fun x9 H10=>bnd (dm false 1 1 x9) fun x11=>ai Try.prog σ dC [x11] H10 fun x12 H13=>bnd (ae x3 0) fun x14=>bnd (stA 1 H13 x14 x12) fun H15=>bnd (ar a0) fun x16=>bnd (ae x16 1) fun x17=>bnd (ldA false 1 H15 x17) fun x18=>bnd (af .add x18 (I 1)) fun x19=>bnd (ar a0) fun x20=>bnd (ae x20 1) fun x21=>bnd (stA 1 H15 x21 x19) fun H22=>bnd (af .add (I 0) (I 1)) fun x23=>ap.J0 σ K a0 x1 x3 x23 H22) (ai Try.prog σ bJ [a0,(I 0),(I 42)] H6 fun x24 H25=>ifB x24 (bnd (ar a0) fun x26=>bnd (ae x26 1) fun x27=>bnd (ldA false 1 H25 x27) fun x28=>bnd (af .add x28 (I 1)) fun x29=>bnd (ar a0) fun x30=>bnd (ae x30 1) fun x31=>bnd (stA 1 H25 x31 x29) fun H32=>bnd (af .add (I 0) (I 1)) fun x33=>ap.J0 σ K a0 x1 x3 x33 H32) (ap.J0 σ K a0 x1 x3 (I 0) H25))):∃ r H1,aH Try.prog σ dA [a0] H r H1∧K r H1 :=
 gwp 29 (fn:=Try.f91) (f:=dA) (c:=ap.code) (by kernel_rfl) (by kernel_rfl) (Eq.mpr (by kernel_rfl) h)
noncomputable def gA.code:Code:=aM Try.f92
theorem gA.run {a0:AV} (h:ai Try.prog σ bJ [a0,(I 0),(I 62)] H fun x1 H2=>ifB x1 (K (I 2) H2) (ai Try.prog σ bJ [a0,(I 0),(I 43)] H2 fun x3 H4=>ifB x3 (K (I 3) H4) (ai Try.prog σ bJ [a0,(I 0),(I 126)] H4 fun x5 H6=>ifB x5 (K (I 4) H6) (K (I 0) H6)))):∃ r H1,aH Try.prog σ eu [a0] H r H1∧K r H1 :=
 gwp 0 (fn:=Try.f92) (f:=eu) (c:=gA.code) (by kernel_rfl) (by kernel_rfl) (Eq.mpr (by kernel_rfl) h)
noncomputable def gz.code:Code:=aM Try.f93
theorem gz.run {a0:AV} (h:ai Try.prog σ aI [a0,(I 0)] H fun x1 H2=>bnd (dm false 0 1 x1) fun x3=>ai Try.prog σ dL [a0] H2 fun x4 H5=>ifB x4 (K (Bo true) H5) (bnd (af .eql x3 (I 13)) fun x6=>ifB x6 (K (Bo true) H5) (bnd (af .eql x3 (I 17)) fun x7=>K x7 H5))):∃ r H1,aH Try.prog σ er [a0] H r H1∧K r H1 :=
 gwp 0 (fn:=Try.f93) (f:=er) (c:=gz.code) (by kernel_rfl) (by kernel_rfl) (Eq.mpr (by kernel_rfl) h)
noncomputable def o7.code:Code:=aM Try.f94
theorem o7.run {a0:AV} (h:bnd (af .geq a0 (I 48)) fun x1=>ifB x1 (bnd (af .leq a0 (I 57)) fun x2=>ifB x2 (bnd (af .sub a0 (I 48)) fun x3=>K x3 H) (bnd (af .geq a0 (I 97)) fun x4=>ifB x4 (bnd (af .leq a0 (I 102)) fun x5=>ifB x5 (bnd (af .sub a0 (I 97)) fun x6=>bnd (af .add x6 (I 10)) fun x7=>K x7 H) (bnd (af .geq a0 (I 65)) fun x8=>ifB x8 (bnd (af .leq a0 (I 70)) fun x9=>ifB x9 (bnd (af .sub a0 (I 65)) fun x10=>bnd (af .add x10 (I 10)) fun x11=>K x11 H) (K (I (-1)) H)) (K (I (-1)) H))) (bnd (af .geq a0 (I 65)) fun x12=>ifB x12 (bnd (af .leq a0 (I 70)) fun x13=>ifB x13 (bnd (af .sub a0 (I 65)) fun x14=>bnd (af .add x14 (I 10)) fun x15=>K x15 H) (K (I (-1)) H)) (K (I (-1)) H)))) (bnd (af .geq a0 (I 97)) fun x16=>ifB x16 (bnd (af .leq a0 (I 102)) fun x17=>ifB x17 (bnd (af .sub a0 (I 97)) fun x18=>bnd (af .add x18 (I 10)) fun x19=>K x19 H) (bnd (af .geq a0 (I 65)) fun x20=>ifB x20 (bnd (af .leq a0 (I 70)) fun x21=>ifB x21 (bnd (af .sub a0 (I 65)) fun x22=>bnd (af .add x22 (I 10)) fun x23=>K x23 H) (K (I (-1)) H)) (K (I (-1)) H))) (bnd (af .geq a0 (I 65)) fun x24=>ifB x24 (bnd (af .leq a0 (I 70)) fun x25=>ifB x25 (bnd (af .sub a0 (I 65)) fun x26=>bnd (af .add x26 (I 10)) fun x27=>K x27 H) (K (I (-1)) H)) (K (I (-1)) H)))):∃ r H1,aH Try.prog σ gJ [a0] H r H1∧K r H1 :=
 gwp 0 (fn:=Try.f94) (f:=gJ) (c:=o7.code) (by kernel_rfl) (by kernel_rfl) (Eq.mpr (by kernel_rfl) h)
noncomputable def pB.code:Code:=aM Try.f95
theorem pB.run {a0:AV} (h:bnd (af .gtr a0 (I 2147483647)) fun x1=>ifB x1 (K (I 2147483647) H) (bnd (af .lss a0 (I (-2147483647))) fun x2=>ifB x2 (K (I (-2147483647)) H) (K a0 H))):∃ r H1,aH Try.prog σ kh [a0] H r H1∧K r H1 :=
 gwp 0 (fn:=Try.f95) (f:=kh) (c:=pB.code) (by kernel_rfl) (by kernel_rfl) (Eq.mpr (by kernel_rfl) h)
noncomputable def cw.code:Code:=aM Try.f98
theorem cw.run {a0:AV} (h:bnd (og .eql a0 (.lit (.slice none 0 0))) fun x1=>ifB x1 (K (.lit (.slice none 0 0)) H) (bnd (au [.string ⟨#[]⟩] 1 0 H []) fun p2=>bnd (aT false 1 16 p2.2 p2.1 a0) fun p3=>K p3.1 p3.2)):∃ r H1,aH Try.prog σ bo [a0] H r H1∧K r H1 :=
 gwp 0 (fn:=Try.f98) (f:=bo) (c:=cw.code) (by kernel_rfl) (by kernel_rfl) (Eq.mpr (by kernel_rfl) h)
noncomputable def bY.code:Code:=aM Try.f99
theorem bY.run {a0:AV} (h:bnd (og .eql a0 (.lit (.slice none 0 0))) fun x1=>ifB x1 (K (.lit (.slice none 0 0)) H) (bnd (au [.string ⟨#[]⟩,.string ⟨#[]⟩] 2 0 H []) fun p2=>bnd (aT false 2 32 p2.2 p2.1 a0) fun p3=>K p3.1 p3.2)):∃ r H1,aH Try.prog σ bE [a0] H r H1∧K r H1 :=
 gwp 0 (fn:=Try.f99) (f:=bE) (c:=bY.code) (by kernel_rfl) (by kernel_rfl) (Eq.mpr (by kernel_rfl) h)
noncomputable def ay.code:Code:=aM Try.f100
noncomputable def ay.L0 (σ:Sig) (K:AV→Hp→Prop) (y5 y7 y31 y32 y33 y47 y48 y49 y60 y61 y62:AV) (H:Hp):Prop:=∀ j:Nat→AV,bi (CZ σ) (lB (bB (sR (sL (sR (sR (sR ay.code))))))) [j 0,j 1,j 2,j 3,j 4,y5,j 6,y7,j 8,j 9,j 10,j 11,j 12,j 13,j 14,j 15,j 16,j 17,j 18,j 19,j 20,j 21,j 22,j 23,j 24,j 25,j 26,j 27,j 28,j 29,j 30,y31,y32,y33,j 34,j 35,j 36,j 37,j 38,j 39,j 40,j 41,j 42,j 43,j 44,j 45,j 46,y47,y48,y49,j 50,j 51,j 52,j 53,j 54,j 55,j 56,j 57,j 58,j 59,y60,y61,y62,j 63,j 64,j 65,j 66,j 67,j 68,j 69,j 70] H (fun e T G=>(nx (fQ Try.f100 σ K) fun T G=>wp (CZ σ) 8071435709698801824 (sR (sR (sR (sR ay.code)))) T G (fQ Try.f100 σ K)) (av 0 e) T G)
noncomputable def ay.L1 (σ:Sig) (K:AV→Hp→Prop) (y5 y7 y31 y32 y33 y47 y48 y49 y60 y61 y62:AV) (H:Hp):Prop:=∀ j:Nat→AV,bi (CZ σ) (lB (bB (sR (sL (sR (sR (sR (sR ay.code)))))))) [j 0,j 1,j 2,j 3,j 4,y5,j 6,y7,j 8,j 9,j 10,j 11,j 12,j 13,j 14,j 15,j 16,j 17,j 18,j 19,j 20,j 21,j 22,j 23,j 24,j 25,j 26,j 27,j 28,j 29,j 30,y31,y32,y33,j 34,j 35,j 36,j 37,j 38,j 39,j 40,j 41,j 42,j 43,j 44,j 45,j 46,y47,y48,y49,j 50,j 51,j 52,j 53,j 54,j 55,j 56,j 57,j 58,j 59,y60,y61,y62,j 63,j 64,j 65,j 66,j 67,j 68,j 69,j 70] H (fun e T G=>(nx (fQ Try.f100 σ K) fun T G=>wp (CZ σ) 8071435709698801824 (sR (sR (sR (sR (sR ay.code))))) T G (fQ Try.f100 σ K)) (av 2 e) T G)
noncomputable def ay.L2 (σ:Sig) (K:AV→Hp→Prop) (y5 y7 y31 y32 y33 y47 y48 y49 y60 y61 y62:AV) (H:Hp):Prop:=∀ j:Nat→AV,bi (CZ σ) (lB (bB (sR (sL (sR (sR (sR (sR (sR ay.code))))))))) [j 0,j 1,j 2,j 3,j 4,y5,j 6,y7,j 8,j 9,j 10,j 11,j 12,j 13,j 14,j 15,j 16,j 17,j 18,j 19,j 20,j 21,j 22,j 23,j 24,j 25,j 26,j 27,j 28,j 29,j 30,y31,y32,y33,j 34,j 35,j 36,j 37,j 38,j 39,j 40,j 41,j 42,j 43,j 44,j 45,j 46,y47,y48,y49,j 50,j 51,j 52,j 53,j 54,j 55,j 56,j 57,j 58,j 59,y60,y61,y62,j 63,j 64,j 65,j 66,j 67,j 68,j 69,j 70] H (fun e T G=>(nx (fQ Try.f100 σ K) fun T G=>wp (CZ σ) 8071435709698801824 (sR (sR (sR (sR (sR (sR ay.code)))))) T G (fQ Try.f100 σ K)) (av 4 e) T G)
theorem ay.L0_step {y5 y7 y31 y32 y33 y47 y48 y49 y60 y61 y62:AV} (h:bnd (af .lss y33 y32) fun x1=>ifB x1 (bnd (aQ 1 y31 y33) fun x2=>bnd (ldA false 1 H x2) fun x3=>bnd (af .eql x3 (.lit (.string ⟨#[]⟩))) fun x4=>ifB x4 (K (Bo false) H) (bnd (ae y7 2) fun x5=>bnd (ldA false 1 H x5) fun x6=>bnd (af .neq x3 x6) fun x7=>ifB x7 (K (Bo false) H) (bnd (af .add y33 (I 1)) fun x8=>ay.L0 σ K y5 y7 y31 y32 x8 y47 y48 y49 y60 y61 y62 H))) (bnd (ae y5 2) fun x9=>bnd (ldA false 1 H x9) fun x10=>bnd (a8 x10) fun x11=>ay.L1 σ K y5 y7 y31 y32 y33 x10 x11 (I 0) y60 y61 y62 H)):ay.L0 σ K y5 y7 y31 y32 y33 y47 y48 y49 y60 y61 y62 H :=
 fun j=>lrd (g:=8071435709698801824) (Eq.mpr (by kernel_rfl) h)
theorem ay.L1_step {y5 y7 y31 y32 y33 y47 y48 y49 y60 y61 y62:AV} (h:bnd (af .lss y49 y48) fun x1=>ifB x1 (bnd (aQ 1 y47 y49) fun x2=>bnd (ldA false 1 H x2) fun x3=>bnd (ae y7 3) fun x4=>bnd (ldA false 1 H x4) fun x5=>ai Try.prog σ je [x5,x3] H fun x6 H7=>bnd (unR .not x6) fun x8=>ifB x8 (K (Bo false) H7) (bnd (af .add y49 (I 1)) fun x9=>ay.L1 σ K y5 y7 y31 y32 y33 y47 y48 x9 y60 y61 y62 H7)) (bnd (ae y5 3) fun x10=>bnd (ldA false 1 H x10) fun x11=>bnd (a8 x11) fun x12=>ay.L2 σ K y5 y7 y31 y32 y33 y47 y48 y49 x11 x12 (I 0) H)):ay.L1 σ K y5 y7 y31 y32 y33 y47 y48 y49 y60 y61 y62 H :=
 fun j=>lrd (g:=8071435709698801824) (Eq.mpr (by kernel_rfl) h)
theorem ay.L2_step {y5 y7 y31 y32 y33 y47 y48 y49 y60 y61 y62:AV} (h:bnd (af .lss y62 y61) fun x1=>ifB x1 (bnd (aQ 3 y60 y62) fun x2=>bnd (ldA true 3 H x2) fun x3=>bh [.lit (.string ⟨#[]⟩),I 0,.lit (.string ⟨#[]⟩)] H fun x4 H5=>bnd (stA 3 H5 x4 x3) fun H6=>bnd (ldA true 5 H6 y7) fun x7=>bnd (ldA true 3 H6 x4) fun x8=>ai Try.prog σ ir [x7,x8] H6 fun x9 H10=>bnd (unR .not x9) fun x11=>ifB x11 (K (Bo false) H10) (bnd (af .add y62 (I 1)) fun x12=>ay.L2 σ K y5 y7 y31 y32 y33 y47 y48 y49 y60 y61 x12 H10)) (K (Bo true) H)):ay.L2 σ K y5 y7 y31 y32 y33 y47 y48 y49 y60 y61 y62 H :=
 fun j=>lrd (g:=8071435709698801824) (Eq.mpr (by kernel_rfl) h)
theorem ay.run {a0 a1 a2:AV} (h:eU a2 H fun x1 H2=>bnd (ar a0) fun x3=>bnd (ae x3 0) fun x4=>bnd (ldA false 1 H2 x4) fun x5=>ai Try.prog σ eD [x5,a1] H2 fun x6 H7=>bh [I 0,.lit (.string ⟨#[]⟩),.lit (.string ⟨#[]⟩),.lit (.slice none 0 0),.lit (.slice none 0 0)] H7 fun x8 H9=>bnd (stA 5 H9 x8 x6) fun H10=>bnd (ae x1 0) fun x11=>bnd (ldA false 1 H10 x11) fun x12=>bnd (af .neq x12 (.lit (.string ⟨#[]⟩))) fun x13=>ifB x13 (bnd (ae x1 0) fun x14=>bnd (ldA false 1 H10 x14) fun x15=>bnd (ae x8 1) fun x16=>bnd (ldA false 1 H10 x16) fun x17=>bnd (af .neq x15 x17) fun x18=>ifB x18 (K (Bo false) H10) (bnd (ae x1 1) fun x19=>bnd (ldA false 1 H10 x19) fun x20=>bnd (a8 x20) fun x21=>ay.L0 σ K x1 x8 x20 x21 (I 0) (.lit undef) (.lit undef) (.lit undef) (.lit undef) (.lit undef) (.lit undef) H10)) (bnd (ae x1 1) fun x22=>bnd (ldA false 1 H10 x22) fun x23=>bnd (a8 x23) fun x24=>ay.L0 σ K x1 x8 x23 x24 (I 0) (.lit undef) (.lit undef) (.lit undef) (.lit undef) (.lit undef) (.lit undef) H10)):∃ r H1,aH Try.prog σ d9 [a0,a1,a2] H r H1∧K r H1 :=
 gwp 8071435709698801824 (fn:=Try.f100) (f:=d9) (c:=ay.code) (by kernel_rfl) (by kernel_rfl) (Eq.mpr (by kernel_rfl) h)
noncomputable def fB.code:Code:=aM Try.f101
theorem fB.run {a0 a1 a2 a3:AV} (h:eU a2 H fun x1 H2=>bnd (ae x1 0) fun x3=>bnd (ldA false 1 H2 x3) fun x4=>bnd (af .eql x4 (I 1)) fun x5=>ifB x5 (bnd (ar a0) fun x6=>bnd (ae x6 0) fun x7=>bnd (ldA false 1 H2 x7) fun x8=>ai Try.prog σ dq [x8,a1] H2 fun x9 H10=>bnd (af .lss x9 (I 0)) fun x11=>K x11 H10) (bnd (af .eql x4 (I 2)) fun x12=>ifB x12 (bnd (ar a0) fun x13=>bnd (ae x13 0) fun x14=>bnd (ldA false 1 H2 x14) fun x15=>ai Try.prog σ cW [x15,a1] H2 fun x16 H17=>bnd (af .eql x16 (I 1)) fun x18=>K x18 H17) (bnd (af .eql x4 (I 3)) fun x19=>ifB x19 (ai Try.prog σ dJ [a0,a1] H2 fun x20 H21=>K x20 H21) (bnd (af .eql x4 (I 4)) fun x22=>ifB x22 (bnd (ar a0) fun x23=>bnd (ae x23 0) fun x24=>bnd (ldA false 1 H2 x24) fun x25=>ai Try.prog σ cW [x25,a1] H2 fun x26 H27=>bnd (af .eql x26 (I 1)) fun x28=>ifB x28 (ai Try.prog σ dJ [a0,a1] H27 fun x29 H30=>K x29 H30) (K (Bo false) H27)) (bnd (af .eql x4 (I 5)) fun x31=>ifB x31 (bnd (ar a0) fun x32=>bnd (ae x32 0) fun x33=>bnd (ldA false 1 H2 x33) fun x34=>ai Try.prog σ eg [x34,a1,(I 0)] H2 fun x35 H36=>bnd (af .lss x35 (I 0)) fun x37=>K x37 H36) (bnd (af .eql x4 (I 6)) fun x38=>ifB x38 (bnd (ar a0) fun x39=>bnd (ae x39 0) fun x40=>bnd (ldA false 1 H2 x40) fun x41=>ai Try.prog σ cW [x41,a1] H2 fun x42 H43=>bnd (ae x1 1) fun x44=>kpK (x44,some 1) H2 H43 (bnd (ldA false 1 H43 x44) fun x45=>bnd (ae x1 2) fun x46=>kpK (x46,some 1) H2 H43 (bnd (ldA false 1 H43 x46) fun x47=>ai Try.prog σ jg [x42,x45,x47] H43 fun x48 H49=>K x48 H49))) (bnd (af .eql x4 (I 7)) fun x50=>ifB x50 (ai Try.prog σ dk [a0,a1,a3] H2 fun x51 H52=>bnd (unR .not x51) fun x53=>K x53 H52) (bnd (af .eql x4 (I 8)) fun x54=>ifB x54 (ai Try.prog σ dk [a0,a1,a3] H2 fun x55 H56=>K x55 H56) (K (Bo false) H2))))))))):∃ r H1,aH Try.prog σ dT [a0,a1,a2,a3] H r H1∧K r H1 :=
 gwp 0 (fn:=Try.f101) (f:=dT) (c:=fB.code) (by kernel_rfl) (by kernel_rfl) (Eq.mpr (by kernel_rfl) h)
noncomputable def aP.code:Code:=aM Try.f102
noncomputable def aP.J0 (σ:Sig) (K:AV→Hp→Prop) (y0 y1 y2 y8 y9 y20:AV) (H:Hp):Prop:=∀ j:Nat→AV,wp (CZ σ) 1049351 (sR (bB (sR (sL (sR aP.code))))) [y0,y1,y2,j 3,j 4,j 5,j 6,j 7,y8,y9,j 10,j 11,j 12,j 13,j 14,j 15,j 16,j 17,j 18,j 19,y20,j 21,j 22,j 23,j 24,j 25,j 26,j 27,j 28,j 29,j 30] H (fun e T G=>(nx (fQ Try.f102 σ K) fun T G=>wp (CZ σ) 1049351 (sR (sR aP.code)) T G (fQ Try.f102 σ K)) (av 0 e) T G)
noncomputable def aP.J1 (σ:Sig) (K:AV→Hp→Prop) (y0 y1 y2 y8 y9 y20:AV) (H:Hp):Prop:=∀ j:Nat→AV,wp (CZ σ) 1049351 (sR (cE (sR (bB (sR (sL (sR aP.code))))))) [y0,y1,y2,j 3,j 4,j 5,j 6,j 7,y8,y9,j 10,j 11,j 12,j 13,j 14,j 15,j 16,j 17,j 18,j 19,y20,j 21,j 22,j 23,j 24,j 25,j 26,j 27,j 28,j 29,j 30] H (fun e T G=>(nx (fQ Try.f102 σ K) fun T G=>wp (CZ σ) 1049351 (sR (sR aP.code)) T G (fQ Try.f102 σ K)) (av 0 e) T G)
theorem aP.J0_step {y0 y1 y2 y8 y9 y20:AV} (h:ifB y9 (bnd (ar y0) fun x1=>bnd (ae x1 0) fun x2=>bnd (ldA false 1 H x2) fun x3=>ai Try.prog σ dq [x3,y1] H fun x4 H5=>bnd (af .eql y2 (I 1)) fun x6=>K (.tup [x4,x6]) H5) (bnd (af .eql y8 (I 3)) fun x7=>ifB x7 (aP.J1 σ K y0 y1 y2 y8 y9 x7 H) (bnd (af .eql y8 (I 4)) fun x8=>aP.J1 σ K y0 y1 y2 y8 y9 x8 H))):aP.J0 σ K y0 y1 y2 y8 y9 y20 H :=
 fun j=>Eq.mpr (by kernel_rfl) h
theorem aP.J1_step {y0 y1 y2 y8 y9 y20:AV} (h:ifB y20 (bnd (ar y0) fun x1=>bnd (ae x1 0) fun x2=>bnd (ldA false 1 H x2) fun x3=>ai Try.prog σ eQ [x3,y1] H fun x4 H5=>bnd (af .eql y2 (I 4)) fun x6=>K (.tup [x4,x6]) H5) (K (.tup [(I (-1)),(Bo false)]) H)):aP.J1 σ K y0 y1 y2 y8 y9 y20 H :=
 fun j=>Eq.mpr (by kernel_rfl) h
theorem aP.run {a0 a1 a2:AV} (h:bnd (af .eql a2 (I 1)) fun x1=>ifB x1 (aP.J0 σ K a0 a1 a2 a2 x1 (.lit undef) H) (bnd (af .eql a2 (I 2)) fun x2=>aP.J0 σ K a0 a1 a2 a2 x2 (.lit undef) H)):∃ r H1,aH Try.prog σ dV [a0,a1,a2] H r H1∧K r H1 :=
 gwp 1049351 (fn:=Try.f102) (f:=dV) (c:=aP.code) (by kernel_rfl) (by kernel_rfl) (Eq.mpr (by kernel_rfl) h)
noncomputable def ff.code:Code:=aM Try.f103
theorem ff.run {a0 a1 a2 a3 a4:AV} (h:bnd (ldA false 1 H a0) fun x1=>bnd (ldA false 1 H a1) fun x2=>bnd (ldA false 1 H a2) fun x3=>bnd (af .sub x3 (I 1)) fun x4=>bnd (ldA false 1 H a3) fun x5=>ai Try.prog σ c_ [x1,x2,x4,x5] H fun x6 H7=>ifB x6 (K (Bo true) H7) (bnd (ldA false 1 H7 a4) fun x8=>ifB x8 (bnd (ldA false 1 H7 a0) fun x9=>bnd (ldA false 1 H7 a1) fun x10=>bnd (ldA false 1 H7 a2) fun x11=>bnd (ldA false 1 H7 a3) fun x12=>ai Try.prog σ cO [x9,x10,x11,x12] H7 fun x13 H14=>K x13 H14) (K (Bo false) H7))):∃ r H1,aH Try.prog σ eL [a0,a1,a2,a3,a4] H r H1∧K r H1 :=
 gwp 0 (fn:=Try.f103) (f:=eL) (c:=ff.code) (by kernel_rfl) (by kernel_rfl) (Eq.mpr (by kernel_rfl) h)
noncomputable def gj.code:Code:=aM Try.f104
theorem gj.run {a0 a1 a2:AV} (h:ai Try.prog σ aI [a0,a1] H fun x1 H2=>bnd (dm false 0 1 x1) fun x3=>bnd (af .eql x3 (I 10)) fun x4=>ifB x4 (ai Try.prog σ aI [a0,a1] H2 fun x5 H6=>bnd (dm false 4 1 x5) fun x7=>bnd (af .eql x7 a2) fun x8=>K x8 H6) (K (Bo false) H2)):∃ r H1,aH Try.prog σ bJ [a0,a1,a2] H r H1∧K r H1 :=
 gwp 0 (fn:=Try.f104) (f:=bJ) (c:=gj.code) (by kernel_rfl) (by kernel_rfl) (Eq.mpr (by kernel_rfl) h)
noncomputable def ao.code:Code:=aM Try.f105
noncomputable def ao.Q0 (σ:Sig) (K:AV→Hp→Prop):Exit→List AV→Hp→Prop:=(nx (fQ Try.f105 σ K) fun T G=>∀ j,wp (CZ σ) 125 (sR (sR (sR (sR (sR (sR (sR (sR (sR ao.code))))))))) (dr 125 j 0 T) G (fQ Try.f105 σ K))
noncomputable def ao.Q1 (σ:Sig) (K:AV→Hp→Prop):Exit→List AV→Hp→Prop:=(nx (ao.Q0 σ K) fun T G=>wp (CZ σ) 125 (sR (sR (cT (sR (cE (sR (sL (sR (sR (sR (sR (sR (sR (sR (sR ao.code))))))))))))))) T G (ao.Q0 σ K))
noncomputable def ao.J0 (σ:Sig) (K:AV→Hp→Prop) (y0 y2 y3 y4 y5 y6:AV) (H:Hp):Prop:=∀ j:Nat→AV,wp (CZ σ) 125 (sR (sR (sR (sR (sR (sR (sR (sR (sR ao.code))))))))) [y0,j 1,y2,y3,y4,y5,y6,j 7,j 8,j 9,j 10,j 11,j 12,j 13,j 14,j 15,j 16,j 17,j 18,j 19,j 20,j 21,j 22,j 23,j 24,j 25,j 26,j 27,j 28,j 29,j 30,j 31,j 32,j 33,j 34,j 35,j 36,j 37,j 38,j 39,j 40,j 41,j 42,j 43,j 44,j 45,j 46,j 47,j 48,j 49,j 50,j 51,j 52,j 53,j 54,j 55,j 56,j 57,j 58,j 59,j 60,j 61,j 62,j 63,j 64,j 65,j 66,j 67,j 68,j 69,j 70,j 71,j 72,j 73,j 74,j 75,j 76,j 77,j 78,j 79,j 80,j 81,j 82,j 83,j 84,j 85,j 86,j 87,j 88,j 89,j 90,j 91,j 92,j 93,j 94,j 95,j 96,j 97,j 98,j 99,j 100,j 101,j 102,j 103,j 104,j 105,j 106,j 107,j 108,j 109,j 110,j 111,j 112,j 113,j 114,j 115,j 116,j 117,j 118,j 119,j 120,j 121,j 122,j 123,j 124,j 125,j 126,j 127,j 128,j 129,j 130,j 131,j 132,j 133,j 134,j 135,j 136,j 137,j 138,j 139,j 140,j 141,j 142,j 143] H (fQ Try.f105 σ K)
noncomputable def ao.L1 (σ:Sig) (K:AV→Hp→Prop) (y0 y2 y3 y4 y5 y6:AV) (H:Hp):Prop:=∀ j:Nat→AV,bi (CZ σ) (lB (bB (sR (sL (sR (cT (sR (cE (sR (sL (sR (sR (sR (sR (sR (sR (sR (sR ao.code)))))))))))))))))) [y0,j 1,y2,y3,y4,y5,y6,j 7,j 8,j 9,j 10,j 11,j 12,j 13,j 14,j 15,j 16,j 17,j 18,j 19,j 20,j 21,j 22,j 23,j 24,j 25,j 26,j 27,j 28,j 29,j 30,j 31,j 32,j 33,j 34,j 35,j 36,j 37,j 38,j 39,j 40,j 41,j 42,j 43,j 44,j 45,j 46,j 47,j 48,j 49,j 50,j 51,j 52,j 53,j 54,j 55,j 56,j 57,j 58,j 59,j 60,j 61,j 62,j 63,j 64,j 65,j 66,j 67,j 68,j 69,j 70,j 71,j 72,j 73,j 74,j 75,j 76,j 77,j 78,j 79,j 80,j 81,j 82,j 83,j 84,j 85,j 86,j 87,j 88,j 89,j 90,j 91,j 92,j 93,j 94,j 95,j 96,j 97,j 98,j 99,j 100,j 101,j 102,j 103,j 104,j 105,j 106,j 107,j 108,j 109,j 110,j 111,j 112,j 113,j 114,j 115,j 116,j 117,j 118,j 119,j 120,j 121,j 122,j 123,j 124,j 125,j 126,j 127,j 128,j 129,j 130,j 131,j 132,j 133,j 134,j 135,j 136,j 137,j 138,j 139,j 140,j 141,j 142,j 143] H (fun e T G=>(ao.Q1 σ K) (av 0 e) T G)
noncomputable def ao.J2 (σ:Sig) (K:AV→Hp→Prop) (y0 y2 y3 y4 y5 y6:AV) (H:Hp):Prop:=∀ j:Nat→AV,wp (CZ σ) 125 (sR (sR (sR (sR (sR (sR (sR (sR (sR (sR (sR (sR (sR (sR (sR (sR (sR ao.code))))))))))))))))) [y0,j 1,y2,y3,y4,y5,y6,j 7,j 8,j 9,j 10,j 11,j 12,j 13,j 14,j 15,j 16,j 17,j 18,j 19,j 20,j 21,j 22,j 23,j 24,j 25,j 26,j 27,j 28,j 29,j 30,j 31,j 32,j 33,j 34,j 35,j 36,j 37,j 38,j 39,j 40,j 41,j 42,j 43,j 44,j 45,j 46,j 47,j 48,j 49,j 50,j 51,j 52,j 53,j 54,j 55,j 56,j 57,j 58,j 59,j 60,j 61,j 62,j 63,j 64,j 65,j 66,j 67,j 68,j 69,j 70,j 71,j 72,j 73,j 74,j 75,j 76,j 77,j 78,j 79,j 80,j 81,j 82,j 83,j 84,j 85,j 86,j 87,j 88,j 89,j 90,j 91,j 92,j 93,j 94,j 95,j 96,j 97,j 98,j 99,j 100,j 101,j 102,j 103,j 104,j 105,j 106,j 107,j 108,j 109,j 110,j 111,j 112,j 113,j 114,j 115,j 116,j 117,j 118,j 119,j 120,j 121,j 122,j 123,j 124,j 125,j 126,j 127,j 128,j 129,j 130,j 131,j 132,j 133,j 134,j 135,j 136,j 137,j 138,j 139,j 140,j 141,j 142,j 143] H (fQ Try.f105 σ K)
noncomputable def ao.J3 (σ:Sig) (K:AV→Hp→Prop) (y0 y2 y3 y4 y5 y6:AV) (H:Hp):Prop:=∀ j:Nat→AV,wp (CZ σ) 125 (sR (sR (lB (bB (sR (sL (sR (cT (sR (cE (sR (sL (sR (sR (sR (sR (sR (sR (sR (sR ao.code)))))))))))))))))))) [y0,j 1,y2,y3,y4,y5,y6,j 7,j 8,j 9,j 10,j 11,j 12,j 13,j 14,j 15,j 16,j 17,j 18,j 19,j 20,j 21,j 22,j 23,j 24,j 25,j 26,j 27,j 28,j 29,j 30,j 31,j 32,j 33,j 34,j 35,j 36,j 37,j 38,j 39,j 40,j 41,j 42,j 43,j 44,j 45,j 46,j 47,j 48,j 49,j 50,j 51,j 52,j 53,j 54,j 55,j 56,j 57,j 58,j 59,j 60,j 61,j 62,j 63,j 64,j 65,j 66,j 67,j 68,j 69,j 70,j 71,j 72,j 73,j 74,j 75,j 76,j 77,j 78,j 79,j 80,j 81,j 82,j 83,j 84,j 85,j 86,j 87,j 88,j 89,j 90,j 91,j 92,j 93,j 94,j 95,j 96,j 97,j 98,j 99,j 100,j 101,j 102,j 103,j 104,j 105,j 106,j 107,j 108,j 109,j 110,j 111,j 112,j 113,j 114,j 115,j 116,j 117,j 118,j 119,j 120,j 121,j 122,j 123,j 124,j 125,j 126,j 127,j 128,j 129,j 130,j 131,j 132,j 133,j 134,j 135,j 136,j 137,j 138,j 139,j 140,j 141,j 142,j 143] H (nx (fun e T G=>(ao.Q1 σ K) (av 0 e) T G) fun T G=>∀ j,bi (CZ σ) (lB (bB (sR (sL (sR (cT (sR (cE (sR (sL (sR (sR (sR (sR (sR (sR (sR (sR ao.code)))))))))))))))))) (dr 125 j 0 T) G (fun e T G=>(ao.Q1 σ K) (av 0 e) T G))
theorem ao.J0_step {y0 y2 y3 y4 y5 y6:AV} (h:bnd (ae y3 1) fun x1=>bnd (ldA false 1 H x1) fun x2=>bnd (af .eql x2 (I 0)) fun x3=>ifB x3 (bnd (ar y0) fun x4=>bnd (ae x4 2) fun x5=>bnd (stA 1 H x5 (Bo true)) fun H6=>bnd (ldA true 3 H6 y3) fun x7=>bnd (stA 3 H6 y2 x7) fun H8=>bnd (ldA true 3 H8 y2) fun r9=>K r9 H8) (ai Try.prog σ bj [y0] H fun x10 H11=>ai Try.prog σ aI [y0,(I 0)] H11 fun x12 H13=>bnd (dm false 0 1 x12) fun x14=>ai Try.prog σ aI [y0,(I 0)] H13 fun x15 H16=>bnd (dm false 1 1 x15) fun x17=>bnd (ae y3 2) fun x18=>bnd (stA 1 H16 x18 x17) fun H19=>bnd (af .neq x14 (I 1)) fun x20=>ifB x20 (bnd (af .neq x14 (I 4)) fun x21=>ifB x21 (bnd (ar y0) fun x22=>bnd (ae x22 2) fun x23=>bnd (stA 1 H19 x23 (Bo true)) fun H24=>bnd (ldA true 3 H24 y3) fun x25=>bnd (stA 3 H24 y2 x25) fun H26=>bnd (ldA true 3 H26 y2) fun r27=>K r27 H26) (bnd (ar y0) fun x28=>bnd (ae x28 1) fun x29=>bnd (ldA false 1 H19 x29) fun x30=>bnd (af .add x30 (I 1)) fun x31=>bnd (ar y0) fun x32=>bnd (ae x32 1) fun x33=>bnd (stA 1 H19 x33 x31) fun H34=>ai Try.prog σ bj [y0] H34 fun x35 H36=>ai Try.prog σ aI [y0,(I 0)] H36 fun x37 H38=>bnd (dm false 0 1 x37) fun x39=>bnd (af .neq x39 (I 19)) fun x40=>ifB x40 (bnd (ar y0) fun x41=>bnd (ae x41 2) fun x42=>bnd (stA 1 H38 x42 (Bo true)) fun H43=>ao.J2 σ K y0 y2 y3 y4 y5 y6 H43) (ao.J2 σ K y0 y2 y3 y4 y5 y6 H38))) (bnd (ar y0) fun x44=>bnd (ae x44 1) fun x45=>bnd (ldA false 1 H19 x45) fun x46=>bnd (af .add x46 (I 1)) fun x47=>bnd (ar y0) fun x48=>bnd (ae x48 1) fun x49=>bnd (stA 1 H19 x49 x47) fun H50=>ai Try.prog σ bj [y0] H50 fun x51 H52=>ai Try.prog σ aI [y0,(I 0)] H52 fun x53 H54=>bnd (dm false 0 1 x53) fun x55=>bnd (af .neq x55 (I 19)) fun x56=>ifB x56 (bnd (ar y0) fun x57=>bnd (ae x57 2) fun x58=>bnd (stA 1 H54 x58 (Bo true)) fun H59=>ao.J2 σ K y0 y2 y3 y4 y5 y6 H59) (ao.J2 σ K y0 y2 y3 y4 y5 y6 H54)))):ao.J0 σ K y0 y2 y3 y4 y5 y6 H :=
 fun j=>Eq.mpr (by kernel_rfl) h
theorem ao.L1_step {y0 y2 y3 y4 y5 y6:AV} (h:bnd (a8 y5) fun x1=>bnd (af .lss y6 x1) fun x2=>ifB x2 (bnd (aQ 1 y5 y6) fun x3=>bnd (ldA false 1 H x3) fun x4=>bnd (ae y4 4) fun x5=>bnd (ldA false 1 H x5) fun x6=>bnd (af .eql x4 x6) fun x7=>ifB x7 (bnd (af .add (I 2) y6) fun x8=>bnd (ae y3 1) fun x9=>bnd (stA 1 H x9 x8) fun H10=>ao.J3 σ K y0 y2 y3 y4 y5 y6 H10) (ao.J3 σ K y0 y2 y3 y4 y5 y6 H)) (bnd (ar y0) fun x11=>bnd (ae x11 1) fun x12=>bnd (ldA false 1 H x12) fun x13=>bnd (af .add x13 (I 2)) fun x14=>bnd (ar y0) fun x15=>bnd (ae x15 1) fun x16=>bnd (stA 1 H x16 x14) fun H17=>ao.J0 σ K y0 y2 y3 y4 y5 y6 H17)):ao.L1 σ K y0 y2 y3 y4 y5 y6 H :=
 fun j=>lrd (g:=125) (Eq.mpr (by kernel_rfl) h)
theorem ao.J2_step {y0 y2 y3 y4 y5 y6:AV} (h:bnd (ar y0) fun x1=>bnd (ae x1 1) fun x2=>bnd (ldA false 1 H x2) fun x3=>bnd (af .add x3 (I 1)) fun x4=>bnd (ar y0) fun x5=>bnd (ae x5 1) fun x6=>bnd (stA 1 H x6 x4) fun H7=>bnd (ldA true 3 H7 y3) fun x8=>bnd (stA 3 H7 y2 x8) fun H9=>bnd (ldA true 3 H9 y2) fun r10=>K r10 H9):ao.J2 σ K y0 y2 y3 y4 y5 y6 H :=
 fun j=>Eq.mpr (by kernel_rfl) h
theorem ao.J3_step {y0 y2 y3 y4 y5 y6:AV} (h:bnd (af .add y6 (I 1)) fun x1=>ao.L1 σ K y0 y2 y3 y4 y5 x1 H):ao.J3 σ K y0 y2 y3 y4 y5 y6 H :=
 fun j=>Eq.mpr (by kernel_rfl) h
theorem ao.run {a0:AV} (h:bh [.lit (.string ⟨#[]⟩),I 0,.lit (.string ⟨#[]⟩)] H fun x1 H2=>ai Try.prog σ bj [a0] H2 fun x3 H4=>ai Try.prog σ aI [a0,(I 0)] H4 fun x5 H6=>bnd (dm false 1 1 x5) fun x7=>ai Try.prog σ dC [x7] H6 fun x8 H9=>bnd (aY [.lit (.string ⟨#[]⟩),I 0,.lit (.string ⟨#[]⟩)] [(0,1,x8)]) fun l10=>bh [.lit (.string ⟨#[]⟩),I 0,.lit (.string ⟨#[]⟩)] H9 fun x11 H12=>bnd (stA 3 H12 x11 (.agg l10)) fun H13=>ai Try.prog σ aI [a0,(I 0)] H13 fun x14 H15=>bnd (dm false 0 1 x14) fun x16=>bnd (af .neq x16 (I 1)) fun x17=>ifB x17 (bnd (ar a0) fun x18=>bnd (ae x18 2) fun x19=>bnd (stA 1 H15 x19 (Bo true)) fun H20=>bnd (ldA true 3 H20 x11) fun x21=>bnd (stA 3 H20 x1 x21) fun H22=>bnd (ldA true 3 H22 x1) fun r23=>K r23 H22) (bnd (ar a0) fun x24=>bnd (ae x24 1) fun x25=>bnd (ldA false 1 H15 x25) fun x26=>bnd (af .add x26 (I 1)) fun x27=>bnd (ar a0) fun x28=>bnd (ae x28 1) fun x29=>bnd (stA 1 H15 x29 x27) fun H30=>ai Try.prog σ bj [a0] H30 fun x31 H32=>ai Try.prog σ aI [a0,(I 0)] H32 fun x33 H34=>bnd (dm false 0 1 x33) fun x35=>bnd (af .eql x35 (I 19)) fun x36=>ifB x36 (bnd (ar a0) fun x37=>bnd (ae x37 1) fun x38=>bnd (ldA false 1 H34 x38) fun x39=>bnd (af .add x39 (I 1)) fun x40=>bnd (ar a0) fun x41=>bnd (ae x41 1) fun x42=>bnd (stA 1 H34 x42 x40) fun H43=>bnd (ldA true 3 H43 x11) fun x44=>bnd (stA 3 H43 x1 x44) fun H45=>bnd (ldA true 3 H45 x1) fun r46=>K r46 H45) (ai Try.prog σ aI [a0,(I 0)] H34 fun x47 H48=>bh [I 0,.lit (.string ⟨#[]⟩),I 0,Bo false,I 0] H48 fun x49 H50=>bnd (stA 5 H50 x49 x47) fun H51=>bnd (ae x49 0) fun x52=>bnd (ldA false 1 H51 x52) fun x53=>bnd (af .eql x53 (I 10)) fun x54=>ifB x54 (bnd (ae x49 4) fun x55=>bnd (ldA false 1 H51 x55) fun x56=>bnd (af .eql x56 (I 61)) fun x57=>ifB x57 (bnd (ae x11 1) fun x58=>bnd (stA 1 H51 x58 (I 1)) fun H59=>bnd (ar a0) fun x60=>bnd (ae x60 1) fun x61=>bnd (ldA false 1 H59 x61) fun x62=>bnd (af .add x62 (I 1)) fun x63=>bnd (ar a0) fun x64=>bnd (ae x64 1) fun x65=>bnd (stA 1 H59 x65 x63) fun H66=>ao.J0 σ K a0 x1 x11 x49 (.lit undef) (.lit undef) H66) (bnd (ae x49 0) fun x67=>bnd (ldA false 1 H51 x67) fun x68=>bnd (af .eql x68 (I 10)) fun x69=>ifB x69 (ai Try.prog σ bJ [a0,(I 1),(I 61)] H51 fun x70 H71=>ifB x70 (bnd (au [.int .i64 0] 1 5 H71 [(0,1,(I 126)),(1,1,(I 124)),(2,1,(I 94)),(3,1,(I 36)),(4,1,(I 42))]) fun p72=>ao.L1 σ K a0 x1 x11 x49 p72.1 (I 0) p72.2) (ao.J0 σ K a0 x1 x11 x49 (.lit undef) (.lit undef) H71)) (ao.J0 σ K a0 x1 x11 x49 (.lit undef) (.lit undef) H51))) (bnd (ae x49 0) fun x73=>bnd (ldA false 1 H51 x73) fun x74=>bnd (af .eql x74 (I 10)) fun x75=>ifB x75 (ai Try.prog σ bJ [a0,(I 1),(I 61)] H51 fun x76 H77=>ifB x76 (bnd (au [.int .i64 0] 1 5 H77 [(0,1,(I 126)),(1,1,(I 124)),(2,1,(I 94)),(3,1,(I 36)),(4,1,(I 42))]) fun p78=>ao.L1 σ K a0 x1 x11 x49 p78.1 (I 0) p78.2) (ao.J0 σ K a0 x1 x11 x49 (.lit undef) (.lit undef) H77)) (ao.J0 σ K a0 x1 x11 x49 (.lit undef) (.lit undef) H51))))):∃ r H1,aH Try.prog σ da [a0] H r H1∧K r H1 :=
 gwp 125 (fn:=Try.f105) (f:=da) (c:=ao.code) (by kernel_rfl) (by kernel_rfl) (Eq.mpr (by kernel_rfl) h)
noncomputable def aK.code:Code:=aM Try.f106
noncomputable def aK.J0 (σ:Sig) (K:AV→Hp→Prop) (y0 y2 y4 y7 y49:AV) (H:Hp):Prop:=∀ j:Nat→AV,wp (CZ σ) 562949953421461 (sR (cE (sR (bB (sR (sL (sR (sR (sR (sR (sR (sR aK.code)))))))))))) [y0,j 1,y2,j 3,y4,j 5,j 6,y7,j 8,j 9,j 10,j 11,j 12,j 13,j 14,j 15,j 16,j 17,j 18,j 19,j 20,j 21,j 22,j 23,j 24,j 25,j 26,j 27,j 28,j 29,j 30,j 31,j 32,j 33,j 34,j 35,j 36,j 37,j 38,j 39,j 40,j 41,j 42,j 43,j 44,j 45,j 46,j 47,j 48,y49,j 50,j 51,j 52,j 53,j 54,j 55,j 56,j 57,j 58,j 59,j 60,j 61,j 62,j 63] H (fun e T G=>(nx (fQ Try.f106 σ K) fun T G=>wp (CZ σ) 562949953421461 (sR (sR (sR (sR (sR (sR (sR aK.code))))))) T G (fQ Try.f106 σ K)) (av 0 e) T G)
noncomputable def aK.J1 (σ:Sig) (K:AV→Hp→Prop) (y0 y2 y4 y7 y49:AV) (H:Hp):Prop:=∀ j:Nat→AV,wp (CZ σ) 562949953421461 (sR (sR (cT (sR (cE (sR (bB (sR (sL (sR (sR (sR (sR (sR (sR aK.code))))))))))))))) [y0,j 1,y2,j 3,y4,j 5,j 6,y7,j 8,j 9,j 10,j 11,j 12,j 13,j 14,j 15,j 16,j 17,j 18,j 19,j 20,j 21,j 22,j 23,j 24,j 25,j 26,j 27,j 28,j 29,j 30,j 31,j 32,j 33,j 34,j 35,j 36,j 37,j 38,j 39,j 40,j 41,j 42,j 43,j 44,j 45,j 46,j 47,j 48,y49,j 50,j 51,j 52,j 53,j 54,j 55,j 56,j 57,j 58,j 59,j 60,j 61,j 62,j 63] H (fun e T G=>(nx (fQ Try.f106 σ K) fun T G=>wp (CZ σ) 562949953421461 (sR (sR (sR (sR (sR (sR (sR aK.code))))))) T G (fQ Try.f106 σ K)) (av 0 e) T G)
theorem aK.J0_step {y0 y2 y4 y7 y49:AV} (h:ifB y49 (bnd (aY [I 0,I 0,I 0,.lit (.slice none 0 0)] [(0,1,(I 7))]) fun l1=>bh [I 0,I 0,I 0,.lit (.slice none 0 0)] H fun x2 H3=>bnd (stA 4 H3 x2 (.agg l1)) fun H4=>bnd (af .eql y4 (.lit (.string ⟨#[105,115]⟩))) fun x5=>ifB x5 (bnd (ae x2 0) fun x6=>bnd (stA 1 H4 x6 (I 8)) fun H7=>aK.J1 σ K y0 y2 y4 x2 y49 H7) (aK.J1 σ K y0 y2 y4 x2 y49 H4)) (bnd (ar y0) fun x8=>bnd (ae x8 2) fun x9=>bnd (stA 1 H x9 (Bo true)) fun H10=>bnd (aY [I 0,I 0,I 0,.lit (.slice none 0 0)] []) fun l11=>bnd (stA 4 H10 y2 (.agg l11)) fun H12=>bnd (ldA true 4 H12 y2) fun r13=>K r13 H12)):aK.J0 σ K y0 y2 y4 y7 y49 H :=
 fun j=>Eq.mpr (by kernel_rfl) h
theorem aK.J1_step {y0 y2 y4 y7 y49:AV} (h:ai Try.prog σ d7 [y0] H fun x1 H2=>bnd (ae y7 3) fun x3=>bnd (stA 1 H2 x3 x1) fun H4=>bnd (ldA true 4 H4 y7) fun x5=>bnd (stA 4 H4 y2 x5) fun H6=>bnd (ldA true 4 H6 y2) fun r7=>K r7 H6):aK.J1 σ K y0 y2 y4 y7 y49 H :=
 fun j=>Eq.mpr (by kernel_rfl) h
theorem aK.run {a0:AV} (h:bh [I 0,I 0,I 0,.lit (.slice none 0 0)] H fun x1 H2=>ai Try.prog σ aI [a0,(I 0)] H2 fun x3 H4=>bh [I 0,.lit (.string ⟨#[]⟩),I 0,Bo false,I 0] H4 fun x5 H6=>bnd (stA 5 H6 x5 x3) fun H7=>bnd (ar a0) fun x8=>bnd (ae x8 1) fun x9=>bnd (ldA false 1 H7 x9) fun x10=>bnd (af .add x10 (I 1)) fun x11=>bnd (ar a0) fun x12=>bnd (ae x12 1) fun x13=>bnd (stA 1 H7 x13 x11) fun H14=>bnd (ae x5 1) fun x15=>bnd (ldA false 1 H14 x15) fun x16=>ai Try.prog σ dC [x16] H14 fun x17 H18=>bnd (ae x5 0) fun x19=>bnd (ldA false 1 H18 x19) fun x20=>bnd (af .eql x20 (I 1)) fun x21=>ifB x21 (bnd (au [.string ⟨#[]⟩] 1 5 H18 [(0,1,(.lit (.string ⟨#[114,111,111,116]⟩))),(1,1,(.lit (.string ⟨#[102,105,114,115,116,45,99,104,105,108,100]⟩))),(2,1,(.lit (.string ⟨#[108,97,115,116,45,99,104,105,108,100]⟩))),(3,1,(.lit (.string ⟨#[111,110,108,121,45,99,104,105,108,100]⟩))),(4,1,(.lit (.string ⟨#[101,109,112,116,121]⟩)))]) fun p22=>ai Try.prog σ jf [x17,p22.1] p22.2 fun x23 H24=>bnd (exR x23 0) fun x25=>bnd (exR x23 1) fun x26=>ifB x26 (bnd (af .add (I 1) x25) fun x27=>bnd (aY [I 0,I 0,I 0,.lit (.slice none 0 0)] [(0,1,x27)]) fun l28=>bnd (stA 4 H24 x1 (.agg l28)) fun H29=>bnd (ldA true 4 H29 x1) fun r30=>K r30 H29) (bnd (ar a0) fun x31=>bnd (ae x31 2) fun x32=>bnd (stA 1 H24 x32 (Bo true)) fun H33=>bnd (aY [I 0,I 0,I 0,.lit (.slice none 0 0)] []) fun l34=>bnd (stA 4 H33 x1 (.agg l34)) fun H35=>bnd (ldA true 4 H35 x1) fun r36=>K r36 H35)) (bnd (ae x5 0) fun x37=>bnd (ldA false 1 H18 x37) fun x38=>bnd (af .neq x38 (I 20)) fun x39=>ifB x39 (bnd (ar a0) fun x40=>bnd (ae x40 2) fun x41=>bnd (stA 1 H18 x41 (Bo true)) fun H42=>bnd (aY [I 0,I 0,I 0,.lit (.slice none 0 0)] []) fun l43=>bnd (stA 4 H42 x1 (.agg l43)) fun H44=>bnd (ldA true 4 H44 x1) fun r45=>K r45 H44) (bnd (af .eql x17 (.lit (.string ⟨#[110,116,104,45,99,104,105,108,100]⟩))) fun x46=>ifB x46 (ai Try.prog σ eN [a0] H18 fun x47 H48=>bnd (stA 4 H48 x1 x47) fun H49=>bnd (ldA true 4 H49 x1) fun r50=>K r50 H49) (bnd (af .eql x17 (.lit (.string ⟨#[110,111,116]⟩))) fun x51=>ifB x51 (aK.J0 σ K a0 x1 x17 (.lit undef) x51 H18) (bnd (af .eql x17 (.lit (.string ⟨#[105,115]⟩))) fun x52=>aK.J0 σ K a0 x1 x17 (.lit undef) x52 H18))))):∃ r H1,aH Try.prog σ cK [a0] H r H1∧K r H1 :=
 gwp 562949953421461 (fn:=Try.f106) (f:=cK) (c:=aK.code) (by kernel_rfl) (by kernel_rfl) (Eq.mpr (by kernel_rfl) h)
noncomputable def jp.code:Code:=aM Try.f107
theorem jp.run {a0 a1:AV} (h:bh [I 0,.lit (.string ⟨#[]⟩),.lit (.string ⟨#[]⟩),.lit (.slice none 0 0),.lit (.slice none 0 0)] H fun x1 H2=>ai Try.prog σ dF [a0,a1] H2 fun x3 H4=>bnd (dm true 0 5 x3) fun x5=>bnd (stA 5 H4 x1 x5) fun H6=>bnd (ldA true 5 H6 x1) fun r7=>K r7 H6):∃ r H1,aH Try.prog σ eD [a0,a1] H r H1∧K r H1 :=
 gwp 0 (fn:=Try.f107) (f:=eD) (c:=jp.code) (by kernel_rfl) (by kernel_rfl) (Eq.mpr (by kernel_rfl) h)
noncomputable def dG.code:Code:=aM Try.f108
noncomputable def dG.L0 (σ:Sig) (K:AV→Hp→Prop) (y1 y7 y8 y9:AV) (H:Hp):Prop:=∀ j:Nat→AV,bi (CZ σ) (lB (bB (sR (sL (sR dG.code))))) [j 0,y1,j 2,j 3,j 4,j 5,j 6,y7,y8,y9,j 10,j 11,j 12,j 13,j 14,j 15,j 16] H (fun e T G=>(nx (fQ Try.f108 σ K) fun T G=>wp (CZ σ) 898 (sR (sR dG.code)) T G (fQ Try.f108 σ K)) (av 0 e) T G)
theorem dG.L0_step {y1 y7 y8 y9:AV} (h:bnd (af .lss y9 y8) fun x1=>ifB x1 (bnd (aQ 1 y7 y9) fun x2=>bnd (ldA false 1 H x2) fun x3=>bnd (af .eql x3 y1) fun x4=>ifB x4 (K (Bo true) H) (bnd (af .add y9 (I 1)) fun x5=>dG.L0 σ K y1 y7 y8 x5 H)) (K (Bo false) H)):dG.L0 σ K y1 y7 y8 y9 H :=
 fun j=>lrd (g:=898) (Eq.mpr (by kernel_rfl) h)
theorem dG.run {a0 a1:AV} (h:bnd (a8 a0) fun x1=>dG.L0 σ K a1 a0 x1 (I 0) H):∃ r H1,aH Try.prog σ je [a0,a1] H r H1∧K r H1 :=
 gwp 898 (fn:=Try.f108) (f:=je) (c:=dG.code) (by kernel_rfl) (by kernel_rfl) (Eq.mpr (by kernel_rfl) h)
noncomputable def cX.code:Code:=aM Try.f109
noncomputable def cX.L0 (σ:Sig) (K:AV→Hp→Prop) (y3 y8 y9 y10:AV) (H:Hp):Prop:=∀ j:Nat→AV,bi (CZ σ) (lB (bB (sR (sL (sR cX.code))))) [j 0,j 1,j 2,y3,j 4,j 5,j 6,j 7,y8,y9,y10,j 11,j 12,j 13,j 14,j 15,j 16,j 17,j 18,j 19,j 20,j 21,j 22,j 23] H (fun e T G=>(nx (fQ Try.f109 σ K) fun T G=>wp (CZ σ) 1800 (sR (sR cX.code)) T G (fQ Try.f109 σ K)) (av 0 e) T G)
theorem cX.L0_step {y3 y8 y9 y10:AV} (h:bnd (af .lss y10 y9) fun x1=>ifB x1 (bnd (aQ 2 y8 y10) fun x2=>bnd (ldA true 2 H x2) fun x3=>bh [.lit (.string ⟨#[]⟩),.lit (.string ⟨#[]⟩)] H fun x4 H5=>bnd (stA 2 H5 x4 x3) fun H6=>bnd (ae x4 0) fun x7=>bnd (ldA false 1 H6 x7) fun x8=>bnd (ae y3 0) fun x9=>bnd (ldA false 1 H6 x9) fun x10=>bnd (af .eql x8 x10) fun x11=>ifB x11 (bnd (ae x4 1) fun x12=>bnd (ldA false 1 H6 x12) fun x13=>bnd (ldA true 3 H6 y3) fun x14=>ai Try.prog σ jL [x13,x14] H6 fun x15 H16=>K x15 H16) (bnd (af .add y10 (I 1)) fun x17=>cX.L0 σ K y3 y8 y9 x17 H6)) (K (Bo false) H)):cX.L0 σ K y3 y8 y9 y10 H :=
 fun j=>lrd (g:=1800) (Eq.mpr (by kernel_rfl) h)
theorem cX.run {a0 a1:AV} (h:eU a0 H fun x1 H2=>eU a1 H2 fun x3 H4=>bnd (ae x1 4) fun x5=>bnd (ldA false 1 H4 x5) fun x6=>bnd (a8 x6) fun x7=>cX.L0 σ K x3 x6 x7 (I 0) H4):∃ r H1,aH Try.prog σ ir [a0,a1] H r H1∧K r H1 :=
 gwp 1800 (fn:=Try.f109) (f:=ir) (c:=cX.code) (by kernel_rfl) (by kernel_rfl) (Eq.mpr (by kernel_rfl) h)
noncomputable def hJ.code:Code:=aM Try.f110
theorem hJ.run {a0 a1:AV} (h:bnd (af .lss a1 (I 0)) fun x1=>ifB x1 (K (I (-1)) H) (bnd (ar a0) fun x2=>bnd (ae x2 0) fun x3=>bnd (ldA false 1 H x3) fun x4=>bnd (a8 x4) fun x5=>bnd (af .geq a1 x5) fun x6=>ifB x6 (K (I (-1)) H) (bnd (ar a0) fun x7=>bnd (ae x7 0) fun x8=>bnd (ldA false 1 H x8) fun x9=>bnd (aQ 9 x9 a1) fun x10=>bnd (ae x10 0) fun x11=>bnd (ae x11 0) fun x12=>bnd (ldA false 1 H x12) fun x13=>K x13 H))):∃ r H1,aH Try.prog σ dq [a0,a1] H r H1∧K r H1 :=
 gwp 0 (fn:=Try.f110) (f:=dq) (c:=hJ.code) (by kernel_rfl) (by kernel_rfl) (Eq.mpr (by kernel_rfl) h)
noncomputable def iF.code:Code:=aM Try.f111
theorem iF.run {a0 a1:AV} (h:ai Try.prog σ dF [a0,a1] H fun x1 H2=>bnd (dm false 7 1 x1) fun x3=>K x3 H2):∃ r H1,aH Try.prog σ cW [a0,a1] H r H1∧K r H1 :=
 gwp 0 (fn:=Try.f111) (f:=cW) (c:=iF.code) (by kernel_rfl) (by kernel_rfl) (Eq.mpr (by kernel_rfl) h)
noncomputable def gE.code:Code:=aM Try.f112
theorem gE.run {a0 a1:AV} (h:bnd (ar a0) fun x1=>bnd (ae x1 0) fun x2=>bnd (ldA false 1 H x2) fun x3=>ai Try.prog σ dq [x3,a1] H fun x4 H5=>bnd (af .lss x4 (I 0)) fun x6=>ifB x6 (K (Bo true) H5) (bnd (ar a0) fun x7=>bnd (ae x7 0) fun x8=>bnd (ldA false 1 H5 x8) fun x9=>bnd (ar a0) fun x10=>bnd (ae x10 0) fun x11=>bnd (ldA false 1 H5 x11) fun x12=>ai Try.prog σ cW [x12,a1] H5 fun x13 H14=>kpK (x8,some 1) H5 H14 (ai Try.prog σ eg [x9,x4,x13] H14 fun x15 H16=>bnd (af .lss x15 (I 0)) fun x17=>K x17 H16))):∃ r H1,aH Try.prog σ dJ [a0,a1] H r H1∧K r H1 :=
 gwp 0 (fn:=Try.f112) (f:=dJ) (c:=gE.code) (by kernel_rfl) (by kernel_rfl) (Eq.mpr (by kernel_rfl) h)
noncomputable def iE.code:Code:=aM Try.f113
theorem iE.run {a0 a1 a2:AV} (h:ai Try.prog σ dF [a0,a1] H fun x1 H2=>bnd (dm false 5 1 x1) fun x3=>bnd (a8 x3) fun x4=>bnd (af .lss a2 x4) fun x5=>ifB x5 (bnd (aQ 1 x3 a2) fun x6=>bnd (ldA false 1 H2 x6) fun x7=>K x7 H2) (K (I (-1)) H2)):∃ r H1,aH Try.prog σ eg [a0,a1,a2] H r H1∧K r H1 :=
 gwp 0 (fn:=Try.f113) (f:=eg) (c:=iE.code) (by kernel_rfl) (by kernel_rfl) (Eq.mpr (by kernel_rfl) h)
noncomputable def nc.code:Code:=aM Try.f114
theorem nc.run {a0 a1 a2:AV} (h:bnd (af .eql a1 (I 0)) fun x1=>ifB x1 (bnd (af .eql a0 a2) fun x2=>K x2 H) (bnd (af .gtr a1 (I 0)) fun x3=>ifB x3 (bnd (af .leq a2 a0) fun x4=>ifB x4 (bnd (d4 .u64 a0) fun x5=>bnd (d4 .u64 a2) fun x6=>bnd (af .sub x5 x6) fun x7=>bnd (d4 .u64 a1) fun x8=>bnd (af .rem x7 x8) fun x9=>bnd (af .eql x9 (.lit (.int .u64 0))) fun x10=>K x10 H) (K (Bo false) H)) (bnd (af .geq a2 a0) fun x11=>ifB x11 (bnd (d4 .u64 a2) fun x12=>bnd (d4 .u64 a0) fun x13=>bnd (af .sub x12 x13) fun x14=>bnd (d4 .u64 a1) fun x15=>bnd (unR .neg x15) fun x16=>bnd (af .rem x14 x16) fun x17=>bnd (af .eql x17 (.lit (.int .u64 0))) fun x18=>K x18 H) (K (Bo false) H)))):∃ r H1,aH Try.prog σ jg [a0,a1,a2] H r H1∧K r H1 :=
 gwp 0 (fn:=Try.f114) (f:=jg) (c:=nc.code) (by kernel_rfl) (by kernel_rfl) (Eq.mpr (by kernel_rfl) h)
noncomputable def hY.code:Code:=aM Try.f115
theorem hY.run {a0 a1:AV} (h:ai Try.prog σ dF [a0,a1] H fun x1 H2=>bnd (dm false 8 1 x1) fun x3=>K x3 H2):∃ r H1,aH Try.prog σ eQ [a0,a1] H r H1∧K r H1 :=
 gwp 0 (fn:=Try.f115) (f:=eQ) (c:=hY.code) (by kernel_rfl) (by kernel_rfl) (Eq.mpr (by kernel_rfl) h)
noncomputable def dj.code:Code:=aM Try.f116
noncomputable def dj.L0 (σ:Sig) (K:AV→Hp→Prop) (y0 y1 y6:AV) (H:Hp):Prop:=∀ j:Nat→AV,bi (CZ σ) (lB (bB (sR (sL (sR dj.code))))) [y0,y1,j 2,j 3,j 4,j 5,y6,j 7,j 8,j 9,j 10,j 11,j 12,j 13,j 14,j 15,j 16,j 17,j 18,j 19] H (fun e T G=>(nx (fQ Try.f116 σ K) fun T G=>wp (CZ σ) 67 (sR (sR dj.code)) T G (fQ Try.f116 σ K)) (av 0 e) T G)
theorem dj.L0_step {y0 y1 y6:AV} (h:bnd (a8 y1) fun x1=>bnd (af .lss y6 x1) fun x2=>ifB x2 (bnd (aQ 1 y1 y6) fun x3=>bnd (ldA false 1 H x3) fun x4=>bnd (af .eql x4 y0) fun x5=>ifB x5 (K (.tup [y6,(Bo true)]) H) (bnd (af .add y6 (I 1)) fun x6=>dj.L0 σ K y0 y1 x6 H)) (K (.tup [(I 0),(Bo false)]) H)):dj.L0 σ K y0 y1 y6 H :=
 fun j=>lrd (g:=67) (Eq.mpr (by kernel_rfl) h)
theorem dj.run {a0 a1:AV} (h:dj.L0 σ K a0 a1 (I 0) H):∃ r H1,aH Try.prog σ jf [a0,a1] H r H1∧K r H1 :=
 gwp 67 (fn:=Try.f116) (f:=jf) (c:=dj.code) (by kernel_rfl) (by kernel_rfl) (Eq.mpr (by kernel_rfl) h)
noncomputable def aB.code:Code:=aM Try.f117
noncomputable def aB.J0 (σ:Sig) (K:AV→Hp→Prop) (y0 y2 y3:AV) (H:Hp):Prop:=∀ j:Nat→AV,wp (CZ σ) 13 (sR (sR (sR (sR (sR (sR (sR aB.code))))))) [y0,j 1,y2,y3,j 4,j 5,j 6,j 7,j 8,j 9,j 10,j 11,j 12,j 13,j 14,j 15,j 16,j 17,j 18,j 19,j 20,j 21,j 22,j 23,j 24,j 25,j 26,j 27,j 28,j 29,j 30,j 31,j 32,j 33,j 34,j 35,j 36,j 37,j 38,j 39,j 40,j 41,j 42,j 43,j 44,j 45,j 46,j 47,j 48,j 49,j 50,j 51,j 52,j 53,j 54,j 55,j 56,j 57,j 58,j 59,j 60,j 61,j 62,j 63,j 64,j 65,j 66,j 67,j 68,j 69,j 70,j 71] H (fQ Try.f117 σ K)
noncomputable def aB.J1 (σ:Sig) (K:AV→Hp→Prop) (y0 y2 y3:AV) (H:Hp):Prop:=∀ j:Nat→AV,wp (CZ σ) 13 (sR (sR (sR (sR (sR (sR (sR (sR (sR aB.code))))))))) [y0,j 1,y2,y3,j 4,j 5,j 6,j 7,j 8,j 9,j 10,j 11,j 12,j 13,j 14,j 15,j 16,j 17,j 18,j 19,j 20,j 21,j 22,j 23,j 24,j 25,j 26,j 27,j 28,j 29,j 30,j 31,j 32,j 33,j 34,j 35,j 36,j 37,j 38,j 39,j 40,j 41,j 42,j 43,j 44,j 45,j 46,j 47,j 48,j 49,j 50,j 51,j 52,j 53,j 54,j 55,j 56,j 57,j 58,j 59,j 60,j 61,j 62,j 63,j 64,j 65,j 66,j 67,j 68,j 69,j 70,j 71] H (fQ Try.f117 σ K)
theorem aB.J0_step {y0 y2 y3:AV} (h:ai Try.prog σ bj [y0] H fun x1 H2=>ai Try.prog σ aI [y0,(I 0)] H2 fun x3 H4=>bnd (dm false 0 1 x3) fun x5=>bnd (af .neq x5 (I 17)) fun x6=>ifB x6 (bnd (ar y0) fun x7=>bnd (ae x7 2) fun x8=>bnd (stA 1 H4 x8 (Bo true)) fun H9=>aB.J1 σ K y0 y2 y3 H9) (aB.J1 σ K y0 y2 y3 H4)):aB.J0 σ K y0 y2 y3 H :=
 fun j=>Eq.mpr (by kernel_rfl) h
theorem aB.J1_step {y0 y2 y3:AV} (h:bnd (ar y0) fun x1=>bnd (ae x1 1) fun x2=>bnd (ldA false 1 H x2) fun x3=>bnd (af .add x3 (I 1)) fun x4=>bnd (ar y0) fun x5=>bnd (ae x5 1) fun x6=>bnd (stA 1 H x6 x4) fun H7=>bnd (ldA true 4 H7 y3) fun x8=>bnd (stA 4 H7 y2 x8) fun H9=>bnd (ldA true 4 H9 y2) fun r10=>K r10 H9):aB.J1 σ K y0 y2 y3 H :=
 fun j=>Eq.mpr (by kernel_rfl) h
theorem aB.run {a0:AV} (h:bh [I 0,I 0,I 0,.lit (.slice none 0 0)] H fun x1 H2=>bnd (aY [I 0,I 0,I 0,.lit (.slice none 0 0)] [(0,1,(I 6))]) fun l3=>bh [I 0,I 0,I 0,.lit (.slice none 0 0)] H2 fun x4 H5=>bnd (stA 4 H5 x4 (.agg l3)) fun H6=>ai Try.prog σ bj [a0] H6 fun x7 H8=>ai Try.prog σ aI [a0,(I 0)] H8 fun x9 H10=>bh [I 0,.lit (.string ⟨#[]⟩),I 0,Bo false,I 0] H10 fun x11 H12=>bnd (stA 5 H12 x11 x9) fun H13=>bnd (ar a0) fun x14=>bnd (ae x14 1) fun x15=>bnd (ldA false 1 H13 x15) fun x16=>bnd (af .add x16 (I 1)) fun x17=>bnd (ar a0) fun x18=>bnd (ae x18 1) fun x19=>bnd (stA 1 H13 x19 x17) fun H20=>bnd (ae x11 1) fun x21=>bnd (ldA false 1 H20 x21) fun x22=>ai Try.prog σ dC [x22] H20 fun x23 H24=>bnd (ae x11 0) fun x25=>bnd (ldA false 1 H24 x25) fun x26=>bnd (af .eql x26 (I 1)) fun x27=>ifB x27 (bnd (af .eql x23 (.lit (.string ⟨#[111,100,100]⟩))) fun x28=>ifB x28 (bnd (ae x4 1) fun x29=>bnd (stA 1 H24 x29 (I 2)) fun H30=>bnd (ae x4 2) fun x31=>bnd (stA 1 H30 x31 (I 1)) fun H32=>aB.J0 σ K a0 x1 x4 H32) (bnd (ae x11 0) fun x33=>bnd (ldA false 1 H24 x33) fun x34=>bnd (af .eql x34 (I 1)) fun x35=>ifB x35 (bnd (af .eql x23 (.lit (.string ⟨#[101,118,101,110]⟩))) fun x36=>ifB x36 (bnd (ae x4 1) fun x37=>bnd (stA 1 H24 x37 (I 2)) fun H38=>aB.J0 σ K a0 x1 x4 H38) (bnd (ae x11 0) fun x39=>bnd (ldA false 1 H24 x39) fun x40=>bnd (af .eql x40 (I 6)) fun x41=>ifB x41 (bnd (ae x11 3) fun x42=>bnd (ldA false 1 H24 x42) fun x43=>ifB x43 (bnd (ae x11 2) fun x44=>bnd (ldA false 1 H24 x44) fun x45=>bnd (af .quo x45 (I 1000)) fun x46=>bnd (ae x4 2) fun x47=>bnd (stA 1 H24 x47 x46) fun H48=>aB.J0 σ K a0 x1 x4 H48) (bnd (ar a0) fun x49=>bnd (ae x49 2) fun x50=>bnd (stA 1 H24 x50 (Bo true)) fun H51=>aB.J0 σ K a0 x1 x4 H51)) (bnd (ar a0) fun x52=>bnd (ae x52 2) fun x53=>bnd (stA 1 H24 x53 (Bo true)) fun H54=>aB.J0 σ K a0 x1 x4 H54))) (bnd (ae x11 0) fun x55=>bnd (ldA false 1 H24 x55) fun x56=>bnd (af .eql x56 (I 6)) fun x57=>ifB x57 (bnd (ae x11 3) fun x58=>bnd (ldA false 1 H24 x58) fun x59=>ifB x59 (bnd (ae x11 2) fun x60=>bnd (ldA false 1 H24 x60) fun x61=>bnd (af .quo x61 (I 1000)) fun x62=>bnd (ae x4 2) fun x63=>bnd (stA 1 H24 x63 x62) fun H64=>aB.J0 σ K a0 x1 x4 H64) (bnd (ar a0) fun x65=>bnd (ae x65 2) fun x66=>bnd (stA 1 H24 x66 (Bo true)) fun H67=>aB.J0 σ K a0 x1 x4 H67)) (bnd (ar a0) fun x68=>bnd (ae x68 2) fun x69=>bnd (stA 1 H24 x69 (Bo true)) fun H70=>aB.J0 σ K a0 x1 x4 H70)))) (bnd (ae x11 0) fun x71=>bnd (ldA false 1 H24 x71) fun x72=>bnd (af .eql x72 (I 1)) fun x73=>ifB x73 (bnd (af .eql x23 (.lit (.string ⟨#[101,118,101,110]⟩))) fun x74=>ifB x74 (bnd (ae x4 1) fun x75=>bnd (stA 1 H24 x75 (I 2)) fun H76=>aB.J0 σ K a0 x1 x4 H76) (bnd (ae x11 0) fun x77=>bnd (ldA false 1 H24 x77) fun x78=>bnd (af .eql x78 (I 6)) fun x79=>ifB x79 (bnd (ae x11 3) fun x80=>bnd (ldA false 1 H24 x80) fun x81=>ifB x81 (bnd (ae x11 2) fun x82=>bnd (ldA false 1 H24 x82) fun x83=>bnd (af .quo x83 (I 1000)) fun x84=>bnd (ae x4 2) fun x85=>bnd (stA 1 H24 x85 x84) fun H86=>aB.J0 σ K a0 x1 x4 H86) (bnd (ar a0) fun x87=>bnd (ae x87 2) fun x88=>bnd (stA 1 H24 x88 (Bo true)) fun H89=>aB.J0 σ K a0 x1 x4 H89)) (bnd (ar a0) fun x90=>bnd (ae x90 2) fun x91=>bnd (stA 1 H24 x91 (Bo true)) fun H92=>aB.J0 σ K a0 x1 x4 H92))) (bnd (ae x11 0) fun x93=>bnd (ldA false 1 H24 x93) fun x94=>bnd (af .eql x94 (I 6)) fun x95=>ifB x95 (bnd (ae x11 3) fun x96=>bnd (ldA false 1 H24 x96) fun x97=>ifB x97 (bnd (ae x11 2) fun x98=>bnd (ldA false 1 H24 x98) fun x99=>bnd (af .quo x99 (I 1000)) fun x100=>bnd (ae x4 2) fun x101=>bnd (stA 1 H24 x101 x100) fun H102=>aB.J0 σ K a0 x1 x4 H102) (bnd (ar a0) fun x103=>bnd (ae x103 2) fun x104=>bnd (stA 1 H24 x104 (Bo true)) fun H105=>aB.J0 σ K a0 x1 x4 H105)) (bnd (ar a0) fun x106=>bnd (ae x106 2) fun x107=>bnd (stA 1 H24 x107 (Bo true)) fun H108=>aB.J0 σ K a0 x1 x4 H108)))):∃ r H1,aH Try.prog σ eN [a0] H r H1∧K r H1 :=
 gwp 13 (fn:=Try.f117) (f:=eN) (c:=aB.code) (by kernel_rfl) (by kernel_rfl) (Eq.mpr (by kernel_rfl) h)
noncomputable def bu.code:Code:=aM Try.f118
noncomputable def bu.J0 (σ:Sig) (K:AV→Hp→Prop) (y0:AV) (H:Hp):Prop:=∀ j:Nat→AV,wp (CZ σ) 1 (sR (sR (sR bu.code))) [y0,j 1,j 2,j 3,j 4,j 5,j 6,j 7,j 8,j 9,j 10,j 11,j 12,j 13,j 14,j 15,j 16,j 17,j 18,j 19,j 20,j 21,j 22,j 23,j 24,j 25,j 26,j 27,j 28] H (fQ Try.f118 σ K)
theorem bu.J0_step {y0:AV} (h:ai Try.prog σ c6 [y0] H fun x1 H2=>bnd (ar y0) fun x3=>bnd (ae x3 3) fun x4=>bnd (ldA false 1 H2 x4) fun x5=>bnd (af .sub x5 (I 1)) fun x6=>bnd (ar y0) fun x7=>bnd (ae x7 3) fun x8=>bnd (stA 1 H2 x8 x6) fun H9=>K x1 H9):bu.J0 σ K y0 H :=
 fun j=>Eq.mpr (by kernel_rfl) h
theorem bu.run {a0:AV} (h:bnd (ar a0) fun x1=>bnd (ae x1 3) fun x2=>bnd (ldA false 1 H x2) fun x3=>bnd (af .add x3 (I 1)) fun x4=>bnd (ar a0) fun x5=>bnd (ae x5 3) fun x6=>bnd (stA 1 H x6 x4) fun H7=>bnd (ar a0) fun x8=>bnd (ae x8 3) fun x9=>bnd (ldA false 1 H7 x9) fun x10=>bnd (af .gtr x10 (I 8)) fun x11=>ifB x11 (bnd (ar a0) fun x12=>bnd (ae x12 2) fun x13=>bnd (stA 1 H7 x13 (Bo true)) fun H14=>bu.J0 σ K a0 H14) (bu.J0 σ K a0 H7)):∃ r H1,aH Try.prog σ d7 [a0] H r H1∧K r H1 :=
 gwp 1 (fn:=Try.f118) (f:=d7) (c:=bu.code) (by kernel_rfl) (by kernel_rfl) (Eq.mpr (by kernel_rfl) h)
noncomputable def kz.code:Code:=aM Try.f119
theorem kz.run {a0 a1:AV} (h:bh [I 0,.lit (.string ⟨#[]⟩),.lit (.string ⟨#[]⟩),.lit (.slice none 0 0),.lit (.slice none 0 0),.lit (.slice none 0 0),I 0,I 0,I 0] H fun x1 H2=>bnd (af .lss a1 (I 0)) fun x3=>ifB x3 (bnd (aY [I 0,.lit (.string ⟨#[]⟩),.lit (.string ⟨#[]⟩),.lit (.slice none 0 0),.lit (.slice none 0 0)] []) fun l4=>bnd (aY [I 0,.lit (.string ⟨#[]⟩),.lit (.string ⟨#[]⟩),.lit (.slice none 0 0),.lit (.slice none 0 0),.lit (.slice none 0 0),I 0,I 0,I 0] [(0,5,(.agg l4)),(8,1,(I (-1)))]) fun l5=>bnd (stA 9 H2 x1 (.agg l5)) fun H6=>bnd (ldA true 9 H6 x1) fun r7=>K r7 H6) (bnd (ar a0) fun x8=>bnd (ae x8 0) fun x9=>bnd (ldA false 1 H2 x9) fun x10=>bnd (a8 x10) fun x11=>bnd (af .geq a1 x11) fun x12=>ifB x12 (bnd (aY [I 0,.lit (.string ⟨#[]⟩),.lit (.string ⟨#[]⟩),.lit (.slice none 0 0),.lit (.slice none 0 0)] []) fun l13=>bnd (aY [I 0,.lit (.string ⟨#[]⟩),.lit (.string ⟨#[]⟩),.lit (.slice none 0 0),.lit (.slice none 0 0),.lit (.slice none 0 0),I 0,I 0,I 0] [(0,5,(.agg l13)),(8,1,(I (-1)))]) fun l14=>bnd (stA 9 H2 x1 (.agg l14)) fun H15=>bnd (ldA true 9 H15 x1) fun r16=>K r16 H15) (bnd (ar a0) fun x17=>bnd (ae x17 0) fun x18=>bnd (ldA false 1 H2 x18) fun x19=>bnd (aQ 9 x19 a1) fun x20=>bnd (ldA true 9 H2 x20) fun x21=>bnd (stA 9 H2 x1 x21) fun H22=>bnd (ldA true 9 H22 x1) fun r23=>K r23 H22))):∃ r H1,aH Try.prog σ dF [a0,a1] H r H1∧K r H1 :=
 gwp 0 (fn:=Try.f119) (f:=dF) (c:=kz.code) (by kernel_rfl) (by kernel_rfl) (Eq.mpr (by kernel_rfl) h)
noncomputable def pr.code:Code:=aM Try.f120
theorem pr.run {a0 a1:AV} (h:eU a1 H fun x1 H2=>bnd (ae x1 2) fun x3=>bnd (ldA false 1 H2 x3) fun x4=>bnd (af .neq x4 (.lit (.string ⟨#[]⟩))) fun x5=>bnd (ae x1 1) fun x6=>bnd (ldA false 1 H2 x6) fun x7=>bnd (af .eql x7 (I 0)) fun x8=>ifB x8 (K (Bo true) H2) (bnd (af .eql x7 (I 1)) fun x9=>ifB x9 (bnd (ae x1 2) fun x10=>bnd (ldA false 1 H2 x10) fun x11=>bnd (af .eql a0 x11) fun x12=>K x12 H2) (bnd (af .eql x7 (I 2)) fun x13=>ifB x13 (ifB x5 (bnd (ae x1 2) fun x14=>bnd (ldA false 1 H2 x14) fun x15=>ai Try.prog σ iu [a0,x15] H2 fun x16 H17=>K x16 H17) (K (Bo false) H2)) (bnd (af .eql x7 (I 3)) fun x18=>ifB x18 (bnd (ae x1 2) fun x19=>bnd (ldA false 1 H2 x19) fun x20=>bnd (af .eql a0 x20) fun x21=>ifB x21 (K (Bo true) H2) (bnd (ae x1 2) fun x22=>bnd (ldA false 1 H2 x22) fun x23=>bnd (af .add x23 (.lit (.string ⟨#[45]⟩))) fun x24=>ai Try.prog σ dx [a0,x24] H2 fun x25 H26=>K x25 H26)) (bnd (af .eql x7 (I 4)) fun x27=>ifB x27 (ifB x5 (bnd (ae x1 2) fun x28=>bnd (ldA false 1 H2 x28) fun x29=>ai Try.prog σ dx [a0,x29] H2 fun x30 H31=>K x30 H31) (K (Bo false) H2)) (bnd (af .eql x7 (I 5)) fun x32=>ifB x32 (ifB x5 (bnd (ae x1 2) fun x33=>bnd (ldA false 1 H2 x33) fun x34=>ai Try.prog σ d8 [a0,x34] H2 fun x35 H36=>K x35 H36) (K (Bo false) H2)) (bnd (af .eql x7 (I 6)) fun x37=>ifB x37 (ifB x5 (bnd (ae x1 2) fun x38=>bnd (ldA false 1 H2 x38) fun x39=>ai Try.prog σ iB [a0,x39] H2 fun x40 H41=>K x40 H41) (K (Bo false) H2)) (K (Bo false) H2)))))))):∃ r H1,aH Try.prog σ jL [a0,a1] H r H1∧K r H1 :=
 gwp 0 (fn:=Try.f120) (f:=jL) (c:=pr.code) (by kernel_rfl) (by kernel_rfl) (Eq.mpr (by kernel_rfl) h)
noncomputable def bq.code:Code:=aM Try.f121
noncomputable def bq.R0 (j:Nat→AV) (y3 y4:AV):nj:=⟨[j 0,j 1,j 2,y3,y4,j 5,j 6,j 7,j 8,j 9,j 10,j 11],rP (bB (sR (sL (sR bq.code)))),rA (bB (sR (sL (sR bq.code)))),rB (bB (sR (sL (sR bq.code))))⟩
theorem bq.R0_round {j:Nat→AV} {y3 y4 p0:AV} {id:Nat} (hl:H.get id=some (.loop (bq.R0 j y3 y4) .ready none)) (h:H.get id=some (.loop (bq.R0 j y3 y4) .ready none)∧(bnd (some (H.set id (some (.loop (bq.R0 j y3 y4) .busy none)))) fun H1=>bnd (ldA false 1 H1 y3) fun x2=>bnd (af .eql p0 x2) fun x3=>ifB x3 (bnd (stA 1 H1 y4 (Bo true)) fun H4=>va id (bq.R0 j y3 y4) K .ret H4) (va id (bq.R0 j y3 y4) K .normal H1))):jj Try.prog σ (.yl id) [p0] H K :=
 tn (CZ σ) mixed 24 hl (by kernel_rfl) (by kernel_rfl) (by kernel_rfl) (Eq.mpr (by kernel_rfl) h)
theorem bq.run {a0 a1:AV} (h:eU a1 H fun x1 H2=>bh [Bo false] H2 fun x3 H4=>ai Try.prog σ jv [a0] H4 fun x5 H6=>∀ j:Nat→AV,rD Try.prog σ x5 (bq.R0 j x1 x3) H6 (fun H7=>bnd (stA 1 H7 x3 (Bo false)) fun H9=>bnd (ldA false 1 H9 x3) fun r10=>K r10 H9) (fun H7=>bnd (ldA false 1 H7 x3) fun r11=>K r11 H7) (fun i8 H7=>False)):∃ r H1,aH Try.prog σ iu [a0,a1] H r H1∧K r H1 :=
 gwp 24 (fn:=Try.f121) (f:=iu) (c:=bq.code) (by kernel_rfl) (by kernel_rfl) (Eq.mpr (by kernel_rfl) h)
noncomputable def fU.code:Code:=aM Try.f122
theorem fU.run {a0 a1:AV} (h:ai Try.prog σ ck [a0,a1] H fun x1 H2=>K x1 H2):∃ r H1,aH Try.prog σ dx [a0,a1] H r H1∧K r H1 :=
 gwp 0 (fn:=Try.f122) (f:=dx) (c:=fU.code) (by kernel_rfl) (by kernel_rfl) (Eq.mpr (by kernel_rfl) h)
noncomputable def fT.code:Code:=aM Try.f123
theorem fT.run {a0 a1:AV} (h:ai Try.prog σ cm [a0,a1] H fun x1 H2=>K x1 H2):∃ r H1,aH Try.prog σ d8 [a0,a1] H r H1∧K r H1 :=
 gwp 0 (fn:=Try.f123) (f:=d8) (c:=fT.code) (by kernel_rfl) (by kernel_rfl) (Eq.mpr (by kernel_rfl) h)
noncomputable def kw.code:Code:=aM Try.f125
theorem kw.run {a0:AV} (h:eU a0 H fun x1 H2=>K (.fn ic [x1]) H2):∃ r H1,aH Try.prog σ jv [a0] H r H1∧K r H1 :=
 gwp 0 (fn:=Try.f125) (f:=jv) (c:=kw.code) (by kernel_rfl) (by kernel_rfl) (Eq.mpr (by kernel_rfl) h)
noncomputable def cZ.code:Code:=aM Try.f126
theorem cZ.run {a0 a1:AV} (h:bnd (cG a0) fun x1=>bnd (cG a1) fun x2=>bnd (af .geq x1 x2) fun x3=>ifB x3 (bnd (cG a1) fun x4=>bnd (gu a0 none (some x4)) fun x5=>bnd (af .eql x5 a1) fun x6=>K x6 H) (K (Bo false) H)):∃ r H1,aH Try.prog σ ck [a0,a1] H r H1∧K r H1 :=
 gwp 0 (fn:=Try.f126) (f:=ck) (c:=cZ.code) (by kernel_rfl) (by kernel_rfl) (Eq.mpr (by kernel_rfl) h)
noncomputable def cV.code:Code:=aM Try.f127
theorem cV.run {a0 a1:AV} (h:bnd (cG a0) fun x1=>bnd (cG a1) fun x2=>bnd (af .geq x1 x2) fun x3=>ifB x3 (bnd (cG a0) fun x4=>bnd (cG a1) fun x5=>bnd (af .sub x4 x5) fun x6=>bnd (gu a0 (some x6) none) fun x7=>bnd (af .eql x7 a1) fun x8=>K x8 H) (K (Bo false) H)):∃ r H1,aH Try.prog σ cm [a0,a1] H r H1∧K r H1 :=
 gwp 0 (fn:=Try.f127) (f:=cm) (c:=cV.code) (by kernel_rfl) (by kernel_rfl) (Eq.mpr (by kernel_rfl) h)
noncomputable def aL.code:Code:=aM Try.f129
noncomputable def aL.Q0 (σ:Sig) (K:AV→Hp→Prop):Exit→List AV→Hp→Prop:=(nx (fun e T G=>(fQ Try.f129 σ K) (av 0 e) T G) fun T G=>∀ j,bi (CZ σ) (lB (bB aL.code)) (dr 11 j 0 T) G (fun e T G=>(fQ Try.f129 σ K) (av 0 e) T G))
noncomputable def aL.L0 (σ:Sig) (K:AV→Hp→Prop) (y0 y1 y3:AV) (H:Hp):Prop:=∀ j:Nat→AV,bi (CZ σ) (lB (bB aL.code)) [y0,y1,j 2,y3,j 4,j 5,j 6,j 7,j 8,j 9,j 10,j 11,j 12,j 13,j 14,j 15,j 16,j 17,j 18,j 19,j 20,j 21,j 22,j 23,j 24,j 25,j 26,j 27,j 28,j 29,j 30,j 31,j 32,j 33,j 34,j 35] H (fun e T G=>(fQ Try.f129 σ K) (av 0 e) T G)
noncomputable def aL.L1 (σ:Sig) (K:AV→Hp→Prop) (y0 y1 y3:AV) (H:Hp):Prop:=∀ j:Nat→AV,bi (CZ σ) (lB (bB (sL (sR (bB (sR (lB (bB aL.code)))))))) [y0,y1,j 2,y3,j 4,j 5,j 6,j 7,j 8,j 9,j 10,j 11,j 12,j 13,j 14,j 15,j 16,j 17,j 18,j 19,j 20,j 21,j 22,j 23,j 24,j 25,j 26,j 27,j 28,j 29,j 30,j 31,j 32,j 33,j 34,j 35] H (fun e T G=>(nx (fun e T G=>(aL.Q0 σ K) (av 1 e) T G) fun T G=>wp (CZ σ) 11 (sR (sR (bB (sR (lB (bB aL.code)))))) T G (fun e T G=>(aL.Q0 σ K) (av 1 e) T G)) (av 2 e) T G)
theorem aL.L0_step {y0 y1 y3:AV} (h:bnd (ldA false 1 H y1) fun x1=>bnd (af .neq x1 (.lit (.string ⟨#[]⟩))) fun x2=>ifB x2 (aL.L1 σ K y0 y1 (I 0) H) (K (.tup []) H)):aL.L0 σ K y0 y1 y3 H :=
 fun j=>lrd (g:=11) (Eq.mpr (by kernel_rfl) h)
theorem aL.L1_step {y0 y1 y3:AV} (h:bnd (ldA false 1 H y1) fun x1=>bnd (cG x1) fun x2=>bnd (af .lss y3 x2) fun x3=>ifB x3 (bnd (ldA false 1 H y1) fun x4=>bnd (gv x4 y3) fun x5=>ai Try.prog σ gO [x5] H fun x6 H7=>bnd (unR .not x6) fun x8=>ifB x8 (bnd (af .add y3 (I 1)) fun x9=>aL.L1 σ K y0 y1 x9 H7) (bnd (af .gtr y3 (I 0)) fun x10=>ifB x10 (bnd (ldA false 1 H7 y1) fun x11=>bnd (gu x11 none (some y3)) fun x12=>jj Try.prog σ y0 [x12] H7 fun x13 H14=>bnd (unR .not x13) fun x15=>ifB x15 (K (.tup []) H14) (bnd (ldA false 1 H14 y1) fun x16=>bnd (af .add y3 (I 1)) fun x17=>bnd (ldA false 1 H14 y1) fun x18=>bnd (cG x18) fun x19=>bnd (nA [x17,x19]) fun x20=>bnd (gu x16 (some x20) none) fun x21=>bnd (stA 1 H14 y1 x21) fun H22=>aL.L0 σ K y0 y1 y3 H22)) (bnd (ldA false 1 H7 y1) fun x23=>bnd (af .add y3 (I 1)) fun x24=>bnd (ldA false 1 H7 y1) fun x25=>bnd (cG x25) fun x26=>bnd (nA [x24,x26]) fun x27=>bnd (gu x23 (some x27) none) fun x28=>bnd (stA 1 H7 y1 x28) fun H29=>aL.L0 σ K y0 y1 y3 H29))) (bnd (af .gtr y3 (I 0)) fun x30=>ifB x30 (bnd (ldA false 1 H y1) fun x31=>bnd (gu x31 none (some y3)) fun x32=>jj Try.prog σ y0 [x32] H fun x33 H34=>bnd (unR .not x33) fun x35=>ifB x35 (K (.tup []) H34) (bnd (ldA false 1 H34 y1) fun x36=>bnd (af .add y3 (I 1)) fun x37=>bnd (ldA false 1 H34 y1) fun x38=>bnd (cG x38) fun x39=>bnd (nA [x37,x39]) fun x40=>bnd (gu x36 (some x40) none) fun x41=>bnd (stA 1 H34 y1 x41) fun H42=>aL.L0 σ K y0 y1 y3 H42)) (bnd (ldA false 1 H y1) fun x43=>bnd (af .add y3 (I 1)) fun x44=>bnd (ldA false 1 H y1) fun x45=>bnd (cG x45) fun x46=>bnd (nA [x44,x46]) fun x47=>bnd (gu x43 (some x47) none) fun x48=>bnd (stA 1 H y1 x48) fun H49=>aL.L0 σ K y0 y1 y3 H49))):aL.L1 σ K y0 y1 y3 H :=
 fun j=>lrd (g:=11) (Eq.mpr (by kernel_rfl) h)
theorem aL.run {a0 a1:AV} (h:aL.L0 σ K a0 a1 (.lit undef) H):∃ r H1,aH Try.prog σ ic [a0,a1] H r H1∧K r H1 :=
 gwp 11 (fn:=Try.f129) (f:=ic) (c:=aL.code) (by kernel_rfl) (by kernel_rfl) (Eq.mpr (by kernel_rfl) h)
noncomputable def kG.code:Code:=aM Try.f130
theorem kG.run {a0:AV} (h:bnd (af .eql a0 (.lit (.int .u8 9))) fun x1=>ifB x1 (K (Bo true) H) (bnd (af .eql a0 (.lit (.int .u8 10))) fun x2=>ifB x2 (K (Bo true) H) (bnd (af .eql a0 (.lit (.int .u8 12))) fun x3=>ifB x3 (K (Bo true) H) (bnd (af .eql a0 (.lit (.int .u8 13))) fun x4=>ifB x4 (K (Bo true) H) (bnd (af .eql a0 (.lit (.int .u8 32))) fun x5=>K x5 H))))):∃ r H1,aH Try.prog σ gO [a0] H r H1∧K r H1 :=
 gwp 0 (fn:=Try.f130) (f:=gO) (c:=kG.code) (by kernel_rfl) (by kernel_rfl) (Eq.mpr (by kernel_rfl) h)
end Go.Proofs.Ythmaggcfghjmfaa.Ev
namespace Go.Proofs.Ythmaggcfghjmfaa.Ev
set_option linter.unusedVariables false
set_option linter.unusedSimpArgs false
variable {σ:Sig}
def gn (c:UInt8):UInt8:=if 65≤c.toNat∧c.toNat≤90 then UInt8.ofNat (c.toNat+32) else c
def jB (s:ByteArray):ByteArray:=⟨(s.data.toList.map gn).toArray⟩
def dh (c:UInt8):AV:=.lit (.int .u8 c.toNat)
theorem wr8 {n:Int} (h0:0≤n) (h1:n≤255):wr .u8 n=n:=by
 unfold wr
 simp [IntKind.wrap,IntKind.signed,IntKind.bits]
 omega
theorem lO:∀ (l:List UInt8),kT (l.map dh)=some l
 | []=>rfl
 | c::l=>by
  have ih:=lO l
  rw [List.map_cons]
  show (kT (l.map dh)).map (UInt8.ofNat ((c.toNat:Int)).toNat::·)=_
  rw [ih]
  simp
theorem po (l:List UInt8):(l.map dh).all AV.one=true:=by
 rw [List.all_map,List.all_eq_true]
 intro x _; rfl
theorem vA {H:Hp} {id:Nat} {l:List UInt8} {n:Nat} {ex:Bool} (hg:H.get id=some (.cells (l.map dh) ex)) (hn:n=l.length):eO H (.sl id 0 1 n none)=some (Sx ⟨l.toArray⟩):=by
 subst hn
 simp only [eO,gK,hg]
 have e:List.take l.length (l.map dh)=l.map dh:=by
  have:=List.take_length (l:=l.map dh)
  rwa [List.length_map] at this
 simp only [List.drop_zero,Nat.mul_one,jn,e,List.length_map,decide_true,Bool.and_self,cond_true,po,lO]
 rfl
theorem pk {l:List UInt8} {k:Nat} {c:UInt8} (h:l[k]?=some c) (v:UInt8) (hv:v=gn c):(l.set k v).take (k+1)++((l.set k v).drop (k+1)).map gn=l.take k++(l.drop k).map gn:=by
 subst hv
 obtain ⟨hlt,rfl⟩:=List.getElem?_eq_some_iff.1 h
 rw [List.drop_eq_getElem_cons hlt,List.take_succ_eq_append_getElem (by simpa using hlt),List.drop_set_of_lt (by omega),List.take_set_of_le (by omega)]
 simp
 rw [List.drop_eq_getElem_cons (i:=k) (l:=List.map gn l) (by simpa using hlt)]
 simp
theorem mC {l:List UInt8} {k:Nat} {c:UInt8} (h:l[k]?=some c) (hv:gn c=c):l.take (k+1)++(l.drop (k+1)).map gn=l.take k++(l.drop k).map gn:=by
 have:=pk h c hv.symm
 rwa [show l.set k c=l from by
  obtain ⟨hlt,rfl⟩:=List.getElem?_eq_some_iff.1 h
  simp] at this
theorem yn {K:AV→Hp→Prop} {n id:Nat} (hn:n<9000000000000000000):∀ (d k:Nat) (l:List UInt8) (H:Hp) (ex:Bool),H.get id=some (.cells (l.map dh) ex)→l.length=n→n - k=d→k≤n→(∀ H,K (Sx ⟨(l.take k++(l.drop k).map gn).toArray⟩) H) →
  bv.L0 σ K (.sl id 0 1 n none) (.sl id 0 1 n none) (I n) (I k) H:=by
 intro d
 induction d with
 | zero =>
  intro k l H ex hg hl hd hk hK
  have e:k=n:=by omega
  subst e
  refine bv.L0_step ?_
  simp [vA hg hl.symm]
  simpa [← hl] using hK H
 | succ d ih =>
  intro k l H ex hg hl hd hk hK
  have hlt:k<n:=by omega
  have hlt':k<l.length:=by omega
  have hget:l[k]?=some l[k]:=List.getElem?_eq_getElem hlt'
  have hc:=(l[k]).toNat_lt
  refine bv.L0_step ?_
  simp [hlt,mF,hg,rG hlt',dh]
  have next:∀ (l':List UInt8) (H':Hp),H'.get id=some (.cells (l'.map dh) ex)→l'.length=n→l'.take (k+1)++(l'.drop (k+1)).map gn=l.take k++(l.drop k).map gn→bv.J1 σ K (.sl id 0 1 n none) (.sl id 0 1 n none) (I n) (I k) H':=by
   intro l' H' hg' hl' he
   refine bv.J1_step ?_
   simp
   rw [bW (Nat.lt_trans hlt hn)]
   exact ih (k+1) l' H' ex hg' hl' (by omega) (by omega) (by rw [he]; exact hK)
  split
  ·split
   ·rename_i h1 h2
    have e1:wr .u8 ((l[k].toNat:Int)+97)=(l[k].toNat:Int)+97:=wr8 (by omega) (by omega)
    have e2:wr .u8 ((l[k].toNat:Int)+97 - 65)=((gn l[k]).toNat:Int):=by
     rw [wr8 (by omega) (by omega)]
     unfold gn
     rw [if_pos ⟨by omega,by omega⟩]
     simp; omega
    rw [e1,e2]
    have e3:(k:Int).toNat=k:=by omega
    rw [if_pos (show k+1≤l.length from hlt'),aa]
    have e4:AV.lit (.int .u8 (gn l[k]).toNat)=dh (gn l[k]):=rfl
    rw [e4,Cz _ hlt']
    exact next (l.set k (gn l[k])) _ (by simp) (by simpa using hl) (pk hget _ rfl)
   ·rename_i h1 h2
    exact next l H hg hl (mC hget (by unfold gn; rw [if_neg (by omega)]))
  ·rename_i h1
   exact next l H hg hl (mC hget (by unfold gn; rw [if_neg (by omega)]))
theorem pW (s:ByteArray) (hs:s.data.size<9000000000000000000) (H:Hp):aH Try.prog σ gg [Sx s] H (Sx (jB s)) H:=by
 refine bP (fun K hK=>bv.run ?_) rfl rfl H
 simp only [fL,aa,nR]
 refine yn hs _ 0 s.data.toList _ false (by simp [dh]) (by simp) rfl (Nat.zero_le _) fun H=>?_
 simpa [jB] using hK H
theorem xG {K:AV→Hp→Prop} {n id:Nat} (hn:n<9000000000000000000):∀ (d k:Nat) (l:List UInt8) (H:Hp) (ex:Bool),H.get id=some (.cells (l.map dh) ex)→l.length=n→n - k=d→k≤n→(∀ H,K (Sx ⟨(l.take k++(l.drop k).map gn).toArray⟩) H) →
  bw.L0 σ K (.sl id 0 1 n none) (I k) H:=by
 intro d
 induction d with
 | zero =>
  intro k l H ex hg hl hd hk hK
  have e:k=n:=by omega
  subst e
  refine bw.L0_step ?_
  simp [vA hg hl.symm]
  simpa [← hl] using hK H
 | succ d ih =>
  intro k l H ex hg hl hd hk hK
  have hlt:k<n:=by omega
  have hlt':k<l.length:=by omega
  have hget:l[k]?=some l[k]:=List.getElem?_eq_getElem hlt'
  have hc:=(l[k]).toNat_lt
  refine bw.L0_step ?_
  simp [hlt,mF,hg,rG hlt',dh]
  have next:∀ (l':List UInt8) (H':Hp),H'.get id=some (.cells (l'.map dh) ex)→l'.length=n→l'.take (k+1)++(l'.drop (k+1)).map gn=l.take k++(l.drop k).map gn→bw.J1 σ K (.sl id 0 1 n none) (I k) H':=by
   intro l' H' hg' hl' he
   refine bw.J1_step ?_
   simp
   rw [bW (Nat.lt_trans hlt hn)]
   exact ih (k+1) l' H' ex hg' hl' (by omega) (by omega) (by rw [he]; exact hK)
  split
  ·split
   ·rename_i h1 h2
    have e2:wr .u8 ((l[k].toNat:Int)+32)=((gn l[k]).toNat:Int):=by
     rw [wr8 (by omega) (by omega)]
     unfold gn
     rw [if_pos ⟨by omega,by omega⟩]
     simp; omega
    rw [e2]
    rw [if_pos (show k+1≤l.length from hlt'),aa]
    have e4:AV.lit (.int .u8 (gn l[k]).toNat)=dh (gn l[k]):=rfl
    rw [e4,Cz _ hlt']
    exact next (l.set k (gn l[k])) _ (by simp) (by simpa using hl) (pk hget _ rfl)
   ·rename_i h1 h2
    exact next l H hg hl (mC hget (by unfold gn; rw [if_neg (by omega)]))
  ·rename_i h1
   exact next l H hg hl (mC hget (by unfold gn; rw [if_neg (by omega)]))
theorem iA (s:ByteArray) (hs:s.data.size<9000000000000000000) (H:Hp):aH Try.prog σ dC [Sx s] H (Sx (jB s)) H:=by
 refine bP (fun K hK=>bw.run ?_) rfl rfl H
 simp only [fL,aa,nR]
 refine xG hs _ 0 s.data.toList _ false (by simp [dh]) (by simp) rfl (Nat.zero_le _) fun H=>?_
 simpa [jB] using hK H
end Go.Proofs.Ythmaggcfghjmfaa.Ev
namespace Go.Proofs.Ythmaggcfghjmfaa.Ev
set_option linter.unusedVariables false
set_option linter.unusedSimpArgs false
variable {σ:Sig}
theorem aH.imm0 {P:Program} {f sz:Nat} {r:AV} {H H':Hp} (h:∀ (a:Option Addr) (c:Nat),aH P σ f [.lit (.slice a 0 c)] H r H'):aH P σ f [.imm sz []] H r H':=by
 refine ⟨(h none 0).1,fun B w0 E w vs hσ hst hxs=>?_⟩
 have hl:=hxs.len
 have hv:vs[0]?=some (vs[0]'(by simp at hl; omega)):=Array.getElem?_eq_getElem _
 have hr:=hxs.at_ 0 _ _ rfl hv
 have:∃ a c,vs[0]'(by simp at hl; omega)=.slice a 0 c:=by
  generalize vs[0]'(by simp at hl; omega)=v at hr
  cases hr with
  | immE=>exact ⟨_,_,rfl⟩
  | imm val hn=>subst hn; exact ⟨_,_,rfl⟩
 obtain ⟨a,c,e⟩:=this
 refine (h a c).2 B w0 E w vs hσ hst ⟨by simpa using hl,fun i x v hx hv'=>?_⟩
 match i with
 | 0 =>
  simp at hx; subst hx
  rw [hv] at hv'
  cases hv'
  rw [e]; exact .lit _
 | i+1=>simp at hx
theorem vb (H:Hp):aH Try.prog σ bo [dY []] H (dY []) H:=by
 refine aH.imm0 fun a c=>?_
 cases a with
 | none =>
  have run:∃ r H1,aH Try.prog σ bo [.lit (.slice none 0 c)] Hp.empty r H1∧r=.lit (.slice none 0 0):=cw.run (by simp)
  obtain ⟨r,H1,hg,rfl⟩:=run
  exact hg.frzR rfl .nil H
 | some a =>
  have run:∃ r H1,aH Try.prog σ bo [.lit (.slice (some a) 0 c)] Hp.empty r H1∧Fz H1 r (dY []):=by
   refine cw.run ?_
   simp [au,aY,aT,gK,jn,jq,r8]
   exact .sl (cs:=[]) (ex:=true) (fun _ _=>.any) (by simp) rfl (by simp) (by simp) (by simp)
  obtain ⟨r,H1,hg,hf⟩:=run
  exact hg.frzR rfl hf H
theorem wF (H:Hp):aH Try.prog σ bE [.imm 2 []] H (.imm 2 []) H:=by
 refine aH.imm0 fun a c=>?_
 cases a with
 | none =>
  have run:∃ r H1,aH Try.prog σ bE [.lit (.slice none 0 c)] Hp.empty r H1∧r=.lit (.slice none 0 0):=bY.run (by simp)
  obtain ⟨r,H1,hg,rfl⟩:=run
  exact hg.frzR rfl .nil H
 | some a =>
  have run:∃ r H1,aH Try.prog σ bE [.lit (.slice (some a) 0 c)] Hp.empty r H1∧Fz H1 r (.imm 2 []):=by
   refine bY.run ?_
   simp [au,aY,aT,gK,jn,jq,r8]
   exact .sl (cs:=[]) (ex:=true) (fun _ _=>.any) (by simp) rfl (by simp) (by simp) (by simp)
  obtain ⟨r,H1,hg,hf⟩:=run
  exact hg.frzR rfl hf H
theorem vT {sz bytes:Nat} {z:List Value} {H:Hp} {rows:List (List AV)} (hr:rows≠[]) (h2:∀ row ∈ rows,row.length=sz) (hone:rows.flatten.all AV.one=true) (hb:rows.length*bytes≤140737488355328) (hn:rows.length≤4611686018427387904)
  {K:AV × Hp→Prop} (h:K (.sl (H.n+1) 0 sz rows.length none,(H.new (.cells [] true)).new (.cells rows.flatten false))) :
  bnd (au z sz 0 H []) fun p=>bnd (aT false sz bytes p.2 p.1 (.imm sz rows)) K:=by
 have h0:rows.length≠0:=by cases rows<;>simp at hr ⊢
 have e:r8 z 0=[]:=by simp [r8]
 simp only [au,aY,Nat.zero_mul,e,List.length_nil,jn,decide_true,cond_true,aa]
 simp only [aT,jq,cond_true,vH,hone,jn,h0,decide_false,cond_false,rZ]
 simp [hb,hn,h0]
 exact h
theorem wx (l:List ByteArray) (hb:l.length*16≤140737488355328) (H:Hp):aH Try.prog σ bo [dY l] H (dY l) H:=by
 cases l with
 | nil=>exact vb H
 | cons s l =>
  have run:∃ r H1,aH Try.prog σ bo [dY (s::l)] Hp.empty r H1∧Fz H1 r (dY (s::l)):=by
   refine cw.run ?_
   simp only [dY,List.map_cons,FJ,aa,aj,Bool.false_eq_true,if_false]
   refine vT (rows:=[Sx s]::l.map fun s=>[Sx s]) (K:=fun q=>Fz q.2 q.1 (.imm 1 ([Sx s]::l.map fun s=>[Sx s]))) (by simp) (fun row hrow=>?_) ?_ (by simpa using hb) (by simp at hb ⊢; omega) ?_
   ·rw [← List.map_cons (f:=fun s=>[Sx s])] at hrow
    obtain ⟨x,_,rfl⟩:=List.mem_map.1 hrow; rfl
   ·rw [← List.map_cons (f:=fun s=>[Sx s]),List.all_eq_true]
    intro x hx
    obtain ⟨row,hrow,hx⟩:=List.mem_flatten.1 hx
    obtain ⟨x,_,rfl⟩:=List.mem_map.1 hrow
    simp at hx; subst hx; rfl
   ·refine Fz.rows (cs:=([Sx s]::l.map fun s=>[Sx s]).flatten) (ex:=false) (by simp) (fun row hrow=>?_) ?_ ?_
    ·rw [← List.map_cons (f:=fun s=>[Sx s])] at hrow
     obtain ⟨x,_,rfl⟩:=List.mem_map.1 hrow; rfl
    ·rw [List.drop_zero]
     refine List.take_of_length_le ?_
     rw [df (sz:=1)]
     ·simp
     ·intro row hrow
      rw [← List.map_cons (f:=fun s=>[Sx s])] at hrow
      obtain ⟨x,_,rfl⟩:=List.mem_map.1 hrow; rfl
    ·rw [← List.map_cons (f:=fun s=>[Sx s])]; exact a_ _ (fun _=>rfl) _
  obtain ⟨r,H1,hg,hf⟩:=run
  exact hg.frzR (by simp [aU]) hf H
def iV (p:ByteArray × ByteArray):ByteArray × ByteArray:=(jB p.1,p.2)
def cg (n:Nd):Nd:={ n with tag:=jB n.tag,attrs:=n.attrs.map iV }
structure lu (n:Nd):Prop where
 parent:i64 n.parent
 tag:n.tag.data.size≤reachBytes
 classes:n.classes.length*16≤reachBytes
 attrs:n.attrs.length*32≤reachBytes
 names:∀ p ∈ n.attrs,p.1.data.size≤reachBytes
theorem ed:reachBytes=140737488351232:=rfl
@[simp] theorem Ka (H:Hp) (id off:Nat) (l:List ByteArray):stA 1 H (.ptr id off) (dY l)=stO 1 off [dY l] H id (H.get id):=iP 1 H id off _ rfl rfl
theorem iy {rows:List (ByteArray × ByteArray)}:∀ row ∈ rows.map cC,row.length=2:=by
 intro row hrow
 obtain ⟨x,_,rfl⟩:=List.mem_map.1 hrow; rfl
theorem ww {rows:List (ByteArray × ByteArray)}:(rows.map cC).flatten.all AV.one=true:=by
 rw [List.all_eq_true]
 intro x hx
 obtain ⟨row,hrow,hx⟩:=List.mem_flatten.1 hx
 obtain ⟨x,_,rfl⟩:=List.mem_map.1 hrow
 simp [cC] at hx
 rcases hx with rfl | rfl<;>rfl
theorem xw (n:Nd) (hn:lu n) {H:Hp} {K:AV→Hp→Prop}
  (h0:n.attrs=[]→∀ H',H'.n ≥ H.n→(∀ j,j<H.n→H'.get j=H.get j)→K (.agg (bz n)) H')
  (h1:n.attrs≠[]→∀ H' id,H'.n ≥ H.n→(∀ j,j<H.n→H'.get j=H.get j)→H.n≤id→id<H'.n→H'.get id=some (.cells (n.attrs.map cC).flatten false) →
   K (.agg [I n.parent,Sx n.tag,Sx n.id,dY n.classes,.sl id 0 2 n.attrs.length none]) H') :
  ai Try.prog σ im [.agg (bz n)] H K:=by
 have hc:=hn.classes
 have ha:=hn.attrs
 rw [ed] at hc ha
 have nlt:∀ {j:Nat},j<H.n→j≠H.n∧j≠H.n+1∧j≠H.n+2∧j≠H.n+3:=fun h=>by omega
 refine lX.run ?_
 simp [bz]
 refine aw (wx _ (by omega) _) ?_
 simp
 by_cases he:n.attrs=[]
 ·rw [he]
  refine aw (wF _) ?_
  have e:bz n=[I n.parent,Sx n.tag,Sx n.id,dY n.classes,.imm 2 []]:=by simp [bz,he]
  rw [e] at h0
  simp [cB]
  exact h0 he _ (by simp; omega) (fun j hj=>by have:=nlt hj; simp [this])
 ·obtain ⟨p,ps,hps⟩:=List.exists_cons_of_ne_nil he
  refine bY.run ?_
  rw [hps,List.map_cons]
  simp only [FJ,aa,aj,Bool.false_eq_true,if_false]
  rw [← List.map_cons,← hps]
  refine vT (rows:=n.attrs.map cC) (by simpa using he) iy ww (by simpa using Nat.le_trans ha (by omega)) (by simp; omega) ?_
  have q1:¬ (H.n=H.n+1+1+1):=by omega
  have q2:¬ (H.n=H.n+1+1):=by omega
  have q3:¬ (H.n+1=H.n+1+1+1):=by omega
  simp [cB,q1,q2,q3]
  refine h1 he _ _ ?_ (fun j hj=>?_) ?_ ?_ ?_
  ·simp; omega
  ·have:=nlt hj
   have q4:j≠H.n+1+1:=by omega
   have q5:j≠H.n+1+1+1:=by omega
   simp [this,q4,q5]
  ·omega
  ·simp
  ·have q6:¬ (H.n+1+1=H.n):=by omega
   have q7:¬ (H.n+1+1+1=H.n):=by omega
   have q8:¬ (H.n+1+1+1=H.n+1):=by omega
   have q9:¬ (H.n+1+1=H.n+1):=by omega
   simp [q6,q7,q8,q9]
theorem yh {l l0:List (ByteArray × ByteArray)} {k:Nat} (hk:k<l0.length) (hl:l.length=l0.length) (h1:l.take k=(l0.take k).map iV) (h2:l.drop k=l0.drop k) :
  ∃ hk':k<l.length,l[k]=l0[k]∧(l.set k (iV l0[k])).take (k+1)=(l0.take (k+1)).map iV∧(l.set k (iV l0[k])).drop (k+1)=l0.drop (k+1):=by
 have hk':k<l.length:=by omega
 rw [List.drop_eq_getElem_cons hk',List.drop_eq_getElem_cons hk] at h2
 have h3:=List.cons.inj h2
 refine ⟨hk',h3.1,?_,?_⟩
 ·rw [List.take_succ_eq_append_getElem (by simpa using hk'),List.take_succ_eq_append_getElem hk,List.map_append,← h1,List.take_set_of_le (by omega)]
  simp
 ·rw [List.drop_set_of_lt (by omega)]; exact h3.2
theorem E5 (n:Nd) (hn:lu n) {K:AV→Hp→Prop} {id b1 b2:Nat} {par tg idd cl:AV} (h12:b1≠b2) (hi1:id≠b1) (hi2:id≠b2) (ho:[par,tg,idd,cl].all AV.one=true):∀ (d k:Nat) (l:List (ByteArray × ByteArray)) (H:Hp),H.get b1=some (.cells [par,tg,idd,cl,.sl id 0 2 n.attrs.length none] true)→(∃ cs,H.get b2=some (.cells cs true)∧cs.length=5) →
  H.get id=some (.cells (l.map cC).flatten false)→l.length=n.attrs.length→n.attrs.length - k=d→k≤n.attrs.length→l.take k=(n.attrs.take k).map iV→l.drop k=n.attrs.drop k →
  (∀ H',H'.get id=some (.cells ((n.attrs.map iV).map cC).flatten false)→K (.agg [par,tg,idd,cl,.sl id 0 2 n.attrs.length none]) H') →
  cz.L0 σ K (.ptr b1 0) (.ptr b2 0) (I n.attrs.length) (I k) H:=by
 have ha:=hn.attrs
 rw [ed] at ha
 intro d
 induction d with
 | zero =>
  intro k l H g1 g2 gi hl hd hk h1 h2 hK
  obtain ⟨cs,g2,hcs⟩:=g2
  have e:k=n.attrs.length:=by omega
  subst e
  have el:l=n.attrs.map iV:=by
   rw [← hl,List.take_length,hl,List.take_length] at h1
   exact h1
  refine cz.L0_step ?_
  simp [g1,g2,cB,hcs]
  simp at ho
  simp [ho,aS,hcs,cB]
  refine hK _ ?_
  simp [hi2,gi,el]
 | succ d ih =>
  intro k l H g1 g2 gi hl hd hk h1 h2 hK
  have hlt:k<n.attrs.length:=by omega
  obtain ⟨hlt',hlk,h3,h4⟩:=yh hlt hl h1 h2
  have hsz:(n.attrs[k]).1.data.size<9000000000000000000:=by
   have:=hn.names _ (List.getElem_mem hlt)
   rw [ed] at this
   omega
  have hdrop:((l.map cC).flatten).drop (k*2)=cC n.attrs[k]++((l.map cC).drop (k+1)).flatten:=by
   rw [jz iy (by simpa using hlt'),List.getElem_map,hlk]
  refine cz.L0_step ?_
  simp [g1,hlt,mF,gi,hdrop,cC]
  refine aw (pW _ hsz _) ?_
  have hlen:k*2+1≤((l.map cC).flatten).length:=by
   rw [df iy,List.length_map]; omega
  simp [g1,gi]
  rw [if_pos (by simpa using hlen),aa,bW (by omega)]
  refine ih (k+1) (l.set k (iV n.attrs[k])) _ (by simp [Ne.symm hi1,g1]) ?_ ?_ (by simpa using hl) (by omega) (by omega) h3 h4 hK
  ·obtain ⟨cs,g2,hcs⟩:=g2
   exact ⟨cs,by simp [Ne.symm hi2,g2],hcs⟩
  ·simp
   have:=io (sz:=2) (xs:=[Sx (jB n.attrs[k].1)]) (k:=0) (by simp) (rows:=l.map cC) (w:=k) iy (by simpa using hlt')
   rw [Nat.add_zero] at this
   rw [this]
   congr 3
   simp [cC,iV,hlk]
theorem Ez (n:Nd) (hn:lu n) (H:Hp):aH Try.prog σ fy [.agg (bz n)] H (.agg (bz (cg n))) H:=by
 have ht:n.tag.data.size<9000000000000000000:=by
  have:=hn.tag
  rw [ed] at this; omega
 obtain ⟨Q,hQ⟩:∃ Q:AV→Hp→Prop,∀ r H1,Q r H1 ↔ Fz H1 r (.agg (bz (cg n))):=⟨_,fun _ _=>Iff.rfl⟩
 have run:∃ r H1,aH Try.prog σ fy [.agg (bz n)] Hp.empty r H1∧Q r H1:=by
  refine cz.run ?_
  simp
  refine xw n hn (fun he H' hn' hs=>?_) (fun he H' id hn' hs hid hid' hg=>?_)
  ·have e0:H'.get Hp.empty.n=some (.cells (bz n) true):=by rw [hs _ (by simp; omega)]; simp
   have e1:H'.get (Hp.empty.n+1)=some (.cells [I 0,Sx ⟨#[]⟩,Sx ⟨#[]⟩,.lit (.slice none 0 0),.lit (.slice none 0 0)] true):=by rw [hs _ (by simp)]; simp
   generalize Hp.empty.n=z at e0 e1 ⊢
   simp [e0,e1,bz,he,aS]
   refine aw (pW _ ht _) ?_
   simp [e0,e1,aS]
   refine cz.L0_step ?_
   simp [e0,e1,cB,aS]
   rw [hQ]
   have e2:bz (cg n)=[I n.parent,Sx (jB n.tag),Sx n.id,dY n.classes,.imm 2 []]:=by simp [cg,bz,he]
   rw [e2]
   exact .refl (by simp [aU,bQ,dS])
  ·have e0:H'.get Hp.empty.n=some (.cells (bz n) true):=by rw [hs _ (by simp; omega)]; simp
   have e1:H'.get (Hp.empty.n+1)=some (.cells [I 0,Sx ⟨#[]⟩,Sx ⟨#[]⟩,.lit (.slice none 0 0),.lit (.slice none 0 0)] true):=by rw [hs _ (by simp)]; simp
   have hid:Hp.empty.n+2≤id:=by simpa using hid
   generalize Hp.empty.n=z at e0 e1 hid ⊢
   have d1:id≠z:=by omega
   have d2:id≠z+1:=by omega
   simp [e0,e1,bz,aS]
   refine aw (pW _ ht _) ?_
   simp [e0,e1,aS]
   refine E5 n hn (id:=id) (by omega) d1 d2 ?_ _ 0 n.attrs _ (by rw [ax,if_pos rfl]) ⟨_,by simp [e1]; rfl,rfl⟩ (by simp [d1,hg]) rfl rfl (Nat.zero_le _) (by simp) rfl fun H2 h2=>?_
   ·simp
   rw [hQ]
   refine .aggL (.cons (.refl rfl) (.cons (.refl rfl) (.cons (.refl rfl) (.cons (.refl (kX _)) (.cons ?_ .nil)))))
   have:=Fz.rows (cap:=none) h2 (rows:=(n.attrs.map iV).map cC) (off:=0) iy (by rw [List.drop_zero]; exact List.take_of_length_le (by rw [df iy]; exact Nat.le_refl _)) (a_ _ (fun _=>rfl) _)
   simpa [cg] using this
 obtain ⟨r,H1,hg,hf⟩:=run
 rw [hQ] at hf
 exact hg.frzR (by simp [aU,bQ,jX]) hf H
end Go.Proofs.Ythmaggcfghjmfaa.Ev
namespace Go.Proofs.Ythmaggcfghjmfaa.Ev
set_option linter.unusedVariables false
set_option linter.unusedSimpArgs false
variable {σ:Sig}
theorem lD {α β:Type} {f:α→β} {l:List α} {k:Nat} (h:k<l.length):(l.take (k+1)).map f=(l.take k).map f++[f l[k]]:=by
 rw [List.take_succ_eq_append_getElem h,List.map_append]; rfl
theorem ET (n:Nd) (hn:lu n) {K:AV→Hp→Prop} {b1 b2:Nat} {par tg idd cl:AV} {cr:List (List AV)} (h12:b1≠b2) (ho:[par,tg,idd].all AV.one=true) (ho1:AV.one cl=true):∀ (d k:Nat) (y:AV) (H:Hp),b1<H.n→b2<H.n→H.get b1=some (.cells [par,tg,idd,cl,.imm 2 (n.attrs.map cC)] true)→(∃ cs,H.get b2=some (.cells cs true)∧cs.length=5) →
  Gs 1 H cl cr→Gs 2 H y ((n.attrs.take k).map fun p=>cC (iV p))→¬ own cl b1→¬ own cl b2→¬ own y b1→¬ own y b2→(∀ j,own cl j→¬ own y j)→n.attrs.length - k=d→k≤n.attrs.length →
  (∀ y' H',Gs 1 H' cl cr→Gs 2 H' y' (n.attrs.map fun p=>cC (iV p))→K (.agg [par,tg,idd,cl,y']) H') →
  cy.L0 σ K (.ptr b1 0) (.ptr b2 0) y (I k) H:=by
 have ha:=hn.attrs
 rw [ed] at ha
 intro d
 induction d with
 | zero =>
  intro k y H l1 l2 g1 g2 gc gy c1 c2 y1 y2 hd' hd hk hK
  obtain ⟨cs,g2,hcs⟩:=g2
  have e:k=n.attrs.length:=by omega
  subst e
  rw [List.take_length] at gy
  refine cy.L0_step ?_
  simp at ho
  have o5:=gy.one
  simp [g1,gy.st (id:=b1) (off:=4) g1 (by simp),cB,g2,hcs,Ne.symm h12,ho,ho1,o5,aS]
  refine hK _ _ (gc.keep (fun j hj=>?_) (by simp)) (gy.keep (fun j hj=>?_) (by simp))
  ·have:j≠b1:=fun e=>c1 (e ▸ hj)
   have:j≠b2:=fun e=>c2 (e ▸ hj)
   simp [*]
  ·have:j≠b1:=fun e=>y1 (e ▸ hj)
   have:j≠b2:=fun e=>y2 (e ▸ hj)
   simp [*]
 | succ d ih =>
  intro k y H l1 l2 g1 g2 gc gy c1 c2 y1 y2 hd' hd hk hK
  have hlt:k<n.attrs.length:=by omega
  have hget:n.attrs[k]?=some n.attrs[k]:=List.getElem?_eq_getElem hlt
  have hsz:(n.attrs[k]).1.data.size<9000000000000000000:=by
   have:=hn.names _ (List.getElem_mem hlt)
   rw [ed] at this
   omega
  refine cy.L0_step ?_
  simp [g1,hlt,cd hget,cC]
  refine aw (iA _ hsz _) ?_
  simp [g1,cd hget,cC,aY,jn,rZ]
  refine fk gy rfl rfl rfl (by simp; omega) (by simp; omega) fun y' H' gy' f=>?_
  have n1:∀ {j:Nat},j<H.n→¬ own y j→¬ own y' j:=fun hj hy h=>by
   rcases f.mine _ h with h | h
   ·exact hy h
   ·omega
  rw [bW (by omega)]
  refine ih (k+1) y' H' (Nat.lt_of_lt_of_le l1 f.grow) (Nat.lt_of_lt_of_le l2 f.grow) (by rw [f.same _ l1 y1]; exact g1) ?_ (gc.keep (fun j hj=>f.same j (gc.lt hj) (hd' j hj)) f.grow) ?_ c1 c2 (n1 l1 y1) (n1 l2 y2) (fun j hj=>n1 (gc.lt hj) (hd' j hj)) (by omega) (by omega) hK
  ·obtain ⟨cs,g2,hcs⟩:=g2
   exact ⟨cs,by rw [f.same _ l2 y2]; exact g2,hcs⟩
  ·rw [lD hlt]
   exact gy'
theorem EO (n:Nd) (hn:lu n) (H:Hp):aH Try.prog σ eX [.agg (bz n)] H (.agg (bz (cg n))) H:=by
 have ht:n.tag.data.size<9000000000000000000:=by
  have:=hn.tag
  rw [ed] at this; omega
 have hc:=hn.classes
 rw [ed] at hc
 obtain ⟨Q,hQ⟩:∃ Q:AV→Hp→Prop,∀ r H1,Q r H1 ↔ Fz H1 r (.agg (bz (cg n))):=⟨_,fun _ _=>Iff.rfl⟩
 have run:∃ r H1,aH Try.prog σ eX [.agg (bz n)] Hp.empty r H1∧Q r H1:=by
  refine cy.run ?_
  simp [bz]
  refine aw (iA _ ht _) ?_
  simp
  refine oO (rows2:=n.classes.map fun s=>[Sx s]) .nil rfl vH (fun row hrow=>?_) ?_ (by simp; omega) (by simp; omega) fun cl H2 gc f=>?_
  ·obtain ⟨x,_,rfl⟩:=List.mem_map.1 hrow; rfl
  ·rw [List.all_eq_true]
   intro x hx
   obtain ⟨row,hrow,hx⟩:=List.mem_flatten.1 hx
   obtain ⟨x,_,rfl⟩:=List.mem_map.1 hrow
   simp at hx; subst hx; rfl
  ·have f0:=f.same Hp.empty.n (by simp; omega) (fun h=>h)
   have f1:=f.same (Hp.empty.n+1) (by simp) (fun h=>h)
   have fm:=f.mine
   have fg:=f.grow
   simp at f0 f1 fg
   have c1:¬ own cl Hp.empty.n:=fun h=>by
    rcases fm _ h with h | h
    ·exact h
    ·have h:=h.1; simp at h; omega
   have c2:¬ own cl (Hp.empty.n+1):=fun h=>by
    rcases fm _ h with h | h
    ·exact h
    ·have h:=h.1; simp at h; omega
   clear fm f
   generalize Hp.empty.n=z at f0 f1 fg c1 c2 ⊢
   simp at gc
   simp [f0,gc.st (id:=z) (off:=3) f0 (by simp)]
   refine ET n hn (by omega) ?_ gc.one _ 0 _ _ (by simp; omega) (by simp; omega) (by rw [ax,if_pos rfl]) ⟨_,by simp [f1]; rfl,rfl⟩ (gc.keep (fun j hj=>?_) (by simp)) .nil c1 c2 (fun h=>h) (fun h=>h) (fun j _ h=>h) rfl (Nat.zero_le _) fun y' H' g1 g2=>?_
   ·simp
   ·have:j≠z:=fun e=>c1 (e ▸ hj)
    simp [this]
   ·rw [hQ]
    refine .aggL (.cons (.refl rfl) (.cons (.refl rfl) (.cons (.refl rfl) (.cons ?_ (.cons ?_ .nil)))))
    ·exact g1.fz (a_ _ (fun _=>rfl) _)
    ·have:=g2.fz (a_ _ (fun _=>rfl) _)
     rw [show (cg n).attrs.map cC=n.attrs.map fun p=>cC (iV p) by simp [cg,Function.comp_def]]
     exact this
 obtain ⟨r,H1,hg,hf⟩:=run
 rw [hQ] at hf
 exact hg.frzR (by simp [aU,bQ,jX]) hf H
end Go.Proofs.Ythmaggcfghjmfaa.Ev
namespace Go.Proofs.Ythmaggcfghjmfaa.Ev
set_option linter.unusedVariables false
set_option linter.unusedSimpArgs false
variable {σ:Sig}
theorem nr {z:List Value} {sz bytes:Nat} {H:Hp} {x y:AV} {rows:List (List AV)} {C:AV × Hp→Prop} (hC:C (.sl H.n 0 sz 1 (some 1),H.new (.cells y.cells true))) (hx:Gs sz H x rows) (hl:y.cells.length=sz) (ha:y.isAny=false) (hone:y.cells.all AV.one=true)
  (hb:(rows.length+1)*bytes≤140737488355328) (hn:rows.length+1≤4611686018427387904) {K:AV × Hp→Prop} (h:∀ x' H',Gs sz H' x' (rows++[y.cells])→Fr H x H' x'→K (x',H')) :
  bnd (au z sz 1 H [(0,sz,y)]) fun p=>C p∧bnd (aT false sz bytes p.2 x p.1) K:=by
 have:=fk (z:=z) hx hl ha hone hb hn h
 rw [kY hl ha,aa] at this ⊢
 exact ⟨hC,this⟩
structure kN (L:List Nd) (d:List Nat) (H:Hp) (t m:Nat) (sl:AV) (ch:List AV):Prop where
 tlt:t<H.n
 tg:H.get t=some (.cells [sl] true)
 len:ch.length=m
 rows:Gs 9 H sl (dM L d ch cg)
 kid:∀ (i:Nat) (c:AV),ch[i]?=some c→Gs 1 H c ((iC L m i).map fun j:Nat=>[I j])
 nt:¬ own sl t
 nk:∀ (i:Nat) (c:AV),ch[i]?=some c→¬ own c t
 ns:∀ (i:Nat) (c:AV),ch[i]?=some c→∀ j,own c j→¬ own sl j
 nd:∀ (i i':Nat) (c c':AV),i≠i'→ch[i]?=some c→ch[i']?=some c'→∀ j,own c j→¬ own c' j
theorem FI {L:List Nd} {d:List Nat} {N:Nat} (hB:db L N d) {m:Nat} (hm:m<N) (hN:N≤4096) {H:Hp} {t x7:Nat} {sl:AV} {ch:List AV} {y6 y7:AV}
  (tlt:t<H.n) (tg:H.get t=some (.cells [sl] true)) (len:ch.length=m) (rows:Gs 9 H sl (dM L d ch cg)) (kid:∀ (i:Nat) (c:AV),ch[i]?=some c→Gs 1 H c ((iC L (m+1) i).map fun j:Nat=>[I j]))
  (nt:¬ own sl t) (nk:∀ (i:Nat) (c:AV),ch[i]?=some c→¬ own c t) (ns:∀ (i:Nat) (c:AV),ch[i]?=some c→∀ j,own c j→¬ own sl j)
  (nd:∀ (i i':Nat) (c c':AV),i≠i'→ch[i]?=some c→ch[i']?=some c'→∀ j,own c j→¬ own c' j)
  (hx7:H.get x7=some (.cells (gk L d m (.lit (.slice none 0 0)) cg) true)) {K:AV→Hp→Prop} (h:∀ H' sl' ch',kN L d H' t (m+1) sl' ch'→K (I 0) H'):aX.J1 σ K (.ptr t 0) (.ptr x7 0) y6 y7 H:=by
 refine aX.J1_step ?_
 simp [tg,hx7]
 simp only [cB (AW L d m (.lit (.slice none 0 0)) cg),aa]
 have ht':t≠H.n:=by omega
 refine nr (y:=.agg (gk L d m (.lit (.slice none 0 0)) cg)) (bytes:=136) (by simp [ht',tg]) rows rfl rfl (by simp [gk,bz]) (by rw [eI]; omega) (by rw [eI]; omega) fun sl' H' g f=>?_
 have e1:H'.get t=some (.cells [sl] true):=by rw [f.same t tlt nt]; exact tg
 have sown:∀ j,own sl' j→own sl j∨(H.n≤j∧j<H'.n):=f.mine
 have nt':¬ own sl' t:=fun h=>by
  rcases sown t h with h | h
  ·exact nt h
  ·omega
 have kl:∀ (i:Nat) (c:AV),ch[i]?=some c→∀ j,own c j→j<H.n:=fun i c hc j hj=>(kid i c hc).lt hj
 simp [g.st (id:=t) (off:=0) e1 (by simp)]
 have cnew:∀ {i:Nat} {c:AV},(ch++[AV.lit (.slice none 0 0)])[i]?=some c→ch[i]?=some c∨(i=m∧c=.lit (.slice none 0 0)):=by
  intro i c hc
  by_cases hi:i<ch.length
  ·rw [List.getElem?_append_left hi] at hc; exact .inl hc
  ·rw [List.getElem?_append_right (by omega)] at hc
   have hl:=(List.getElem?_eq_some_iff.1 hc).1
   simp at hl
   have:i=m:=by omega
   subst this
   simp [len] at hc
   exact .inr ⟨rfl,hc.symm⟩
 refine h _ sl' (ch++[.lit (.slice none 0 0)]) ⟨?_,?_,?_,?_,?_,nt',?_,?_,?_⟩
 ·simp; have:=f.grow; omega
 ·simp
 ·simp [len]
 ·rw [xB,len]
  refine g.keep (fun j hj=>?_) (by simp)
  have:j≠t:=fun e=>nt' (e ▸ hj)
  simp [this]
 ·intro i c hc
  rcases cnew hc with hc | ⟨rfl,rfl⟩
  ·refine (kid i c hc).keep (fun j hj=>?_) (by simp; exact f.grow)
   have:j≠t:=fun e=>nk i c hc (e ▸ hj)
   simp [this]
   exact f.same j (kl i c hc j hj) (ns i c hc j hj)
  ·rw [Eu hB (by omega) (Nat.le_refl _)]
   exact .nil
 ·intro i c hc
  rcases cnew hc with hc | ⟨rfl,rfl⟩
  ·exact nk i c hc
  ·exact fun h=>h
 ·intro i c hc j hj h
  rcases cnew hc with hc | ⟨rfl,rfl⟩
  ·rcases sown j h with h | h
   ·exact ns i c hc j hj h
   ·have:=kl i c hc j hj; omega
  ·exact hj
 ·intro i i' c c' hne hc hc' j hj hj'
  rcases cnew hc with hc | ⟨rfl,rfl⟩
  ·rcases cnew hc' with hc' | ⟨rfl,rfl⟩
   ·exact nd i i' c c' hne hc hc' j hj hj'
   ·exact hj'
  ·exact hj
theorem FZ {L:List Nd} {d:List Nat} {N:Nat} (hB:db L N d) {m p:Nat} (hm:m<N) (hN:N≤4096) (hm0:0<m) (hp:par L m=p) (hpm:p<m) {H:Hp} {t x7 id:Nat} {ch:List AV}
  (hT:kN L d H t m (.sl id 0 9 m none) ch) (hx7:H.get x7=some (.cells (gk L d m (.lit (.slice none 0 0)) cg) true)) (hn7:x7<H.n) (h7t:x7≠t) (h7s:x7≠id) (h7c:∀ (i:Nat) (c:AV),ch[i]?=some c→¬ own c x7)
  {K:AV→Hp→Prop} (h:∀ H' sl' ch',kN L d H' t (m+1) sl' ch'→K (I 0) H'):aX.J0 σ K (.ptr t 0) (.ptr x7 0) (I m) (.ptr id (p*9)) H:=by
 have hl:=hT.len
 obtain ⟨c,hc⟩:=cb (l:=ch) (k:=p) (by omega)
 have hg:∃ ex,H.get id=some (.cells (dM L d ch cg).flatten ex)∧id<H.n:=by
  have:=hT.rows
  have hlen:=eI L d ch cg
  generalize dM L d ch cg=rr at this hlen
  cases this with
  | sl hlt hg hsz=>exact ⟨_,hg,hlt⟩
 obtain ⟨ex,hg,hidn⟩:=hg
 obtain ⟨r5,h5⟩:=kP (L:=L) (d:=d) (low:=cg) hc 5 (by omega)
 have hgc:=hT.kid p c hc
 have hlast:iC L (m+1) p=iC L m p++[m]:=by rw [nh,if_pos ⟨hm0,hp⟩]
 have hkl:(iC L m p).length≤m:=by
  have:=List.length_filter_le (fun j:Nat=>decide (0<j)&&decide (par L j=(p:Int))) (List.range m)
  simp at this
  unfold iC
  omega
 refine aX.J0_step ?_
 simp [hg,h5,gk,bz]
 refine fk hgc rfl rfl rfl (by simp; omega) (by simp; omega) fun c' H' g f=>?_
 have cid:¬ own c id:=fun h=>(hT.ns p c hc id h) rfl
 have e1:H'.get id=some (.cells (dM L d ch cg).flatten ex):=by rw [f.same id hidn cid]; exact hg
 have hlen:p*9+5<(dM L d ch cg).flatten.length:=by
  rw [df my,eI]; omega
 simp [g.st (id:=id) (off:=p*9+5) e1 hlen]
 have hput:=xo (L:=L) (d:=d) (low:=cg) (c':=c') hc
 rw [ml hlen] at hput
 rw [hput]
 have kl:∀ (i:Nat) (c:AV),ch[i]?=some c→∀ j,own c j→j<H.n:=fun i c hc j hj=>(hT.kid i c hc).lt hj
 have cown:∀ j,own c' j→own c j∨(H.n≤j∧j<H'.n):=f.mine
 have cset:∀ {i:Nat} {x:AV},(ch.set p c')[i]?=some x→(i≠p∧ch[i]?=some x)∨(i=p∧x=c'):=by
  intro i x hx
  rw [List.getElem?_set] at hx
  split at hx
  ·rename_i he
   split at hx
   ·cases hx; exact .inr ⟨he.symm,rfl⟩
   ·cases hx
  ·rename_i he; exact .inl ⟨fun e=>he e.symm,hx⟩
 have cid':¬ own c' id:=fun h=>by
  rcases cown id h with h | h
  ·exact cid h
  ·omega
 have ct':¬ own c' t:=fun h=>by
  rcases cown t h with h | h
  ·exact hT.nk p c hc h
  ·have:=hT.tlt; omega
 have idt:id≠t:=fun e=>hT.nt e
 refine FI hB hm hN (sl:=.sl id 0 9 m none) (ch:=ch.set p c') ?_ ?_ (by simpa using hl) ?_ ?_ hT.nt ?_ ?_ ?_ ?_ h
 ·simp; have:=f.grow; have:=hT.tlt; omega
 ·simp [Ne.symm idt]
  rw [f.same t hT.tlt (hT.nk p c hc)]; exact hT.tg
 ·have:m=(dM L d (ch.set p c') cg).length:=by rw [eI]; simpa using hl.symm
  conv=>arg 3; rw [this]
  exact .sl (ex:=ex) (by simp; have:=f.grow; omega) (by simp) my
 ·intro i x hx
  rcases cset hx with ⟨hne,hx⟩ | ⟨rfl,rfl⟩
  ·rw [nh,if_neg (fun h=>hne (by have:=h.2; rw [hp] at this; omega)),List.append_nil]
   refine (hT.kid i x hx).keep (fun j hj=>?_) (by simp; exact f.grow)
   have:j≠id:=fun e=>hT.ns i x hx j hj e.symm
   simp [this]
   exact f.same j (kl i x hx j hj) (hT.nd i p x c hne hx hc j hj)
  ·rw [hlast,List.map_append]
   refine Gs.keep (H:=H') g (fun j hj=>?_) (by simp)
   have:j≠id:=fun e=>cid' (e ▸ hj)
   simp [this]
 ·intro i x hx
  rcases cset hx with ⟨hne,hx⟩ | ⟨rfl,rfl⟩
  ·exact hT.nk i x hx
  ·exact ct'
 ·intro i x hx j hj h
  rcases cset hx with ⟨hne,hx⟩ | ⟨rfl,rfl⟩
  ·exact hT.ns i x hx j hj h
  ·exact cid' (by have h:id=j:=h; rw [h]; exact hj)
 ·intro i i' x x' hne hx hx' j hj hj'
  rcases cset hx with ⟨h1,hx⟩ | ⟨rfl,rfl⟩
  ·rcases cset hx' with ⟨h2,hx'⟩ | ⟨rfl,rfl⟩
   ·exact hT.nd i i' x x' hne hx hx' j hj hj'
   ·rename_i h3
    rcases cown j hj' with h | h
    ·exact hT.nd i i' x c hne h3 hc j hj h
    ·have:=kl i x h3 j hj; omega
  ·rcases cset hx' with ⟨h2,hx'⟩ | ⟨h3,rfl⟩
   ·rcases cown j hj with h | h
    ·exact hT.nd i i' c x' hne hc hx' j h hj'
    ·have:=kl i' x' hx' j hj'; omega
   ·exact hne h3.symm
 ·simp [h7s]
  rw [f.same x7 hn7 (h7c p c hc)]; exact hx7
theorem kN.new {L:List Nd} {d:List Nat} {H:Hp} {t m:Nat} {sl:AV} {ch:List AV} (h:kN L d H t m sl ch) {H':Hp} (hs:∀ j,j<H.n→H'.get j=H.get j) (hn:H.n≤H'.n):kN L d H' t m sl ch :=
 ⟨Nat.lt_of_lt_of_le h.tlt hn,by rw [hs t h.tlt]; exact h.tg,h.len,h.rows.keep (fun j hj=>hs j (h.rows.lt hj)) hn,fun i c hc=>(h.kid i c hc).keep (fun j hj=>hs j ((h.kid i c hc).lt hj)) hn,h.nt,h.nk,h.ns,h.nd⟩
theorem ws {L:List Nd} {m p:Nat} (hp:par L m=p) {j:Nat} {l:List Nat} (e:iC L m p=l++[j]):iG L m=j∧cS L m=(l.length:Int)+1+1:=by
 rw [qQ hp] at e
 unfold iG cS ra
 rw [e]
 simp
theorem Ge {L : List Nd} {d : List Nat} {N : Nat} (hB : db L N d) (hW : ∀ n ∈ L, lu n) {m : Nat} (hm : m < N) (hN : N ≤ 4096) {H : Hp} {t : Nat} {sl : AV} {ch : List AV} (hT : kN L d H t m sl ch)
    {K:AV→Hp→Prop} (h:∀ H' sl' ch',kN L d H' t (m+1) sl' ch'→K (I 0) H'):ai Try.prog σ gh [.ptr t 0,.agg (bz (cQ L m))] H K:=by
  have hmL:m<L.length:=Nat.lt_of_lt_of_le hm hB.le
  have hnd:cQ L m ∈ L:=by
    unfold cQ
    rw [List.getD_eq_getElem?_getD,List.getElem?_eq_getElem hmL]
    exact List.getElem_mem hmL
  have hlow:=Ez (σ:=σ) _ (hW _ hnd)
  have htn:=hT.tlt
  have t1:t≠H.n:=by omega
  have t2:t≠H.n+1:=by omega
  have hlen:=hT.rows.len
  rw [eI,hT.len] at hlen
  refine aX.run ?_
  simp
  refine aw (hlow _) ?_
  have eb:∀ c:AV,aY [I 0,Sx ⟨#[]⟩,Sx ⟨#[]⟩,.lit (.slice none 0 0),.lit (.slice none 0 0),.lit (.slice none 0 0),I 0,I 0,I 0] [(0,5,.agg (bz (cg (cQ L m)))),(7,1,I 1),(8,1,I (-1))]=some (bz (cg (cQ L m))++[.lit (.slice none 0 0),I 0,I 1,I (-1)]):=by
    intro c
    simp [aY,jn,rZ,bz,bM]
  rw [eb .any]
  have hnew:∀ (a b:Blk),kN L d ((H.new a).new b) t m sl ch:=fun a b=>hT.new (fun j hj=>by
    have:j≠H.n:=by omega
    have:j≠H.n+1:=by omega
    simp [*]) (by simp; omega)
  by_cases h0:m=0
  · subst h0
    have hr:=hB.root (by omega)
    have hpar:(cQ L 0).parent=-1:=hr.1
    simp [t1,t2,hT.tg,hlen,bz,hpar,aS]
    have hT2 := hT.new (H' := ((H.new (.cells [I (-1), Sx (cQ L 0).tag, Sx (cQ L 0).id, dY (cQ L 0).classes, .imm 2 (List.map cC (cQ L 0).attrs)] true)).new
          (.cells [I 0,Sx ⟨#[]⟩,Sx ⟨#[]⟩,.lit (.slice none 0 0),.lit (.slice none 0 0),.lit (.slice none 0 0),I 0,I 0,I 0] true)).set (H.n+1)
      (some (.cells (bz (cg (cQ L 0))++[.lit (.slice none 0 0),I 0,I 1,I (-1)]) true))) (fun j hj=>by
        have a1:j≠H.n:=by omega
        have a2:j≠H.n+1:=by omega
        simp [a1,a2]) (by simp; omega)
    have hd0:d.getD 0 0=0:=by rw [List.getD_eq_getElem?_getD,hr.2]; rfl
    refine FI hB hm hN hT2.tlt hT2.tg hT2.len hT2.rows (fun i c hc=>?_) hT2.nt hT2.nk hT2.ns hT2.nd ?_ h
    · rw [nh,if_neg (by omega),List.append_nil]; exact hT2.kid i c hc
    · unfold gk
      rw [hd0]
      simp [cS,oT,iG,ra]
  · obtain ⟨p,x,hp,hpm,hx,hdx,h256⟩:=hB.step m (by omega) hm
    have hpar:(cQ L m).parent=p:=hp
    have hm0:¬ ((m:Int)=0):=by omega
    have hm1:(0:Int)<m:=by omega
    have hp1:¬ ((p:Int)<0):=by omega
    have hp2:¬ ((m:Int)≤p):=by omega
    have hmn:¬ (m=0):=h0
    have hmp:0<m:=by omega
    obtain ⟨id,ex,rfl,hg,hidn⟩:∃ id ex,sl=.sl id 0 9 m none∧H.get id=some (.cells (dM L d ch cg).flatten ex)∧id<H.n:=by
      have:=hT.rows
      have hl:=eI L d ch cg
      rw [hT.len] at hl
      generalize dM L d ch cg=rr at this hl
      cases this with
      | nil=>simp at hl; omega
      | sl hlt hg hsz=>exact ⟨_,_,by rw [hl],hg,hlt⟩
    obtain ⟨c,hc⟩:=cb (l:=ch) (k:=p) (by rw [hT.len]; exact hpm)
    obtain ⟨r5,h5⟩:=kP (L:=L) (d:=d) (low:=cg) hc 5 (by omega)
    obtain ⟨r6,h6⟩:=kP (L:=L) (d:=d) (low:=cg) hc 6 (by omega)
    have hdp:d.getD p 0=x:=by rw [List.getD_eq_getElem?_getD,hx]; rfl
    have hdm:d.getD m 0=x+1:=by rw [List.getD_eq_getElem?_getD,hdx]; rfl
    simp only [gk,hdp] at h5 h6
    have i1:id≠H.n:=by omega
    have i2:id≠H.n+1:=by omega
    have hpi:(p:Int)<m:=by omega
    have e256:¬ ((256:Int)<(x:Int)+1):=by omega
    simp [t1,t2,hT.tg,hlen,bz,hpar,aS,hm0,hm1,hp1,hp2,hmn,hmp,mF,hpi,i1,i2,hg,h5,h6]
    have ew:wr .i64 ((x:Int)+1)=((x+1:Nat):Int):=by rw [fe (by omega) (by omega)]; rfl
    have e256':¬ ((256:Int)<((x+1:Nat):Int)):=by omega
    rw [ew,if_neg e256']
    have hG : ∃ G : Hp, G = ((((H.new (.cells [I p, Sx (cQ L m).tag, Sx (cQ L m).id, dY (cQ L m).classes, .imm 2 (List.map cC (cQ L m).attrs)] true)).new
        (.cells [I 0,Sx ⟨#[]⟩,Sx ⟨#[]⟩,.lit (.slice none 0 0),.lit (.slice none 0 0),.lit (.slice none 0 0),I 0,I 0,I 0] true)).set (H.n+1)
        (some (.cells [I (cg (cQ L m)).parent,Sx (cg (cQ L m)).tag,Sx (cg (cQ L m)).id,dY (cg (cQ L m)).classes,.imm 2 (List.map cC (cg (cQ L m)).attrs),.lit (.slice none 0 0),I 0,I 1,I (-1)] true))).set (H.n+1)
        (some (.cells [I (cg (cQ L m)).parent,Sx (cg (cQ L m)).tag,Sx (cg (cQ L m)).id,dY (cg (cQ L m)).classes,.imm 2 (List.map cC (cg (cQ L m)).attrs),.lit (.slice none 0 0),I ((x+1:Nat):Int),I 1,I (-1)] true))):=⟨_,rfl⟩
    obtain ⟨G,eG⟩:=hG
    rw [← eG]
    have G1:∀ j,j<H.n→G.get j=H.get j:=fun j hj=>by
      have a1:j≠H.n:=by omega
      have a2:j≠H.n+1:=by omega
      rw [eG]; simp [a1,a2]
    have G2:G.get (H.n+1)=some (.cells [I (cg (cQ L m)).parent,Sx (cg (cQ L m)).tag,Sx (cg (cQ L m)).id,dY (cg (cQ L m)).classes,.imm 2 (List.map cC (cg (cQ L m)).attrs),.lit (.slice none 0 0),I ((x+1:Nat):Int),I 1,I (-1)] true):=by rw [eG]; simp
    have G3:G.n=H.n+2:=by rw [eG]; rfl
    clear eG
    have hTG:=hT.new (H':=G) G1 (by omega)
    have hgG:G.get id=some (.cells (dM L d ch cg).flatten ex):=by rw [G1 id hidn]; exact hg
    have hgc:=hTG.kid p c hc
    have hkl:=hgc.len
    rw [List.length_map] at hkl
    have own7:∀ (i:Nat) (c:AV),ch[i]?=some c→¬ own c (H.n+1):=fun i c hc hj=>by
      have:=(hT.kid i c hc).lt hj; omega
    have hpl:(iC L m p).length≤m:=by
      have:=List.length_filter_le (fun j:Nat=>decide (0<j)&&decide (par L j=(p:Int))) (List.range m)
      simp at this
      unfold iC
      omega
    rcases List.eq_nil_or_concat (iC L m p) with hk | ⟨l,j,hk⟩
    · rw [hk] at hkl
      simp [hkl]
      have hs:oT L m=[]:=by rw [← qQ hp]; exact hk
      refine FZ hB hm hN hmp hp hpm hTG ?_ (by omega) (by omega) (by omega) own7 h
      rw [G2]
      unfold gk
      rw [hdm]
      simp [cS,iG,ra,hs,bz]
    · rw [List.concat_eq_append] at hk
      rw [hk,List.length_append,List.length_singleton] at hkl
      have hll:l.length+1≤m:=by rw [hk] at hpl; simpa using hpl
      obtain ⟨cid,cex,rfl,hcg⟩:∃ cid cex,c=.sl cid 0 1 (l.length+1) none∧G.get cid=some (.cells (((l++[j]).map fun j:Nat=>[I j]).flatten) cex):=by
        rw [hk] at hgc
        generalize hr:((l++[j]).map fun j:Nat=>[I (j:Int)])=rr at hgc
        have hrl:rr.length=l.length+1:=by rw [← hr]; simp
        cases hgc with
        | nil=>simp at hrl
        | sl hlt hg hsz=>exact ⟨_,_,by rw [hrl],hg⟩
      have hd:((l.map fun j:Nat=>[I (j:Int)]).flatten++[I (j:Int)]).drop l.length=[I (j:Int)]:=by
        have:(l.map fun j:Nat=>[I (j:Int)]).flatten.length=l.length:=by
          rw [df (sz:=1) (fun row hrow=>by obtain ⟨x,_,rfl⟩:=List.mem_map.1 hrow; rfl)]; simp
        rw [List.drop_append_of_le_length (by omega),List.drop_of_length_le (by omega)]
        rfl
      have e1:wr .i64 (((l.length+1:Nat):Int)+1)=(l.length:Int)+1+1:=by rw [fe (by omega) (by omega)]; omega
      have e2:wr .i64 (((l.length+1:Nat):Int) - 1)=(l.length:Int):=by rw [fe (by omega) (by omega)]; omega
      have e3:(0:Int)<((l.length+1:Nat):Int):=by omega
      have e4:(l.length:Int)<((l.length+1:Nat):Int):=by omega
      simp only [hkl,aa,eT,aj,e3,decide_true,if_true,co,kK,e1,e2]
      rw [mF (by omega) e4]
      have cid7:cid≠H.n+1:=fun e=>own7 p _ hc e
      have id7:id≠H.n+1:=i2
      have hs:=ws hp hk
      simp [hcg,hd,G2,cid7,hgG,h5,bz,id7]
      refine FZ hB hm hN hmp hp hpm (hT.new (fun j hj=>?_) ?_) ?_ ?_ (by omega) (by omega) own7 h
      · have a2:j≠H.n+1:=by omega
        simp [a2,G1 j hj]
      · simp; omega
      · simp [gk,bz]
        rw [← List.getD_eq_getElem?_getD,hdm,hs.1,hs.2]
        simp
      · simp; omega
theorem xH {L:List Nd} {d:List Nat} (hB:db L L.length d) (hW:∀ n ∈ L,lu n) (hN:L.length≤4096) {t:Nat} {K:AV→Hp→Prop} (h:∀ H sl ch,kN L d H t L.length sl ch→K (.tup [.ptr t 0,I 0]) H) :
  ∀ (k m:Nat) (H:Hp) (sl:AV) (ch:List AV),L.length - m=k→m≤L.length→kN L d H t m sl ch→eY.L0 σ K (.ptr t 0) (nds L) (I L.length) (I m) H:=by
 intro k
 induction k with
 | zero =>
  intro m H sl ch hk hm hT
  have:m=L.length:=by omega
  subst this
  refine eY.L0_step ?_
  simp
  exact h H sl ch hT
 | succ k ih =>
  intro m H sl ch hk hm hT
  have hlt:m<L.length:=by omega
  have hget:L[m]?=some (cQ L m):=by
   unfold cQ
   rw [List.getD_eq_getElem?_getD,List.getElem?_eq_getElem hlt]; rfl
  refine eY.L0_step ?_
  simp [nds,hlt,cd hget,aS]
  refine Ge hB hW hlt hN (hT.new (fun j hj=>?_) ?_) fun H' sl' ch' hT'=>?_
  ·have a1:j≠H.n:=by omega
   simp [a1]
  ·simp
  ·simp
   rw [bW (by omega)]
   exact ih (m+1) H' sl' ch' (by omega) (by omega) hT'
def elC (L:List Nd) (i:Nat):AV:=.imm 1 ((iC L L.length i).map fun j:Nat=>[I j])
def elE (L:List Nd) (d:List Nat) (i:Nat):List AV:=gk L d i (elC L i) cg
def dw (L:List Nd) (d:List Nat):AV:=.ip [.imm 9 ((List.range L.length).map (elE L d))]
theorem zY (L:List Nd) (i:Nat):bQ (elC L i)=true:=by unfold elC; simp only [bQ]; exact a_ _ (fun _=>rfl) _
theorem nQ:∀ {a b:List AV},aU a=true→aU b=true→aU (a++b)=true
 | [],b,_,h=>h
 | x::a,b,ha,hb=>by
  simp only [aU,Bool.and_eq_true] at ha
  simp only [List.cons_append,aU,ha.1,nQ ha.2 hb,Bool.and_self]
theorem tH (L:List Nd) (d:List Nat) (i:Nat):aU (elE L d i)=true:=by
 unfold elE gk
 exact nQ (jX _) (by simp only [aU,zY,bQ,Bool.and_self])
theorem cq (L:List Nd) (d:List Nat):bQ (dw L d)=true:=by
 unfold dw
 simp only [bQ,aU,a_ _ (tH L d),Bool.and_self]
theorem Fg {L:List Nd} {d:List Nat} {H:Hp} {ch:List AV} (hl:ch.length=L.length) (hk:∀ (i:Nat) (c:AV),ch[i]?=some c→Gs 1 H c ((iC L L.length i).map fun j:Nat=>[I j])) {sl:AV} (hg:Gs 9 H sl (dM L d ch cg)) :
  Fz H sl (.imm 9 ((List.range L.length).map (elE L d))):=by
 generalize hr:dM L d ch cg=rr at hg
 have hrl:rr.length=L.length:=by rw [← hr,eI,hl]
 cases hg with
 | nil =>
  have:L.length=0:=by simpa using hrl.symm
  rw [this]; exact .nil
 | sl hlt hg hsz =>
  have rowAt:∀ (i:Nat) (row:List AV),((List.range L.length).map (elE L d))[i]?=some row→∃ c,ch[i]?=some c∧row=elE L d i:=by
   intro i row h
   rw [List.getElem?_map,Option.map_eq_some_iff] at h
   obtain ⟨x,hx,rfl⟩:=h
   have hi:=(List.getElem?_eq_some_iff.1 hx).1
   simp at hi
   rw [List.getElem?_range hi] at hx
   cases hx
   obtain ⟨c,hc⟩:=cb (l:=ch) (k:=i) (by omega)
   exact ⟨c,hc,rfl⟩
  refine .sl (fun i j=>(gk L d i (ch.getD i .any) cg).getD j .any) hg (by simp [hrl]) (fun i row h=>?_) (fun i row j y h hj=>?_) (fun i row j y h hj=>?_)
  ·obtain ⟨c,_,rfl⟩:=rowAt i row h; rfl
  ·obtain ⟨c,hc,rfl⟩:=rowAt i row h
   have hj9:j<9:=by have:=(List.getElem?_eq_some_iff.1 hj).1; simpa [elE] using this
   have e:=nb (L:=L) (d:=d) (low:=cg) hc
   rw [hr] at e
   have hcd:ch.getD i .any=c:=by rw [List.getD_eq_getElem?_getD,hc]; rfl
   rw [Nat.zero_add]
   have hz:(gk L d i c cg)[j]?=some ((gk L d i c cg).getD j .any):=by
    rw [List.getD_eq_getElem?_getD,List.getElem?_eq_getElem (by simpa using hj9)]; rfl
   rw [hcd,np hsz i _ j _ e hz]
  ·obtain ⟨c,hc,rfl⟩:=rowAt i row h
   have hcd:ch.getD i .any=c:=by rw [List.getD_eq_getElem?_getD,hc]; rfl
   rw [hcd]
   have hcs:=hk i c hc
   have h5:=hcs.fz (a_ _ (fun _=>rfl) _)
   have hL:FzL H (gk L d i c cg) (elE L d i):=by
    unfold elE gk bz
    exact .cons (.refl rfl) (.cons (.refl rfl) (.cons (.refl rfl) (.cons (.refl (kX _)) (.cons (.refl (by simp only [bQ]; exact a_ _ (fun _=>rfl) _)) (.cons h5 (.cons (.refl rfl) (.cons (.refl rfl) (.cons (.refl rfl) .nil))))))))
   obtain ⟨x,hx,hf⟩:=hL.get.2 j y hj
   rw [List.getD_eq_getElem?_getD,hx]
   exact hf
theorem qN {L:List Nd} {d:List Nat} (hB:db L L.length d) (hW:∀ n ∈ L,lu n) (hN:L.length≤4096) (H:Hp):aH Try.prog σ iz [nds L] H (.tup [dw L d,I 0]) H:=by
 obtain ⟨Q,hQ⟩:∃ Q:AV→Hp→Prop,∀ r H1,Q r H1 ↔ Fz H1 r (.tup [dw L d,I 0]):=⟨_,fun _ _=>Iff.rfl⟩
 have run:∃ r H1,aH Try.prog σ iz [nds L] Hp.empty r H1∧Q r H1:=by
  refine eY.run ?_
  have h1:¬ ((4096:Int)<(L.length:Int)):=by omega
  simp [h1,aY]
  refine xH hB hW hN (fun H sl ch hT=>?_) _ 0 _ (.lit (.slice none 0 0)) [] rfl (Nat.zero_le _) ⟨by simp,by simp,rfl,.nil,fun i c h=>by simp at h,fun h=>h,fun i c h=>by simp at h,fun i c h=>by simp at h,fun i i' c c' _ h=>by simp at h⟩
  rw [hQ]
  have hr:=Fg hT.len hT.kid hT.rows
  refine .tup rfl fun j x y hx hy=>?_
  match j with
  | 0 =>
   simp at hx hy
   subst hx; subst hy
   refine .ptr (fun _=>sl) hT.tg (fun j y hj=>?_) (fun j y hj=>?_)
   ·have:j=0:=by have:=(List.getElem?_eq_some_iff.1 hj).1; simp at this; omega
    subst this; simp
   ·have:j=0:=by have:=(List.getElem?_eq_some_iff.1 hj).1; simp at this; omega
    subst this
    simp at hj
    rw [← hj]; exact hr
  | 1=>simp at hx hy; subst hx; subst hy; exact .refl rfl
  | j+2=>simp at hx
 obtain ⟨r,H1,hg,hf⟩:=run
 rw [hQ] at hf
 exact hg.frzR (by simp [aU]) hf H
end Go.Proofs.Ythmaggcfghjmfaa.Ev
namespace Go.Proofs.Ythmaggcfghjmfaa.Ev
set_option linter.unusedVariables false
set_option linter.unusedSimpArgs false
variable {σ:Sig}
def ql (x:Nat):List AV:=[I (x:Int)]
structure JT (L:List Nd) (H:Hp) (t m:Nat) (d:List Nat) (n e:AV):Prop where
 tlt:t<H.n
 tg:H.get t=some (.cells [n,e] true)
 rn:Gs 5 H n ((L.take m).map fun x=>bz (cg x))
 re:Gs 1 H e (d.map ql)
 nt:¬ own n t
 et:¬ own e t
 ne:∀ j,own n j→¬ own e j
theorem db.uniq {L:List Nd} {m N:Nat} {d d':List Nat} (h:db L m d) (h':db L N d') (hm:m≤N):∀ (n i:Nat),i<n→i<m→d[i]?=d'[i]?:=by
 intro n
 induction n with
 | zero=>intro i hi; omega
 | succ n ih =>
  intro i hi him
  by_cases h0:i=0
  ·subst h0
   rw [(h.root (by omega)).2,(h'.root (by omega)).2]
  ·obtain ⟨p,x,e1,e2,e3,e4,_⟩:=h.step i (by omega) him
   obtain ⟨p',x',f1,f2,f3,f4,_⟩:=h'.step i (by omega) (by omega)
   have:p=p':=by omega
   subst this
   have:=ih p (by omega) (by omega)
   rw [e3,f3] at this
   cases this
   rw [e4,f4]
theorem xA {L:List Nd} (hW:∀ n ∈ L,lu n) (hN:L.length≤4096) {t:Nat} {K:AV→Hp→Prop} (hErr:(∀ d,¬ db L L.length d)→∀ e:Int,e≠0→∀ H,K (.tup [.lit (.pointer none),I e]) H)
  (h:∀ H d n e,db L L.length d→JT L H t L.length d n e→K (.tup [.ptr t 0,I 0]) H) :
  ∀ (k m:Nat) (H:Hp) (d:List Nat) (n e y7:AV),L.length - m=k→m≤L.length→db L m d→JT L H t m d n e→bt.L0 σ K (nds L) (.ptr t 0) (I m) y7 H:=by
 intro k
 induction k with
 | zero =>
  intro m H d n e y7 hk hm hB hR
  have:m=L.length:=by omega
  subst this
  refine bt.L0_step ?_
  simp
  exact h H d n e hB hR
 | succ k ih =>
  intro m H d n e y7 hk hm hB hR
  have hlt:m<L.length:=by omega
  have hLm:L[m]=cQ L m:=by
   unfold cQ
   rw [List.getD_eq_getElem?_getD,List.getElem?_eq_getElem hlt]; rfl
  have hget:L[m]?=some (cQ L m):=by rw [List.getElem?_eq_getElem hlt,hLm]
  have hmem:cQ L m ∈ L:=List.mem_of_getElem? hget
  have hdl:=hB.len
  have next:∀ x:Nat,(x≤256→db L (m+1) (d++[x]))→(256<x→∀ d,¬ db L L.length d)→bt.J1 σ K (nds L) (.ptr t 0) (I m) (I (x:Int)) H:=by
   intro x hx hx'
   refine bt.J1_step ?_
   simp
   split
   ·rename_i hx256
    exact hErr (hx' (by omega)) 11 (by decide) H
   ·rename_i hx256
    have hB':=hx (by omega)
    simp [hR.tg,nds,cd hget]
    refine aw (EO _ (hW _ hmem) _) ?_
    simp [hR.tg]
    have t1:t≠H.n:=by have:=hR.tlt; omega
    refine nr (y:=.agg (bz (cg (cQ L m)))) (by simp [t1,hR.tg]) hR.rn rfl rfl (by simp) (by simp; omega) (by simp; omega) fun n' H' g f=>?_
    have ht':H'.get t=some (.cells [n,e] true):=by rw [f.same t hR.tlt hR.nt]; exact hR.tg
    have nt':¬ own n' t:=fun h=>by
     rcases f.mine t h with h | h
     ·exact hR.nt h
     ·have:=hR.tlt; omega
    have hre:Gs 1 H' e (d.map ql):=hR.re.keep (fun j hj=>f.same j (hR.re.lt hj) (fun h=>hR.ne j h hj)) f.grow
    have hne:∀ j,own n' j→¬ own e j:=fun j h h'=>by
     rcases f.mine j h with h | h
     ·exact hR.ne j h h'
     ·have:=hR.re.lt h'; omega
    simp [g.st (id:=t) (off:=0) ht' (by simp)]
    have hre2:Gs 1 (H'.set t (some (.cells [n',e] true))) e (d.map ql):=hre.keep (fun j hj=>by
     have:j≠t:=fun h=>hR.et (h ▸ hj)
     simp [this]) (by simp)
    refine fk hre2 rfl rfl rfl (by simp; omega) (by simp; omega) fun e' H2 g2 f2=>?_
    have tl2:t<(H'.set t (some (.cells [n',e] true))).n:=by simp; have:=f.grow; have:=hR.tlt; omega
    have ht2:H2.get t=some (.cells [n',e] true):=by rw [f2.same t tl2 hR.et]; simp
    have et':¬ own e' t:=fun h=>by
     rcases f2.mine t h with h | h
     ·exact hR.et h
     ·omega
    simp [g2.st (id:=t) (off:=1) ht2 (by simp)]
    rw [bW (by omega)]
    have hg2n:=f2.grow
    simp at hg2n
    refine ih (m+1) _ (d++[x]) n' e' _ (by omega) (by omega) hB' ⟨?_,?_,?_,?_,nt',et',?_⟩
    ·simp; have:=f.grow; have:=hR.tlt; omega
    ·simp
    ·rw [lD hlt,hLm]
     refine g.keep (fun j hj=>?_) (by simp; omega)
     have a1:j≠t:=fun h=>nt' (h ▸ hj)
     have a2:j<(H'.set t (some (.cells [n',e] true))).n:=by simp; exact g.lt hj
     have:=f2.same j a2 (hne j hj)
     simp [a1] at this ⊢
     exact this
    ·rw [List.map_append]
     refine Gs.keep (H:=H2) g2 (fun j hj=>?_) (by simp)
     have a1:j≠t:=fun h=>et' (h ▸ hj)
     simp [a1]
    ·intro j hj h'
     rcases f2.mine j h' with h | h
     ·exact hne j hj h
     ·have:=g.lt hj; simp at h; omega
  refine bt.L0_step ?_
  simp [nds,hlt,cd hget]
  have hpar:(cQ L m).parent=par L m:=rfl
  rw [hpar]
  by_cases h0:m=0
  ·subst h0
   simp
   split
   ·rename_i hp
    rw [show (AV.imm 5 (L.map bz))=nds L from rfl]
    refine next 0 (fun _=>?_) (fun h=>by omega)
    have hd:d=[]:=List.length_eq_zero_iff.1 hdl
    subst hd
    exact .first hlt hp
   ·rename_i hp
    exact hErr (fun d' hB'=>hp (hB'.root hlt).1) 10 (by decide) H
  ·have hm1:¬ ((m:Int)=0):=by omega
   have hm2:(0:Int)<m:=by omega
   have hm3:0<m:=by omega
   simp [h0,hm1,hm2,hm3]
   split
   ·rename_i hp
    exact hErr (fun d' hB'=>by obtain ⟨p,x,e1,e2,_⟩:=hB'.step m hm3 hlt; omega) 10 (by decide) H
   split
   ·rename_i _ hp
    exact hErr (fun d' hB'=>by obtain ⟨p,x,e1,e2,_⟩:=hB'.step m hm3 hlt; omega) 10 (by decide) H
   ·rename_i hp1 hp2
    obtain ⟨p,hp⟩:∃ p:Nat,par L m=p:=⟨(par L m).toNat,by omega⟩
    rw [hp] at hp2 ⊢
    have hpm:p<m:=by omega
    obtain ⟨x,hx⟩:=cb (l:=d) (k:=p) (by omega)
    obtain ⟨id,ex,he,hg⟩:∃ id ex,e=.sl id 0 1 d.length none∧H.get id=some (.cells (d.map ql).flatten ex):=by
     have:=hR.re
     generalize hr:d.map ql=rr at this
     have hrl:rr.length=d.length:=by rw [← hr]; simp
     cases this with
     | nil=>simp at hrl; omega
     | sl hlt hg hsz=>exact ⟨_,_,by rw [hrl],hg⟩
    have hdrop:∃ r,((d.map ql).flatten).drop p=I (x:Int)::r:=by
     have h1:∀ r ∈ d.map ql,r.length=1:=fun r hr=>by obtain ⟨y,_,rfl⟩:=List.mem_map.1 hr; rfl
     have h2:=jz h1 (w:=p) (by simp; omega)
     rw [Nat.mul_one] at h2
     have h3:(d.map ql)[p]'(by simp; omega)=ql x:=by
      rw [List.getElem_map]
      rw [List.getElem?_eq_getElem (by omega)] at hx
      rw [Option.some.inj hx]
     rw [h3] at h2
     exact ⟨_,h2⟩
    obtain ⟨r,hdrop⟩:=hdrop
    have e1:wr .i64 ((x:Int)+1)=((x+1:Nat):Int):=by
     have:x≤256:=by
      by_cases hp0:p=0
      ·subst hp0
       have:=(hB.root hm3).2
       rw [hx] at this
       cases this
       omega
      ·obtain ⟨_,y,_,_,_,h4,h5⟩:=hB.step p (by omega) hpm
       rw [hx] at h4
       cases h4
       omega
     rw [fe (by omega) (by omega)]; rfl
    simp [hR.tg,he]
    rw [mF (by omega) (by omega)]
    simp [hg,hdrop]
    rw [e1,show (AV.imm 5 (L.map bz))=nds L from rfl]
    have:=next (x+1) (fun h256=>hB.next hm3 hlt hp hpm hx h256) fun h d' hB'=>by
     obtain ⟨p',x',f1,f2,f3,f4,f5⟩:=hB'.step m hm3 hlt
     have e2:p=p':=by omega
     subst e2
     have e3:=hB.uniq hB' (by omega) (p+1) p (by omega) hpm
     rw [hx,f3] at e3
     cases e3
     omega
    exact this
def A3 (L:List Nd) (d:List Nat):AV:=.ip [nds (L.map cg),.imm 1 (d.map ql)]
theorem xq (L:List Nd) (d:List Nat):bQ (A3 L d)=true:=by
 unfold A3
 simp only [bQ,aU,zt,a_ _ (show ∀ x,aU (ql x)=true from fun _=>rfl),Bool.and_self]
theorem xr (L:List Nd) (hW:∀ n ∈ L,lu n):((L.length≤4096→∀ d,¬ db L L.length d)∧∃ e:Int,e≠0∧∀ H,aH Try.prog σ fI [nds L] H (.tup [.lit (.pointer none),I e]) H) ∨
  (∃ d,L.length≤4096∧db L L.length d∧∀ H,aH Try.prog σ fI [nds L] H (.tup [A3 L d,I 0]) H):=by
 by_cases hN:L.length≤4096
 ·obtain ⟨Q,hQ⟩:∃ Q:AV→Hp→Prop,∀ r H1,Q r H1 ↔ (((∀ d,¬ db L L.length d)∧∃ e:Int,e≠0∧r=.tup [.lit (.pointer none),I e])∨∃ d,db L L.length d∧Fz H1 r (.tup [A3 L d,I 0])):=⟨_,fun _ _=>Iff.rfl⟩
  have run:∃ r H1,aH Try.prog σ fI [nds L] Hp.empty r H1∧Q r H1:=by
   refine bt.run ?_
   have h1:¬ ((4096:Int)<(L.length:Int)):=by omega
   simp [h1,aY]
   refine xA hW hN (fun hnb e he H=>by rw [hQ]; exact .inl ⟨hnb,e,he,rfl⟩) (fun H d n e hB hR=>?_) _ 0 _ [] (.lit (.slice none 0 0)) (.lit (.slice none 0 0)) _ rfl (Nat.zero_le _) (db.nil L)
    ⟨by simp,by simp,by simpa using Gs.nil,.nil,fun h=>h,fun h=>h,fun j h=>h.elim⟩
   rw [hQ]
   refine .inr ⟨d,hB,.tup rfl fun j x y hx hy=>?_⟩
   have rn:=hR.rn
   rw [List.take_length] at rn
   match j with
   | 0 =>
    simp at hx hy
    subst hx; subst hy
    have f1:=rn.fz (a_ _ (fun x=>jX (cg x)) _)
    have f2:=hR.re.fz (a_ _ (fun _=>rfl) _)
    refine .ptr (fun j=>[n,e].getD j .any) hR.tg (fun j y hj=>?_) (fun j y hj=>?_)
    ·have hl:=(List.getElem?_eq_some_iff.1 hj).1
     match j with
     | 0=>simp
     | 1=>simp
     | j+2=>simp at hl; omega
    ·match j with
     | 0=>simp at hj; rw [← hj]; simpa [nds,Function.comp_def] using f1
     | 1=>simp at hj; rw [← hj]; exact f2
     | j+2=>simp at hj
   | 1=>simp at hx hy; subst hx; subst hy; exact .refl rfl
   | j+2=>simp at hx
  obtain ⟨r,H1,hg,hf⟩:=run
  rw [hQ] at hf
  rcases hf with ⟨hnb,e,he,rfl⟩ | ⟨d,hB,hf⟩
  ·exact .inl ⟨fun _=>hnb,e,he,fun H=>hg.over (by simp [aU]) (by simp [fD,gP]) H⟩
  ·exact .inr ⟨d,hN,hB,fun H=>hg.frzR (by simp [aU]) hf H⟩
 ·have run:∃ r H1,aH Try.prog σ fI [nds L] Hp.empty r H1∧r=.tup [.lit (.pointer none),I 3]:=by
   refine bt.run ?_
   have h1:((4096:Int)<(L.length:Int)):=by omega
   simp [h1]
  obtain ⟨r,H1,hg,rfl⟩:=run
  exact .inl ⟨fun h=>absurd h hN,3,by decide,fun H=>hg.over (by simp [aU]) (by simp [fD,gP]) H⟩
end Go.Proofs.Ythmaggcfghjmfaa.Ev
namespace Go.Proofs.Ythmaggcfghjmfaa.Ev
set_option linter.unusedVariables false
set_option linter.unusedSimpArgs false
variable {σ:Sig}
theorem qA {n k:Nat} (h:k<n):(List.range n)[k]?=some k:=by
 rw [List.getElem?_range h]
theorem vR (L:List Nd) (d:List Nat) (hN:L.length≤4096) {e:Nat} (he:e<L.length) (H:Hp):aH Try.prog σ dF [dw L d,I (e:Int)] H (.agg (elE L d e)) H:=by
 obtain ⟨Q,hQ⟩:∃ Q:AV→Hp→Prop,∀ r H1,Q r H1 ↔ r=.agg (elE L d e):=⟨_,fun _ _=>Iff.rfl⟩
 have run:∃ r H1,aH Try.prog σ dF [dw L d,I (e:Int)] Hp.empty r H1∧Q r H1:=by
  refine kz.run ?_
  have h1:¬ ((e:Int)<0):=by omega
  have h2:¬ ((L.length:Int)≤e):=by omega
  have h3:¬ (L.length≤e):=by omega
  have hl:(elE L d e).length=9:=rfl
  have ho:(elE L d e).all AV.one=true:=by simp [elE,gk,bz,elC]
  have ho':∀ x ∈ elE L d e,AV.one x=true:=List.all_eq_true.1 ho
  simp [dw,h1,h2,h3,cd (qA he)]
  simp only [cB hl,aa]
  simp [hl,aS]
  rw [if_pos ho',aa]
  simp [cB hl,hQ]
 obtain ⟨r,H1,hg,hr⟩:=run
 rw [hQ] at hr
 subst hr
 exact hg.frzR (by simp [aU,cq,bQ]) (.refl (by simp only [bQ]; exact tH L d e)) H
theorem Ec (L:List Nd) (d:List Nat) (hN:L.length≤4096) {e:Nat} (he:e<L.length) (H:Hp):aH Try.prog σ eD [dw L d,I (e:Int)] H (.agg (bz (cg (cQ L e)))) H:=by
 obtain ⟨Q,hQ⟩:∃ Q:AV→Hp→Prop,∀ r H1,Q r H1 ↔ r=.agg (bz (cg (cQ L e))):=⟨_,fun _ _=>Iff.rfl⟩
 have run:∃ r H1,aH Try.prog σ eD [dw L d,I (e:Int)] Hp.empty r H1∧Q r H1:=by
  refine jp.run ?_
  simp
  refine aw (vR L d hN he _) ?_
  have:(elE L d e).take 5=bz (cg (cQ L e)):=rfl
  simp [this,aS,hQ]
  rw [aS (by simp),Iq]
  rfl
 obtain ⟨r,H1,hg,hr⟩:=run
 rw [hQ] at hr
 subst hr
 exact hg.frzR (by simp [aU,cq,bQ]) (.refl (by simp only [bQ]; exact jX _)) H
theorem nG (L:List Nd) (d:List Nat) (hN:L.length≤4096) {e:Nat} (he:e<L.length) (H:Hp):aH Try.prog σ dq [dw L d,I (e:Int)] H (I (par L e)) H:=by
 refine bP (fun K hK=>hJ.run ?_) (by simp [aU,cq,bQ]) rfl H
 have h1:¬ ((e:Int)<0):=by omega
 have h2:¬ ((L.length:Int)≤e):=by omega
 have h3:¬ (L.length≤e):=by omega
 simp [dw,h1,h2,h3,cd (qA he),elE,gk,bz]
 exact hK _
theorem mi (L:List Nd) (d:List Nat) (hN:L.length≤4096) {e:Nat} (he:e<L.length) (H:Hp):aH Try.prog σ cW [dw L d,I (e:Int)] H (I (cS L e)) H:=by
 refine bP (fun K hK=>iF.run ?_) (by simp [aU,cq,bQ]) rfl H
 refine aw (vR L d hN he _) ?_
 simp [elE,gk,bz]
 exact hK _
theorem wn (L:List Nd) (d:List Nat) (hN:L.length≤4096) {e:Nat} (he:e<L.length) (H:Hp):aH Try.prog σ eQ [dw L d,I (e:Int)] H (I (iG L e)) H:=by
 refine bP (fun K hK=>hY.run ?_) (by simp [aU,cq,bQ]) rfl H
 refine aw (vR L d hN he _) ?_
 simp [elE,gk,bz]
 exact hK _
def qj (L:List Nd) (e k:Nat):Int:=match (iC L L.length e)[k]? with | some j=>j | none=>-1
theorem sO (L:List Nd) (d:List Nat) (hN:L.length≤4096) {e k:Nat} (he:e<L.length) (H:Hp):aH Try.prog σ eg [dw L d,I (e:Int),I (k:Int)] H (I (qj L e k)) H:=by
 refine bP (fun K hK=>iE.run ?_) (by simp [aU,cq,bQ]) rfl H
 refine aw (vR L d hN he _) ?_
 simp [elE,gk,bz,elC]
 split
 ·rename_i h
  have hget:(iC L L.length e)[k]?=some (iC L L.length e)[k]:=List.getElem?_eq_getElem h
  simp [cd hget]
  have:=hK Hp.empty
  simpa [qj,hget] using this
 ·rename_i h
  have hget:(iC L L.length e)[k]?=none:=List.getElem?_eq_none (by omega)
  have:=hK Hp.empty
  simpa [qj,hget] using this
theorem Hc (L:List Nd) (d:List Nat) (H:Hp):aH Try.prog σ fX [dw L d] H (I (L.length:Int)) H:=by
 refine bP (fun K hK=>jO.run ?_) (by simp [aU,cq]) rfl H
 simp [dw]
 exact hK _
theorem JZ (L:List Nd) (d:List Nat) (e:Int) (H:Hp):aH Try.prog σ jU [dw L d,I e] H (Bo (decide (0≤e)&&decide (e<L.length))) H:=by
 refine bP (fun K hK=>pm.run ?_) (by simp [aU,cq,bQ]) rfl H
 have e1:iO .neq (dw L d) (.lit (.pointer none))=some (Bo true):=rfl
 rw [e1]
 simp
 split
 ·rename_i h
  refine aw (Hc L d _) ?_
  simp
  simpa [h] using hK Hp.empty
 ·rename_i h
  simpa [h] using hK Hp.empty
def wb (L:List Nd) (e:Nat):Bool:=decide (par L e<0)||decide (qj L (par L e).toNat (cS L e).toNat<0)
theorem sj {L:List Nd} {N:Nat} {d:List Nat} (hB:db L N d) {e:Nat} (he:e<N):par L e=-1∨∃ p:Nat,par L e=p∧p<e:=by
 by_cases h0:e=0
 ·subst h0; exact .inl (hB.root he).1
 ·obtain ⟨p,x,h1,h2,_⟩:=hB.step e (by omega) he
  exact .inr ⟨p,h1,h2⟩
end Go.Proofs.Ythmaggcfghjmfaa.Ev
namespace Go.Proofs.Ythmaggcfghjmfaa.Ev
set_option linter.unusedVariables false
set_option linter.unusedSimpArgs false
variable {σ:Sig}
def mK (σ:Sig):Prop:=∀ (s t:ByteArray) (H:Hp),s.data.size<4294967281→aH Try.prog σ iB [Sx s,Sx t] H (Bo (decide (0≤Go.Lib.index (tl s) (tl t)))) H
theorem sZ (c:UInt8) (H:Hp):aH Try.prog σ gO [.lit (.int .u8 c.toNat)] H (Bo (wht c)) H:=by
  refine bP (fun K hK=>kG.run ?_) (by simp [aU,bQ]) rfl H
  have hK:=hK Hp.empty
  simp only [bT,aa,aj,decide_eq_true_eq]
  split
  · rename_i h
    rwa [show wht c = true by have : c.toNat = 9 := by omega
                              simp [wht,this]] at hK
  rename_i h9
  split
  · rename_i h
    rwa [show wht c = true by have : c.toNat = 10 := by omega
                              simp [wht,this]] at hK
  rename_i h10
  split
  · rename_i h
    rwa [show wht c = true by have : c.toNat = 12 := by omega
                              simp [wht,this]] at hK
  rename_i h12
  split
  · rename_i h
    rwa [show wht c = true by have : c.toNat = 13 := by omega
                              simp [wht,this]] at hK
  rename_i h13
  have e:wht c=decide ((c.toNat:Int)=32):=by
    have a9:¬ c.toNat=9:=by omega
    have a10:¬ c.toNat=10:=by omega
    have a12:¬ c.toNat=12:=by omega
    have a13:¬ c.toNat=13:=by omega
    by_cases h:c.toNat=32
    · simp [wht,h]
    · have h':¬ ((c.toNat:Int)=32):=by omega
      simp [wht,a9,a10,a12,a13,h,h']
  rwa [e] at hK
theorem Dd (s p:ByteArray) (H:Hp):aH Try.prog σ ck [Sx s,Sx p] H (Bo (sM (tl s) (tl p))) H:=by
 refine bP (fun K hK=>cZ.run ?_) (by simp [aU,bQ]) rfl H
 simp only [ik,aa,iR,aj,decide_eq_true_eq]
 split
 ·rename_i h
  rw [vF (by omega),aa]
  simp only [jw,aa]
  have:=Cs (tl s) (tl p) (by rw [gF,gF]; omega)
  rw [gF,Az] at this
  rw [this]
  exact hK _
 ·rename_i h
  have:=As (s:=tl s) (p:=tl p) (by rw [gF,gF]; omega)
  rw [this] at hK
  exact hK _
theorem yu (s p:ByteArray) (H:Hp):aH Try.prog σ dx [Sx s,Sx p] H (Bo (sM (tl s) (tl p))) H :=
 bP (fun K hK=>fU.run (aw (Dd s p _) (hK _))) (by simp [aU,bQ]) rfl H
theorem Dp (s p:ByteArray) (hs:s.data.size<9000000000000000000) (H:Hp):aH Try.prog σ cm [Sx s,Sx p] H (Bo (uZ (tl s) (tl p))) H:=by
 refine bP (fun K hK=>cV.run ?_) (by simp [aU,bQ]) rfl H
 simp only [ik,aa,iR,aj,decide_eq_true_eq]
 split
 ·rename_i h
  simp only [kK,aa]
  have e:wr .i64 ((s.data.size:Int) - p.data.size)=((s.data.size - p.data.size:Nat):Int):=by rw [fe (by omega) (by omega)]; omega
  rw [e,vQ (by omega),aa]
  simp only [jw,aa]
  have:=BH (tl s) (tl p) (by rw [gF,gF]; omega)
  rw [gF,gF,Az] at this
  rw [this]
  exact hK _
 ·rename_i h
  have:=yF (s:=tl s) (p:=tl p) (by rw [gF,gF]; omega)
  rw [this] at hK
  exact hK _
theorem Ia (s p:ByteArray) (hs:s.data.size<9000000000000000000) (H:Hp):aH Try.prog σ d8 [Sx s,Sx p] H (Bo (uZ (tl s) (tl p))) H :=
 bP (fun K hK=>fT.run (aw (Dp s p hs _) (hK _))) (by simp [aU,bQ]) rfl H
def rO (l:List ByteArray) (s:ByteArray):Bool:=l.any fun x=>decide (x=s)
theorem Iw {l:List ByteArray} (hl:l.length≤reachBytes) {s:ByteArray} {K:AV→Hp→Prop}:∀ (m k:Nat) (H:Hp),l.length - m=k→m≤l.length→(∀ H,K (Bo (rO (l.drop m) s)) H)→dG.L0 σ K (Sx s) (dY l) (I l.length) (I m) H:=by
 intro m k
 revert m
 induction k with
 | zero =>
  intro m H hk hm hK
  have:m=l.length:=by omega
  subst this
  refine dG.L0_step ?_
  simp
  simpa [rO] using hK H
 | succ k ih =>
  intro m H hk hm hK
  have hlt:m<l.length:=by omega
  obtain ⟨x,hx⟩:=cb hlt
  rw [cN hx] at hK
  refine dG.L0_step ?_
  simp [dY,hlt,cd hx]
  split
  ·rename_i h
   have:=hK H
   simpa [rO,h] using this
  ·rename_i h
   rw [dX hlt hl (by decide)]
   refine ih (m+1) H (by omega) (by omega) fun H'=>?_
   have:=hK H'
   simpa [rO,h] using this
theorem Hu (l:List ByteArray) (hl:l.length≤reachBytes) (s:ByteArray) (H:Hp):aH Try.prog σ je [dY l,Sx s] H (Bo (rO l s)) H:=by
 refine bP (fun K hK=>dG.run ?_) (by simp [aU,bQ]) rfl H
 simp
 exact Iw hl 0 _ _ rfl (Nat.zero_le _) (by simpa using hK)
section
attribute [local irreducible] aL.L0 aL.L1
theorem u6 {js:Nat→AV} {K:AV→Hp→Prop} {H:Hp} {w t:ByteArray} {b:AV} (g0:H.get 0=some (.cells [Sx t] true)) (g1:H.get 1=some (.cells [b] true)) (g3:H.get 3=some (.loop (bq.R0 js (.ptr 0 0) (.ptr 1 0)) .ready none))
  (hT:w=t→K (Bo false) (((H.set 3 (some (.loop (bq.R0 js (.ptr 0 0) (.ptr 1 0)) .busy none))).set 1 (some (.cells [Bo true] true))).set 3 (some (.loop (bq.R0 js (.ptr 0 0) (.ptr 1 0)) .done (some .ret)))))
  (hF:w≠t→K (Bo true) ((H.set 3 (some (.loop (bq.R0 js (.ptr 0 0) (.ptr 1 0)) .busy none))).set 3 (some (.loop (bq.R0 js (.ptr 0 0) (.ptr 1 0)) .ready none)))):jj Try.prog σ (.yl 3) [Sx w] H K:=by
 refine bq.R0_round g3 ⟨g3,?_⟩
 simp only [aa,bA,ax]
 simp only [show ¬ ((0:Nat)=3) by decide,if_false,g0,bK,List.drop_zero,jb,aa,jw,aj,decide_eq_true_eq]
 split
 ·rename_i h
  simp only [vV,ax,show ¬ ((1:Nat)=3) by decide,if_false,g1,cp]
  rw [if_pos (by simp),aa]
  refine ⟨by simp,?_⟩
  simpa using hT h
 ·rename_i h
  exact ⟨by simp,hF h⟩
theorem ld2 {H:Hp} {id:Nat} {x:AV} (g:H.get id=some (.cells [x] true)):ldA false 1 H (.ptr id 0)=some x:=by simp [g]
theorem zL {js:Nat→AV} {K:AV→Hp→Prop} {t:ByteArray} {b:AV} {N:Nat} (hN:N<9000000000000000000):∀ (f:Nat) (l:List UInt8) (H:Hp) (y3:AV),l.length<f→l.length≤N→H.get 0=some (.cells [Sx t] true)→H.get 1=some (.cells [b] true)→H.get 2=some (.cells [Sx (mk l)] true)→H.get 3=some (.loop (bq.R0 js (.ptr 0 0) (.ptr 1 0)) .ready none) →
  (tl t ∈ kU l→∀ H,H.get 1=some (.cells [Bo true] true)→H.get 3=some (.loop (bq.R0 js (.ptr 0 0) (.ptr 1 0)) .done (some .ret))→K (.tup []) H) →
  (tl t ∉ kU l→∀ H,H.get 1=some (.cells [b] true)→H.get 3=some (.loop (bq.R0 js (.ptr 0 0) (.ptr 1 0)) .ready none)→K (.tup []) H) →
  aL.L0 σ K (.yl 3) (.ptr 2 0) y3 H:=by
 intro f
 induction f with
 | zero=>intro l H y3 h; omega
 | succ f ih =>
  intro l H y3 hf hlN g0 g1 g2 g3 hT hF
  refine aL.L0_step ?_
  simp only [ld2 g2,aa,G8,aj]
  by_cases hl:l=[]
  ·subst hl
   simp only [show (mk []=(⟨#[]⟩:ByteArray)) from rfl,decide_true,Bool.not_true,Bool.false_eq_true,if_false]
   exact hF (by simp [uv]) H g1 g3
  ·have hmk:¬ (mk l=⟨#[]⟩):=fun h=>hl (uX (h.trans (show (⟨#[]⟩:ByteArray)=mk [] from rfl)))
   have hpos:0<l.length:=List.length_pos_iff.2 hl
   simp only [hmk,decide_false,Bool.not_false,if_true]
   have hwl:=FK l
   rw [wV hl] at hT hF
   have hsz:(mk l).data.size=l.length:=DL l
   have rest:∀ (H:Hp),H.get 0=some (.cells [Sx t] true)→H.get 1=some (.cells [b] true)→H.get 2=some (.cells [Sx (mk l)] true)→H.get 3=some (.loop (bq.R0 js (.ptr 0 0) (.ptr 1 0)) .ready none) →
     (wl l=0∨tl t≠l.take (wl l)) →
     bnd (ldA false 1 H (.ptr 2 0)) fun x23=>bnd (af .add (I (wl l:Nat)) (I 1)) fun x24=>bnd (ldA false 1 H (.ptr 2 0)) fun x25=>bnd (cG x25) fun x26=>bnd (nA [x24,x26]) fun x27=>bnd (gu x23 (some x27) none) fun x28=>bnd (stA 1 H (.ptr 2 0) x28) fun H29=>aL.L0 σ K (.yl 3) (.ptr 2 0) (I (wl l:Nat)) H29:=by
    intro H g0 g1 g2 g3 hno
    simp only [ld2 g2,aa,co,ik,hsz]
    rw [bW (by omega)]
    have hmin:nA [I ((wl l+1:Nat):Int),I (l.length:Int)]=some (I ((min (wl l+1) l.length:Nat):Int)):=by
     simp only [nA,toI,List.foldl,jV]
     congr 2
     split
     ·congr 2; omega
     ·congr 2; omega
    rw [hmin,aa,vQ (by rw [hsz]; omega),aa]
    simp only [Il,g2,cp]
    rw [if_pos (by simp),aa,nX]
    have hdrop:l.drop (min (wl l+1) l.length)=l.drop (wl l+1):=by
     by_cases h:wl l+1≤l.length
     ·rw [Nat.min_eq_left h]
     ·rw [Nat.min_eq_right (by omega),List.drop_of_length_le (Nat.le_refl _),List.drop_of_length_le (by omega)]
    rw [hdrop]
    refine ih (l.drop (wl l+1)) _ _ (by simp; omega) (by simp; omega) (by simp [g0]) (by simp [g1]) (by simp) (by simp [g3]) (fun h=>hT ?_) (fun h=>hF ?_)
    ·split
     ·rename_i h0; rw [h0] at h; exact h
     ·exact List.mem_cons_of_mem _ h
    ·split
     ·rename_i h0; rw [h0] at h; exact h
     ·rename_i h0
      rcases hno with h1 | h1
      ·exact absurd h1 h0
      ·intro hm
       rcases List.mem_cons.1 hm with h2 | h2
       ·exact h1 h2
       ·exact h h2
   have stop:∀ (H:Hp),H.get 0=some (.cells [Sx t] true)→H.get 1=some (.cells [b] true)→H.get 2=some (.cells [Sx (mk l)] true)→H.get 3=some (.loop (bq.R0 js (.ptr 0 0) (.ptr 1 0)) .ready none) →
     bnd (af .gtr (I (wl l:Nat)) (I 0)) fun x10=>ifB x10 (bnd (ldA false 1 H (.ptr 2 0)) fun x11=>bnd (gu x11 none (some (I (wl l:Nat)))) fun x12=>jj Try.prog σ (.yl 3) [x12] H fun x13 H14=>bnd (unR .not x13) fun x15=>ifB x15 (K (.tup []) H14) (bnd (ldA false 1 H14 (.ptr 2 0)) fun x16=>bnd (af .add (I (wl l:Nat)) (I 1)) fun x17=>bnd (ldA false 1 H14 (.ptr 2 0)) fun x18=>bnd (cG x18) fun x19=>bnd (nA [x17,x19]) fun x20=>bnd (gu x16 (some x20) none) fun x21=>bnd (stA 1 H14 (.ptr 2 0) x21) fun H22=>aL.L0 σ K (.yl 3) (.ptr 2 0) (I (wl l:Nat)) H22))
      (bnd (ldA false 1 H (.ptr 2 0)) fun x23=>bnd (af .add (I (wl l:Nat)) (I 1)) fun x24=>bnd (ldA false 1 H (.ptr 2 0)) fun x25=>bnd (cG x25) fun x26=>bnd (nA [x24,x26]) fun x27=>bnd (gu x23 (some x27) none) fun x28=>bnd (stA 1 H (.ptr 2 0) x28) fun H29=>aL.L0 σ K (.yl 3) (.ptr 2 0) (I (wl l:Nat)) H29):=by
    intro H g0 g1 g2 g3
    simp only [eT,aa,aj,decide_eq_true_eq]
    split
    ·rename_i h0
     have h0':wl l≠0:=by omega
     rw [if_neg h0'] at hT hF
     simp only [ld2 g2,aa]
     rw [vF (by rw [hsz]; omega),aa,nX]
     refine u6 g0 g1 g3 (fun he=>?_) (fun he=>?_)
     ·simp only [ep,aa,aj,Bool.not_false,if_true]
      refine hT ?_ _ (by simp) (by simp)
      rw [← he,nX]; simp
     ·simp only [ep,aa,aj,Bool.not_true,Bool.false_eq_true,if_false]
      refine rest _ ?_ ?_ ?_ ?_ (.inr fun h=>he ?_)
      ·simp [g0]
      ·simp [g1]
      ·simp [g2]
      ·simp
      ·rw [← h,Az]
    ·rename_i h0
     exact rest H g0 g1 g2 g3 (.inl (by omega))
   have L1:∀ (m k:Nat) (H:Hp),wl l - k=m→k≤wl l→H.get 0=some (.cells [Sx t] true)→H.get 1=some (.cells [b] true)→H.get 2=some (.cells [Sx (mk l)] true)→H.get 3=some (.loop (bq.R0 js (.ptr 0 0) (.ptr 1 0)) .ready none)→aL.L1 σ K (.yl 3) (.ptr 2 0) (I (k:Int)) H:=by
    intro m
    induction m with
    | zero =>
     intro k H hm hk g0 g1 g2 g3
     have:k=wl l:=by omega
     subst this
     refine aL.L1_step ?_
     simp only [ld2 g2,aa,ik,hsz,b8,aj,decide_eq_true_eq]
     split
     ·rename_i hlt
      obtain ⟨c,hc⟩:=cb (l:=l) (k:=wl l) (by omega)
      rw [u4 (by rw [nX]; exact hc),aa]
      refine aw (sZ c H) ?_
      rw [FG hc]
      simp only [ep,aa,aj,Bool.not_true,Bool.false_eq_true,if_false]
      exact stop H g0 g1 g2 g3
     ·have:=stop H g0 g1 g2 g3
      simp only [ld2 g2,aa] at this
      exact this
    | succ m ihm =>
     intro k H hm hk g0 g1 g2 g3
     obtain ⟨c,hc,hw⟩:=FM (l:=l) (k:=k) (by omega)
     have hkl:=(List.getElem?_eq_some_iff.1 hc).1
     refine aL.L1_step ?_
     have h1:(k:Int)<l.length:=by omega
     simp only [ld2 g2,aa,ik,hsz,b8,aj,decide_eq_true_eq,h1,if_true]
     rw [u4 (by rw [nX]; exact hc),aa]
     refine aw (sZ c H) ?_
     rw [hw]
     simp only [ep,aa,aj,Bool.not_false,if_true,co]
     rw [bW (by omega)]
     exact ihm (k+1) H (by omega) (by omega) g0 g1 g2 g3
   exact L1 _ 0 H rfl (Nat.zero_le _) g0 g1 g2 g3
end
def th (s t:ByteArray):Bool:=decide (tl t ∈ kU (tl s))
theorem EB (s t:ByteArray) (hs:s.data.size<9000000000000000000) (H:Hp):aH Try.prog σ iu [Sx s,Sx t] H (Bo (th s t)) H:=by
 refine bP (fun K hK=>bq.run ?_) (by simp [aU,bQ]) rfl H
 have hbx:∀ (x:ByteArray) (H:Hp) (K:AV→Hp→Prop),eU (Sx x) H K=K (.ptr H.n 0) (H.new (.cells [Sx x] true)):=fun x H K=>pa rfl rfl H K
 rw [hbx]
 simp only [bl]
 refine kw.run ?_
 rw [hbx]
 intro js
 simp only [xF]
 refine aL.run ?_
 refine zL (js:=js) (t:=t) (b:=Bo false) (N:=(tl s).length) (by rw [gF]; exact hs) ((tl s).length+1) (tl s) _ _ (by omega) (Nat.le_refl _) (by simp [Hp.empty]) (by simp [Hp.empty]) (by simp [Hp.empty]) (by simp [Hp.empty]) (fun hm H g1 g3=>?_) (fun hm H g1 g3=>?_)
 ·have e3:H.get (((Hp.empty.new (Blk.cells [Sx t] true)).new (Blk.cells [AV.lit (Value.bool false)] true)).new (Blk.cells [Sx s] true)).n=some (.loop (bq.R0 js (.ptr 0 0) (.ptr 1 0)) .done (some .ret)):=g3
  rw [e3,zS]
  have g1':(H.set (((Hp.empty.new (Blk.cells [Sx t] true)).new (Blk.cells [AV.lit (Value.bool false)] true)).new (Blk.cells [Sx s] true)).n none).get (Hp.empty.new (Blk.cells [Sx t] true)).n=some (.cells [Bo true] true):=by
   rw [ax,if_neg (by simp [Hp.empty])]; exact g1
  rw [ld2 g1',aa]
  have:=hK (H.set (((Hp.empty.new (Blk.cells [Sx t] true)).new (Blk.cells [AV.lit (Value.bool false)] true)).new (Blk.cells [Sx s] true)).n none)
  simpa [th,hm] using this
 ·have e3:H.get (((Hp.empty.new (Blk.cells [Sx t] true)).new (Blk.cells [AV.lit (Value.bool false)] true)).new (Blk.cells [Sx s] true)).n=some (.loop (bq.R0 js (.ptr 0 0) (.ptr 1 0)) .ready none):=g3
  rw [e3,u9]
  have g1':(H.set (((Hp.empty.new (Blk.cells [Sx t] true)).new (Blk.cells [AV.lit (Value.bool false)] true)).new (Blk.cells [Sx s] true)).n none).get (Hp.empty.new (Blk.cells [Sx t] true)).n=some (.cells [Bo false] true):=by
   rw [ax,if_neg (by simp [Hp.empty])]; exact g1
  rw [vV,g1',cp,if_pos (by simp),aa,ld2 (x:=Bo false) (by simp),aa]
  have hw:th s t=false:=by simp [th,hm]
  rw [hw] at hK
  exact hK _
def emp:ByteArray:=⟨#[]⟩
def soB (s:ByteArray) (a:At):Bool :=
 if a.op=0 then true else if a.op=1 then decide (s=a.text) else if a.op=2 then !decide (a.text=emp)&&th s a.text
 else if a.op=3 then decide (s=a.text)||sM (tl s) (tl a.text++[45]) else if a.op=4 then !decide (a.text=emp)&&sM (tl s) (tl a.text)
 else if a.op=5 then !decide (a.text=emp)&&uZ (tl s) (tl a.text) else if a.op=6 then !decide (a.text=emp)&&decide (0≤Go.Lib.index (tl s) (tl a.text)) else false
structure CS (a:At):Prop where
 text:a.text.data.size≤reachBytes
theorem Jh (hC:mK σ) (s:ByteArray) (hs:s.data.size<4294967281) (a:At) (ha:CS a) (H:Hp):aH Try.prog σ jL [Sx s,.agg (bR a)] H (Bo (soB s a)) H:=by
 refine bP (fun K hK=>pr.run ?_) (by simp [aU,bQ,oC]) rfl H
 have ht:=ha.text
 rw [ed] at ht
 have g:∀ {H:Hp} {j:Nat},True:=fun {_ _}=>trivial
 simp [bR]
 unfold soB at hK
 split
 ·rename_i h; simp [h] at hK; exact hK _
 rename_i h0
 simp only [h0,if_false] at hK
 split
 ·rename_i h
  have:=hK (Hp.empty.new (.cells (bR a) true))
  rw [if_pos h] at this
  simpa [bR] using this
 rename_i h1
 simp only [h1,if_false] at hK
 split
 ·rename_i h
  simp only [h,if_true] at hK
  split
  ·rename_i he
   have he':a.text=emp:=he
   simp [he'] at hK
   exact hK _
  ·rename_i he
   have he':¬ (a.text=emp):=he
   simp [he'] at hK
   exact aw (EB s a.text (by omega) _) (hK _)
 rename_i h2
 simp only [h2,if_false] at hK
 split
 ·rename_i h
  simp only [h,if_true] at hK
  split
  ·rename_i he
   simp [he] at hK
   exact hK _
  ·rename_i he
   simp [he] at hK
   rw [HA (by show a.text.data.size+1≤_; omega),aa]
   have:=yu (σ:=σ) s (mk (tl a.text++tl ⟨#[45]⟩))
   rw [nX] at this
   exact aw (this _) (hK _)
 rename_i h3
 simp only [h3,if_false] at hK
 split
 ·rename_i h
  simp only [h,if_true] at hK
  split
  ·rename_i he
   have he':a.text=emp:=he
   simp [he'] at hK
   exact hK _
  ·rename_i he
   have he':¬ (a.text=emp):=he
   simp [he'] at hK
   exact aw (yu s a.text _) (hK _)
 rename_i h4
 simp only [h4,if_false] at hK
 split
 ·rename_i h
  simp only [h,if_true] at hK
  split
  ·rename_i he
   have he':a.text=emp:=he
   simp [he'] at hK
   exact hK _
  ·rename_i he
   have he':¬ (a.text=emp):=he
   simp [he'] at hK
   exact aw (Ia s a.text (by omega) _) (hK _)
 rename_i h5
 simp only [h5,if_false] at hK
 split
 ·rename_i h
  simp only [h,if_true] at hK
  split
  ·rename_i he
   have he':a.text=emp:=he
   simp [he'] at hK
   exact hK _
  ·rename_i he
   have he':¬ (a.text=emp):=he
   simp [he'] at hK
   exact aw (hC s a.text _ hs) (hK _)
 ·rename_i h
  simp [h] at hK
  exact hK _
def jD (l:List (ByteArray × ByteArray)) (a:At):Bool:=match l.find? fun p=>decide (p.1=a.name) with
 | some p=>soB p.2 a
 | none=>false
theorem DX (hC:mK σ) {l:List (ByteArray × ByteArray)} (hl:l.length≤reachBytes) (ht:∀ p ∈ l,p.2.data.size<4294967281) {a:At} (ha:CS a) {K:AV→Hp→Prop} {y3:Nat}:∀ (m k:Nat) (H:Hp),l.length - m=k→m≤l.length→y3<H.n→H.get y3=some (.cells (bR a) true)→(∀ H,K (Bo (jD (l.drop m) a)) H)→cX.L0 σ K (.ptr y3 0) (.imm 2 (l.map cC)) (I l.length) (I m) H:=by
 intro m k
 revert m
 induction k with
 | zero =>
  intro m H hk hm hn hg hK
  have:m=l.length:=by omega
  subst this
  refine cX.L0_step ?_
  simp
  simpa [jD] using hK H
 | succ k ih =>
  intro m H hk hm hn hg hK
  have hlt:m<l.length:=by omega
  obtain ⟨x,hx⟩:=cb hlt
  have hxl:=ht x (List.mem_of_getElem? hx)
  rw [cN hx] at hK
  have hny:y3≠H.n:=by omega
  have h1:(m:Int)<l.length:=by omega
  refine cX.L0_step ?_
  have hlx:ldL true 2 (cC x)=some (.agg (cC x)):=rfl
  simp only [b8,h1,decide_true,aa,aj,if_true,cd hx,fJ,hlx,bl]
  simp [cC,hny,hg,aS]
  simp only [bR,jb,aa,jw,aj,decide_eq_true_eq]
  split
  ·rename_i h
   refine aw (Jh hC x.2 hxl a ha _) ?_
   have:jD (x::l.drop (m+1)) a=soB x.2 a:=by simp [jD,h]
   rw [this] at hK
   exact hK _
  ·rename_i h
   rw [dX hlt hl (by decide)]
   refine ih (m+1) _ (by omega) (by omega) (by simp; omega) (by simp [hny,hg,bR]) fun H'=>?_
   have:jD (x::l.drop (m+1)) a=jD (l.drop (m+1)) a:=by simp [jD,h]
   rw [this] at hK
   exact hK _
theorem DE (hC:mK σ) (n:Nd) (hl:n.attrs.length≤reachBytes) (ht:∀ p ∈ n.attrs,p.2.data.size<4294967281) (a:At) (ha:CS a) (H:Hp):aH Try.prog σ ir [.agg (bz n),.agg (bR a)] H (Bo (jD n.attrs a)) H:=by
 refine bP (fun K hK=>cX.run ?_) (by simp [aU,bQ,oC,jX]) rfl H
 simp [bz]
 exact DX hC hl ht ha 0 _ _ rfl (Nat.zero_le _) (by simp) (by simp) (by simpa using hK)
end Go.Proofs.Ythmaggcfghjmfaa.Ev

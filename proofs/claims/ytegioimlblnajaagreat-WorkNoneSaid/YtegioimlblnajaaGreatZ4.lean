/- The walks, part 4: the evaluator, the functions, the laws. Conditions: none. -/
import Derived.Test.YtegioimlblnajaaGreatZ3
namespace Go.Proofs.YtegioimlblnajaaGreat.Ev
set_option maxRecDepth 100000
set_option maxHeartbeats 4000000
set_option linter.unusedVariables false
variable {σ:Sig} {K:AV→Hp→Prop} {H:Hp}
noncomputable def h_.code:Code:=au Tryz.f9
theorem h_.run {a0 a1 a2 a3:AV} (h:af Tryz.prog σ gJ [] H fun x1 H2=>af Tryz.prog σ fD [a0] H2 fun x3 H4=>bnd (exR x3 0) fun x5=>bnd (exR x3 1) fun x6=>bnd (unR .not x1) fun x7=>ifB x7 (K x1 H4) (af Tryz.prog σ jp [a0] H4 fun x8 H9=>ifB x8 (K x1 H9) (bnd (ai .neq x6 (I 0)) fun x10=>ifB x10 (K x1 H9) (af Tryz.prog σ hP [a0] H9 fun x11 H12=>bnd (exR x11 0) fun x13=>bnd (exR x11 1) fun x14=>af Tryz.prog σ eI [(.lit (.pointer none)),(.lit (.slice none 0 0)),a1] H12 fun x15 H16=>bnd (exR x15 0) fun x17=>bnd (exR x15 1) fun x18=>af Tryz.prog σ eI [x13,(.lit (.slice none 0 0)),a1] H16 fun x19 H20=>bnd (exR x19 0) fun x21=>bnd (exR x19 1) fun x22=>bnd (ai .geq a1 (I 1)) fun x23=>ifB x23 (bnd (ai .leq a1 (I 64)) fun x24=>af Tryz.prog σ aX [x18] H20 fun x25 H26=>bnd (ai .neq x25 (I 1)) fun x27=>ifB x27 (af Tryz.prog σ aX [x18] H26 fun x28 H29=>bnd (ai .eql x28 (I 1)) fun x30=>ifB x30 (af Tryz.prog σ aX [x22] H29 fun x31 H32=>bnd (ai .eql x31 (I 1)) fun x33=>ifB x33 (bnd (dv .eql x21 (.lit (.pointer none))) fun x34=>K x34 H32) (K (Bo false) H32)) (K (Bo false) H29)) (af Tryz.prog σ aX [x22] H26 fun x35 H36=>bnd (ai .eql x35 (I 0)) fun x37=>bnd (b8 .neq x37 x24) fun x38=>ifB x38 (af Tryz.prog σ aX [x18] H36 fun x39 H40=>bnd (ai .eql x39 (I 1)) fun x41=>ifB x41 (af Tryz.prog σ aX [x22] H40 fun x42 H43=>bnd (ai .eql x42 (I 1)) fun x44=>ifB x44 (bnd (dv .eql x21 (.lit (.pointer none))) fun x45=>K x45 H43) (K (Bo false) H43)) (K (Bo false) H40)) (bnd (unR .not x24) fun x46=>ifB x46 (af Tryz.prog σ aX [x18] H36 fun x47 H48=>bnd (ai .eql x47 (I 1)) fun x49=>ifB x49 (af Tryz.prog σ aX [x22] H48 fun x50 H51=>bnd (ai .eql x50 (I 1)) fun x52=>ifB x52 (bnd (dv .eql x21 (.lit (.pointer none))) fun x53=>K x53 H51) (K (Bo false) H51)) (K (Bo false) H48)) (bnd (dg [I 0,I 0] [(0,1,a2),(1,1,a3)]) fun l54=>af Tryz.prog σ ct [x21,(.agg l54)] H36 fun x55 H56=>bnd (az a0) fun x57=>bnd (ai .gtr x57 (I 0)) fun x58=>ifB x58 (bnd (ai .geq a2 (I 0)) fun x59=>ifB x59 (bnd (ai .lss a2 a1) fun x60=>bnd (b8 .eql x55 x60) fun x61=>ifB x61 (ifB x55 (af Tryz.prog σ aB [x21,a1] H56 fun x62 H63=>bnd (ai .eql x62 (I (-1))) fun x64=>ifB x64 (af Tryz.prog σ av [x21,(I (-1))] H63 fun x65 H66=>bnd (ai .eql x65 (I 0)) fun x67=>ifB x67 (af Tryz.prog σ ax [x21,(I (-1))] H66 fun x68 H69=>bnd (ai .eql x68 (I (-1))) fun x70=>ifB x70 (bnd (az a0) fun x71=>af Tryz.prog σ ao [x21,x71] H69 fun x72 H73=>bnd (unR .not x72) fun x74=>ifB x74 (af Tryz.prog σ ay [x21] H73 fun x75 H76=>bnd (az a0) fun x77=>bnd (ai .eql x77 (I 0)) fun x78=>bnd (b8 .eql x75 x78) fun x79=>K x79 H76) (K (Bo false) H73)) (K (Bo false) H69)) (K (Bo false) H66)) (K (Bo false) H63)) (af Tryz.prog σ bt [x21] H56 fun x80 H81=>bnd (az x80) fun x82=>bnd (ai .eql x82 (I 0)) fun x83=>ifB x83 (af Tryz.prog σ aB [x21,a1] H81 fun x84 H85=>bnd (ai .eql x84 (I (-1))) fun x86=>ifB x86 (af Tryz.prog σ av [x21,(I (-1))] H85 fun x87 H88=>bnd (ai .eql x87 (I 0)) fun x89=>ifB x89 (af Tryz.prog σ ax [x21,(I (-1))] H88 fun x90 H91=>bnd (ai .eql x90 (I (-1))) fun x92=>ifB x92 (bnd (az a0) fun x93=>af Tryz.prog σ ao [x21,x93] H91 fun x94 H95=>bnd (unR .not x94) fun x96=>ifB x96 (af Tryz.prog σ ay [x21] H95 fun x97 H98=>bnd (az a0) fun x99=>bnd (ai .eql x99 (I 0)) fun x100=>bnd (b8 .eql x97 x100) fun x101=>K x101 H98) (K (Bo false) H95)) (K (Bo false) H91)) (K (Bo false) H88)) (K (Bo false) H85)) (K (Bo false) H81))) (K (Bo false) H56)) (bnd (b8 .eql x55 (Bo false)) fun x102=>ifB x102 (ifB x55 (af Tryz.prog σ aB [x21,a1] H56 fun x103 H104=>bnd (ai .eql x103 (I (-1))) fun x105=>ifB x105 (af Tryz.prog σ av [x21,(I (-1))] H104 fun x106 H107=>bnd (ai .eql x106 (I 0)) fun x108=>ifB x108 (af Tryz.prog σ ax [x21,(I (-1))] H107 fun x109 H110=>bnd (ai .eql x109 (I (-1))) fun x111=>ifB x111 (bnd (az a0) fun x112=>af Tryz.prog σ ao [x21,x112] H110 fun x113 H114=>bnd (unR .not x113) fun x115=>ifB x115 (af Tryz.prog σ ay [x21] H114 fun x116 H117=>bnd (az a0) fun x118=>bnd (ai .eql x118 (I 0)) fun x119=>bnd (b8 .eql x116 x119) fun x120=>K x120 H117) (K (Bo false) H114)) (K (Bo false) H110)) (K (Bo false) H107)) (K (Bo false) H104)) (af Tryz.prog σ bt [x21] H56 fun x121 H122=>bnd (az x121) fun x123=>bnd (ai .eql x123 (I 0)) fun x124=>ifB x124 (af Tryz.prog σ aB [x21,a1] H122 fun x125 H126=>bnd (ai .eql x125 (I (-1))) fun x127=>ifB x127 (af Tryz.prog σ av [x21,(I (-1))] H126 fun x128 H129=>bnd (ai .eql x128 (I 0)) fun x130=>ifB x130 (af Tryz.prog σ ax [x21,(I (-1))] H129 fun x131 H132=>bnd (ai .eql x131 (I (-1))) fun x133=>ifB x133 (bnd (az a0) fun x134=>af Tryz.prog σ ao [x21,x134] H132 fun x135 H136=>bnd (unR .not x135) fun x137=>ifB x137 (af Tryz.prog σ ay [x21] H136 fun x138 H139=>bnd (az a0) fun x140=>bnd (ai .eql x140 (I 0)) fun x141=>bnd (b8 .eql x138 x141) fun x142=>K x142 H139) (K (Bo false) H136)) (K (Bo false) H132)) (K (Bo false) H129)) (K (Bo false) H126)) (K (Bo false) H122))) (K (Bo false) H56))) (bnd (b8 .eql x55 (Bo false)) fun x143=>ifB x143 (ifB x55 (af Tryz.prog σ aB [x21,a1] H56 fun x144 H145=>bnd (ai .eql x144 (I (-1))) fun x146=>ifB x146 (af Tryz.prog σ av [x21,(I (-1))] H145 fun x147 H148=>bnd (ai .eql x147 (I 0)) fun x149=>ifB x149 (af Tryz.prog σ ax [x21,(I (-1))] H148 fun x150 H151=>bnd (ai .eql x150 (I (-1))) fun x152=>ifB x152 (bnd (az a0) fun x153=>af Tryz.prog σ ao [x21,x153] H151 fun x154 H155=>bnd (unR .not x154) fun x156=>ifB x156 (af Tryz.prog σ ay [x21] H155 fun x157 H158=>bnd (az a0) fun x159=>bnd (ai .eql x159 (I 0)) fun x160=>bnd (b8 .eql x157 x160) fun x161=>K x161 H158) (K (Bo false) H155)) (K (Bo false) H151)) (K (Bo false) H148)) (K (Bo false) H145)) (af Tryz.prog σ bt [x21] H56 fun x162 H163=>bnd (az x162) fun x164=>bnd (ai .eql x164 (I 0)) fun x165=>ifB x165 (af Tryz.prog σ aB [x21,a1] H163 fun x166 H167=>bnd (ai .eql x166 (I (-1))) fun x168=>ifB x168 (af Tryz.prog σ av [x21,(I (-1))] H167 fun x169 H170=>bnd (ai .eql x169 (I 0)) fun x171=>ifB x171 (af Tryz.prog σ ax [x21,(I (-1))] H170 fun x172 H173=>bnd (ai .eql x172 (I (-1))) fun x174=>ifB x174 (bnd (az a0) fun x175=>af Tryz.prog σ ao [x21,x175] H173 fun x176 H177=>bnd (unR .not x176) fun x178=>ifB x178 (af Tryz.prog σ ay [x21] H177 fun x179 H180=>bnd (az a0) fun x181=>bnd (ai .eql x181 (I 0)) fun x182=>bnd (b8 .eql x179 x182) fun x183=>K x183 H180) (K (Bo false) H177)) (K (Bo false) H173)) (K (Bo false) H170)) (K (Bo false) H167)) (K (Bo false) H163))) (K (Bo false) H56)))))) (af Tryz.prog σ aX [x18] H20 fun x184 H185=>bnd (ai .neq x184 (I 1)) fun x186=>ifB x186 (af Tryz.prog σ aX [x18] H185 fun x187 H188=>bnd (ai .eql x187 (I 1)) fun x189=>ifB x189 (af Tryz.prog σ aX [x22] H188 fun x190 H191=>bnd (ai .eql x190 (I 1)) fun x192=>ifB x192 (bnd (dv .eql x21 (.lit (.pointer none))) fun x193=>K x193 H191) (K (Bo false) H191)) (K (Bo false) H188)) (af Tryz.prog σ aX [x22] H185 fun x194 H195=>bnd (ai .eql x194 (I 0)) fun x196=>bnd (b8 .neq x196 (Bo false)) fun x197=>ifB x197 (af Tryz.prog σ aX [x18] H195 fun x198 H199=>bnd (ai .eql x198 (I 1)) fun x200=>ifB x200 (af Tryz.prog σ aX [x22] H199 fun x201 H202=>bnd (ai .eql x201 (I 1)) fun x203=>ifB x203 (bnd (dv .eql x21 (.lit (.pointer none))) fun x204=>K x204 H202) (K (Bo false) H202)) (K (Bo false) H199)) (bnd (unR .not (Bo false)) fun x205=>ifB x205 (af Tryz.prog σ aX [x18] H195 fun x206 H207=>bnd (ai .eql x206 (I 1)) fun x208=>ifB x208 (af Tryz.prog σ aX [x22] H207 fun x209 H210=>bnd (ai .eql x209 (I 1)) fun x211=>ifB x211 (bnd (dv .eql x21 (.lit (.pointer none))) fun x212=>K x212 H210) (K (Bo false) H210)) (K (Bo false) H207)) (bnd (dg [I 0,I 0] [(0,1,a2),(1,1,a3)]) fun l213=>af Tryz.prog σ ct [x21,(.agg l213)] H195 fun x214 H215=>bnd (az a0) fun x216=>bnd (ai .gtr x216 (I 0)) fun x217=>ifB x217 (bnd (ai .geq a2 (I 0)) fun x218=>ifB x218 (bnd (ai .lss a2 a1) fun x219=>bnd (b8 .eql x214 x219) fun x220=>ifB x220 (ifB x214 (af Tryz.prog σ aB [x21,a1] H215 fun x221 H222=>bnd (ai .eql x221 (I (-1))) fun x223=>ifB x223 (af Tryz.prog σ av [x21,(I (-1))] H222 fun x224 H225=>bnd (ai .eql x224 (I 0)) fun x226=>ifB x226 (af Tryz.prog σ ax [x21,(I (-1))] H225 fun x227 H228=>bnd (ai .eql x227 (I (-1))) fun x229=>ifB x229 (bnd (az a0) fun x230=>af Tryz.prog σ ao [x21,x230] H228 fun x231 H232=>bnd (unR .not x231) fun x233=>ifB x233 (af Tryz.prog σ ay [x21] H232 fun x234 H235=>bnd (az a0) fun x236=>bnd (ai .eql x236 (I 0)) fun x237=>bnd (b8 .eql x234 x237) fun x238=>K x238 H235) (K (Bo false) H232)) (K (Bo false) H228)) (K (Bo false) H225)) (K (Bo false) H222)) (af Tryz.prog σ bt [x21] H215 fun x239 H240=>bnd (az x239) fun x241=>bnd (ai .eql x241 (I 0)) fun x242=>ifB x242 (af Tryz.prog σ aB [x21,a1] H240 fun x243 H244=>bnd (ai .eql x243 (I (-1))) fun x245=>ifB x245 (af Tryz.prog σ av [x21,(I (-1))] H244 fun x246 H247=>bnd (ai .eql x246 (I 0)) fun x248=>ifB x248 (af Tryz.prog σ ax [x21,(I (-1))] H247 fun x249 H250=>bnd (ai .eql x249 (I (-1))) fun x251=>ifB x251 (bnd (az a0) fun x252=>af Tryz.prog σ ao [x21,x252] H250 fun x253 H254=>bnd (unR .not x253) fun x255=>ifB x255 (af Tryz.prog σ ay [x21] H254 fun x256 H257=>bnd (az a0) fun x258=>bnd (ai .eql x258 (I 0)) fun x259=>bnd (b8 .eql x256 x259) fun x260=>K x260 H257) (K (Bo false) H254)) (K (Bo false) H250)) (K (Bo false) H247)) (K (Bo false) H244)) (K (Bo false) H240))) (K (Bo false) H215)) (bnd (b8 .eql x214 (Bo false)) fun x261=>ifB x261 (ifB x214 (af Tryz.prog σ aB [x21,a1] H215 fun x262 H263=>bnd (ai .eql x262 (I (-1))) fun x264=>ifB x264 (af Tryz.prog σ av [x21,(I (-1))] H263 fun x265 H266=>bnd (ai .eql x265 (I 0)) fun x267=>ifB x267 (af Tryz.prog σ ax [x21,(I (-1))] H266 fun x268 H269=>bnd (ai .eql x268 (I (-1))) fun x270=>ifB x270 (bnd (az a0) fun x271=>af Tryz.prog σ ao [x21,x271] H269 fun x272 H273=>bnd (unR .not x272) fun x274=>ifB x274 (af Tryz.prog σ ay [x21] H273 fun x275 H276=>bnd (az a0) fun x277=>bnd (ai .eql x277 (I 0)) fun x278=>bnd (b8 .eql x275 x278) fun x279=>K x279 H276) (K (Bo false) H273)) (K (Bo false) H269)) (K (Bo false) H266)) (K (Bo false) H263)) (af Tryz.prog σ bt [x21] H215 fun x280 H281=>bnd (az x280) fun x282=>bnd (ai .eql x282 (I 0)) fun x283=>ifB x283 (af Tryz.prog σ aB [x21,a1] H281 fun x284 H285=>bnd (ai .eql x284 (I (-1))) fun x286=>ifB x286 (af Tryz.prog σ av [x21,(I (-1))] H285 fun x287 H288=>bnd (ai .eql x287 (I 0)) fun x289=>ifB x289 (af Tryz.prog σ ax [x21,(I (-1))] H288 fun x290 H291=>bnd (ai .eql x290 (I (-1))) fun x292=>ifB x292 (bnd (az a0) fun x293=>af Tryz.prog σ ao [x21,x293] H291 fun x294 H295=>bnd (unR .not x294) fun x296=>ifB x296 (af Tryz.prog σ ay [x21] H295 fun x297 H298=>bnd (az a0) fun x299=>bnd (ai .eql x299 (I 0)) fun x300=>bnd (b8 .eql x297 x300) fun x301=>K x301 H298) (K (Bo false) H295)) (K (Bo false) H291)) (K (Bo false) H288)) (K (Bo false) H285)) (K (Bo false) H281))) (K (Bo false) H215))) (bnd (b8 .eql x214 (Bo false)) fun x302=>ifB x302 (ifB x214 (af Tryz.prog σ aB [x21,a1] H215 fun x303 H304=>bnd (ai .eql x303 (I (-1))) fun x305=>ifB x305 (af Tryz.prog σ av [x21,(I (-1))] H304 fun x306 H307=>bnd (ai .eql x306 (I 0)) fun x308=>ifB x308 (af Tryz.prog σ ax [x21,(I (-1))] H307 fun x309 H310=>bnd (ai .eql x309 (I (-1))) fun x311=>ifB x311 (bnd (az a0) fun x312=>af Tryz.prog σ ao [x21,x312] H310 fun x313 H314=>bnd (unR .not x313) fun x315=>ifB x315 (af Tryz.prog σ ay [x21] H314 fun x316 H317=>bnd (az a0) fun x318=>bnd (ai .eql x318 (I 0)) fun x319=>bnd (b8 .eql x316 x319) fun x320=>K x320 H317) (K (Bo false) H314)) (K (Bo false) H310)) (K (Bo false) H307)) (K (Bo false) H304)) (af Tryz.prog σ bt [x21] H215 fun x321 H322=>bnd (az x321) fun x323=>bnd (ai .eql x323 (I 0)) fun x324=>ifB x324 (af Tryz.prog σ aB [x21,a1] H322 fun x325 H326=>bnd (ai .eql x325 (I (-1))) fun x327=>ifB x327 (af Tryz.prog σ av [x21,(I (-1))] H326 fun x328 H329=>bnd (ai .eql x328 (I 0)) fun x330=>ifB x330 (af Tryz.prog σ ax [x21,(I (-1))] H329 fun x331 H332=>bnd (ai .eql x331 (I (-1))) fun x333=>ifB x333 (bnd (az a0) fun x334=>af Tryz.prog σ ao [x21,x334] H332 fun x335 H336=>bnd (unR .not x335) fun x337=>ifB x337 (af Tryz.prog σ ay [x21] H336 fun x338 H339=>bnd (az a0) fun x340=>bnd (ai .eql x340 (I 0)) fun x341=>bnd (b8 .eql x338 x341) fun x342=>K x342 H339) (K (Bo false) H336)) (K (Bo false) H332)) (K (Bo false) H329)) (K (Bo false) H326)) (K (Bo false) H322))) (K (Bo false) H215)))))))))):∃ r H1,aq Tryz.prog σ eR [a0,a1,a2,a3] H r H1∧K r H1 :=
 gwp 0 (fn:=Tryz.f9) (f:=eR) (c:=h_.code) (by kernel_rfl) (by kernel_rfl) (Eq.mpr (by kernel_rfl) h)
noncomputable def bz.code:Code:=au Tryz.f15
noncomputable def bz.L0 (σ:Sig) (K:AV→Hp→Prop) (y3 y5:AV) (H:Hp):Prop:=∀ j:Nat→AV,cO (CZ σ) (lB (bB (sR (sL (sR (sR (sR (sR bz.code)))))))) [j 0,j 1,j 2,y3,j 4,y5,j 6,j 7,j 8,j 9,j 10,j 11,j 12,j 13,j 14,j 15,j 16,j 17,j 18,j 19,j 20,j 21,j 22,j 23,j 24,j 25,j 26,j 27,j 28,j 29,j 30,j 31,j 32,j 33,j 34,j 35,j 36,j 37,j 38,j 39,j 40,j 41,j 42,j 43,j 44,j 45,j 46,j 47,j 48,j 49,j 50,j 51,j 52,j 53,j 54,j 55,j 56,j 57,j 58,j 59,j 60,j 61] H (fun e T G=>(nx (fQ Tryz.f15 σ K) fun T G=>wp (CZ σ) 40 (sR (sR (sR (sR (sR bz.code))))) T G (fQ Tryz.f15 σ K)) (aR 0 e) T G)
theorem bz.L0_step {y3 y5:AV} (h:bnd (ai .lss y5 (I 9)) fun x1=>ifB x1 (bnd (dg [I 0,I 0] []) fun l2=>af Tryz.prog σ ct [y3,(.agg l2)] H fun x3 H4=>bnd (unR .not x3) fun x5=>ifB x5 (K (Bo false) H4) (af Tryz.prog σ ay [y3] H4 fun x6 H7=>bnd (ai .eql y5 (I 8)) fun x8=>bnd (b8 .neq x6 x8) fun x9=>ifB x9 (K (Bo false) H7) (bnd (ai .add y5 (I 1)) fun x10=>bz.L0 σ K y3 x10 H7))) (af Tryz.prog σ dx [y3,(I 0)] H fun x11 H12=>bnd (exR x11 0) fun x13=>bnd (exR x11 1) fun x14=>cQ [I 0,I 0,I 0,I 0,I 0,I 0,I 0,I 0] H12 fun x15 H16=>bnd (stA 8 H16 x15 x13) fun H17=>af Tryz.prog σ aX [x14] H17 fun x18 H19=>bnd (ai .eql x18 (I 0)) fun x20=>ifB x20 (bnd (iU 8 1 x15 (I 1)) fun x21=>bnd (ldA false 1 H19 x21) fun x22=>bnd (ai .eql x22 (I 16000)) fun x23=>ifB x23 (bnd (dg [I 0,I 0] []) fun l24=>af Tryz.prog σ ct [y3,(.agg l24)] H19 fun x25 H26=>bnd (unR .not x25) fun x27=>K x27 H26) (K (Bo false) H19)) (K (Bo false) H19))):bz.L0 σ K y3 y5 H :=
 fun j=>lrd (g:=40) (Eq.mpr (by kernel_rfl) h)
theorem bz.run (h:bnd (dg [I 0,.lit (.string ⟨#[]⟩),.lit (.string ⟨#[]⟩),.lit (.slice none 0 0),.lit (.slice none 0 0)] [(0,1,(I (-1))),(1,1,(.lit (.string ⟨#[97]⟩)))]) fun l1=>bnd (cH [.int .i64 0,.string ⟨#[]⟩,.string ⟨#[]⟩,.slice none 0 0,.slice none 0 0] 5 1 H [(0,5,(.agg l1))]) fun p2=>af Tryz.prog σ hP [p2.1] p2.2 fun x3 H4=>bnd (exR x3 0) fun x5=>bnd (exR x3 1) fun x6=>af Tryz.prog σ eI [x5,(.lit (.slice none 0 0)),(I 1)] H4 fun x7 H8=>bnd (exR x7 0) fun x9=>bnd (exR x7 1) fun x10=>af Tryz.prog σ aX [x10] H8 fun x11 H12=>bnd (ai .neq x11 (I 0)) fun x13=>ifB x13 (K (Bo false) H12) (bnd (dv .eql x9 (.lit (.pointer none))) fun x14=>ifB x14 (K (Bo false) H12) (bz.L0 σ K x9 (I 0) H12))):∃ r H1,aq Tryz.prog σ gJ [] H r H1∧K r H1 :=
 gwp 40 (fn:=Tryz.f15) (f:=gJ) (c:=bz.code) (by kernel_rfl) (by kernel_rfl) (Eq.mpr (by kernel_rfl) h)
noncomputable def fZ.code:Code:=au Tryz.f18
theorem fZ.run {a0 a1:AV} (h:dS a1 H fun x1 H2=>bnd (al a0) fun x3=>bnd (ab x3 9) fun x4=>bnd (stA 1 H2 x4 (.lit (.slice none 0 0))) fun H5=>af Tryz.prog σ ay [a0] H5 fun x6 H7=>ifB x6 (K (Bo false) H7) (bnd (ab x1 0) fun x8=>bnd (ldA false 1 H7 x8) fun x9=>af Tryz.prog σ cZ [a0,x9] H7 fun x10 H11=>bnd (unR .not x10) fun x12=>ifB x12 (K (Bo false) H11) (af Tryz.prog σ fV [] H11 fun x13 H14=>bnd (al a0) fun x15=>bnd (ab x15 5) fun x16=>kpK (x16,some 1) H11 H14 (bnd (ldA false 1 H14 x16) fun x17=>bnd (ab x1 0) fun x18=>kpK (x18,some 1) H11 H14 (bnd (ldA false 1 H14 x18) fun x19=>bnd (aC 1 x17 x19) fun x20=>kpK (x20,some 1) H11 H14 (bnd (ldA false 1 H14 x20) fun x21=>bnd (al x21) fun x22=>bnd (ab x22 0) fun x23=>kpK (x23,some 1) H11 H14 (bnd (ldA false 1 H14 x23) fun x24=>bnd (rj false 5 1 x13 x24) fun x25=>bnd (ab x1 0) fun x26=>kpK (x26,some 1) H11 H14 (bnd (ldA false 1 H14 x26) fun x27=>kpK (x1,some 2) H11 H14 (bnd (ldA true 2 H14 x1) fun x28=>iG Tryz.prog σ x25 [a0,x27,x28] H14 fun x29 H30=>K (Bo true) H30))))))))):∃ r H1,aq Tryz.prog σ ct [a0,a1] H r H1∧K r H1 :=
 gwp 0 (fn:=Tryz.f18) (f:=ct) (c:=fZ.code) (by kernel_rfl) (by kernel_rfl) (Eq.mpr (by kernel_rfl) h)
noncomputable def aP.code:Code:=au Tryz.f21
noncomputable def aP.Q0 (σ:Sig) (K:AV→Hp→Prop):Exit→List AV→Hp→Prop:=(nx (fQ Tryz.f21 σ K) fun T G=>wp (CZ σ) 177 (sR (sR (sR (sR aP.code)))) T G (fQ Tryz.f21 σ K))
noncomputable def aP.L0 (σ:Sig) (K:AV→Hp→Prop) (y0 y4 y5 y7:AV) (H:Hp):Prop:=∀ j:Nat→AV,cO (CZ σ) (lB (bB (sR (sL (sR (sR (sR aP.code))))))) [y0,j 1,j 2,j 3,y4,y5,j 6,y7,j 8,j 9,j 10,j 11,j 12,j 13,j 14,j 15,j 16,j 17,j 18,j 19,j 20,j 21,j 22,j 23,j 24,j 25,j 26,j 27,j 28,j 29,j 30,j 31,j 32,j 33,j 34,j 35,j 36,j 37,j 38,j 39,j 40,j 41,j 42,j 43,j 44,j 45,j 46,j 47,j 48,j 49,j 50,j 51,j 52,j 53,j 54,j 55,j 56,j 57,j 58,j 59,j 60,j 61,j 62,j 63,j 64,j 65,j 66,j 67,j 68,j 69,j 70,j 71,j 72,j 73,j 74,j 75,j 76,j 77,j 78,j 79] H (fun e T G=>(aP.Q0 σ K) (aR 0 e) T G)
noncomputable def aP.J1 (σ:Sig) (K:AV→Hp→Prop) (y0 y4 y5 y7:AV) (H:Hp):Prop:=∀ j:Nat→AV,wp (CZ σ) 177 (sR (sR (sR (sR (bB (sL (sR (lB (bB (sR (sL (sR (sR (sR aP.code)))))))))))))) [y0,j 1,j 2,j 3,y4,y5,j 6,y7,j 8,j 9,j 10,j 11,j 12,j 13,j 14,j 15,j 16,j 17,j 18,j 19,j 20,j 21,j 22,j 23,j 24,j 25,j 26,j 27,j 28,j 29,j 30,j 31,j 32,j 33,j 34,j 35,j 36,j 37,j 38,j 39,j 40,j 41,j 42,j 43,j 44,j 45,j 46,j 47,j 48,j 49,j 50,j 51,j 52,j 53,j 54,j 55,j 56,j 57,j 58,j 59,j 60,j 61,j 62,j 63,j 64,j 65,j 66,j 67,j 68,j 69,j 70,j 71,j 72,j 73,j 74,j 75,j 76,j 77,j 78,j 79] H (fun e T G=>(nx (nx (fun e T G=>(aP.Q0 σ K) (aR 0 e) T G) fun T G=>∀ j,cO (CZ σ) (lB (bB (sR (sL (sR (sR (sR aP.code))))))) (f_ 177 j 0 T) G (fun e T G=>(aP.Q0 σ K) (aR 0 e) T G)) fun T G=>wp (CZ σ) 177 (sR (sR (lB (bB (sR (sL (sR (sR (sR aP.code))))))))) T G (nx (fun e T G=>(aP.Q0 σ K) (aR 0 e) T G) fun T G=>∀ j,cO (CZ σ) (lB (bB (sR (sL (sR (sR (sR aP.code))))))) (f_ 177 j 0 T) G (fun e T G=>(aP.Q0 σ K) (aR 0 e) T G))) (aR 1 e) T G)
theorem aP.L0_step {y0 y4 y5 y7:AV} (h:bnd (az y0) fun x1=>bnd (ai .lss y5 x1) fun x2=>ifB x2 (bnd (aC 5 y0 y5) fun x3=>bnd (ab x3 0) fun x4=>bnd (ldA false 1 H x4) fun x5=>bnd (ai .eql y5 (I 0)) fun x6=>ifB x6 (bnd (ai .neq x5 (I (-1))) fun x7=>ifB x7 (K (.tup [(.lit (.pointer none)),(I 10)]) H) (bnd (ai .gtr y5 (I 0)) fun x8=>ifB x8 (bnd (ai .lss x5 (I 0)) fun x9=>ifB x9 (K (.tup [(.lit (.pointer none)),(I 10)]) H) (bnd (ai .geq x5 y5) fun x10=>ifB x10 (K (.tup [(.lit (.pointer none)),(I 10)]) H) (bnd (ai .gtr y5 (I 0)) fun x11=>ifB x11 (bnd (al y4) fun x12=>bnd (ab x12 1) fun x13=>bnd (ldA false 1 H x13) fun x14=>bnd (aC 1 x14 x5) fun x15=>bnd (ldA false 1 H x15) fun x16=>bnd (ai .add x16 (I 1)) fun x17=>aP.J1 σ K y0 y4 y5 x17 H) (aP.J1 σ K y0 y4 y5 (I 0) H)))) (bnd (ai .gtr y5 (I 0)) fun x18=>ifB x18 (bnd (al y4) fun x19=>bnd (ab x19 1) fun x20=>bnd (ldA false 1 H x20) fun x21=>bnd (aC 1 x21 x5) fun x22=>bnd (ldA false 1 H x22) fun x23=>bnd (ai .add x23 (I 1)) fun x24=>aP.J1 σ K y0 y4 y5 x24 H) (aP.J1 σ K y0 y4 y5 (I 0) H)))) (bnd (ai .gtr y5 (I 0)) fun x25=>ifB x25 (bnd (ai .lss x5 (I 0)) fun x26=>ifB x26 (K (.tup [(.lit (.pointer none)),(I 10)]) H) (bnd (ai .geq x5 y5) fun x27=>ifB x27 (K (.tup [(.lit (.pointer none)),(I 10)]) H) (bnd (ai .gtr y5 (I 0)) fun x28=>ifB x28 (bnd (al y4) fun x29=>bnd (ab x29 1) fun x30=>bnd (ldA false 1 H x30) fun x31=>bnd (aC 1 x31 x5) fun x32=>bnd (ldA false 1 H x32) fun x33=>bnd (ai .add x33 (I 1)) fun x34=>aP.J1 σ K y0 y4 y5 x34 H) (aP.J1 σ K y0 y4 y5 (I 0) H)))) (bnd (ai .gtr y5 (I 0)) fun x35=>ifB x35 (bnd (al y4) fun x36=>bnd (ab x36 1) fun x37=>bnd (ldA false 1 H x37) fun x38=>bnd (aC 1 x38 x5) fun x39=>bnd (ldA false 1 H x39) fun x40=>bnd (ai .add x40 (I 1)) fun x41=>aP.J1 σ K y0 y4 y5 x41 H) (aP.J1 σ K y0 y4 y5 (I 0) H)))) (K (.tup [y4,(I 0)]) H)):aP.L0 σ K y0 y4 y5 y7 H :=
 fun j=>lrd (g:=177) (Eq.mpr (by kernel_rfl) h)
theorem aP.J1_step {y0 y4 y5 y7:AV} (h:bnd (ai .gtr y7 (I 256)) fun x1=>ifB x1 (K (.tup [(.lit (.pointer none)),(I 11)]) H) (bnd (al y4) fun x2=>bnd (ab x2 0) fun x3=>bnd (ldA false 1 H x3) fun x4=>bnd (aC 5 y0 y5) fun x5=>bnd (ldA true 5 H x5) fun x6=>af Tryz.prog σ eD [x6] H fun x7 H8=>kpK (x3,some 1) H H8 (bnd (cH [.int .i64 0,.string ⟨#[]⟩,.string ⟨#[]⟩,.slice none 0 0,.slice none 0 0] 5 1 H8 [(0,5,x7)]) fun p9=>kpK (x3,some 1) H8 p9.2 (bnd (eB false 5 88 p9.2 x4 p9.1) fun p10=>bnd (al y4) fun x11=>bnd (ab x11 0) fun x12=>bnd (stA 1 p10.2 x12 p10.1) fun H13=>bnd (al y4) fun x14=>bnd (ab x14 1) fun x15=>bnd (ldA false 1 H13 x15) fun x16=>bnd (cH [.int .i64 0] 1 1 H13 [(0,1,y7)]) fun p17=>bnd (eB false 1 8 p17.2 x16 p17.1) fun p18=>bnd (al y4) fun x19=>bnd (ab x19 1) fun x20=>bnd (stA 1 p18.2 x20 p18.1) fun H21=>bnd (ai .add y5 (I 1)) fun x22=>aP.L0 σ K y0 y4 x22 y7 H21)))):aP.J1 σ K y0 y4 y5 y7 H :=
 fun j=>Eq.mpr (by kernel_rfl) h
theorem aP.run {a0:AV} (h:bnd (az a0) fun x1=>bnd (ai .gtr x1 (I 4096)) fun x2=>ifB x2 (K (.tup [(.lit (.pointer none)),(I 3)]) H) (bnd (dg [.lit (.slice none 0 0),.lit (.slice none 0 0)] []) fun l3=>dS (.agg l3) H fun x4 H5=>aP.L0 σ K a0 x4 (I 0) (.lit undef) H5)):∃ r H1,aq Tryz.prog σ fD [a0] H r H1∧K r H1 :=
 gwp 177 (fn:=Tryz.f21) (f:=fD) (c:=aP.code) (by kernel_rfl) (by kernel_rfl) (Eq.mpr (by kernel_rfl) h)
noncomputable def fB.code:Code:=au Tryz.f23
theorem fB.run {a0 a1:AV} (h:cQ [I 0,I 0,I 0,I 0,I 0,I 0,I 0,I 0] H fun x1 H2=>af Tryz.prog σ ao [a0,a1] H2 fun x3 H4=>bnd (unR .not x3) fun x5=>ifB x5 (bnd (dg [I 0,I 0,I 0,I 0,I 0,I 0,I 0,I 0] []) fun l6=>bnd (stA 8 H4 x1 (.agg l6)) fun H7=>bnd (ldA true 8 H7 x1) fun r8=>K (.tup [r8,(I 6)]) H7) (bnd (al a0) fun x9=>bnd (ab x9 3) fun x10=>bnd (al a0) fun x11=>bnd (ab x11 7) fun x12=>bnd (ldA false 1 H4 x12) fun x13=>bnd (aC 1 x13 a1) fun x14=>bnd (ldA false 1 H4 x14) fun x15=>af Tryz.prog σ dB [x10,x15] H4 fun x16 H17=>bnd (exR x16 0) fun x18=>bnd (exR x16 1) fun x19=>bnd (stA 8 H17 x1 x18) fun H20=>bnd (ldA true 8 H20 x1) fun r21=>K (.tup [r21,x19]) H20)):∃ r H1,aq Tryz.prog σ dx [a0,a1] H r H1∧K r H1 :=
 gwp 0 (fn:=Tryz.f23) (f:=dx) (c:=fB.code) (by kernel_rfl) (by kernel_rfl) (Eq.mpr (by kernel_rfl) h)
noncomputable def ml.code:Code:=au Tryz.f24
theorem ml.run {a0:AV} (h:K a0 H):∃ r H1,aq Tryz.prog σ aX [a0] H r H1∧K r H1 :=
 gwp 0 (fn:=Tryz.f24) (f:=aX) (c:=ml.code) (by kernel_rfl) (by kernel_rfl) (Eq.mpr (by kernel_rfl) h)
noncomputable def eh.code:Code:=au Tryz.f26
theorem eh.run {a0:AV} (h:bnd (al a0) fun x1=>bnd (ab x1 6) fun x2=>bnd (ldA false 1 H x2) fun x3=>bnd (ai .eql x3 (I 0)) fun x4=>K x4 H):∃ r H1,aq Tryz.prog σ ay [a0] H r H1∧K r H1 :=
 gwp 0 (fn:=Tryz.f26) (f:=ay) (c:=eh.code) (by kernel_rfl) (by kernel_rfl) (Eq.mpr (by kernel_rfl) h)
noncomputable def dQ.code:Code:=au Tryz.f27
theorem dQ.run {a0 a1:AV} (h:bnd (ai .geq a1 (I 0)) fun x1=>ifB x1 (bnd (al a0) fun x2=>bnd (ab x2 8) fun x3=>bnd (ldA false 1 H x3) fun x4=>bnd (az x4) fun x5=>bnd (ai .lss a1 x5) fun x6=>ifB x6 (bnd (al a0) fun x7=>bnd (ab x7 8) fun x8=>bnd (ldA false 1 H x8) fun x9=>bnd (aC 1 x9 a1) fun x10=>bnd (ldA false 1 H x10) fun x11=>K x11 H) (K (Bo false) H)) (K (Bo false) H)):∃ r H1,aq Tryz.prog σ ao [a0,a1] H r H1∧K r H1 :=
 gwp 0 (fn:=Tryz.f27) (f:=ao) (c:=dQ.code) (by kernel_rfl) (by kernel_rfl) (Eq.mpr (by kernel_rfl) h)
noncomputable def eY.code:Code:=au Tryz.f28
theorem eY.run {a0 a1:AV} (h:bnd (ai .lss a1 (I 0)) fun x1=>ifB x1 (K (I (-1)) H) (bnd (al a0) fun x2=>bnd (ab x2 7) fun x3=>bnd (ldA false 1 H x3) fun x4=>bnd (az x4) fun x5=>bnd (ai .geq a1 x5) fun x6=>ifB x6 (K (I (-1)) H) (bnd (al a0) fun x7=>bnd (ab x7 7) fun x8=>bnd (ldA false 1 H x8) fun x9=>bnd (aC 1 x9 a1) fun x10=>bnd (ldA false 1 H x10) fun x11=>K x11 H))):∃ r H1,aq Tryz.prog σ ax [a0,a1] H r H1∧K r H1 :=
 gwp 0 (fn:=Tryz.f28) (f:=ax) (c:=eY.code) (by kernel_rfl) (by kernel_rfl) (Eq.mpr (by kernel_rfl) h)
noncomputable def eF.code:Code:=au Tryz.f34
theorem eF.run {a0 a1:AV} (h:af Tryz.prog σ cZ [a0,a1] H fun x1 H2=>bnd (unR .not x1) fun x3=>ifB x3 (K (I 0) H2) (bnd (al a0) fun x4=>bnd (ab x4 5) fun x5=>bnd (ldA false 1 H2 x5) fun x6=>bnd (aC 1 x6 a1) fun x7=>bnd (ldA false 1 H2 x7) fun x8=>bnd (al x8) fun x9=>bnd (ab x9 1) fun x10=>bnd (ldA false 1 H2 x10) fun x11=>af Tryz.prog σ d_ [x11] H2 fun x12 H13=>bnd (al a0) fun x14=>bnd (ab x14 5) fun x15=>kpK (x15,some 1) H2 H13 (bnd (ldA false 1 H13 x15) fun x16=>bnd (aC 1 x16 a1) fun x17=>kpK (x17,some 1) H2 H13 (bnd (ldA false 1 H13 x17) fun x18=>bnd (al x18) fun x19=>bnd (ab x19 3) fun x20=>bnd (ab x20 0) fun x21=>kpK (x21,some 1) H2 H13 (bnd (ldA false 1 H13 x21) fun x22=>bnd (az x22) fun x23=>bnd (ai .add x12 x23) fun x24=>K x24 H13))))):∃ r H1,aq Tryz.prog σ av [a0,a1] H r H1∧K r H1 :=
 gwp 0 (fn:=Tryz.f34) (f:=av) (c:=eF.code) (by kernel_rfl) (by kernel_rfl) (Eq.mpr (by kernel_rfl) h)
noncomputable def fR.code:Code:=au Tryz.f37
theorem fR.run {a0 a1:AV} (h:af Tryz.prog σ cZ [a0,a1] H fun x1 H2=>bnd (unR .not x1) fun x3=>ifB x3 (K (I (-1)) H2) (bnd (al a0) fun x4=>bnd (ab x4 5) fun x5=>bnd (ldA false 1 H2 x5) fun x6=>bnd (aC 1 x6 a1) fun x7=>bnd (ldA false 1 H2 x7) fun x8=>bnd (al x8) fun x9=>bnd (ab x9 0) fun x10=>bnd (ldA false 1 H2 x10) fun x11=>K x11 H2)):∃ r H1,aq Tryz.prog σ aB [a0,a1] H r H1∧K r H1 :=
 gwp 0 (fn:=Tryz.f37) (f:=aB) (c:=fR.code) (by kernel_rfl) (by kernel_rfl) (Eq.mpr (by kernel_rfl) h)
noncomputable def aA.code:Code:=au Tryz.f38
noncomputable def aA.Q0 (σ:Sig) (K:AV→Hp→Prop):Exit→List AV→Hp→Prop:=(nx (fQ Tryz.f38 σ K) fun T G=>wp (CZ σ) 57 (sR (sR aA.code)) T G (fQ Tryz.f38 σ K))
noncomputable def aA.Q1 (σ:Sig) (K:AV→Hp→Prop):Exit→List AV→Hp→Prop:=(nx (fun e T G=>(aA.Q0 σ K) (aR 0 e) T G) fun T G=>∀ j,cO (CZ σ) (lB (bB (sR (sL (sR aA.code))))) (f_ 57 j 0 T) G (fun e T G=>(aA.Q0 σ K) (aR 0 e) T G))
noncomputable def aA.Q2 (σ:Sig) (K:AV→Hp→Prop):Exit→List AV→Hp→Prop:=(fun e T G=>(nx (aA.Q1 σ K) fun T G=>wp (CZ σ) 57 (sR (sR (lB (bB (sR (sL (sR aA.code))))))) T G (aA.Q1 σ K)) (aR 1 e) T G)
noncomputable def aA.L0 (σ:Sig) (K:AV→Hp→Prop) (y0 y3 y4 y5:AV) (H:Hp):Prop:=∀ j:Nat→AV,cO (CZ σ) (lB (bB (sR (sL (sR aA.code))))) [y0,j 1,j 2,y3,y4,y5,j 6,j 7,j 8,j 9,j 10,j 11,j 12,j 13,j 14,j 15,j 16,j 17,j 18,j 19,j 20,j 21,j 22,j 23,j 24,j 25,j 26,j 27,j 28,j 29,j 30,j 31,j 32,j 33,j 34,j 35,j 36,j 37,j 38,j 39,j 40,j 41,j 42,j 43,j 44,j 45,j 46,j 47,j 48,j 49,j 50,j 51,j 52,j 53,j 54,j 55,j 56,j 57,j 58,j 59,j 60,j 61,j 62,j 63,j 64,j 65,j 66,j 67,j 68,j 69,j 70,j 71,j 72,j 73,j 74,j 75,j 76,j 77,j 78,j 79,j 80,j 81,j 82,j 83,j 84,j 85,j 86,j 87,j 88,j 89,j 90,j 91,j 92,j 93,j 94,j 95,j 96,j 97,j 98,j 99,j 100,j 101,j 102,j 103,j 104,j 105,j 106,j 107,j 108,j 109,j 110,j 111,j 112,j 113,j 114,j 115,j 116] H (fun e T G=>(aA.Q0 σ K) (aR 0 e) T G)
noncomputable def aA.L1 (σ:Sig) (K:AV→Hp→Prop) (y0 y3 y4 y5:AV) (H:Hp):Prop:=∀ j:Nat→AV,cO (CZ σ) (lB (bB (sR (sL (sR (bB (sL (sR (lB (bB (sR (sL (sR aA.code))))))))))))) [y0,j 1,j 2,y3,y4,y5,j 6,j 7,j 8,j 9,j 10,j 11,j 12,j 13,j 14,j 15,j 16,j 17,j 18,j 19,j 20,j 21,j 22,j 23,j 24,j 25,j 26,j 27,j 28,j 29,j 30,j 31,j 32,j 33,j 34,j 35,j 36,j 37,j 38,j 39,j 40,j 41,j 42,j 43,j 44,j 45,j 46,j 47,j 48,j 49,j 50,j 51,j 52,j 53,j 54,j 55,j 56,j 57,j 58,j 59,j 60,j 61,j 62,j 63,j 64,j 65,j 66,j 67,j 68,j 69,j 70,j 71,j 72,j 73,j 74,j 75,j 76,j 77,j 78,j 79,j 80,j 81,j 82,j 83,j 84,j 85,j 86,j 87,j 88,j 89,j 90,j 91,j 92,j 93,j 94,j 95,j 96,j 97,j 98,j 99,j 100,j 101,j 102,j 103,j 104,j 105,j 106,j 107,j 108,j 109,j 110,j 111,j 112,j 113,j 114,j 115,j 116] H (fun e T G=>(nx (aA.Q2 σ K) fun T G=>wp (CZ σ) 57 (sR (sR (bB (sL (sR (lB (bB (sR (sL (sR aA.code)))))))))) T G (aA.Q2 σ K)) (aR 2 e) T G)
noncomputable def aA.L2 (σ:Sig) (K:AV→Hp→Prop) (y0 y3 y4 y5:AV) (H:Hp):Prop:=∀ j:Nat→AV,cO (CZ σ) (lB (bB (sR (sR (sR (bB (sL (sR (lB (bB (sR (sL (sR aA.code))))))))))))) [y0,j 1,j 2,y3,y4,y5,j 6,j 7,j 8,j 9,j 10,j 11,j 12,j 13,j 14,j 15,j 16,j 17,j 18,j 19,j 20,j 21,j 22,j 23,j 24,j 25,j 26,j 27,j 28,j 29,j 30,j 31,j 32,j 33,j 34,j 35,j 36,j 37,j 38,j 39,j 40,j 41,j 42,j 43,j 44,j 45,j 46,j 47,j 48,j 49,j 50,j 51,j 52,j 53,j 54,j 55,j 56,j 57,j 58,j 59,j 60,j 61,j 62,j 63,j 64,j 65,j 66,j 67,j 68,j 69,j 70,j 71,j 72,j 73,j 74,j 75,j 76,j 77,j 78,j 79,j 80,j 81,j 82,j 83,j 84,j 85,j 86,j 87,j 88,j 89,j 90,j 91,j 92,j 93,j 94,j 95,j 96,j 97,j 98,j 99,j 100,j 101,j 102,j 103,j 104,j 105,j 106,j 107,j 108,j 109,j 110,j 111,j 112,j 113,j 114,j 115,j 116] H (fun e T G=>(aA.Q2 σ K) (aR 4 e) T G)
theorem aA.L0_step {y0 y3 y4 y5:AV} (h:bnd (az y0) fun x1=>bnd (ai .lss y3 x1) fun x2=>ifB x2 (bnd (ai .lss y3 (I 100)) fun x3=>ifB x3 (bnd (aC 5 y0 y3) fun x4=>bnd (ab x4 3) fun x5=>bnd (ldA false 1 H x5) fun x6=>bnd (az x6) fun x7=>bnd (ai .gtr x7 (I 8)) fun x8=>ifB x8 (K (Bo true) H) (bnd (aC 5 y0 y3) fun x9=>bnd (ab x9 4) fun x10=>bnd (ldA false 1 H x10) fun x11=>bnd (az x11) fun x12=>bnd (ai .gtr x12 (I 8)) fun x13=>ifB x13 (K (Bo true) H) (bnd (aC 5 y0 y3) fun x14=>bnd (ab x14 1) fun x15=>bnd (ldA false 1 H x15) fun x16=>bnd (jQ x16) fun x17=>bnd (ai .gtr x17 (I 60)) fun x18=>ifB x18 (K (Bo true) H) (bnd (aC 5 y0 y3) fun x19=>bnd (ab x19 2) fun x20=>bnd (ldA false 1 H x20) fun x21=>bnd (jQ x21) fun x22=>bnd (ai .gtr x22 (I 60)) fun x23=>ifB x23 (K (Bo true) H) (aA.L1 σ K y0 y3 (I 0) y5 H))))) (bnd (az y0) fun x24=>bnd (ai .gtr x24 (I 40)) fun x25=>ifB x25 (bnd (az y0) fun x26=>bnd (ai .leq x26 (I 4096)) fun x27=>ifB x27 (K (Bo true) H) (bnd (az y0) fun x28=>bnd (ai .gtr x28 (I 4100)) fun x29=>K x29 H)) (bnd (az y0) fun x30=>bnd (ai .gtr x30 (I 4100)) fun x31=>K x31 H))) (bnd (az y0) fun x32=>bnd (ai .gtr x32 (I 40)) fun x33=>ifB x33 (bnd (az y0) fun x34=>bnd (ai .leq x34 (I 4096)) fun x35=>ifB x35 (K (Bo true) H) (bnd (az y0) fun x36=>bnd (ai .gtr x36 (I 4100)) fun x37=>K x37 H)) (bnd (az y0) fun x38=>bnd (ai .gtr x38 (I 4100)) fun x39=>K x39 H))):aA.L0 σ K y0 y3 y4 y5 H :=
 fun j=>lrd (g:=57) (Eq.mpr (by kernel_rfl) h)
theorem aA.L1_step {y0 y3 y4 y5:AV} (h:bnd (aC 5 y0 y3) fun x1=>bnd (ab x1 3) fun x2=>bnd (ldA false 1 H x2) fun x3=>bnd (az x3) fun x4=>bnd (ai .lss y4 x4) fun x5=>ifB x5 (bnd (aC 5 y0 y3) fun x6=>bnd (ab x6 3) fun x7=>bnd (ldA false 1 H x7) fun x8=>bnd (aC 1 x8 y4) fun x9=>bnd (ldA false 1 H x9) fun x10=>bnd (jQ x10) fun x11=>bnd (ai .gtr x11 (I 60)) fun x12=>ifB x12 (K (Bo true) H) (bnd (ai .add y4 (I 1)) fun x13=>aA.L1 σ K y0 y3 x13 y5 H)) (aA.L2 σ K y0 y3 y4 (I 0) H)):aA.L1 σ K y0 y3 y4 y5 H :=
 fun j=>lrd (g:=57) (Eq.mpr (by kernel_rfl) h)
theorem aA.L2_step {y0 y3 y4 y5:AV} (h:bnd (aC 5 y0 y3) fun x1=>bnd (ab x1 4) fun x2=>bnd (ldA false 1 H x2) fun x3=>bnd (az x3) fun x4=>bnd (ai .lss y5 x4) fun x5=>ifB x5 (bnd (aC 5 y0 y3) fun x6=>bnd (ab x6 4) fun x7=>bnd (ldA false 1 H x7) fun x8=>bnd (aC 2 x8 y5) fun x9=>bnd (ab x9 0) fun x10=>bnd (ldA false 1 H x10) fun x11=>bnd (jQ x11) fun x12=>bnd (ai .gtr x12 (I 60)) fun x13=>ifB x13 (K (Bo true) H) (bnd (aC 5 y0 y3) fun x14=>bnd (ab x14 4) fun x15=>bnd (ldA false 1 H x15) fun x16=>bnd (aC 2 x16 y5) fun x17=>bnd (ab x17 1) fun x18=>bnd (ldA false 1 H x18) fun x19=>bnd (jQ x19) fun x20=>bnd (ai .gtr x20 (I 100)) fun x21=>ifB x21 (K (Bo true) H) (bnd (ai .add y5 (I 1)) fun x22=>aA.L2 σ K y0 y3 y4 x22 H))) (bnd (ai .add y3 (I 1)) fun x23=>aA.L0 σ K y0 x23 y4 y5 H)):aA.L2 σ K y0 y3 y4 y5 H :=
 fun j=>lrd (g:=57) (Eq.mpr (by kernel_rfl) h)
theorem aA.run {a0:AV} (h:aA.L0 σ K a0 (I 0) (.lit undef) (.lit undef) H):∃ r H1,aq Tryz.prog σ jp [a0] H r H1∧K r H1 :=
 gwp 57 (fn:=Tryz.f38) (f:=jp) (c:=aA.code) (by kernel_rfl) (by kernel_rfl) (Eq.mpr (by kernel_rfl) h)
noncomputable def eO.code:Code:=au Tryz.f39
noncomputable def eO.L0 (σ:Sig) (K:AV→Hp→Prop) (y4 y13 y14 y15:AV) (H:Hp):Prop:=∀ j:Nat→AV,cO (CZ σ) (lB (bB (sR (sL (sR (sR (sR eO.code))))))) [j 0,j 1,j 2,j 3,y4,j 5,j 6,j 7,j 8,j 9,j 10,j 11,j 12,y13,y14,y15,j 16,j 17,j 18,j 19,j 20,j 21,j 22,j 23,j 24,j 25,j 26] H (fun e T G=>(nx (fQ Tryz.f39 σ K) fun T G=>wp (CZ σ) 57360 (sR (sR (sR (sR eO.code)))) T G (fQ Tryz.f39 σ K)) (aR 0 e) T G)
theorem eO.L0_step {y4 y13 y14 y15:AV} (h:bnd (ai .lss y15 y14) fun x1=>ifB x1 (bnd (aC 5 y13 y15) fun x2=>bnd (ldA true 5 H x2) fun x3=>cQ [I 0,.lit (.string ⟨#[]⟩),.lit (.string ⟨#[]⟩),.lit (.slice none 0 0),.lit (.slice none 0 0)] H fun x4 H5=>bnd (stA 5 H5 x4 x3) fun H6=>bnd (ldA true 5 H6 x4) fun x7=>af Tryz.prog σ fU [y4,x7] H6 fun x8 H9=>bnd (ai .neq x8 (I 0)) fun x10=>ifB x10 (K (.tup [(.lit (.pointer none)),x8]) H9) (bnd (ai .add y15 (I 1)) fun x11=>eO.L0 σ K y4 y13 y14 x11 H9)) (K (.tup [y4,(I 0)]) H)):eO.L0 σ K y4 y13 y14 y15 H :=
 fun j=>lrd (g:=57360) (Eq.mpr (by kernel_rfl) h)
theorem eO.run {a0:AV} (h:bnd (az a0) fun x1=>bnd (ai .gtr x1 (I 4096)) fun x2=>ifB x2 (K (.tup [(.lit (.pointer none)),(I 3)]) H) (bnd (dg [.lit (.slice none 0 0)] []) fun l3=>dS (.agg l3) H fun x4 H5=>bnd (az a0) fun x6=>eO.L0 σ K x4 a0 x6 (I 0) H5)):∃ r H1,aq Tryz.prog σ hP [a0] H r H1∧K r H1 :=
 gwp 57360 (fn:=Tryz.f39) (f:=hP) (c:=eO.code) (by kernel_rfl) (by kernel_rfl) (Eq.mpr (by kernel_rfl) h)
noncomputable def aG.code:Code:=au Tryz.f40
noncomputable def aG.L0 (σ:Sig) (K:AV→Hp→Prop) (y2 y8 y9 y41 y42 y54 y55:AV) (H:Hp):Prop:=∀ j:Nat→AV,cO (CZ σ) (lB (bB (sR (sL (sR (sR (sR (sR aG.code)))))))) [j 0,j 1,y2,j 3,j 4,j 5,j 6,j 7,y8,y9,j 10,j 11,j 12,j 13,j 14,j 15,j 16,j 17,j 18,j 19,j 20,j 21,j 22,j 23,j 24,j 25,j 26,j 27,j 28,j 29,j 30,j 31,j 32,j 33,j 34,j 35,j 36,j 37,j 38,j 39,j 40,y41,y42,j 43,j 44,j 45,j 46,j 47,j 48,j 49,j 50,j 51,j 52,j 53,y54,y55,j 56,j 57,j 58,j 59,j 60,j 61,j 62,j 63,j 64,j 65,j 66,j 67,j 68,j 69,j 70,j 71,j 72,j 73,j 74,j 75,j 76,j 77,j 78,j 79,j 80,j 81,j 82,j 83,j 84,j 85,j 86,j 87,j 88,j 89,j 90,j 91] H (fun e T G=>(nx (fQ Tryz.f40 σ K) fun T G=>wp (CZ σ) 54049792598213380 (sR (sR (sR (sR (sR aG.code))))) T G (fQ Tryz.f40 σ K)) (aR 0 e) T G)
noncomputable def aG.L1 (σ:Sig) (K:AV→Hp→Prop) (y2 y8 y9 y41 y42 y54 y55:AV) (H:Hp):Prop:=∀ j:Nat→AV,cO (CZ σ) (lB (bB (sR (sL (sR (sR (sR (sR (sR aG.code))))))))) [j 0,j 1,y2,j 3,j 4,j 5,j 6,j 7,y8,y9,j 10,j 11,j 12,j 13,j 14,j 15,j 16,j 17,j 18,j 19,j 20,j 21,j 22,j 23,j 24,j 25,j 26,j 27,j 28,j 29,j 30,j 31,j 32,j 33,j 34,j 35,j 36,j 37,j 38,j 39,j 40,y41,y42,j 43,j 44,j 45,j 46,j 47,j 48,j 49,j 50,j 51,j 52,j 53,y54,y55,j 56,j 57,j 58,j 59,j 60,j 61,j 62,j 63,j 64,j 65,j 66,j 67,j 68,j 69,j 70,j 71,j 72,j 73,j 74,j 75,j 76,j 77,j 78,j 79,j 80,j 81,j 82,j 83,j 84,j 85,j 86,j 87,j 88,j 89,j 90,j 91] H (fun e T G=>(nx (fQ Tryz.f40 σ K) fun T G=>wp (CZ σ) 54049792598213380 (sR (sR (sR (sR (sR (sR aG.code)))))) T G (fQ Tryz.f40 σ K)) (aR 2 e) T G)
noncomputable def aG.L2 (σ:Sig) (K:AV→Hp→Prop) (y2 y8 y9 y41 y42 y54 y55:AV) (H:Hp):Prop:=∀ j:Nat→AV,cO (CZ σ) (lB (bB (sR (sR (cT (sR (sL (sR (sR (sR (sR (sR (sR aG.code))))))))))))) [j 0,j 1,y2,j 3,j 4,j 5,j 6,j 7,y8,y9,j 10,j 11,j 12,j 13,j 14,j 15,j 16,j 17,j 18,j 19,j 20,j 21,j 22,j 23,j 24,j 25,j 26,j 27,j 28,j 29,j 30,j 31,j 32,j 33,j 34,j 35,j 36,j 37,j 38,j 39,j 40,y41,y42,j 43,j 44,j 45,j 46,j 47,j 48,j 49,j 50,j 51,j 52,j 53,y54,y55,j 56,j 57,j 58,j 59,j 60,j 61,j 62,j 63,j 64,j 65,j 66,j 67,j 68,j 69,j 70,j 71,j 72,j 73,j 74,j 75,j 76,j 77,j 78,j 79,j 80,j 81,j 82,j 83,j 84,j 85,j 86,j 87,j 88,j 89,j 90,j 91] H (fun e T G=>(nx (fQ Tryz.f40 σ K) fun T G=>∀ j,wp (CZ σ) 54049792598213380 (sR (sR (sR (sR (sR (sR (sR aG.code))))))) (f_ 54049792598213380 j 0 T) G (fQ Tryz.f40 σ K)) (aR 4 e) T G)
noncomputable def aG.J3 (σ:Sig) (K:AV→Hp→Prop) (y2 y8 y9 y41 y42 y54 y55:AV) (H:Hp):Prop:=∀ j:Nat→AV,wp (CZ σ) 54049792598213380 (sR (sR (sR (sR (sR (sR (sR aG.code))))))) [j 0,j 1,y2,j 3,j 4,j 5,j 6,j 7,y8,y9,j 10,j 11,j 12,j 13,j 14,j 15,j 16,j 17,j 18,j 19,j 20,j 21,j 22,j 23,j 24,j 25,j 26,j 27,j 28,j 29,j 30,j 31,j 32,j 33,j 34,j 35,j 36,j 37,j 38,j 39,j 40,y41,y42,j 43,j 44,j 45,j 46,j 47,j 48,j 49,j 50,j 51,j 52,j 53,y54,y55,j 56,j 57,j 58,j 59,j 60,j 61,j 62,j 63,j 64,j 65,j 66,j 67,j 68,j 69,j 70,j 71,j 72,j 73,j 74,j 75,j 76,j 77,j 78,j 79,j 80,j 81,j 82,j 83,j 84,j 85,j 86,j 87,j 88,j 89,j 90,j 91] H (fQ Tryz.f40 σ K)
theorem aG.L0_step {y2 y8 y9 y41 y42 y54 y55:AV} (h:bnd (ai .lss y42 y41) fun x1=>ifB x1 (bnd (al y8) fun x2=>bnd (ab x2 7) fun x3=>bnd (ldA false 1 H x3) fun x4=>bnd (cH [.int .i64 0] 1 1 H [(0,1,(I (-1)))]) fun p5=>bnd (eB false 1 8 p5.2 x4 p5.1) fun p6=>bnd (al y8) fun x7=>bnd (ab x7 7) fun x8=>bnd (stA 1 p6.2 x8 p6.1) fun H9=>bnd (ai .add y42 (I 1)) fun x10=>aG.L0 σ K y2 y8 y9 y41 x10 y54 y55 H9) (aG.L1 σ K y2 y8 y9 y41 y42 y2 (I 0) H)):aG.L0 σ K y2 y8 y9 y41 y42 y54 y55 H :=
 fun j=>lrd (g:=54049792598213380) (Eq.mpr (by kernel_rfl) h)
theorem aG.L1_step {y2 y8 y9 y41 y42 y54 y55:AV} (h:bnd (ai .lss y55 y54) fun x1=>ifB x1 (bnd (al y8) fun x2=>bnd (ab x2 5) fun x3=>bnd (ldA false 1 H x3) fun x4=>af Tryz.prog σ iC [(I 16)] H fun x5 H6=>kpK (x3,some 1) H H6 (af Tryz.prog σ mZ [(I 8)] H6 fun x7 H8=>kpK (x3,some 1) H6 H8 (bnd (dg [I 0,.lit (.pointer none),.lit (.pointer none),.lit (.slice none 0 0),I 0,I 0,I 0] [(1,1,x5),(2,1,x7),(6,1,(I (-1)))]) fun l9=>dS (.agg l9) H8 fun x10 H11=>kpK (x3,some 1) H8 H11 (bnd (cH [.pointer none] 1 1 H11 [(0,1,x10)]) fun p12=>kpK (x3,some 1) H11 p12.2 (bnd (eB false 1 8 p12.2 x4 p12.1) fun p13=>bnd (al y8) fun x14=>bnd (ab x14 5) fun x15=>bnd (stA 1 p13.2 x15 p13.1) fun H16=>bnd (ai .add y55 (I 1)) fun x17=>aG.L1 σ K y2 y8 y9 y41 y42 y54 x17 H16))))) (bnd (al y8) fun x18=>bnd (ab x18 6) fun x19=>bnd (ldA false 1 H x19) fun x20=>bnd (ai .gtr x20 (I 0)) fun x21=>ifB x21 (bnd (al y8) fun x22=>bnd (ab x22 5) fun x23=>bnd (ldA false 1 H x23) fun x24=>bnd (aC 1 x24 (I 0)) fun x25=>bnd (ldA false 1 H x25) fun x26=>bnd (al x26) fun x27=>bnd (ab x27 1) fun x28=>bnd (ldA false 1 H x28) fun x29=>af Tryz.prog σ c3 [x29,(I 0),(I 1),(I 0)] H fun x30 H31=>aG.L2 σ K y2 y8 x29 y41 y42 y54 y55 H31) (aG.J3 σ K y2 y8 y9 y41 y42 y54 y55 H))):aG.L1 σ K y2 y8 y9 y41 y42 y54 y55 H :=
 fun j=>lrd (g:=54049792598213380) (Eq.mpr (by kernel_rfl) h)
theorem aG.L2_step {y2 y8 y9 y41 y42 y54 y55:AV} (h:af Tryz.prog σ cP [y9,(I 0)] H fun x1 H2=>ifB x1 (af Tryz.prog σ ci [y9,(I 0)] H2 fun x3 H4=>aG.L2 σ K y2 y8 y9 y41 y42 y54 y55 H4) (aG.J3 σ K y2 y8 y9 y41 y42 y54 y55 H2)):aG.L2 σ K y2 y8 y9 y41 y42 y54 y55 H :=
 fun j=>lrd (g:=54049792598213380) (Eq.mpr (by kernel_rfl) h)
theorem aG.J3_step {y2 y8 y9 y41 y42 y54 y55:AV} (h:K (.tup [y8,(I 0)]) H):aG.J3 σ K y2 y8 y9 y41 y42 y54 y55 H :=
 fun j=>Eq.mpr (by kernel_rfl) h
theorem aG.run {a0 a1 a2:AV} (h:bnd (dv .eql a0 (.lit (.pointer none))) fun x1=>ifB x1 (K (.tup [(.lit (.pointer none)),(I 1)]) H) (bnd (ai .lss a2 (I 1)) fun x2=>ifB x2 (K (.tup [(.lit (.pointer none)),(I 1)]) H) (bnd (ai .gtr a2 (I 64)) fun x3=>ifB x3 (K (.tup [(.lit (.pointer none)),(I 1)]) H) (af Tryz.prog σ fd [a1] H fun x4 H5=>af Tryz.prog σ eC [a0] H5 fun x6 H7=>af Tryz.prog σ eC [a0] H7 fun x8 H9=>bnd (nr [.bool false] 1 1 H9 x8 x8) fun p10=>bnd (dg [.lit (.pointer none),.lit (.slice none 0 0),.lit (.slice none 0 0),.lit (.slice none 0 0),I 0,.lit (.slice none 0 0),I 0,.lit (.slice none 0 0),.lit (.slice none 0 0),.lit (.slice none 0 0)] [(0,1,a0),(1,1,x4),(6,1,x6),(8,1,p10.1)]) fun l11=>dS (.agg l11) p10.2 fun x12 H13=>bnd (al x12) fun x14=>bnd (ab x14 1) fun x15=>bnd (ldA false 1 H13 x15) fun x16=>af Tryz.prog σ fX [x16] H13 fun x17 H18=>bnd (al x12) fun x19=>bnd (ab x19 2) fun x20=>bnd (stA 1 H18 x20 x17) fun H21=>bnd (al x12) fun x22=>bnd (ab x22 6) fun x23=>bnd (ldA false 1 H21 x23) fun x24=>aG.L0 σ K a2 x12 (.lit undef) x24 (I 0) (.lit undef) (.lit undef) H21)))):∃ r H1,aq Tryz.prog σ eI [a0,a1,a2] H r H1∧K r H1 :=
 gwp 54049792598213380 (fn:=Tryz.f40) (f:=eI) (c:=aG.code) (by kernel_rfl) (by kernel_rfl) (Eq.mpr (by kernel_rfl) h)
noncomputable def fO.code:Code:=au Tryz.f41
theorem fO.run {a0:AV} (h:bnd (al a0) fun x1=>bnd (ab x1 9) fun x2=>bnd (ldA false 1 H x2) fun x3=>bnd (eB false 4 24 H (.lit (.slice none 0 0)) x3) fun p4=>K p4.1 p4.2):∃ r H1,aq Tryz.prog σ bt [a0] H r H1∧K r H1 :=
 gwp 0 (fn:=Tryz.f41) (f:=bt) (c:=fO.code) (by kernel_rfl) (by kernel_rfl) (Eq.mpr (by kernel_rfl) h)
noncomputable def fq.code:Code:=au Tryz.f54
theorem fq.run {a0 a1:AV} (h:bnd (ai .geq a1 (I 0)) fun x1=>ifB x1 (bnd (al a0) fun x2=>bnd (ab x2 5) fun x3=>bnd (ldA false 1 H x3) fun x4=>bnd (az x4) fun x5=>bnd (ai .lss a1 x5) fun x6=>K x6 H) (K (Bo false) H)):∃ r H1,aq Tryz.prog σ cZ [a0,a1] H r H1∧K r H1 :=
 gwp 0 (fn:=Tryz.f54) (f:=cZ) (c:=fq.code) (by kernel_rfl) (by kernel_rfl) (Eq.mpr (by kernel_rfl) h)
noncomputable def kX.code:Code:=au Tryz.f55
theorem kX.run (h:cQ [.lit (.nilFunc),.lit (.nilFunc),.lit (.nilFunc),.lit (.nilFunc),.lit (.nilFunc)] H fun x1 H2=>bnd (dg [.lit (.nilFunc),.lit (.nilFunc),.lit (.nilFunc),.lit (.nilFunc),.lit (.nilFunc)] [(0,1,(.fn bH [])),(1,1,(.fn bA [])),(2,1,(.fn bv [])),(3,1,(.fn bh [])),(4,1,(.fn bI []))]) fun l3=>bnd (stA 5 H2 x1 (.agg l3)) fun H4=>bnd (ldA true 5 H4 x1) fun r5=>K r5 H4):∃ r H1,aq Tryz.prog σ fV [] H r H1∧K r H1 :=
 gwp 0 (fn:=Tryz.f55) (f:=fV) (c:=kX.code) (by kernel_rfl) (by kernel_rfl) (Eq.mpr (by kernel_rfl) h)
noncomputable def ck.code:Code:=au Tryz.f56
noncomputable def ck.L0 (σ:Sig) (K:AV→Hp→Prop) (y1 y2 y3 y4:AV) (H:Hp):Prop:=∀ j:Nat→AV,cO (CZ σ) (lB (bB (sR (sL (sR (sR (sR (sR ck.code)))))))) [j 0,y1,y2,y3,y4,j 5,j 6,j 7,j 8,j 9,j 10,j 11,j 12,j 13,j 14,j 15,j 16,j 17,j 18,j 19,j 20,j 21,j 22,j 23,j 24,j 25,j 26,j 27,j 28,j 29,j 30,j 31,j 32,j 33,j 34,j 35,j 36,j 37,j 38,j 39] H (fun e T G=>(nx (fQ Tryz.f56 σ K) fun T G=>wp (CZ σ) 30 (sR (sR (sR (sR (sR ck.code))))) T G (fQ Tryz.f56 σ K)) (aR 0 e) T G)
theorem ck.L0_step {y1 y2 y3 y4:AV} (h:bnd (ab y1 4) fun x1=>bnd (ldA false 1 H x1) fun x2=>bnd (az x2) fun x3=>bnd (ai .lss y4 x3) fun x4=>ifB x4 (bnd (ab y1 4) fun x5=>bnd (ldA false 1 H x5) fun x6=>bnd (aC 2 x6 y4) fun x7=>bnd (ab x7 0) fun x8=>bnd (ldA false 1 H x8) fun x9=>af Tryz.prog σ fS [x9] H fun x10 H11=>bnd (ab y1 4) fun x12=>kpK (x12,some 1) H H11 (bnd (ldA false 1 H11 x12) fun x13=>bnd (aC 2 x13 y4) fun x14=>bnd (ab x14 1) fun x15=>kpK (x15,some 1) H H11 (bnd (ldA false 1 H11 x15) fun x16=>bnd (dg [.lit (.string ⟨#[]⟩),.lit (.string ⟨#[]⟩)] [(0,1,x10),(1,1,x16)]) fun l17=>bnd (cH [.string ⟨#[]⟩,.string ⟨#[]⟩] 2 1 H11 [(0,2,(.agg l17))]) fun p18=>bnd (eB false 2 32 p18.2 y3 p18.1) fun p19=>bnd (ai .add y4 (I 1)) fun x20=>ck.L0 σ K y1 y2 p19.1 x20 p19.2))) (bnd (ab y1 4) fun x21=>bnd (stA 1 H x21 y3) fun H22=>bnd (ldA true 5 H22 y1) fun x23=>bnd (stA 5 H22 y2 x23) fun H24=>bnd (ldA true 5 H24 y2) fun r25=>K r25 H24)):ck.L0 σ K y1 y2 y3 y4 H :=
 fun j=>lrd (g:=30) (Eq.mpr (by kernel_rfl) h)
theorem ck.run {a0:AV} (h:dS a0 H fun x1 H2=>cQ [I 0,.lit (.string ⟨#[]⟩),.lit (.string ⟨#[]⟩),.lit (.slice none 0 0),.lit (.slice none 0 0)] H2 fun x3 H4=>bnd (ab x1 1) fun x5=>bnd (ldA false 1 H4 x5) fun x6=>af Tryz.prog σ fS [x6] H4 fun x7 H8=>bnd (ab x1 1) fun x9=>bnd (stA 1 H8 x9 x7) fun H10=>bnd (ab x1 3) fun x11=>bnd (ldA false 1 H10 x11) fun x12=>bnd (eB false 1 16 H10 (.lit (.slice none 0 0)) x12) fun p13=>bnd (ab x1 3) fun x14=>bnd (stA 1 p13.2 x14 p13.1) fun H15=>ck.L0 σ K x1 x3 (.lit (.slice none 0 0)) (I 0) H15):∃ r H1,aq Tryz.prog σ eD [a0] H r H1∧K r H1 :=
 gwp 30 (fn:=Tryz.f56) (f:=eD) (c:=ck.code) (by kernel_rfl) (by kernel_rfl) (Eq.mpr (by kernel_rfl) h)
noncomputable def gT.code:Code:=au Tryz.f59
theorem gT.run {a0 a1:AV} (h:cQ [I 0,I 0,I 0,I 0,I 0,I 0,I 0,I 0] H fun x1 H2=>af Tryz.prog σ dF [a0,a1] H2 fun x3 H4=>bnd (unR .not x3) fun x5=>ifB x5 (bnd (dg [I 0,I 0,I 0,I 0,I 0,I 0,I 0,I 0] []) fun l6=>bnd (stA 8 H4 x1 (.agg l6)) fun H7=>bnd (ldA true 8 H7 x1) fun r8=>K (.tup [r8,(I 6)]) H7) (bnd (al a0) fun x9=>bnd (ab x9 0) fun x10=>bnd (ldA false 1 H4 x10) fun x11=>bnd (aC 9 x11 a1) fun x12=>bnd (ab x12 0) fun x13=>bnd (ldA true 8 H4 x13) fun x14=>bnd (stA 8 H4 x1 x14) fun H15=>bnd (ldA true 8 H15 x1) fun r16=>K (.tup [r16,(I 0)]) H15)):∃ r H1,aq Tryz.prog σ dB [a0,a1] H r H1∧K r H1 :=
 gwp 0 (fn:=Tryz.f59) (f:=dB) (c:=gT.code) (by kernel_rfl) (by kernel_rfl) (Eq.mpr (by kernel_rfl) h)
noncomputable def fL.code:Code:=au Tryz.f61
theorem fL.run {a0 a1:AV} (h:bnd (ai .lss a1 (I 0)) fun x1=>ifB x1 (K (I 0) H) (bnd (al a0) fun x2=>bnd (ab x2 0) fun x3=>bnd (ldA false 1 H x3) fun x4=>bnd (az x4) fun x5=>bnd (ai .geq a1 x5) fun x6=>ifB x6 (K (I 0) H) (bnd (al a0) fun x7=>bnd (ab x7 0) fun x8=>bnd (ldA false 1 H x8) fun x9=>bnd (aC 9 x9 a1) fun x10=>bnd (ab x10 8) fun x11=>bnd (ldA false 1 H x11) fun x12=>K x12 H))):∃ r H1,aq Tryz.prog σ dD [a0,a1] H r H1∧K r H1 :=
 gwp 0 (fn:=Tryz.f61) (f:=dD) (c:=fL.code) (by kernel_rfl) (by kernel_rfl) (Eq.mpr (by kernel_rfl) h)
end Go.Proofs.YtegioimlblnajaaGreat.Ev
namespace Go.Proofs.YtegioimlblnajaaGreat.Ev
set_option maxRecDepth 100000
set_option maxHeartbeats 4000000
set_option linter.unusedVariables false
variable {σ:Sig} {K:AV→Hp→Prop} {H:Hp}
noncomputable def bn.code:Code:=au Tryz.f68
noncomputable def bn.R0 (j:Nat→AV) (y3:AV):kB:=⟨[j 0,j 1,j 2,y3,j 4,j 5,j 6,j 7,j 8,j 9,j 10,j 11,j 12,j 13,j 14,j 15],rP (bB (sR (sL (sR (sR bn.code))))),rA (bB (sR (sL (sR (sR bn.code))))),rB (bB (sR (sL (sR (sR bn.code)))))⟩
theorem bn.R0_round {j:Nat→AV} {y3 p0:AV} {id:Nat} (hl:H.get id=some (.loop (bn.R0 j y3) .ready none)) (h:cQ [I 0,I 0] H fun x1 H2=>bnd (stA 2 H2 x1 p0) fun H3=>H3.get id=some (.loop (bn.R0 j y3) .ready none)∧(bnd (some (H3.set id (some (.loop (bn.R0 j y3) .busy none)))) fun H4=>bnd (ldA false 1 H4 y3) fun x5=>bnd (ab x1 0) fun x6=>bnd (ldA false 1 H4 x6) fun x7=>bnd (cH [.int .i64 0] 1 1 H4 [(0,1,x7)]) fun p8=>bnd (eB false 1 8 p8.2 x5 p8.1) fun p9=>bnd (stA 1 p9.2 y3 p9.1) fun H10=>tS id (bn.R0 j y3) K .normal H10)):iG Tryz.prog σ (.yl id) [p0] H K :=
 ru (CZ σ) ug 8 hl (by kernel_rfl) (by kernel_rfl) (by kernel_rfl) (Eq.mpr (by kernel_rfl) h)
theorem bn.run {a0:AV} (h:cQ [.lit (.slice none 0 0)] H fun x1 H2=>bnd (al a0) fun x3=>bnd (ab x3 1) fun x4=>af Tryz.prog σ dK [x4] H2 fun x5 H6=>∀ j:Nat→AV,nY Tryz.prog σ x5 (bn.R0 j x1) H6 (fun H7=>bnd (ldA false 1 H7 x1) fun x9=>K x9 H7) (fun H7=>K (.lit (.slice none 0 0)) H7) (fun i8 H7=>False)):∃ r H1,aq Tryz.prog σ c7 [a0] H r H1∧K r H1 :=
 gwp 8 (fn:=Tryz.f68) (f:=c7) (c:=bn.code) (by kernel_rfl) (by kernel_rfl) (Eq.mpr (by kernel_rfl) h)
noncomputable def gV.code:Code:=au Tryz.f70
theorem gV.run {a0:AV} (h:bnd (al a0) fun x1=>bnd (ab x1 2) fun x2=>bnd (ldA false 1 H x2) fun x3=>bnd (al a0) fun x4=>bnd (ab x4 1) fun x5=>bnd (ldA false 1 H x5) fun x6=>bnd (ai .sub x3 x6) fun x7=>bnd (pD [(I 0),x7]) fun x8=>K x8 H):∃ r H1,aq Tryz.prog σ d_ [a0] H r H1∧K r H1 :=
 gwp 0 (fn:=Tryz.f70) (f:=d_) (c:=gV.code) (by kernel_rfl) (by kernel_rfl) (Eq.mpr (by kernel_rfl) h)
noncomputable def aE.code:Code:=au Tryz.f71
noncomputable def aE.J0 (σ:Sig) (K:AV→Hp→Prop) (y0 y5 y6 y7:AV) (H:Hp):Prop:=∀ j:Nat→AV,wp (CZ σ) 225 (sR (sR (sR (cT (sR (cE (sR (bB (sL (sR (sR (sR aE.code)))))))))))) [y0,j 1,j 2,j 3,j 4,y5,y6,y7,j 8,j 9,j 10,j 11,j 12,j 13,j 14,j 15,j 16,j 17,j 18,j 19,j 20,j 21,j 22,j 23,j 24,j 25,j 26,j 27,j 28,j 29,j 30,j 31,j 32,j 33,j 34,j 35,j 36,j 37,j 38,j 39,j 40,j 41,j 42,j 43,j 44,j 45,j 46,j 47,j 48,j 49,j 50,j 51,j 52,j 53,j 54,j 55,j 56,j 57,j 58,j 59,j 60,j 61,j 62,j 63,j 64,j 65,j 66,j 67,j 68,j 69,j 70,j 71,j 72,j 73,j 74,j 75,j 76,j 77,j 78,j 79,j 80,j 81,j 82,j 83,j 84,j 85,j 86,j 87,j 88,j 89,j 90,j 91,j 92,j 93,j 94,j 95,j 96,j 97] H (fun e T G=>(nx (fQ Tryz.f71 σ K) fun T G=>∀ j,wp (CZ σ) 225 (sR (sR (sR (sR aE.code)))) (f_ 225 j 0 T) G (fQ Tryz.f71 σ K)) (aR 0 e) T G)
noncomputable def aE.J1 (σ:Sig) (K:AV→Hp→Prop) (y0 y5 y6 y7:AV) (H:Hp):Prop:=∀ j:Nat→AV,wp (CZ σ) 225 (sR (sR (sR (sR aE.code)))) [y0,j 1,j 2,j 3,j 4,y5,y6,y7,j 8,j 9,j 10,j 11,j 12,j 13,j 14,j 15,j 16,j 17,j 18,j 19,j 20,j 21,j 22,j 23,j 24,j 25,j 26,j 27,j 28,j 29,j 30,j 31,j 32,j 33,j 34,j 35,j 36,j 37,j 38,j 39,j 40,j 41,j 42,j 43,j 44,j 45,j 46,j 47,j 48,j 49,j 50,j 51,j 52,j 53,j 54,j 55,j 56,j 57,j 58,j 59,j 60,j 61,j 62,j 63,j 64,j 65,j 66,j 67,j 68,j 69,j 70,j 71,j 72,j 73,j 74,j 75,j 76,j 77,j 78,j 79,j 80,j 81,j 82,j 83,j 84,j 85,j 86,j 87,j 88,j 89,j 90,j 91,j 92,j 93,j 94,j 95,j 96,j 97] H (fQ Tryz.f71 σ K)
theorem aE.J0_step {y0 y5 y6 y7:AV} (h:bnd (al y7) fun x1=>bnd (ab x1 5) fun x2=>bnd (ldA false 1 H x2) fun x3=>bnd (cH [.int .i64 0] 1 1 H [(0,1,y6)]) fun p4=>bnd (eB false 1 8 p4.2 x3 p4.1) fun p5=>bnd (al y7) fun x6=>bnd (ab x6 5) fun x7=>bnd (stA 1 p5.2 x7 p5.1) fun H8=>aE.J1 σ K y0 y5 y6 y7 H8):aE.J0 σ K y0 y5 y6 y7 H :=
 fun j=>Eq.mpr (by kernel_rfl) h
theorem aE.J1_step {y0 y5 y6 y7:AV} (h:bnd (al y0) fun x1=>bnd (ab x1 0) fun x2=>bnd (ldA false 1 H x2) fun x3=>bnd (ldA true 9 H y5) fun x4=>bnd (cH [.int .i64 0,.string ⟨#[]⟩,.string ⟨#[]⟩,.slice none 0 0,.slice none 0 0,.slice none 0 0,.int .i64 0,.int .i64 0,.int .i64 0] 9 1 H [(0,9,x4)]) fun p5=>kpK (x2,some 1) H p5.2 (bnd (eB false 9 136 p5.2 x3 p5.1) fun p6=>bnd (al y0) fun x7=>bnd (ab x7 0) fun x8=>bnd (stA 1 p6.2 x8 p6.1) fun H9=>K (I 0) H9)):aE.J1 σ K y0 y5 y6 y7 H :=
 fun j=>Eq.mpr (by kernel_rfl) h
theorem aE.run {a0 a1:AV} (h:dS a1 H fun x1 H2=>bnd (ldA true 5 H2 x1) fun x3=>af Tryz.prog σ ff [x3] H2 fun x4 H5=>bnd (dg [I 0,.lit (.string ⟨#[]⟩),.lit (.string ⟨#[]⟩),.lit (.slice none 0 0),.lit (.slice none 0 0),.lit (.slice none 0 0),I 0,I 0,I 0] [(0,5,x4),(7,1,(I 1)),(8,1,(I (-1)))]) fun l6=>cQ [I 0,.lit (.string ⟨#[]⟩),.lit (.string ⟨#[]⟩),.lit (.slice none 0 0),.lit (.slice none 0 0),.lit (.slice none 0 0),I 0,I 0,I 0] H5 fun x7 H8=>bnd (stA 9 H8 x7 (.agg l6)) fun H9=>bnd (al a0) fun x10=>bnd (ab x10 0) fun x11=>bnd (ldA false 1 H9 x11) fun x12=>bnd (az x12) fun x13=>bnd (ai .eql x13 (I 0)) fun x14=>ifB x14 (bnd (ab x1 0) fun x15=>bnd (ldA false 1 H9 x15) fun x16=>bnd (ai .neq x16 (I (-1))) fun x17=>ifB x17 (K (I 10) H9) (bnd (ai .gtr x13 (I 0)) fun x18=>ifB x18 (bnd (ab x1 0) fun x19=>bnd (ldA false 1 H9 x19) fun x20=>bnd (ai .lss x20 (I 0)) fun x21=>ifB x21 (K (I 10) H9) (bnd (ab x1 0) fun x22=>bnd (ldA false 1 H9 x22) fun x23=>bnd (ai .geq x23 x13) fun x24=>ifB x24 (K (I 10) H9) (bnd (ai .gtr x13 (I 0)) fun x25=>ifB x25 (bnd (al a0) fun x26=>bnd (ab x26 0) fun x27=>bnd (ldA false 1 H9 x27) fun x28=>bnd (ab x1 0) fun x29=>bnd (ldA false 1 H9 x29) fun x30=>bnd (aC 9 x28 x30) fun x31=>bnd (al x31) fun x32=>bnd (ab x32 6) fun x33=>bnd (ldA false 1 H9 x33) fun x34=>bnd (ai .add x34 (I 1)) fun x35=>bnd (ab x7 6) fun x36=>bnd (stA 1 H9 x36 x35) fun H37=>bnd (ab x7 6) fun x38=>bnd (ldA false 1 H37 x38) fun x39=>bnd (ai .gtr x39 (I 256)) fun x40=>ifB x40 (K (I 11) H37) (bnd (al x31) fun x41=>bnd (ab x41 5) fun x42=>bnd (ldA false 1 H37 x42) fun x43=>bnd (az x43) fun x44=>bnd (ai .gtr x44 (I 0)) fun x45=>ifB x45 (bnd (ai .add x44 (I 1)) fun x46=>bnd (al x31) fun x47=>bnd (ab x47 5) fun x48=>bnd (ldA false 1 H37 x48) fun x49=>bnd (ai .sub x44 (I 1)) fun x50=>bnd (aC 1 x49 x50) fun x51=>bnd (ldA false 1 H37 x51) fun x52=>bnd (ab x7 7) fun x53=>bnd (stA 1 H37 x53 x46) fun H54=>kpK (x51,some 1) H37 H54 (kpK (x48,some 1) H37 H54 (bnd (ab x7 8) fun x55=>bnd (stA 1 H54 x55 x52) fun H56=>aE.J0 σ K a0 x7 x13 x31 H56))) (aE.J0 σ K a0 x7 x13 x31 H37))) (aE.J1 σ K a0 x7 x13 (.lit undef) H9)))) (bnd (ai .gtr x13 (I 0)) fun x57=>ifB x57 (bnd (al a0) fun x58=>bnd (ab x58 0) fun x59=>bnd (ldA false 1 H9 x59) fun x60=>bnd (ab x1 0) fun x61=>bnd (ldA false 1 H9 x61) fun x62=>bnd (aC 9 x60 x62) fun x63=>bnd (al x63) fun x64=>bnd (ab x64 6) fun x65=>bnd (ldA false 1 H9 x65) fun x66=>bnd (ai .add x66 (I 1)) fun x67=>bnd (ab x7 6) fun x68=>bnd (stA 1 H9 x68 x67) fun H69=>bnd (ab x7 6) fun x70=>bnd (ldA false 1 H69 x70) fun x71=>bnd (ai .gtr x71 (I 256)) fun x72=>ifB x72 (K (I 11) H69) (bnd (al x63) fun x73=>bnd (ab x73 5) fun x74=>bnd (ldA false 1 H69 x74) fun x75=>bnd (az x75) fun x76=>bnd (ai .gtr x76 (I 0)) fun x77=>ifB x77 (bnd (ai .add x76 (I 1)) fun x78=>bnd (al x63) fun x79=>bnd (ab x79 5) fun x80=>bnd (ldA false 1 H69 x80) fun x81=>bnd (ai .sub x76 (I 1)) fun x82=>bnd (aC 1 x81 x82) fun x83=>bnd (ldA false 1 H69 x83) fun x84=>bnd (ab x7 7) fun x85=>bnd (stA 1 H69 x85 x78) fun H86=>kpK (x83,some 1) H69 H86 (kpK (x80,some 1) H69 H86 (bnd (ab x7 8) fun x87=>bnd (stA 1 H86 x87 x84) fun H88=>aE.J0 σ K a0 x7 x13 x63 H88))) (aE.J0 σ K a0 x7 x13 x63 H69))) (aE.J1 σ K a0 x7 x13 (.lit undef) H9)))) (bnd (ai .gtr x13 (I 0)) fun x89=>ifB x89 (bnd (ab x1 0) fun x90=>bnd (ldA false 1 H9 x90) fun x91=>bnd (ai .lss x91 (I 0)) fun x92=>ifB x92 (K (I 10) H9) (bnd (ab x1 0) fun x93=>bnd (ldA false 1 H9 x93) fun x94=>bnd (ai .geq x94 x13) fun x95=>ifB x95 (K (I 10) H9) (bnd (ai .gtr x13 (I 0)) fun x96=>ifB x96 (bnd (al a0) fun x97=>bnd (ab x97 0) fun x98=>bnd (ldA false 1 H9 x98) fun x99=>bnd (ab x1 0) fun x100=>bnd (ldA false 1 H9 x100) fun x101=>bnd (aC 9 x99 x101) fun x102=>bnd (al x102) fun x103=>bnd (ab x103 6) fun x104=>bnd (ldA false 1 H9 x104) fun x105=>bnd (ai .add x105 (I 1)) fun x106=>bnd (ab x7 6) fun x107=>bnd (stA 1 H9 x107 x106) fun H108=>bnd (ab x7 6) fun x109=>bnd (ldA false 1 H108 x109) fun x110=>bnd (ai .gtr x110 (I 256)) fun x111=>ifB x111 (K (I 11) H108) (bnd (al x102) fun x112=>bnd (ab x112 5) fun x113=>bnd (ldA false 1 H108 x113) fun x114=>bnd (az x114) fun x115=>bnd (ai .gtr x115 (I 0)) fun x116=>ifB x116 (bnd (ai .add x115 (I 1)) fun x117=>bnd (al x102) fun x118=>bnd (ab x118 5) fun x119=>bnd (ldA false 1 H108 x119) fun x120=>bnd (ai .sub x115 (I 1)) fun x121=>bnd (aC 1 x120 x121) fun x122=>bnd (ldA false 1 H108 x122) fun x123=>bnd (ab x7 7) fun x124=>bnd (stA 1 H108 x124 x117) fun H125=>kpK (x122,some 1) H108 H125 (kpK (x119,some 1) H108 H125 (bnd (ab x7 8) fun x126=>bnd (stA 1 H125 x126 x123) fun H127=>aE.J0 σ K a0 x7 x13 x102 H127))) (aE.J0 σ K a0 x7 x13 x102 H108))) (aE.J1 σ K a0 x7 x13 (.lit undef) H9)))) (bnd (ai .gtr x13 (I 0)) fun x128=>ifB x128 (bnd (al a0) fun x129=>bnd (ab x129 0) fun x130=>bnd (ldA false 1 H9 x130) fun x131=>bnd (ab x1 0) fun x132=>bnd (ldA false 1 H9 x132) fun x133=>bnd (aC 9 x131 x133) fun x134=>bnd (al x134) fun x135=>bnd (ab x135 6) fun x136=>bnd (ldA false 1 H9 x136) fun x137=>bnd (ai .add x137 (I 1)) fun x138=>bnd (ab x7 6) fun x139=>bnd (stA 1 H9 x139 x138) fun H140=>bnd (ab x7 6) fun x141=>bnd (ldA false 1 H140 x141) fun x142=>bnd (ai .gtr x142 (I 256)) fun x143=>ifB x143 (K (I 11) H140) (bnd (al x134) fun x144=>bnd (ab x144 5) fun x145=>bnd (ldA false 1 H140 x145) fun x146=>bnd (az x146) fun x147=>bnd (ai .gtr x147 (I 0)) fun x148=>ifB x148 (bnd (ai .add x147 (I 1)) fun x149=>bnd (al x134) fun x150=>bnd (ab x150 5) fun x151=>bnd (ldA false 1 H140 x151) fun x152=>bnd (ai .sub x147 (I 1)) fun x153=>bnd (aC 1 x152 x153) fun x154=>bnd (ldA false 1 H140 x154) fun x155=>bnd (ab x7 7) fun x156=>bnd (stA 1 H140 x156 x149) fun H157=>kpK (x154,some 1) H140 H157 (kpK (x151,some 1) H140 H157 (bnd (ab x7 8) fun x158=>bnd (stA 1 H157 x158 x155) fun H159=>aE.J0 σ K a0 x7 x13 x134 H159))) (aE.J0 σ K a0 x7 x13 x134 H140))) (aE.J1 σ K a0 x7 x13 (.lit undef) H9)))):∃ r H1,aq Tryz.prog σ fU [a0,a1] H r H1∧K r H1 :=
 gwp 225 (fn:=Tryz.f71) (f:=fU) (c:=aE.code) (by kernel_rfl) (by kernel_rfl) (Eq.mpr (by kernel_rfl) h)
noncomputable def cW.code:Code:=au Tryz.f72
noncomputable def cW.L0 (σ:Sig) (K:AV→Hp→Prop) (y3 y8 y9 y10:AV) (H:Hp):Prop:=∀ j:Nat→AV,cO (CZ σ) (lB (bB (sR (sL (sR (sR cW.code)))))) [j 0,j 1,j 2,y3,j 4,j 5,j 6,j 7,y8,y9,y10,j 11,j 12,j 13,j 14,j 15,j 16,j 17,j 18,j 19,j 20,j 21,j 22,j 23,j 24,j 25,j 26] H (fun e T G=>(nx (fQ Tryz.f72 σ K) fun T G=>wp (CZ σ) 1800 (sR (sR (sR cW.code))) T G (fQ Tryz.f72 σ K)) (aR 0 e) T G)
theorem cW.L0_step {y3 y8 y9 y10:AV} (h:bnd (ai .lss y10 y9) fun x1=>ifB x1 (bnd (aC 2 y8 y10) fun x2=>bnd (ldA true 2 H x2) fun x3=>cQ [.lit (.slice none 0 0),.lit (.slice none 0 0)] H fun x4 H5=>bnd (stA 2 H5 x4 x3) fun H6=>bnd (ab x4 0) fun x7=>bnd (ldA false 1 H6 x7) fun x8=>af Tryz.prog σ mD [x8] H6 fun x9 H10=>bnd (ab x4 1) fun x11=>kpK (x11,some 1) H6 H10 (bnd (ldA false 1 H10 x11) fun x12=>af Tryz.prog σ gD [x12] H10 fun x13 H14=>bnd (dg [.lit (.slice none 0 0),.lit (.slice none 0 0)] [(0,1,x9),(1,1,x13)]) fun l15=>bnd (aC 2 y3 y10) fun x16=>bnd (stA 2 H14 x16 (.agg l15)) fun H17=>bnd (ai .add y10 (I 1)) fun x18=>cW.L0 σ K y3 y8 y9 x18 H17)) (K y3 H)):cW.L0 σ K y3 y8 y9 y10 H :=
 fun j=>lrd (g:=1800) (Eq.mpr (by kernel_rfl) h)
theorem cW.run {a0:AV} (h:af Tryz.prog σ cJ [a0] H fun x1 H2=>bnd (az x1) fun x3=>cW.L0 σ K x1 x1 x3 (I 0) H2):∃ r H1,aq Tryz.prog σ fd [a0] H r H1∧K r H1 :=
 gwp 1800 (fn:=Tryz.f72) (f:=fd) (c:=cW.code) (by kernel_rfl) (by kernel_rfl) (Eq.mpr (by kernel_rfl) h)
noncomputable def jz.code:Code:=au Tryz.f73
theorem jz.run {a0:AV} (h:bnd (al a0) fun x1=>bnd (ab x1 0) fun x2=>bnd (ldA false 1 H x2) fun x3=>bnd (az x3) fun x4=>K x4 H):∃ r H1,aq Tryz.prog σ eC [a0] H r H1∧K r H1 :=
 gwp 0 (fn:=Tryz.f73) (f:=eC) (c:=jz.code) (by kernel_rfl) (by kernel_rfl) (Eq.mpr (by kernel_rfl) h)
noncomputable def db.code:Code:=au Tryz.f74
noncomputable def db.L0 (σ:Sig) (K:AV→Hp→Prop) (y3 y6 y7 y8:AV) (H:Hp):Prop:=∀ j:Nat→AV,cO (CZ σ) (lB (bB (sR (sL (sR (sR db.code)))))) [j 0,j 1,j 2,y3,j 4,j 5,y6,y7,y8,j 9,j 10,j 11,j 12,j 13,j 14,j 15,j 16,j 17,j 18] H (fun e T G=>(nx (fQ Tryz.f74 σ K) fun T G=>wp (CZ σ) 456 (sR (sR (sR db.code))) T G (fQ Tryz.f74 σ K)) (aR 0 e) T G)
theorem db.L0_step {y3 y6 y7 y8:AV} (h:bnd (ai .lss y8 y7) fun x1=>ifB x1 (bnd (aC 2 y6 y8) fun x2=>bnd (ldA true 2 H x2) fun x3=>cQ [.lit (.slice none 0 0),.lit (.slice none 0 0)] H fun x4 H5=>bnd (stA 2 H5 x4 x3) fun H6=>bnd (ab x4 0) fun x7=>bnd (ldA false 1 H6 x7) fun x8=>af Tryz.prog σ iz [x8,(.fn pK [])] H6 fun x9 H10=>bnd (eB false 1 24 H10 y3 x9) fun p11=>bnd (ai .add y8 (I 1)) fun x12=>db.L0 σ K p11.1 y6 y7 x12 p11.2) (K y3 H)):db.L0 σ K y3 y6 y7 y8 H :=
 fun j=>lrd (g:=456) (Eq.mpr (by kernel_rfl) h)
theorem db.run {a0:AV} (h:bnd (az a0) fun x1=>db.L0 σ K (.lit (.slice none 0 0)) a0 x1 (I 0) H):∃ r H1,aq Tryz.prog σ fX [a0] H r H1∧K r H1 :=
 gwp 456 (fn:=Tryz.f74) (f:=fX) (c:=db.code) (by kernel_rfl) (by kernel_rfl) (Eq.mpr (by kernel_rfl) h)
noncomputable def mW.code:Code:=au Tryz.f75
theorem mW.run {a0:AV} (h:bnd (pD [(I 1),a0]) fun x1=>bnd (sH [x1,(I 1024)]) fun x2=>bnd (nr [.int .i64 0] 1 8 H x2 x2) fun p3=>bnd (dg [.lit (.slice none 0 0),I 0,I 0,.lit (.pointer none),.lit (.pointer none),.lit (.pointer none),.lit (.pointer none),.lit (.pointer none),.lit (.pointer none),.lit (.pointer none),.lit (.pointer none),.lit (.pointer none),.lit (.pointer none),.lit (.pointer none),.lit (.pointer none),.lit (.pointer none),.lit (.pointer none),.lit (.pointer none),.lit (.pointer none),.lit (.pointer none),.lit (.pointer none),.lit (.pointer none),.lit (.pointer none),.lit (.pointer none),.lit (.pointer none),.lit (.pointer none),.lit (.pointer none),.lit (.pointer none),.lit (.pointer none),.lit (.pointer none),.lit (.pointer none),.lit (.pointer none),.lit (.pointer none),.lit (.pointer none),.lit (.pointer none),.lit (.pointer none),.lit (.pointer none),.lit (.pointer none),.lit (.pointer none),.lit (.pointer none),.lit (.pointer none),.lit (.pointer none),.lit (.pointer none),.lit (.pointer none),.lit (.pointer none),.lit (.pointer none),.lit (.pointer none),.lit (.pointer none),.lit (.pointer none),.lit (.pointer none),.lit (.pointer none),.lit (.pointer none),.lit (.pointer none),.lit (.pointer none),.lit (.pointer none),.lit (.pointer none),.lit (.pointer none),.lit (.pointer none),.lit (.pointer none),.lit (.pointer none),.lit (.pointer none),.lit (.pointer none),.lit (.pointer none),.lit (.pointer none),.lit (.pointer none),.lit (.pointer none),.lit (.pointer none),.lit (.pointer none),I 0,I 0,Bo false,Bo false] [(0,1,p3.1)]) fun l4=>dS (.agg l4) p3.2 fun x5 H6=>K x5 H6):∃ r H1,aq Tryz.prog σ iC [a0] H r H1∧K r H1 :=
 gwp 0 (fn:=Tryz.f75) (f:=iC) (c:=mW.code) (by kernel_rfl) (by kernel_rfl) (Eq.mpr (by kernel_rfl) h)
noncomputable def qD.code:Code:=au Tryz.f76
theorem qD.run {a0:AV} (h:bnd (pD [(I 0),a0]) fun x1=>bnd (sH [x1,(I 1024)]) fun x2=>bnd (dg [I 0,.lit (.slice none 0 0)] [(0,1,x2)]) fun l3=>dS (.agg l3) H fun x4 H5=>K x4 H5):∃ r H1,aq Tryz.prog σ mZ [a0] H r H1∧K r H1 :=
 gwp 0 (fn:=Tryz.f76) (f:=mZ) (c:=qD.code) (by kernel_rfl) (by kernel_rfl) (Eq.mpr (by kernel_rfl) h)
noncomputable def fM.code:Code:=au Tryz.f77
theorem fM.run {a0 a1 a2 a3:AV} (h:bnd (ai .lss a1 (I 0)) fun x1=>ifB x1 (K (I 1) H) (bnd (ai .gtr a1 (I 64)) fun x2=>ifB x2 (K (I 1) H) (bnd (al a0) fun x3=>bnd (ab x3 3) fun x4=>bnd (iU 65 1 x4 a1) fun x5=>bnd (ldA false 1 H x5) fun x6=>bnd (dv .neq x6 (.lit (.pointer none))) fun x7=>ifB x7 (K (I 1) H) (af Tryz.prog σ fj [a1,a2] H fun x8 H9=>bnd (kI .eql x8 (.lit (.nilFunc))) fun x10=>ifB x10 (K (I 1) H9) (af Tryz.prog σ fj [a1,a2] H9 fun x11 H12=>bnd (dg [.lit (.pointer none),I 0,I 0,I 0,I 0,Bo false,.lit (.nilFunc)] [(0,1,a0),(1,1,a1),(2,1,a3),(6,1,x11)]) fun l13=>dS (.agg l13) H12 fun x14 H15=>bnd (al a0) fun x16=>bnd (ab x16 3) fun x17=>bnd (iU 65 1 x17 a1) fun x18=>bnd (stA 1 H15 x18 x14) fun H19=>K (I 0) H19))))):∃ r H1,aq Tryz.prog σ c3 [a0,a1,a2,a3] H r H1∧K r H1 :=
 gwp 0 (fn:=Tryz.f77) (f:=c3) (c:=fM.code) (by kernel_rfl) (by kernel_rfl) (Eq.mpr (by kernel_rfl) h)
noncomputable def gv.code:Code:=au Tryz.f78
theorem gv.run {a0 a1:AV} (h:bnd (ai .geq a1 (I 0)) fun x1=>ifB x1 (bnd (ai .leq a1 (I 64)) fun x2=>ifB x2 (bnd (al a0) fun x3=>bnd (ab x3 3) fun x4=>bnd (iU 65 1 x4 a1) fun x5=>bnd (ldA false 1 H x5) fun x6=>bnd (dv .neq x6 (.lit (.pointer none))) fun x7=>K x7 H) (K (Bo false) H)) (K (Bo false) H)):∃ r H1,aq Tryz.prog σ cP [a0,a1] H r H1∧K r H1 :=
 gwp 0 (fn:=Tryz.f78) (f:=cP) (c:=gv.code) (by kernel_rfl) (by kernel_rfl) (Eq.mpr (by kernel_rfl) h)
noncomputable def gC.code:Code:=au Tryz.f79
theorem gC.run {a0 a1:AV} (h:af Tryz.prog σ cP [a0,a1] H fun x1 H2=>bnd (unR .not x1) fun x3=>ifB x3 (K (.tup [(Bo false),(I 0),(Bo false)]) H2) (bnd (al a0) fun x4=>bnd (ab x4 3) fun x5=>bnd (iU 65 1 x5 a1) fun x6=>bnd (ldA false 1 H2 x6) fun x7=>bnd (al x7) fun x8=>bnd (ab x8 6) fun x9=>bnd (ldA false 1 H2 x9) fun x10=>iG Tryz.prog σ x10 [x7] H2 fun x11 H12=>bnd (al x7) fun x13=>bnd (ab x13 6) fun x14=>bnd (stA 1 H12 x14 x11) fun H15=>bnd (al x7) fun x16=>bnd (ab x16 6) fun x17=>bnd (ldA false 1 H15 x17) fun x18=>bnd (kI .neq x18 (.lit (.nilFunc))) fun x19=>ifB x19 (K (.tup [(Bo false),(I 0),(Bo false)]) H15) (bnd (al a0) fun x20=>bnd (ab x20 3) fun x21=>bnd (iU 65 1 x21 a1) fun x22=>bnd (stA 1 H15 x22 (.lit (.pointer none))) fun H23=>bnd (al x7) fun x24=>bnd (ab x24 5) fun x25=>bnd (ldA false 1 H23 x25) fun x26=>bnd (unR .not x26) fun x27=>ifB x27 (K (.tup [(Bo true),(I 0),(Bo false)]) H23) (bnd (al x7) fun x28=>bnd (ab x28 2) fun x29=>bnd (ldA false 1 H23 x29) fun x30=>K (.tup [(Bo true),x30,(Bo true)]) H23)))):∃ r H1,aq Tryz.prog σ ci [a0,a1] H r H1∧K r H1 :=
 gwp 0 (fn:=Tryz.f79) (f:=ci) (c:=gC.code) (by kernel_rfl) (by kernel_rfl) (Eq.mpr (by kernel_rfl) h)
noncomputable def gg.code:Code:=au Tryz.f100
theorem gg.run {a0 a1 a2:AV} (h:dS a2 H fun x1 H2=>bnd (al a0) fun x3=>bnd (ab x3 5) fun x4=>bnd (ldA false 1 H2 x4) fun x5=>bnd (aC 1 x5 a1) fun x6=>bnd (ldA false 1 H2 x6) fun x7=>af Tryz.prog σ cz [a0,a1,a1,(I 2),(I 0)] H2 fun x8 H9=>bnd (exR x8 0) fun x10=>bnd (exR x8 1) fun x11=>bnd (exR x8 2) fun x12=>ifB x12 (af Tryz.prog σ cL [x7,x11] H9 fun x13 H14=>K (.tup []) H14) (ifB x10 (bnd (al x7) fun x15=>bnd (ab x15 0) fun x16=>bnd (stA 1 H9 x16 (I 1)) fun H17=>K (.tup []) H17) (K (.tup []) H9))):∃ r H1,aq Tryz.prog σ bH [a0,a1,a2] H r H1∧K r H1 :=
 gwp 0 (fn:=Tryz.f100) (f:=bH) (c:=gg.code) (by kernel_rfl) (by kernel_rfl) (Eq.mpr (by kernel_rfl) h)
noncomputable def aZ.code:Code:=au Tryz.f101
noncomputable def aZ.J0 (σ:Sig) (K:AV→Hp→Prop) (y0 y1 y6:AV) (H:Hp):Prop:=∀ j:Nat→AV,wp (CZ σ) 67 (sR (sR (sR aZ.code))) [y0,y1,j 2,j 3,j 4,j 5,y6,j 7,j 8,j 9,j 10,j 11,j 12,j 13,j 14,j 15,j 16,j 17,j 18,j 19,j 20,j 21,j 22,j 23,j 24,j 25,j 26,j 27,j 28,j 29,j 30,j 31,j 32,j 33,j 34,j 35,j 36,j 37,j 38,j 39,j 40,j 41,j 42,j 43,j 44,j 45,j 46,j 47,j 48,j 49,j 50,j 51,j 52,j 53,j 54,j 55,j 56,j 57,j 58,j 59,j 60,j 61,j 62,j 63,j 64,j 65,j 66,j 67,j 68,j 69,j 70,j 71,j 72,j 73] H (fQ Tryz.f101 σ K)
theorem aZ.J0_step {y0 y1 y6:AV} (h:bnd (al y6) fun x1=>bnd (ab x1 6) fun x2=>bnd (ldA false 1 H x2) fun x3=>af Tryz.prog σ cz [y0,y1,x3,(I 3),(I 0)] H fun x4 H5=>bnd (exR x4 0) fun x6=>bnd (exR x4 1) fun x7=>bnd (exR x4 2) fun x8=>bnd (unR .not x6) fun x9=>ifB x9 (K (.tup []) H5) (bnd (al y6) fun x10=>bnd (ab x10 6) fun x11=>bnd (stA 1 H5 x11 (I (-1))) fun H12=>bnd (al y6) fun x13=>bnd (ab x13 0) fun x14=>bnd (stA 1 H12 x14 (I 0)) fun H15=>ifB x8 (af Tryz.prog σ cL [y6,x7] H15 fun x16 H17=>K (.tup []) H17) (K (.tup []) H15))):aZ.J0 σ K y0 y1 y6 H :=
 fun j=>Eq.mpr (by kernel_rfl) h
theorem aZ.run {a0 a1 a2:AV} (h:dS a2 H fun x1 H2=>bnd (al a0) fun x3=>bnd (ab x3 5) fun x4=>bnd (ldA false 1 H2 x4) fun x5=>bnd (aC 1 x5 a1) fun x6=>bnd (ldA false 1 H2 x6) fun x7=>bnd (al x7) fun x8=>bnd (ab x8 6) fun x9=>bnd (ldA false 1 H2 x9) fun x10=>bnd (ai .eql x10 (I (-1))) fun x11=>ifB x11 (bnd (al a0) fun x12=>bnd (ab x12 5) fun x13=>bnd (ldA false 1 H2 x13) fun x14=>bnd (az x14) fun x15=>bnd (ab x1 1) fun x16=>bnd (ldA false 1 H2 x16) fun x17=>bnd (ai .rem x17 x15) fun x18=>bnd (ai .add x18 x15) fun x19=>bnd (ai .rem x19 x15) fun x20=>bnd (al x7) fun x21=>bnd (ab x21 6) fun x22=>bnd (stA 1 H2 x22 x20) fun H23=>bnd (al x7) fun x24=>bnd (ab x24 6) fun x25=>bnd (ldA false 1 H23 x25) fun x26=>bnd (ai .eql x26 a1) fun x27=>ifB x27 (bnd (al x7) fun x28=>bnd (ab x28 6) fun x29=>bnd (stA 1 H23 x29 (I (-1))) fun H30=>bnd (al x7) fun x31=>bnd (ab x31 0) fun x32=>bnd (stA 1 H30 x32 (I 0)) fun H33=>K (.tup []) H33) (aZ.J0 σ K a0 a1 x7 H23)) (aZ.J0 σ K a0 a1 x7 H2)):∃ r H1,aq Tryz.prog σ bA [a0,a1,a2] H r H1∧K r H1 :=
 gwp 67 (fn:=Tryz.f101) (f:=bA) (c:=aZ.code) (by kernel_rfl) (by kernel_rfl) (Eq.mpr (by kernel_rfl) h)
noncomputable def aw.code:Code:=au Tryz.f102
noncomputable def aw.J0 (σ:Sig) (K:AV→Hp→Prop) (y0 y1 y6:AV) (H:Hp):Prop:=∀ j:Nat→AV,wp (CZ σ) 67 (sR (sR (sR aw.code))) [y0,y1,j 2,j 3,j 4,j 5,y6,j 7,j 8,j 9,j 10,j 11,j 12,j 13,j 14,j 15,j 16,j 17,j 18,j 19,j 20,j 21,j 22,j 23,j 24,j 25,j 26,j 27,j 28,j 29,j 30,j 31,j 32,j 33,j 34,j 35,j 36,j 37,j 38,j 39,j 40,j 41,j 42,j 43,j 44,j 45,j 46,j 47,j 48,j 49,j 50,j 51,j 52,j 53,j 54,j 55,j 56,j 57,j 58,j 59,j 60,j 61,j 62,j 63,j 64,j 65,j 66,j 67,j 68,j 69,j 70,j 71,j 72,j 73,j 74,j 75,j 76,j 77,j 78,j 79,j 80,j 81,j 82,j 83,j 84,j 85,j 86,j 87,j 88,j 89,j 90,j 91,j 92,j 93,j 94,j 95,j 96,j 97,j 98,j 99,j 100,j 101,j 102,j 103,j 104,j 105,j 106,j 107,j 108,j 109,j 110,j 111,j 112,j 113,j 114,j 115,j 116,j 117,j 118,j 119,j 120,j 121,j 122,j 123,j 124,j 125,j 126,j 127,j 128,j 129,j 130,j 131,j 132,j 133,j 134,j 135,j 136,j 137] H (fQ Tryz.f102 σ K)
noncomputable def aw.J1 (σ:Sig) (K:AV→Hp→Prop) (y0 y1 y6:AV) (H:Hp):Prop:=∀ j:Nat→AV,wp (CZ σ) 67 (sR (sR (sR (sR aw.code)))) [y0,y1,j 2,j 3,j 4,j 5,y6,j 7,j 8,j 9,j 10,j 11,j 12,j 13,j 14,j 15,j 16,j 17,j 18,j 19,j 20,j 21,j 22,j 23,j 24,j 25,j 26,j 27,j 28,j 29,j 30,j 31,j 32,j 33,j 34,j 35,j 36,j 37,j 38,j 39,j 40,j 41,j 42,j 43,j 44,j 45,j 46,j 47,j 48,j 49,j 50,j 51,j 52,j 53,j 54,j 55,j 56,j 57,j 58,j 59,j 60,j 61,j 62,j 63,j 64,j 65,j 66,j 67,j 68,j 69,j 70,j 71,j 72,j 73,j 74,j 75,j 76,j 77,j 78,j 79,j 80,j 81,j 82,j 83,j 84,j 85,j 86,j 87,j 88,j 89,j 90,j 91,j 92,j 93,j 94,j 95,j 96,j 97,j 98,j 99,j 100,j 101,j 102,j 103,j 104,j 105,j 106,j 107,j 108,j 109,j 110,j 111,j 112,j 113,j 114,j 115,j 116,j 117,j 118,j 119,j 120,j 121,j 122,j 123,j 124,j 125,j 126,j 127,j 128,j 129,j 130,j 131,j 132,j 133,j 134,j 135,j 136,j 137] H (fQ Tryz.f102 σ K)
theorem aw.J0_step {y0 y1 y6:AV} (h:af Tryz.prog σ dE [y0,y6] H fun x1 H2=>bnd (exR x1 0) fun x3=>bnd (exR x1 1) fun x4=>ifB x4 (bnd (al y6) fun x5=>bnd (ab x5 2) fun x6=>bnd (ldA false 1 H2 x6) fun x7=>af Tryz.prog σ fk [x7,x3] H2 fun x8 H9=>bnd (al y0) fun x10=>bnd (ab x10 7) fun x11=>bnd (ldA false 1 H9 x11) fun x12=>bnd (aC 1 x12 x3) fun x13=>bnd (ldA false 1 H9 x13) fun x14=>bnd (al y0) fun x15=>bnd (ab x15 3) fun x16=>af Tryz.prog σ dT [x16,x14] H9 fun x17 H18=>bnd (al y0) fun x19=>bnd (ab x19 7) fun x20=>bnd (ldA false 1 H18 x20) fun x21=>bnd (al y6) fun x22=>bnd (ab x22 4) fun x23=>bnd (ldA false 1 H18 x23) fun x24=>bnd (aC 1 x21 x24) fun x25=>bnd (stA 1 H18 x25 x14) fun H26=>bnd (ai .mul (I 3) x14) fun x27=>bnd (ai .add x27 (I 2)) fun x28=>af Tryz.prog σ bO [y0,y1,x28,(Bo true),(Bo true)] H26 fun x29 H30=>aw.J1 σ K y0 y1 y6 H30) (bnd (al y0) fun x31=>bnd (ab x31 7) fun x32=>bnd (ldA false 1 H2 x32) fun x33=>bnd (al y6) fun x34=>bnd (ab x34 4) fun x35=>bnd (ldA false 1 H2 x35) fun x36=>bnd (al y0) fun x37=>bnd (ab x37 3) fun x38=>bnd (al y6) fun x39=>bnd (ab x39 4) fun x40=>bnd (ldA false 1 H2 x40) fun x41=>af Tryz.prog σ dj [y0,x41] H2 fun x42 H43=>kpK (x35,some 1) H2 H43 (kpK (x32,some 1) H2 H43 (bnd (al y0) fun x44=>bnd (ab x44 0) fun x45=>kpK (x45,some 1) H2 H43 (bnd (ldA false 1 H43 x45) fun x46=>bnd (al y6) fun x47=>bnd (ab x47 4) fun x48=>kpK (x48,some 1) H2 H43 (bnd (ldA false 1 H43 x48) fun x49=>bnd (al y0) fun x50=>bnd (ab x50 1) fun x51=>kpK (x51,some 1) H2 H43 (bnd (ldA false 1 H43 x51) fun x52=>af Tryz.prog σ dy [x46,x49,x52] H43 fun x53 H54=>kpK (x35,some 1) H43 H54 (kpK (x32,some 1) H43 H54 (af Tryz.prog σ cF [x42,x53] H54 fun x55 H56=>kpK (x35,some 1) H54 H56 (kpK (x32,some 1) H54 H56 (af Tryz.prog σ eg [x38,x55] H56 fun x57 H58=>kpK (x35,some 1) H56 H58 (kpK (x32,some 1) H56 H58 (bnd (aC 1 x33 x36) fun x59=>bnd (stA 1 H58 x59 x57) fun H60=>bnd (al y6) fun x61=>bnd (ab x61 2) fun x62=>bnd (ldA false 1 H60 x62) fun x63=>bnd (al y6) fun x64=>bnd (ab x64 4) fun x65=>bnd (ldA false 1 H60 x65) fun x66=>bnd (al y0) fun x67=>bnd (ab x67 7) fun x68=>bnd (ldA false 1 H60 x68) fun x69=>bnd (al y6) fun x70=>bnd (ab x70 4) fun x71=>bnd (ldA false 1 H60 x71) fun x72=>bnd (aC 1 x69 x72) fun x73=>bnd (ldA false 1 H60 x73) fun x74=>af Tryz.prog σ fp [x63,x66,x74] H60 fun x75 H76=>aw.J1 σ K y0 y1 y6 H76))))))))))))):aw.J0 σ K y0 y1 y6 H :=
 fun j=>Eq.mpr (by kernel_rfl) h
theorem aw.J1_step {y0 y1 y6:AV} (h:bnd (al y6) fun x1=>bnd (ab x1 4) fun x2=>bnd (ldA false 1 H x2) fun x3=>bnd (ai .mul (I 3) x3) fun x4=>af Tryz.prog σ bO [y0,y1,x4,(Bo true),(Bo false)] H fun x5 H6=>bnd (al y6) fun x7=>bnd (ab x7 0) fun x8=>bnd (stA 1 H6 x8 (I 3)) fun H9=>K (.tup []) H9):aw.J1 σ K y0 y1 y6 H :=
 fun j=>Eq.mpr (by kernel_rfl) h
theorem aw.run {a0 a1 a2:AV} (h:dS a2 H fun x1 H2=>bnd (al a0) fun x3=>bnd (ab x3 5) fun x4=>bnd (ldA false 1 H2 x4) fun x5=>bnd (aC 1 x5 a1) fun x6=>bnd (ldA false 1 H2 x6) fun x7=>bnd (al a0) fun x8=>bnd (ab x8 0) fun x9=>bnd (ldA false 1 H2 x9) fun x10=>bnd (al x7) fun x11=>bnd (ab x11 4) fun x12=>bnd (ldA false 1 H2 x12) fun x13=>af Tryz.prog σ dw [x10,x13] H2 fun x14 H15=>bnd (ai .geq x14 (I 0)) fun x16=>ifB x16 (bnd (ai .mul (I 3) x14) fun x17=>af Tryz.prog σ bO [a0,a1,x17,(Bo false),(Bo false)] H15 fun x18 H19=>aw.J0 σ K a0 a1 x7 H19) (aw.J0 σ K a0 a1 x7 H15)):∃ r H1,aq Tryz.prog σ bv [a0,a1,a2] H r H1∧K r H1 :=
 gwp 67 (fn:=Tryz.f102) (f:=bv) (c:=aw.code) (by kernel_rfl) (by kernel_rfl) (Eq.mpr (by kernel_rfl) h)
noncomputable def eA.code:Code:=au Tryz.f103
theorem eA.run {a0 a1 a2:AV} (h:dS a2 H fun x1 H2=>bnd (al a0) fun x3=>bnd (ab x3 5) fun x4=>bnd (ldA false 1 H2 x4) fun x5=>bnd (aC 1 x5 a1) fun x6=>bnd (ldA false 1 H2 x6) fun x7=>bnd (al a0) fun x8=>bnd (ab x8 8) fun x9=>bnd (ldA false 1 H2 x9) fun x10=>bnd (al x7) fun x11=>bnd (ab x11 4) fun x12=>bnd (ldA false 1 H2 x12) fun x13=>bnd (aC 1 x10 x13) fun x14=>bnd (stA 1 H2 x14 (Bo true)) fun H15=>bnd (al x7) fun x16=>bnd (ab x16 4) fun x17=>bnd (ldA false 1 H15 x17) fun x18=>bnd (ai .mul (I 3) x18) fun x19=>bnd (ai .add x19 (I 1)) fun x20=>af Tryz.prog σ bO [a0,a1,x20,(Bo true),(Bo true)] H15 fun x21 H22=>bnd (al x7) fun x23=>bnd (ab x23 0) fun x24=>bnd (stA 1 H22 x24 (I 4)) fun H25=>bnd (al x7) fun x26=>bnd (ab x26 5) fun x27=>bnd (stA 1 H25 x27 (I 0)) fun H28=>K (.tup []) H28):∃ r H1,aq Tryz.prog σ bh [a0,a1,a2] H r H1∧K r H1 :=
 gwp 0 (fn:=Tryz.f103) (f:=bh) (c:=eA.code) (by kernel_rfl) (by kernel_rfl) (Eq.mpr (by kernel_rfl) h)
noncomputable def fN.code:Code:=au Tryz.f104
theorem fN.run {a0 a1 a2:AV} (h:dS a2 H fun x1 H2=>bnd (al a0) fun x3=>bnd (ab x3 5) fun x4=>bnd (ldA false 1 H2 x4) fun x5=>bnd (aC 1 x5 a1) fun x6=>bnd (ldA false 1 H2 x6) fun x7=>bnd (al a0) fun x8=>bnd (ab x8 0) fun x9=>bnd (ldA false 1 H2 x9) fun x10=>bnd (al x7) fun x11=>bnd (ab x11 4) fun x12=>bnd (ldA false 1 H2 x12) fun x13=>bnd (al x7) fun x14=>bnd (ab x14 5) fun x15=>bnd (ldA false 1 H2 x15) fun x16=>af Tryz.prog σ eK [x10,x13,x16] H2 fun x17 H18=>bnd (ai .geq x17 (I 0)) fun x19=>ifB x19 (af Tryz.prog σ cz [a0,a1,a1,(I 1),x17] H18 fun x20 H21=>bnd (exR x20 0) fun x22=>bnd (exR x20 1) fun x23=>bnd (exR x20 2) fun x24=>ifB x22 (bnd (al x7) fun x25=>bnd (ab x25 5) fun x26=>bnd (ldA false 1 H21 x26) fun x27=>bnd (ai .add x27 (I 1)) fun x28=>bnd (al x7) fun x29=>bnd (ab x29 5) fun x30=>bnd (stA 1 H21 x30 x28) fun H31=>bnd (unR .not x24) fun x32=>ifB x32 (bnd (al x7) fun x33=>bnd (ab x33 3) fun x34=>af Tryz.prog σ dA [x34,x17] H31 fun x35 H36=>K (.tup []) H36) (K (.tup []) H31)) (K (.tup []) H21)) (bnd (al a0) fun x37=>bnd (ab x37 6) fun x38=>bnd (ldA false 1 H18 x38) fun x39=>bnd (ai .sub x39 (I 1)) fun x40=>bnd (al a0) fun x41=>bnd (ab x41 6) fun x42=>bnd (stA 1 H18 x42 x40) fun H43=>af Tryz.prog σ bO [a0,a1,(I (-1)),(Bo true),(Bo true)] H43 fun x44 H45=>bnd (al x7) fun x46=>bnd (ab x46 0) fun x47=>bnd (stA 1 H45 x47 (I 0)) fun H48=>bnd (al x7) fun x49=>bnd (ab x49 3) fun x50=>af Tryz.prog σ dh [x50] H48 fun x51 H52=>bnd (exR x51 0) fun x53=>bnd (exR x51 1) fun x54=>ifB x54 (af Tryz.prog σ cL [x7,x53] H52 fun x55 H56=>K (.tup []) H56) (K (.tup []) H52))):∃ r H1,aq Tryz.prog σ bI [a0,a1,a2] H r H1∧K r H1 :=
 gwp 0 (fn:=Tryz.f104) (f:=bI) (c:=fN.code) (by kernel_rfl) (by kernel_rfl) (Eq.mpr (by kernel_rfl) h)
noncomputable def aS.code:Code:=au Tryz.f105
noncomputable def aS.Q0 (σ:Sig) (K:AV→Hp→Prop):Exit→List AV→Hp→Prop:=(nx (fQ Tryz.f105 σ K) fun T G=>wp (CZ σ) 24 (sR (sR (sR aS.code))) T G (fQ Tryz.f105 σ K))
noncomputable def aS.L0 (σ:Sig) (K:AV→Hp→Prop) (y3 y4:AV) (H:Hp):Prop:=∀ j:Nat→AV,cO (CZ σ) (lB (bB (sR (sL (sR (sR aS.code)))))) [j 0,j 1,j 2,y3,y4,j 5,j 6,j 7,j 8,j 9,j 10,j 11,j 12,j 13,j 14,j 15,j 16,j 17,j 18,j 19,j 20,j 21,j 22,j 23,j 24,j 25,j 26,j 27,j 28,j 29,j 30,j 31,j 32,j 33,j 34] H (fun e T G=>(aS.Q0 σ K) (aR 0 e) T G)
noncomputable def aS.J1 (σ:Sig) (K:AV→Hp→Prop) (y3 y4:AV) (H:Hp):Prop:=∀ j:Nat→AV,wp (CZ σ) 24 (sR (sR (lB (bB (sR (sL (sR (sR aS.code)))))))) [j 0,j 1,j 2,y3,y4,j 5,j 6,j 7,j 8,j 9,j 10,j 11,j 12,j 13,j 14,j 15,j 16,j 17,j 18,j 19,j 20,j 21,j 22,j 23,j 24,j 25,j 26,j 27,j 28,j 29,j 30,j 31,j 32,j 33,j 34] H (nx (fun e T G=>(aS.Q0 σ K) (aR 0 e) T G) fun T G=>∀ j,cO (CZ σ) (lB (bB (sR (sL (sR (sR aS.code)))))) (f_ 24 j 0 T) G (fun e T G=>(aS.Q0 σ K) (aR 0 e) T G))
theorem aS.L0_step {y3 y4:AV} (h:bnd (az y3) fun x1=>bnd (ai .lss y4 x1) fun x2=>ifB x2 (bnd (aC 1 y3 y4) fun x3=>bnd (ldA false 1 H x3) fun x4=>bnd (ai .geq x4 (.lit (.int .u8 65))) fun x5=>ifB x5 (bnd (aC 1 y3 y4) fun x6=>bnd (ldA false 1 H x6) fun x7=>bnd (ai .leq x7 (.lit (.int .u8 90))) fun x8=>ifB x8 (bnd (aC 1 y3 y4) fun x9=>bnd (ldA false 1 H x9) fun x10=>bnd (ai .add x10 (.lit (.int .u8 32))) fun x11=>bnd (aC 1 y3 y4) fun x12=>bnd (stA 1 H x12 x11) fun H13=>aS.J1 σ K y3 y4 H13) (aS.J1 σ K y3 y4 H)) (aS.J1 σ K y3 y4 H)) (bnd (iA H y3) fun x14=>K x14 H)):aS.L0 σ K y3 y4 H :=
 fun j=>lrd (g:=24) (Eq.mpr (by kernel_rfl) h)
theorem aS.J1_step {y3 y4:AV} (h:bnd (ai .add y4 (I 1)) fun x1=>aS.L0 σ K y3 x1 H):aS.J1 σ K y3 y4 H :=
 fun j=>Eq.mpr (by kernel_rfl) h
theorem aS.run {a0:AV} (h:bnd (hY H a0) fun p1=>aS.L0 σ K p1.1 (I 0) p1.2):∃ r H1,aq Tryz.prog σ fS [a0] H r H1∧K r H1 :=
 gwp 24 (fn:=Tryz.f105) (f:=fS) (c:=aS.code) (by kernel_rfl) (by kernel_rfl) (Eq.mpr (by kernel_rfl) h)
noncomputable def ib.code:Code:=au Tryz.f109
theorem ib.run {a0 a1:AV} (h:af Tryz.prog σ dD [a0,a1] H fun x1 H2=>bnd (ai .gtr x1 (I 0)) fun x3=>K x3 H2):∃ r H1,aq Tryz.prog σ dF [a0,a1] H r H1∧K r H1 :=
 gwp 0 (fn:=Tryz.f109) (f:=dF) (c:=ib.code) (by kernel_rfl) (by kernel_rfl) (Eq.mpr (by kernel_rfl) h)
noncomputable def d8.code:Code:=au Tryz.f122
theorem d8.run {a0:AV} (h:dS a0 H fun x1 H2=>K (.fn du [x1]) H2):∃ r H1,aq Tryz.prog σ dK [a0] H r H1∧K r H1 :=
 gwp 0 (fn:=Tryz.f122) (f:=dK) (c:=d8.code) (by kernel_rfl) (by kernel_rfl) (Eq.mpr (by kernel_rfl) h)
noncomputable def cv.code:Code:=au Tryz.f123
noncomputable def cv.L0 (σ:Sig) (K:AV→Hp→Prop) (y1 y2 y12 y13:AV) (H:Hp):Prop:=∀ j:Nat→AV,cO (CZ σ) (lB (bB (sR (sL (sR (sR (sR cv.code))))))) [j 0,y1,y2,j 3,j 4,j 5,j 6,j 7,j 8,j 9,j 10,j 11,y12,y13,j 14,j 15,j 16,j 17,j 18,j 19,j 20,j 21,j 22,j 23,j 24,j 25,j 26,j 27,j 28,j 29] H (fun e T G=>(nx (fQ Tryz.f123 σ K) fun T G=>wp (CZ σ) 12294 (sR (sR (sR (sR cv.code)))) T G (fQ Tryz.f123 σ K)) (aR 0 e) T G)
theorem cv.L0_step {y1 y2 y12 y13:AV} (h:bnd (ai .lss y13 y12) fun x1=>ifB x1 (bnd (ab y1 4) fun x2=>bnd (ldA false 1 H x2) fun x3=>bnd (ab y1 4) fun x4=>bnd (ldA false 1 H x4) fun x5=>bnd (aC 2 x5 y13) fun x6=>bnd (ab x6 0) fun x7=>bnd (ldA false 1 H x7) fun x8=>af Tryz.prog σ ge [x8] H fun x9 H10=>kpK (x2,some 1) H H10 (bnd (aC 2 x3 y13) fun x11=>bnd (ab x11 0) fun x12=>bnd (stA 1 H10 x12 x9) fun H13=>bnd (ai .add y13 (I 1)) fun x14=>cv.L0 σ K y1 y2 y12 x14 H13)) (bnd (ldA true 5 H y1) fun x15=>bnd (stA 5 H y2 x15) fun H16=>bnd (ldA true 5 H16 y2) fun r17=>K r17 H16)):cv.L0 σ K y1 y2 y12 y13 H :=
 fun j=>lrd (g:=12294) (Eq.mpr (by kernel_rfl) h)
theorem cv.run {a0:AV} (h:dS a0 H fun x1 H2=>cQ [I 0,.lit (.string ⟨#[]⟩),.lit (.string ⟨#[]⟩),.lit (.slice none 0 0),.lit (.slice none 0 0)] H2 fun x3 H4=>bnd (ldA true 5 H4 x1) fun x5=>af Tryz.prog σ hO [x5] H4 fun x6 H7=>bnd (stA 5 H7 x1 x6) fun H8=>bnd (ab x1 1) fun x9=>bnd (ldA false 1 H8 x9) fun x10=>af Tryz.prog σ ge [x10] H8 fun x11 H12=>bnd (ab x1 1) fun x13=>bnd (stA 1 H12 x13 x11) fun H14=>bnd (ab x1 4) fun x15=>bnd (ldA false 1 H14 x15) fun x16=>bnd (az x16) fun x17=>cv.L0 σ K x1 x3 x17 (I 0) H14):∃ r H1,aq Tryz.prog σ ff [a0] H r H1∧K r H1 :=
 gwp 12294 (fn:=Tryz.f123) (f:=ff) (c:=cv.code) (by kernel_rfl) (by kernel_rfl) (Eq.mpr (by kernel_rfl) h)
noncomputable def cR.code:Code:=au Tryz.f124
theorem cR.run {a0:AV} (h:bnd (mf .eql a0 (.lit (.slice none 0 0))) fun x1=>ifB x1 (K (.lit (.slice none 0 0)) H) (bnd (cH [.slice none 0 0,.slice none 0 0] 2 0 H []) fun p2=>bnd (eB false 2 48 p2.2 p2.1 a0) fun p3=>K p3.1 p3.2)):∃ r H1,aq Tryz.prog σ cJ [a0] H r H1∧K r H1 :=
 gwp 0 (fn:=Tryz.f124) (f:=cJ) (c:=cR.code) (by kernel_rfl) (by kernel_rfl) (Eq.mpr (by kernel_rfl) h)
noncomputable def jY.code:Code:=au Tryz.f129
theorem jY.run {a0 a1:AV} (h:bnd (ai .eql a1 (I 1)) fun x1=>ifB x1 (bnd (ai .eql a0 (I 0)) fun x2=>ifB x2 (K (.fn aN []) H) (bnd (ai .eql a1 (I 2)) fun x3=>ifB x3 (bnd (ai .eql a0 (I 0)) fun x4=>ifB x4 (K (.fn bC []) H) (bnd (ai .eql a1 (I 3)) fun x5=>ifB x5 (bnd (ai .gtr a0 (I 0)) fun x6=>ifB x6 (K (.fn bj []) H) (K (.lit (.nilFunc)) H)) (K (.lit (.nilFunc)) H))) (bnd (ai .eql a1 (I 3)) fun x7=>ifB x7 (bnd (ai .gtr a0 (I 0)) fun x8=>ifB x8 (K (.fn bj []) H) (K (.lit (.nilFunc)) H)) (K (.lit (.nilFunc)) H)))) (bnd (ai .eql a1 (I 2)) fun x9=>ifB x9 (bnd (ai .eql a0 (I 0)) fun x10=>ifB x10 (K (.fn bC []) H) (bnd (ai .eql a1 (I 3)) fun x11=>ifB x11 (bnd (ai .gtr a0 (I 0)) fun x12=>ifB x12 (K (.fn bj []) H) (K (.lit (.nilFunc)) H)) (K (.lit (.nilFunc)) H))) (bnd (ai .eql a1 (I 3)) fun x13=>ifB x13 (bnd (ai .gtr a0 (I 0)) fun x14=>ifB x14 (K (.fn bj []) H) (K (.lit (.nilFunc)) H)) (K (.lit (.nilFunc)) H)))):∃ r H1,aq Tryz.prog σ fj [a0,a1] H r H1∧K r H1 :=
 gwp 0 (fn:=Tryz.f129) (f:=fj) (c:=jY.code) (by kernel_rfl) (by kernel_rfl) (Eq.mpr (by kernel_rfl) h)
noncomputable def ar.code:Code:=au Tryz.f135
noncomputable def ar.J0 (σ:Sig) (K:AV→Hp→Prop) (y0 y1 y2 y3 y4 y13 y14:AV) (H:Hp):Prop:=∀ j:Nat→AV,wp (CZ σ) 24607 (sR (sR (sR ar.code))) [y0,y1,y2,y3,y4,j 5,j 6,j 7,j 8,j 9,j 10,j 11,j 12,y13,y14,j 15,j 16,j 17,j 18,j 19,j 20,j 21,j 22,j 23,j 24,j 25,j 26,j 27,j 28,j 29,j 30,j 31,j 32,j 33,j 34,j 35,j 36,j 37,j 38,j 39,j 40,j 41,j 42,j 43,j 44,j 45,j 46,j 47,j 48,j 49,j 50,j 51,j 52,j 53,j 54,j 55,j 56,j 57,j 58,j 59,j 60,j 61,j 62,j 63,j 64,j 65] H (fQ Tryz.f135 σ K)
noncomputable def ar.J1 (σ:Sig) (K:AV→Hp→Prop) (y0 y1 y2 y3 y4 y13 y14:AV) (H:Hp):Prop:=∀ j:Nat→AV,wp (CZ σ) 24607 (sR (sR (sR (sR ar.code)))) [y0,y1,y2,y3,y4,j 5,j 6,j 7,j 8,j 9,j 10,j 11,j 12,y13,y14,j 15,j 16,j 17,j 18,j 19,j 20,j 21,j 22,j 23,j 24,j 25,j 26,j 27,j 28,j 29,j 30,j 31,j 32,j 33,j 34,j 35,j 36,j 37,j 38,j 39,j 40,j 41,j 42,j 43,j 44,j 45,j 46,j 47,j 48,j 49,j 50,j 51,j 52,j 53,j 54,j 55,j 56,j 57,j 58,j 59,j 60,j 61,j 62,j 63,j 64,j 65] H (fQ Tryz.f135 σ K)
theorem ar.J0_step {y0 y1 y2 y3 y4 y13 y14:AV} (h:af Tryz.prog σ cP [y13,y14] H fun x1 H2=>bnd (unR .not x1) fun x3=>ifB x3 (af Tryz.prog σ c3 [y13,y14,y3,y4] H2 fun x4 H5=>ar.J1 σ K y0 y1 y2 y3 y4 y13 y14 H5) (ar.J1 σ K y0 y1 y2 y3 y4 y13 y14 H2)):ar.J0 σ K y0 y1 y2 y3 y4 y13 y14 H :=
 fun j=>Eq.mpr (by kernel_rfl) h
theorem ar.J1_step {y0 y1 y2 y3 y4 y13 y14:AV} (h:af Tryz.prog σ ci [y13,y14] H fun x1 H2=>bnd (exR x1 0) fun x3=>bnd (exR x1 1) fun x4=>bnd (exR x1 2) fun x5=>af Tryz.prog σ dV [y13] H2 fun x6 H7=>cQ [I 0,I 0,Bo false,Bo false] H7 fun x8 H9=>bnd (stA 4 H9 x8 x6) fun H10=>bnd (ab x8 1) fun x11=>bnd (ldA false 1 H10 x11) fun x12=>bnd (ai .mul (I 1000) y2) fun x13=>bnd (ai .sub x12 x13) fun x14=>bnd (ab x8 2) fun x15=>bnd (ldA false 1 H10 x15) fun x16=>bnd (ab x8 3) fun x17=>bnd (ldA false 1 H10 x17) fun x18=>af Tryz.prog σ bO [y0,y1,x14,x16,x18] H10 fun x19 H20=>K (.tup [x3,x4,x5]) H20):ar.J1 σ K y0 y1 y2 y3 y4 y13 y14 H :=
 fun j=>Eq.mpr (by kernel_rfl) h
theorem ar.run {a0 a1 a2 a3 a4:AV} (h:bnd (al a0) fun x1=>bnd (ab x1 5) fun x2=>bnd (ldA false 1 H x2) fun x3=>bnd (aC 1 x3 a2) fun x4=>bnd (ldA false 1 H x4) fun x5=>bnd (al x5) fun x6=>bnd (ab x6 1) fun x7=>bnd (ldA false 1 H x7) fun x8=>bnd (ai .eql a3 (I 3)) fun x9=>ifB x9 (bnd (ai .add a1 (I 1)) fun x10=>ar.J0 σ K a0 a1 a2 a3 a4 x8 x10 H) (ar.J0 σ K a0 a1 a2 a3 a4 x8 (I 0) H)):∃ r H1,aq Tryz.prog σ cz [a0,a1,a2,a3,a4] H r H1∧K r H1 :=
 gwp 24607 (fn:=Tryz.f135) (f:=cz) (c:=ar.code) (by kernel_rfl) (by kernel_rfl) (Eq.mpr (by kernel_rfl) h)
noncomputable def fP.code:Code:=au Tryz.f136
theorem fP.run {a0 a1:AV} (h:bnd (al a0) fun x1=>bnd (ab x1 4) fun x2=>bnd (stA 1 H x2 a1) fun H3=>bnd (al a0) fun x4=>bnd (ab x4 0) fun x5=>bnd (stA 1 H3 x5 (I 2)) fun H6=>K (.tup []) H6):∃ r H1,aq Tryz.prog σ cL [a0,a1] H r H1∧K r H1 :=
 gwp 0 (fn:=Tryz.f136) (f:=cL) (c:=fP.code) (by kernel_rfl) (by kernel_rfl) (Eq.mpr (by kernel_rfl) h)
noncomputable def g5.code:Code:=au Tryz.f137
theorem g5.run {a0 a1:AV} (h:bnd (ai .lss a1 (I 0)) fun x1=>ifB x1 (K (I (-1)) H) (bnd (al a0) fun x2=>bnd (ab x2 0) fun x3=>bnd (ldA false 1 H x3) fun x4=>bnd (az x4) fun x5=>bnd (ai .geq a1 x5) fun x6=>ifB x6 (K (I (-1)) H) (bnd (al a0) fun x7=>bnd (ab x7 0) fun x8=>bnd (ldA false 1 H x8) fun x9=>bnd (aC 9 x9 a1) fun x10=>bnd (ab x10 0) fun x11=>bnd (ab x11 0) fun x12=>bnd (ldA false 1 H x12) fun x13=>K x13 H))):∃ r H1,aq Tryz.prog σ dw [a0,a1] H r H1∧K r H1 :=
 gwp 0 (fn:=Tryz.f137) (f:=dw) (c:=g5.code) (by kernel_rfl) (by kernel_rfl) (Eq.mpr (by kernel_rfl) h)
noncomputable def gz.code:Code:=au Tryz.f138
theorem gz.run {a0 a1 a2 a3 a4:AV} (h:bnd (al a0) fun x1=>bnd (ab x1 9) fun x2=>bnd (ldA false 1 H x2) fun x3=>bnd (dg [I 0,I 0,Bo false,Bo false] [(0,1,a1),(1,1,a2),(2,1,a3),(3,1,a4)]) fun l4=>bnd (cH [.int .i64 0,.int .i64 0,.bool false,.bool false] 4 1 H [(0,4,(.agg l4))]) fun p5=>bnd (eB false 4 24 p5.2 x3 p5.1) fun p6=>bnd (al a0) fun x7=>bnd (ab x7 9) fun x8=>bnd (stA 1 p6.2 x8 p6.1) fun H9=>K (.tup []) H9):∃ r H1,aq Tryz.prog σ bO [a0,a1,a2,a3,a4] H r H1∧K r H1 :=
 gwp 0 (fn:=Tryz.f138) (f:=bO) (c:=gz.code) (by kernel_rfl) (by kernel_rfl) (Eq.mpr (by kernel_rfl) h)
noncomputable def aQ.code:Code:=au Tryz.f139
noncomputable def aQ.L0 (σ:Sig) (K:AV→Hp→Prop) (y0 y1 y12 y13 y14:AV) (H:Hp):Prop:=∀ j:Nat→AV,cO (CZ σ) (lB (bB (sR (sL (sR aQ.code))))) [y0,y1,j 2,j 3,j 4,j 5,j 6,j 7,j 8,j 9,j 10,j 11,y12,y13,y14,j 15,j 16,j 17,j 18,j 19,j 20,j 21,j 22,j 23,j 24,j 25,j 26,j 27,j 28,j 29,j 30,j 31,j 32,j 33] H (fun e T G=>(nx (fQ Tryz.f139 σ K) fun T G=>wp (CZ σ) 28675 (sR (sR aQ.code)) T G (fQ Tryz.f139 σ K)) (aR 0 e) T G)
theorem aQ.L0_step {y0 y1 y12 y13 y14:AV} (h:bnd (ai .lss y14 y13) fun x1=>ifB x1 (bnd (aC 1 y12 y14) fun x2=>bnd (ldA false 1 H x2) fun x3=>bnd (al y0) fun x4=>bnd (ab x4 0) fun x5=>bnd (ldA false 1 H x5) fun x6=>bnd (al y1) fun x7=>bnd (ab x7 4) fun x8=>bnd (ldA false 1 H x8) fun x9=>bnd (al y0) fun x10=>bnd (ab x10 2) fun x11=>bnd (ldA false 1 H x11) fun x12=>af Tryz.prog σ nc [x6,x3,x9,x12] H fun x13 H14=>ifB x13 (K (.tup [x3,(Bo true)]) H14) (bnd (ai .add y14 (I 1)) fun x15=>aQ.L0 σ K y0 y1 y12 y13 x15 H14)) (K (.tup [(I 0),(Bo false)]) H)):aQ.L0 σ K y0 y1 y12 y13 y14 H :=
 fun j=>lrd (g:=28675) (Eq.mpr (by kernel_rfl) h)
theorem aQ.run {a0 a1:AV} (h:bnd (al a1) fun x1=>bnd (ab x1 2) fun x2=>bnd (ldA false 1 H x2) fun x3=>af Tryz.prog σ c7 [x3] H fun x4 H5=>bnd (az x4) fun x6=>aQ.L0 σ K a0 a1 x4 x6 (I 0) H5):∃ r H1,aq Tryz.prog σ dE [a0,a1] H r H1∧K r H1 :=
 gwp 28675 (fn:=Tryz.f139) (f:=dE) (c:=aQ.code) (by kernel_rfl) (by kernel_rfl) (Eq.mpr (by kernel_rfl) h)
noncomputable def iT.code:Code:=au Tryz.f140
theorem iT.run {a0 a1:AV} (h:bnd (al a0) fun x1=>bnd (ab x1 1) fun x2=>af Tryz.prog σ bY [x2,a1] H fun x3 H4=>bnd (ai .lss x3 (I 0)) fun x5=>ifB x5 (K (.tup [(I 0),(Bo false)]) H4) (bnd (al a0) fun x6=>bnd (ab x6 1) fun x7=>bnd (ab x7 0) fun x8=>bnd (ldA false 1 H4 x8) fun x9=>bnd (aC 2 x9 x3) fun x10=>bnd (ldA true 2 H4 x10) fun x11=>cQ [I 0,I 0] H4 fun x12 H13=>bnd (stA 2 H13 x12 x11) fun H14=>bnd (al a0) fun x15=>bnd (ab x15 1) fun x16=>bnd (ldA true 2 H14 x12) fun x17=>af Tryz.prog σ cI [x16,x17] H14 fun x18 H19=>bnd (ab x12 1) fun x20=>bnd (ldA false 1 H19 x20) fun x21=>K (.tup [x21,(Bo true)]) H19)):∃ r H1,aq Tryz.prog σ fk [a0,a1] H r H1∧K r H1 :=
 gwp 0 (fn:=Tryz.f140) (f:=fk) (c:=iT.code) (by kernel_rfl) (by kernel_rfl) (Eq.mpr (by kernel_rfl) h)
noncomputable def gt.code:Code:=au Tryz.f141
theorem gt.run {a0 a1:AV} (h:af Tryz.prog σ dF [a0,a1] H fun x1 H2=>bnd (unR .not x1) fun x3=>ifB x3 (K (I 6) H2) (bnd (al a0) fun x4=>bnd (ab x4 0) fun x5=>bnd (ldA false 1 H2 x5) fun x6=>bnd (aC 9 x6 a1) fun x7=>bnd (ab x7 8) fun x8=>bnd (ldA false 1 H2 x8) fun x9=>bnd (ai .add x9 (I 1)) fun x10=>bnd (aC 9 x6 a1) fun x11=>bnd (ab x11 8) fun x12=>bnd (stA 1 H2 x12 x10) fun H13=>K (I 0) H13)):∃ r H1,aq Tryz.prog σ dT [a0,a1] H r H1∧K r H1 :=
 gwp 0 (fn:=Tryz.f141) (f:=dT) (c:=gt.code) (by kernel_rfl) (by kernel_rfl) (Eq.mpr (by kernel_rfl) h)
noncomputable def gW.code:Code:=au Tryz.f142
theorem gW.run {a0 a1:AV} (h:dS a1 H fun x1 H2=>bnd (al a0) fun x3=>bnd (ab x3 0) fun x4=>bnd (ldA false 1 H2 x4) fun x5=>bnd (ldA true 8 H2 x1) fun x6=>bnd (dg [I 0,I 0,I 0,I 0,I 0,I 0,I 0,I 0,I 0] [(0,8,x6),(8,1,(I 1))]) fun l7=>bnd (cH [.int .i64 0,.int .i64 0,.int .i64 0,.int .i64 0,.int .i64 0,.int .i64 0,.int .i64 0,.int .i64 0,.int .i64 0] 9 1 H2 [(0,9,(.agg l7))]) fun p8=>kpK (x4,some 1) H2 p8.2 (bnd (eB false 9 72 p8.2 x5 p8.1) fun p9=>bnd (al a0) fun x10=>bnd (ab x10 0) fun x11=>bnd (stA 1 p9.2 x11 p9.1) fun H12=>bnd (al a0) fun x13=>bnd (ab x13 1) fun x14=>bnd (ldA false 1 H12 x14) fun x15=>bnd (ai .add x15 (I 1)) fun x16=>bnd (al a0) fun x17=>bnd (ab x17 1) fun x18=>bnd (stA 1 H12 x18 x16) fun H19=>bnd (al a0) fun x20=>bnd (ab x20 0) fun x21=>bnd (ldA false 1 H19 x21) fun x22=>bnd (az x22) fun x23=>bnd (ai .sub x23 (I 1)) fun x24=>K x24 H19)):∃ r H1,aq Tryz.prog σ eg [a0,a1] H r H1∧K r H1 :=
 gwp 0 (fn:=Tryz.f142) (f:=eg) (c:=gW.code) (by kernel_rfl) (by kernel_rfl) (Eq.mpr (by kernel_rfl) h)
noncomputable def eT.code:Code:=au Tryz.f144
theorem eT.run {a0 a1:AV} (h:bnd (al a0) fun x1=>bnd (ab x1 0) fun x2=>bnd (ldA false 1 H x2) fun x3=>af Tryz.prog σ dw [x3,a1] H fun x4 H5=>bnd (ai .lss x4 (I 0)) fun x6=>ifB x6 (K (.lit (.pointer none)) H5) (bnd (al a0) fun x7=>bnd (ab x7 3) fun x8=>bnd (al a0) fun x9=>bnd (ab x9 7) fun x10=>bnd (ldA false 1 H5 x10) fun x11=>bnd (aC 1 x11 x4) fun x12=>bnd (ldA false 1 H5 x12) fun x13=>af Tryz.prog σ dB [x8,x13] H5 fun x14 H15=>bnd (exR x14 0) fun x16=>bnd (exR x14 1) fun x17=>cQ [I 0,I 0,I 0,I 0,I 0,I 0,I 0,I 0] H15 fun x18 H19=>bnd (stA 8 H19 x18 x16) fun H20=>K x18 H20)):∃ r H1,aq Tryz.prog σ dj [a0,a1] H r H1∧K r H1 :=
 gwp 0 (fn:=Tryz.f144) (f:=dj) (c:=eT.code) (by kernel_rfl) (by kernel_rfl) (Eq.mpr (by kernel_rfl) h)
noncomputable def bT.code:Code:=au Tryz.f145
noncomputable def bT.L0 (σ:Sig) (K:AV→Hp→Prop) (y0 y1 y2 y6 y7 y10 y11:AV) (H:Hp):Prop:=∀ j:Nat→AV,cO (CZ σ) (lB (bB (sR (sL (sR (sR bT.code)))))) [y0,y1,y2,j 3,j 4,j 5,y6,y7,j 8,j 9,y10,y11,j 12,j 13,j 14,j 15,j 16,j 17,j 18,j 19,j 20,j 21,j 22,j 23,j 24] H (fun e T G=>(nx (fQ Tryz.f145 σ K) fun T G=>wp (CZ σ) 3271 (sR (sR (sR bT.code))) T G (fQ Tryz.f145 σ K)) (aR 0 e) T G)
theorem bT.L0_step {y0 y1 y2 y6 y7 y10 y11:AV} (h:bnd (ai .lss y11 y10) fun x1=>ifB x1 (bnd (cH [.int .i64 0] 1 1 H [(0,1,y11)]) fun p2=>bnd (eB false 1 8 p2.2 y7 p2.1) fun p3=>bnd (ai .add y11 (I 1)) fun x4=>bT.L0 σ K y0 y1 y2 y6 p3.1 y10 x4 p3.2) (af Tryz.prog σ eE [y0,y1,y2,y7,(.fn kA [])] H fun x5 H6=>af Tryz.prog σ fK [x5] H6 fun x7 H8=>bnd (stA 16 H8 y6 x7) fun H9=>bnd (ldA true 16 H9 y6) fun r10=>K r10 H9)):bT.L0 σ K y0 y1 y2 y6 y7 y10 y11 H :=
 fun j=>lrd (g:=3271) (Eq.mpr (by kernel_rfl) h)
theorem bT.run {a0 a1 a2:AV} (h:cQ (List.replicate 16 (I 0)) H fun x1 H2=>bnd (az a2) fun x3=>bT.L0 σ K a0 a1 a2 x1 (.lit (.slice none 0 0)) x3 (I 0) H2):∃ r H1,aq Tryz.prog σ dy [a0,a1,a2] H r H1∧K r H1 :=
 gwp 3271 (fn:=Tryz.f145) (f:=dy) (c:=bT.code) (by kernel_rfl) (by kernel_rfl) (Eq.mpr (by kernel_rfl) h)
noncomputable def iX.code:Code:=au Tryz.f146
theorem iX.run {a0 a1 a2:AV} (h:bnd (al a0) fun x1=>bnd (ab x1 1) fun x2=>bnd (dg [I 0,I 0] [(0,1,a1),(1,1,a2)]) fun l3=>af Tryz.prog σ cI [x2,(.agg l3)] H fun x4 H5=>af Tryz.prog σ gU [a0] H5 fun x6 H7=>bnd (al a0) fun x8=>bnd (ab x8 0) fun x9=>kpK (x9,some 1) H5 H7 (bnd (ldA false 1 H7 x9) fun x10=>bnd (ai .leq x6 x10) fun x11=>ifB x11 (K (.tup [(I 0),(Bo false)]) H7) (bnd (al a0) fun x12=>bnd (ab x12 1) fun x13=>bnd (ab x13 0) fun x14=>bnd (ldA false 1 H7 x14) fun x15=>bnd (aC 2 x15 (I 0)) fun x16=>bnd (ab x16 0) fun x17=>bnd (ldA false 1 H7 x17) fun x18=>bnd (al a0) fun x19=>bnd (ab x19 1) fun x20=>bnd (ab x20 0) fun x21=>bnd (ldA false 1 H7 x21) fun x22=>bnd (q_ 2 x22 (some (I 1)) none none) fun x23=>bnd (al a0) fun x24=>bnd (ab x24 1) fun x25=>bnd (ab x25 0) fun x26=>bnd (stA 1 H7 x26 x23) fun H27=>K (.tup [x18,(Bo true)]) H27))):∃ r H1,aq Tryz.prog σ fp [a0,a1,a2] H r H1∧K r H1 :=
 gwp 0 (fn:=Tryz.f146) (f:=fp) (c:=iX.code) (by kernel_rfl) (by kernel_rfl) (Eq.mpr (by kernel_rfl) h)
noncomputable def im.code:Code:=au Tryz.f147
theorem im.run {a0 a1 a2:AV} (h:af Tryz.prog σ e_ [a0,a1] H fun x1 H2=>bnd (pg false 5 1 x1) fun x3=>bnd (az x3) fun x4=>bnd (ai .lss a2 x4) fun x5=>ifB x5 (bnd (aC 1 x3 a2) fun x6=>bnd (ldA false 1 H2 x6) fun x7=>K x7 H2) (K (I (-1)) H2)):∃ r H1,aq Tryz.prog σ eK [a0,a1,a2] H r H1∧K r H1 :=
 gwp 0 (fn:=Tryz.f147) (f:=eK) (c:=im.code) (by kernel_rfl) (by kernel_rfl) (Eq.mpr (by kernel_rfl) h)
noncomputable def fC.code:Code:=au Tryz.f148
theorem fC.run {a0 a1:AV} (h:bnd (al a0) fun x1=>bnd (ab x1 0) fun x2=>bnd (ldA false 1 H x2) fun x3=>bnd (cH [.int .i64 0] 1 1 H [(0,1,a1)]) fun p4=>bnd (eB false 1 8 p4.2 x3 p4.1) fun p5=>bnd (al a0) fun x6=>bnd (ab x6 0) fun x7=>bnd (stA 1 p5.2 x7 p5.1) fun H8=>K (.tup []) H8):∃ r H1,aq Tryz.prog σ dA [a0,a1] H r H1∧K r H1 :=
 gwp 0 (fn:=Tryz.f148) (f:=dA) (c:=fC.code) (by kernel_rfl) (by kernel_rfl) (Eq.mpr (by kernel_rfl) h)
noncomputable def eV.code:Code:=au Tryz.f149
theorem eV.run {a0:AV} (h:bnd (al a0) fun x1=>bnd (ab x1 0) fun x2=>bnd (ldA false 1 H x2) fun x3=>bnd (az x3) fun x4=>bnd (ai .sub x4 (I 1)) fun x5=>bnd (ai .lss x5 (I 0)) fun x6=>ifB x6 (K (.tup [(I 0),(Bo false)]) H) (bnd (al a0) fun x7=>bnd (ab x7 0) fun x8=>bnd (ldA false 1 H x8) fun x9=>bnd (aC 1 x9 x5) fun x10=>bnd (ldA false 1 H x10) fun x11=>bnd (al a0) fun x12=>bnd (ab x12 0) fun x13=>bnd (ldA false 1 H x13) fun x14=>bnd (q_ 1 x14 none (some x5) none) fun x15=>bnd (al a0) fun x16=>bnd (ab x16 0) fun x17=>bnd (stA 1 H x17 x15) fun H18=>K (.tup [x11,(Bo true)]) H18)):∃ r H1,aq Tryz.prog σ dh [a0] H r H1∧K r H1 :=
 gwp 0 (fn:=Tryz.f149) (f:=dh) (c:=eV.code) (by kernel_rfl) (by kernel_rfl) (Eq.mpr (by kernel_rfl) h)
noncomputable def aH.code:Code:=au Tryz.f163
noncomputable def aH.L0 (σ:Sig) (K:AV→Hp→Prop) (y0 y1 y3:AV) (H:Hp):Prop:=∀ j:Nat→AV,cO (CZ σ) (lB (bB (sR aH.code))) [y0,y1,j 2,y3,j 4,j 5,j 6,j 7,j 8,j 9,j 10,j 11,j 12,j 13,j 14,j 15,j 16,j 17,j 18,j 19,j 20,j 21,j 22,j 23] H (fun e T G=>(fQ Tryz.f163 σ K) (aR 0 e) T G)
theorem aH.L0_step {y0 y1 y3:AV} (h:bnd (ai .geq y3 (I 0)) fun x1=>ifB x1 (bnd (ldA false 1 H y1) fun x2=>bnd (al x2) fun x3=>bnd (ab x3 0) fun x4=>bnd (ldA false 1 H x4) fun x5=>bnd (aC 2 x5 y3) fun x6=>bnd (ldA true 2 H x6) fun x7=>iG Tryz.prog σ y0 [x7] H fun x8 H9=>bnd (unR .not x8) fun x10=>ifB x10 (K (.tup []) H9) (bnd (ai .sub y3 (I 1)) fun x11=>aH.L0 σ K y0 y1 x11 H9)) (K (.tup []) H)):aH.L0 σ K y0 y1 y3 H :=
 fun j=>lrd (g:=11) (Eq.mpr (by kernel_rfl) h)
theorem aH.run {a0 a1:AV} (h:bnd (ldA false 1 H a1) fun x1=>bnd (al x1) fun x2=>bnd (ab x2 0) fun x3=>bnd (ldA false 1 H x3) fun x4=>bnd (az x4) fun x5=>bnd (ai .sub x5 (I 1)) fun x6=>aH.L0 σ K a0 a1 x6 H):∃ r H1,aq Tryz.prog σ du [a0,a1] H r H1∧K r H1 :=
 gwp 11 (fn:=Tryz.f163) (f:=du) (c:=aH.code) (by kernel_rfl) (by kernel_rfl) (Eq.mpr (by kernel_rfl) h)
noncomputable def kS.code:Code:=au Tryz.f164
theorem kS.run {a0:AV} (h:dS a0 H fun x1 H2=>cQ [I 0,.lit (.string ⟨#[]⟩),.lit (.string ⟨#[]⟩),.lit (.slice none 0 0),.lit (.slice none 0 0)] H2 fun x3 H4=>bnd (ab x1 3) fun x5=>bnd (ldA false 1 H4 x5) fun x6=>af Tryz.prog σ aO [x6] H4 fun x7 H8=>bnd (ab x1 4) fun x9=>kpK (x9,some 1) H4 H8 (bnd (ldA false 1 H8 x9) fun x10=>af Tryz.prog σ aY [x10] H8 fun x11 H12=>bnd (ab x1 3) fun x13=>bnd (stA 1 H12 x13 x7) fun H14=>bnd (ab x1 4) fun x15=>bnd (stA 1 H14 x15 x11) fun H16=>bnd (ldA true 5 H16 x1) fun x17=>bnd (stA 5 H16 x3 x17) fun H18=>bnd (ldA true 5 H18 x3) fun r19=>K r19 H18)):∃ r H1,aq Tryz.prog σ hO [a0] H r H1∧K r H1 :=
 gwp 0 (fn:=Tryz.f164) (f:=hO) (c:=kS.code) (by kernel_rfl) (by kernel_rfl) (Eq.mpr (by kernel_rfl) h)
noncomputable def aT.code:Code:=au Tryz.f165
noncomputable def aT.Q0 (σ:Sig) (K:AV→Hp→Prop):Exit→List AV→Hp→Prop:=(nx (fQ Tryz.f165 σ K) fun T G=>wp (CZ σ) 1800 (sR (sR (sR aT.code))) T G (fQ Tryz.f165 σ K))
noncomputable def aT.L0 (σ:Sig) (K:AV→Hp→Prop) (y3 y8 y9 y10:AV) (H:Hp):Prop:=∀ j:Nat→AV,cO (CZ σ) (lB (bB (sR (sL (sR (sR aT.code)))))) [j 0,j 1,j 2,y3,j 4,j 5,j 6,j 7,y8,y9,y10,j 11,j 12,j 13,j 14,j 15,j 16,j 17,j 18,j 19,j 20,j 21,j 22,j 23,j 24,j 25,j 26,j 27,j 28,j 29] H (fun e T G=>(aT.Q0 σ K) (aR 0 e) T G)
noncomputable def aT.J1 (σ:Sig) (K:AV→Hp→Prop) (y3 y8 y9 y10:AV) (H:Hp):Prop:=∀ j:Nat→AV,wp (CZ σ) 1800 (sR (sR (sR (lB (bB (sR (sL (sR (sR aT.code))))))))) [j 0,j 1,j 2,y3,j 4,j 5,j 6,j 7,y8,y9,y10,j 11,j 12,j 13,j 14,j 15,j 16,j 17,j 18,j 19,j 20,j 21,j 22,j 23,j 24,j 25,j 26,j 27,j 28,j 29] H (nx (fun e T G=>(aT.Q0 σ K) (aR 0 e) T G) fun T G=>∀ j,cO (CZ σ) (lB (bB (sR (sL (sR (sR aT.code)))))) (f_ 1800 j 0 T) G (fun e T G=>(aT.Q0 σ K) (aR 0 e) T G))
theorem aT.L0_step {y3 y8 y9 y10:AV} (h:bnd (ai .lss y10 y9) fun x1=>ifB x1 (bnd (aC 1 y8 y10) fun x2=>bnd (ldA false 1 H x2) fun x3=>bnd (ai .geq x3 (.lit (.int .u8 65))) fun x4=>ifB x4 (bnd (ai .leq x3 (.lit (.int .u8 90))) fun x5=>ifB x5 (bnd (ai .add x3 (.lit (.int .u8 97))) fun x6=>bnd (ai .sub x6 (.lit (.int .u8 65))) fun x7=>bnd (aC 1 y3 y10) fun x8=>bnd (stA 1 H x8 x7) fun H9=>aT.J1 σ K y3 y8 y9 y10 H9) (aT.J1 σ K y3 y8 y9 y10 H)) (aT.J1 σ K y3 y8 y9 y10 H)) (bnd (iA H y3) fun x10=>K x10 H)):aT.L0 σ K y3 y8 y9 y10 H :=
 fun j=>lrd (g:=1800) (Eq.mpr (by kernel_rfl) h)
theorem aT.J1_step {y3 y8 y9 y10:AV} (h:bnd (ai .add y10 (I 1)) fun x1=>aT.L0 σ K y3 y8 y9 x1 H):aT.J1 σ K y3 y8 y9 y10 H :=
 fun j=>Eq.mpr (by kernel_rfl) h
theorem aT.run {a0:AV} (h:bnd (hY H a0) fun p1=>bnd (az p1.1) fun x2=>aT.L0 σ K p1.1 p1.1 x2 (I 0) p1.2):∃ r H1,aq Tryz.prog σ ge [a0] H r H1∧K r H1 :=
 gwp 1800 (fn:=Tryz.f165) (f:=ge) (c:=aT.code) (by kernel_rfl) (by kernel_rfl) (Eq.mpr (by kernel_rfl) h)
noncomputable def jU.code:Code:=au Tryz.f169
theorem jU.run {a0:AV} (h:af Tryz.prog σ bu [a0] H fun x1 H2=>bnd (al a0) fun x3=>bnd (ab x3 4) fun x4=>bnd (stA 1 H2 x4 x1) fun H5=>K (.fn bL []) H5):∃ r H1,aq Tryz.prog σ aN [a0] H r H1∧K r H1 :=
 gwp 0 (fn:=Tryz.f169) (f:=aN) (c:=jU.code) (by kernel_rfl) (by kernel_rfl) (Eq.mpr (by kernel_rfl) h)
noncomputable def lg.code:Code:=au Tryz.f170
theorem lg.run {a0:AV} (h:af Tryz.prog σ bu [a0] H fun x1 H2=>bnd (ai .sub x1 (I 1)) fun x3=>bnd (al a0) fun x4=>bnd (ab x4 4) fun x5=>bnd (stA 1 H2 x5 x3) fun H6=>K (.fn cm []) H6):∃ r H1,aq Tryz.prog σ bC [a0] H r H1∧K r H1 :=
 gwp 0 (fn:=Tryz.f170) (f:=bC) (c:=lg.code) (by kernel_rfl) (by kernel_rfl) (Eq.mpr (by kernel_rfl) h)
noncomputable def jk.code:Code:=au Tryz.f171
theorem jk.run {a0:AV} (h:af Tryz.prog σ bN [a0] H fun x1 H2=>bnd (al a0) fun x3=>bnd (ab x3 3) fun x4=>bnd (stA 1 H2 x4 x1) fun H5=>K (.fn bV []) H5):∃ r H1,aq Tryz.prog σ bj [a0] H r H1∧K r H1 :=
 gwp 0 (fn:=Tryz.f171) (f:=bj) (c:=jk.code) (by kernel_rfl) (by kernel_rfl) (Eq.mpr (by kernel_rfl) h)
noncomputable def gB.code:Code:=au Tryz.f173
theorem gB.run {a0:AV} (h:cQ [I 0,I 0,Bo false,Bo false] H fun x1 H2=>bnd (al a0) fun x3=>bnd (ab x3 68) fun x4=>bnd (ldA true 4 H2 x4) fun x5=>bnd (stA 4 H2 x1 x5) fun H6=>bnd (ldA true 4 H6 x1) fun r7=>K r7 H6):∃ r H1,aq Tryz.prog σ dV [a0] H r H1∧K r H1 :=
 gwp 0 (fn:=Tryz.f173) (f:=dV) (c:=gB.code) (by kernel_rfl) (by kernel_rfl) (Eq.mpr (by kernel_rfl) h)
noncomputable def aI.code:Code:=au Tryz.f175
noncomputable def aI.L0 (σ:Sig) (K:AV→Hp→Prop) (y1 y10 y11 y12:AV) (H:Hp):Prop:=∀ j:Nat→AV,cO (CZ σ) (lB (bB (sR (sL (sR aI.code))))) [j 0,y1,j 2,j 3,j 4,j 5,j 6,j 7,j 8,j 9,y10,y11,y12,j 13,j 14,j 15,j 16,j 17,j 18,j 19,j 20,j 21,j 22] H (fun e T G=>(nx (fQ Tryz.f175 σ K) fun T G=>wp (CZ σ) 7170 (sR (sR aI.code)) T G (fQ Tryz.f175 σ K)) (aR 0 e) T G)
theorem aI.L0_step {y1 y10 y11 y12:AV} (h:bnd (ai .lss y12 y11) fun x1=>ifB x1 (bnd (aC 2 y10 y12) fun x2=>bnd (ldA true 2 H x2) fun x3=>cQ [I 0,I 0] H fun x4 H5=>bnd (stA 2 H5 x4 x3) fun H6=>bnd (ab x4 0) fun x7=>bnd (ldA false 1 H6 x7) fun x8=>bnd (ai .eql x8 y1) fun x9=>ifB x9 (K y12 H6) (bnd (ai .add y12 (I 1)) fun x10=>aI.L0 σ K y1 y10 y11 x10 H6)) (K (I (-1)) H)):aI.L0 σ K y1 y10 y11 y12 H :=
 fun j=>lrd (g:=7170) (Eq.mpr (by kernel_rfl) h)
theorem aI.run {a0 a1:AV} (h:bnd (al a0) fun x1=>bnd (ab x1 0) fun x2=>bnd (ldA false 1 H x2) fun x3=>bnd (az x3) fun x4=>aI.L0 σ K a1 x3 x4 (I 0) H):∃ r H1,aq Tryz.prog σ bY [a0,a1] H r H1∧K r H1 :=
 gwp 7170 (fn:=Tryz.f175) (f:=bY) (c:=aI.code) (by kernel_rfl) (by kernel_rfl) (Eq.mpr (by kernel_rfl) h)
noncomputable def aV.code:Code:=au Tryz.f176
noncomputable def aV.J0 (σ:Sig) (K:AV→Hp→Prop) (y0 y3:AV) (H:Hp):Prop:=∀ j:Nat→AV,wp (CZ σ) 9 (sR (sR aV.code)) [y0,j 1,j 2,y3,j 4,j 5,j 6,j 7,j 8,j 9,j 10,j 11,j 12,j 13,j 14,j 15,j 16,j 17,j 18,j 19,j 20,j 21,j 22,j 23,j 24,j 25,j 26,j 27,j 28,j 29,j 30,j 31,j 32,j 33,j 34,j 35,j 36,j 37] H (fQ Tryz.f176 σ K)
theorem aV.J0_step {y0 y3:AV} (h:bnd (al y0) fun x1=>bnd (ab x1 0) fun x2=>bnd (ldA false 1 H x2) fun x3=>bnd (ldA true 2 H y3) fun x4=>bnd (cH [.int .i64 0,.int .i64 0] 2 1 H [(0,2,x4)]) fun p5=>kpK (x2,some 1) H p5.2 (bnd (eB false 2 16 p5.2 x3 p5.1) fun p6=>bnd (al y0) fun x7=>bnd (ab x7 0) fun x8=>bnd (stA 1 p6.2 x8 p6.1) fun H9=>K (.tup []) H9)):aV.J0 σ K y0 y3 H :=
 fun j=>Eq.mpr (by kernel_rfl) h
theorem aV.run {a0 a1:AV} (h:dS a1 H fun x1 H2=>bnd (ab x1 0) fun x3=>bnd (ldA false 1 H2 x3) fun x4=>af Tryz.prog σ bY [a0,x4] H2 fun x5 H6=>bnd (ai .geq x5 (I 0)) fun x7=>ifB x7 (bnd (al a0) fun x8=>bnd (ab x8 0) fun x9=>bnd (ldA false 1 H6 x9) fun x10=>bnd (q_ 2 x10 none (some x5) none) fun x11=>bnd (al a0) fun x12=>bnd (ab x12 0) fun x13=>bnd (ldA false 1 H6 x13) fun x14=>bnd (ai .add x5 (I 1)) fun x15=>bnd (q_ 2 x14 (some x15) none none) fun x16=>bnd (eB false 2 16 H6 x11 x16) fun p17=>bnd (al a0) fun x18=>bnd (ab x18 0) fun x19=>bnd (stA 1 p17.2 x19 p17.1) fun H20=>aV.J0 σ K a0 x1 H20) (aV.J0 σ K a0 x1 H6)):∃ r H1,aq Tryz.prog σ cI [a0,a1] H r H1∧K r H1 :=
 gwp 9 (fn:=Tryz.f176) (f:=cI) (c:=aV.code) (by kernel_rfl) (by kernel_rfl) (Eq.mpr (by kernel_rfl) h)
end Go.Proofs.YtegioimlblnajaaGreat.Ev
namespace Go.Proofs.YtegioimlblnajaaGreat.Ev
set_option maxRecDepth 100000
set_option maxHeartbeats 4000000
set_option linter.unusedVariables false
variable {σ:Sig} {K:AV→Hp→Prop} {H:Hp}
noncomputable def cM.code:Code:=au Tryz.f181
noncomputable def cM.R0 (j:Nat→AV) (y3 y4 y5:AV):kB:=⟨[j 0,j 1,j 2,y3,y4,y5,j 6,j 7,j 8,j 9,j 10,j 11,j 12,j 13,j 14,j 15,j 16,j 17,j 18,j 19,j 20,j 21,j 22,j 23,j 24,j 25,j 26,j 27,j 28,j 29,j 30,j 31,j 32,j 33,j 34,j 35,j 36,j 37,j 38,j 39,j 40],rP (bB (sR (sL (sR (sR (sR (sR cM.code))))))),rA (bB (sR (sL (sR (sR (sR (sR cM.code))))))),rB (bB (sR (sL (sR (sR (sR (sR cM.code)))))))⟩
theorem cM.run {a0:AV} (h:cQ (List.replicate 16 (I 0)) H fun x1 H2=>cQ (List.replicate 16 (I 0)) H2 fun x3 H4=>cQ [I 0,I 0,I 0,Bo false,I 0,I 0,I 0,I 0,Bo false,I 0,I 0,I 0,I 0,Bo false,I 0,I 0,I 0,I 0,Bo false,I 0,I 0,I 0,I 0,Bo false,I 0,I 0,I 0,I 0,Bo false,I 0,I 0,I 0,I 0,Bo false,I 0,I 0,I 0,I 0,Bo false,I 0] H4 fun x5 H6=>cQ [Bo false,Bo false,Bo false,Bo false,Bo false,Bo false,Bo false,Bo false] H6 fun x7 H8=>∀ j:Nat→AV,nY Tryz.prog σ a0 (cM.R0 j x3 x5 x7) H8 (fun H9=>bnd (ldA true 16 H9 x3) fun x11=>bnd (stA 16 H9 x1 x11) fun H12=>bnd (ldA true 16 H12 x1) fun r13=>K r13 H12) (fun H9=>bnd (ldA true 16 H9 x1) fun r14=>K r14 H9) (fun i10 H9=>exB (Nat.beq i10 1) (False) (False))):∃ r H1,aq Tryz.prog σ fK [a0] H r H1∧K r H1 :=
 gwp 56 (fn:=Tryz.f181) (f:=fK) (c:=cM.code) (by kernel_rfl) (by kernel_rfl) (Eq.mpr (by kernel_rfl) h)
noncomputable def fG.code:Code:=au Tryz.f182
theorem fG.run {a0 a1 a2 a3 a4:AV} (h:dS a0 H fun x1 H2=>dS a1 H2 fun x3 H4=>dS a2 H4 fun x5 H6=>dS a3 H6 fun x7 H8=>dS a4 H8 fun x9 H10=>K (.fn dW [x7,x5,x9,x1,x3]) H10):∃ r H1,aq Tryz.prog σ eE [a0,a1,a2,a3,a4] H r H1∧K r H1 :=
 gwp 0 (fn:=Tryz.f182) (f:=eE) (c:=fG.code) (by kernel_rfl) (by kernel_rfl) (Eq.mpr (by kernel_rfl) h)
noncomputable def iR.code:Code:=au Tryz.f184
theorem iR.run {a0:AV} (h:bnd (al a0) fun x1=>bnd (ab x1 1) fun x2=>bnd (ab x2 0) fun x3=>bnd (ldA false 1 H x3) fun x4=>bnd (az x4) fun x5=>K x5 H):∃ r H1,aq Tryz.prog σ gU [a0] H r H1∧K r H1 :=
 gwp 0 (fn:=Tryz.f184) (f:=gU) (c:=iR.code) (by kernel_rfl) (by kernel_rfl) (Eq.mpr (by kernel_rfl) h)
noncomputable def j2.code:Code:=au Tryz.f185
theorem j2.run {a0 a1:AV} (h:cQ [I 0,.lit (.string ⟨#[]⟩),.lit (.string ⟨#[]⟩),.lit (.slice none 0 0),.lit (.slice none 0 0),.lit (.slice none 0 0),I 0,I 0,I 0] H fun x1 H2=>bnd (ai .lss a1 (I 0)) fun x3=>ifB x3 (bnd (dg [I 0,.lit (.string ⟨#[]⟩),.lit (.string ⟨#[]⟩),.lit (.slice none 0 0),.lit (.slice none 0 0)] []) fun l4=>bnd (dg [I 0,.lit (.string ⟨#[]⟩),.lit (.string ⟨#[]⟩),.lit (.slice none 0 0),.lit (.slice none 0 0),.lit (.slice none 0 0),I 0,I 0,I 0] [(0,5,(.agg l4)),(8,1,(I (-1)))]) fun l5=>bnd (stA 9 H2 x1 (.agg l5)) fun H6=>bnd (ldA true 9 H6 x1) fun r7=>K r7 H6) (bnd (al a0) fun x8=>bnd (ab x8 0) fun x9=>bnd (ldA false 1 H2 x9) fun x10=>bnd (az x10) fun x11=>bnd (ai .geq a1 x11) fun x12=>ifB x12 (bnd (dg [I 0,.lit (.string ⟨#[]⟩),.lit (.string ⟨#[]⟩),.lit (.slice none 0 0),.lit (.slice none 0 0)] []) fun l13=>bnd (dg [I 0,.lit (.string ⟨#[]⟩),.lit (.string ⟨#[]⟩),.lit (.slice none 0 0),.lit (.slice none 0 0),.lit (.slice none 0 0),I 0,I 0,I 0] [(0,5,(.agg l13)),(8,1,(I (-1)))]) fun l14=>bnd (stA 9 H2 x1 (.agg l14)) fun H15=>bnd (ldA true 9 H15 x1) fun r16=>K r16 H15) (bnd (al a0) fun x17=>bnd (ab x17 0) fun x18=>bnd (ldA false 1 H2 x18) fun x19=>bnd (aC 9 x19 a1) fun x20=>bnd (ldA true 9 H2 x20) fun x21=>bnd (stA 9 H2 x1 x21) fun H22=>bnd (ldA true 9 H22 x1) fun r23=>K r23 H22))):∃ r H1,aq Tryz.prog σ e_ [a0,a1] H r H1∧K r H1 :=
 gwp 0 (fn:=Tryz.f185) (f:=e_) (c:=j2.code) (by kernel_rfl) (by kernel_rfl) (Eq.mpr (by kernel_rfl) h)
noncomputable def b_.code:Code:=au Tryz.f192
theorem b_.run {a0:AV} (h:bnd (mf .eql a0 (.lit (.slice none 0 0))) fun x1=>ifB x1 (K (.lit (.slice none 0 0)) H) (bnd (cH [.string ⟨#[]⟩] 1 0 H []) fun p2=>bnd (eB false 1 16 p2.2 p2.1 a0) fun p3=>K p3.1 p3.2)):∃ r H1,aq Tryz.prog σ aO [a0] H r H1∧K r H1 :=
 gwp 0 (fn:=Tryz.f192) (f:=aO) (c:=b_.code) (by kernel_rfl) (by kernel_rfl) (Eq.mpr (by kernel_rfl) h)
noncomputable def bJ.code:Code:=au Tryz.f193
theorem bJ.run {a0:AV} (h:bnd (mf .eql a0 (.lit (.slice none 0 0))) fun x1=>ifB x1 (K (.lit (.slice none 0 0)) H) (bnd (cH [.string ⟨#[]⟩,.string ⟨#[]⟩] 2 0 H []) fun p2=>bnd (eB false 2 32 p2.2 p2.1 a0) fun p3=>K p3.1 p3.2)):∃ r H1,aq Tryz.prog σ aY [a0] H r H1∧K r H1 :=
 gwp 0 (fn:=Tryz.f193) (f:=aY) (c:=bJ.code) (by kernel_rfl) (by kernel_rfl) (Eq.mpr (by kernel_rfl) h)
noncomputable def df.code:Code:=au Tryz.f196
theorem df.run {a0:AV} (h:af Tryz.prog σ aU [a0,(I (-1001)),(Bo false)] H fun x1 H2=>bnd (al a0) fun x3=>bnd (ab x3 0) fun x4=>bnd (ldA false 1 H2 x4) fun x5=>bnd (al x5) fun x6=>bnd (ab x6 2) fun x7=>bnd (ldA false 1 H2 x7) fun x8=>K x8 H2):∃ r H1,aq Tryz.prog σ bu [a0] H r H1∧K r H1 :=
 gwp 0 (fn:=Tryz.f196) (f:=bu) (c:=df.code) (by kernel_rfl) (by kernel_rfl) (Eq.mpr (by kernel_rfl) h)
noncomputable def jR.code:Code:=au Tryz.f197
theorem jR.run {a0:AV} (h:af Tryz.prog σ bN [a0] H fun x1 H2=>bnd (al a0) fun x3=>bnd (ab x3 3) fun x4=>bnd (stA 1 H2 x4 x1) fun H5=>bnd (al a0) fun x6=>bnd (ab x6 4) fun x7=>bnd (ldA false 1 H5 x7) fun x8=>bnd (al a0) fun x9=>bnd (ab x9 3) fun x10=>bnd (ldA false 1 H5 x10) fun x11=>bnd (ai .sub x8 x11) fun x12=>bnd (al a0) fun x13=>bnd (ab x13 0) fun x14=>bnd (ldA false 1 H5 x14) fun x15=>bnd (al x15) fun x16=>bnd (ab x16 0) fun x17=>bnd (ldA false 1 H5 x17) fun x18=>bnd (az x18) fun x19=>bnd (ai .eql x12 x19) fun x20=>ifB x20 (K (.lit (.nilFunc)) H5) (K (.fn bW []) H5)):∃ r H1,aq Tryz.prog σ bL [a0] H r H1∧K r H1 :=
 gwp 0 (fn:=Tryz.f197) (f:=bL) (c:=jR.code) (by kernel_rfl) (by kernel_rfl) (Eq.mpr (by kernel_rfl) h)
noncomputable def k0.code:Code:=au Tryz.f198
theorem k0.run {a0:AV} (h:bnd (al a0) fun x1=>bnd (ab x1 4) fun x2=>bnd (ldA false 1 H x2) fun x3=>af Tryz.prog σ br [a0,x3] H fun x4 H5=>K (.fn bx []) H5):∃ r H1,aq Tryz.prog σ cm [a0] H r H1∧K r H1 :=
 gwp 0 (fn:=Tryz.f198) (f:=cm) (c:=k0.code) (by kernel_rfl) (by kernel_rfl) (Eq.mpr (by kernel_rfl) h)
noncomputable def dG.code:Code:=au Tryz.f199
theorem dG.run {a0:AV} (h:af Tryz.prog σ aU [a0,(I (-1000)),(Bo false)] H fun x1 H2=>bnd (al a0) fun x3=>bnd (ab x3 0) fun x4=>bnd (ldA false 1 H2 x4) fun x5=>bnd (al x5) fun x6=>bnd (ab x6 1) fun x7=>bnd (ldA false 1 H2 x7) fun x8=>K x8 H2):∃ r H1,aq Tryz.prog σ bN [a0] H r H1∧K r H1 :=
 gwp 0 (fn:=Tryz.f199) (f:=bN) (c:=dG.code) (by kernel_rfl) (by kernel_rfl) (Eq.mpr (by kernel_rfl) h)
noncomputable def jo.code:Code:=au Tryz.f200
theorem jo.run {a0:AV} (h:af Tryz.prog σ bu [a0] H fun x1 H2=>bnd (al a0) fun x3=>bnd (ab x3 4) fun x4=>bnd (stA 1 H2 x4 x1) fun H5=>bnd (al a0) fun x6=>bnd (ab x6 3) fun x7=>bnd (ldA false 1 H5 x7) fun x8=>bnd (al a0) fun x9=>bnd (ab x9 4) fun x10=>bnd (ldA false 1 H5 x10) fun x11=>bnd (ai .geq x8 x11) fun x12=>ifB x12 (K (.lit (.nilFunc)) H5) (K (.fn bR []) H5)):∃ r H1,aq Tryz.prog σ bV [a0] H r H1∧K r H1 :=
 gwp 0 (fn:=Tryz.f200) (f:=bV) (c:=jo.code) (by kernel_rfl) (by kernel_rfl) (Eq.mpr (by kernel_rfl) h)
noncomputable def ak.code:Code:=au Tryz.f210
noncomputable def ak.Q0 (σ:Sig) (K:AV→Hp→Prop):Exit→List AV→Hp→Prop:=(nx (fun e T G=>(fQ Tryz.f210 σ K) (aR 0 e) T G) fun T G=>∀ j,cO (CZ σ) (lB (bB (sR ak.code))) (f_ 4035225386383520573 j 0 T) G (fun e T G=>(fQ Tryz.f210 σ K) (aR 0 e) T G))
noncomputable def ak.Q1 (σ:Sig) (K:AV→Hp→Prop):Exit→List AV→Hp→Prop:=(nx (ak.Q0 σ K) fun T G=>∀ j,wp (CZ σ) 4035225386383520573 (sR (sR (sR (lB (bB (sR ak.code)))))) (f_ 4035225386383520573 j 0 T) G (ak.Q0 σ K))
noncomputable def ak.Q2 (σ:Sig) (K:AV→Hp→Prop):Exit→List AV→Hp→Prop:=(nx (fun e T G=>(ak.Q1 σ K) (aR 1 e) T G) fun T G=>wp (CZ σ) 4035225386383520573 (sR (sR (sR (sR (bB (sL (sR (sR (lB (bB (sR ak.code))))))))))) T G (fun e T G=>(ak.Q1 σ K) (aR 1 e) T G))
noncomputable def ak.L0 (σ:Sig) (K:AV→Hp→Prop) (y0 y2 y3 y4 y5 y8 y9 y12 y13 y16 y17 y18 y34 y35 y36 y59 y60 y61:AV) (H:Hp):Prop:=∀ j:Nat→AV,cO (CZ σ) (lB (bB (sR ak.code))) [y0,j 1,y2,y3,y4,y5,j 6,j 7,y8,y9,j 10,j 11,y12,y13,j 14,j 15,y16,y17,y18,j 19,j 20,j 21,j 22,j 23,j 24,j 25,j 26,j 27,j 28,j 29,j 30,j 31,j 32,j 33,y34,y35,y36,j 37,j 38,j 39,j 40,j 41,j 42,j 43,j 44,j 45,j 46,j 47,j 48,j 49,j 50,j 51,j 52,j 53,j 54,j 55,j 56,j 57,j 58,y59,y60,y61,j 62,j 63,j 64,j 65,j 66,j 67,j 68,j 69,j 70,j 71,j 72,j 73,j 74,j 75] H (fun e T G=>(fQ Tryz.f210 σ K) (aR 0 e) T G)
noncomputable def ak.J1 (σ:Sig) (K:AV→Hp→Prop) (y0 y2 y3 y4 y5 y8 y9 y12 y13 y16 y17 y18 y34 y35 y36 y59 y60 y61:AV) (H:Hp):Prop:=∀ j:Nat→AV,wp (CZ σ) 4035225386383520573 (sR (sR (sR (lB (bB (sR ak.code)))))) [y0,j 1,y2,y3,y4,y5,j 6,j 7,y8,y9,j 10,j 11,y12,y13,j 14,j 15,y16,y17,y18,j 19,j 20,j 21,j 22,j 23,j 24,j 25,j 26,j 27,j 28,j 29,j 30,j 31,j 32,j 33,y34,y35,y36,j 37,j 38,j 39,j 40,j 41,j 42,j 43,j 44,j 45,j 46,j 47,j 48,j 49,j 50,j 51,j 52,j 53,j 54,j 55,j 56,j 57,j 58,y59,y60,y61,j 62,j 63,j 64,j 65,j 66,j 67,j 68,j 69,j 70,j 71,j 72,j 73,j 74,j 75] H (ak.Q0 σ K)
noncomputable def ak.L2 (σ:Sig) (K:AV→Hp→Prop) (y0 y2 y3 y4 y5 y8 y9 y12 y13 y16 y17 y18 y34 y35 y36 y59 y60 y61:AV) (H:Hp):Prop:=∀ j:Nat→AV,cO (CZ σ) (lB (bB (sR (sL (sR (sR (sR (bB (sL (sR (sR (lB (bB (sR ak.code)))))))))))))) [y0,j 1,y2,y3,y4,y5,j 6,j 7,y8,y9,j 10,j 11,y12,y13,j 14,j 15,y16,y17,y18,j 19,j 20,j 21,j 22,j 23,j 24,j 25,j 26,j 27,j 28,j 29,j 30,j 31,j 32,j 33,y34,y35,y36,j 37,j 38,j 39,j 40,j 41,j 42,j 43,j 44,j 45,j 46,j 47,j 48,j 49,j 50,j 51,j 52,j 53,j 54,j 55,j 56,j 57,j 58,y59,y60,y61,j 62,j 63,j 64,j 65,j 66,j 67,j 68,j 69,j 70,j 71,j 72,j 73,j 74,j 75] H (fun e T G=>(ak.Q2 σ K) (aR 2 e) T G)
theorem ak.L0_step {y0 y2 y3 y4 y5 y8 y9 y12 y13 y16 y17 y18 y34 y35 y36 y59 y60 y61:AV} (h:bnd (ai .lss y18 y17) fun x1=>ifB x1 (bnd (aC 1 y16 y18) fun x2=>bnd (ldA false 1 H x2) fun x3=>bnd (ai .lss x3 (I 0)) fun x4=>ifB x4 (ak.J1 σ K y0 y2 y3 y4 y5 x3 y9 y12 y13 y16 y17 y18 y34 y35 y36 y59 y60 y61 H) (bnd (ldA false 1 H y2) fun x5=>bnd (az x5) fun x6=>bnd (ai .geq x3 x6) fun x7=>ifB x7 (ak.J1 σ K y0 y2 y3 y4 y5 x3 y9 y12 y13 y16 y17 y18 y34 y35 y36 y59 y60 y61 H) (bnd (ldA false 1 H y2) fun x8=>bnd (aC 2 x8 x3) fun x9=>bnd (ab x9 0) fun x10=>bnd (ldA false 1 H x10) fun x11=>bnd (az x11) fun x12=>ak.L2 σ K y0 y2 y3 y4 y5 x3 (.lit (.slice none 0 0)) y12 y13 y16 y17 y18 x11 x12 (I 0) y59 y60 y61 H))) (K (.tup []) H)):ak.L0 σ K y0 y2 y3 y4 y5 y8 y9 y12 y13 y16 y17 y18 y34 y35 y36 y59 y60 y61 H :=
 fun j=>lrd (g:=4035225386383520573) (Eq.mpr (by kernel_rfl) h)
theorem ak.run {a0 a1 a2 a3 a4 a5:AV} (h:bnd (ldA false 1 H a1) fun x1=>bnd (az x1) fun x2=>ak.L0 σ K a0 a2 a3 a4 a5 (.lit undef) (.lit undef) (.lit undef) (.lit undef) x1 x2 (I 0) (.lit undef) (.lit undef) (.lit undef) (.lit undef) (.lit undef) (.lit undef) H):∃ r H1,aq Tryz.prog σ dW [a0,a1,a2,a3,a4,a5] H r H1∧K r H1 :=
 gwp 4035225386383520573 (fn:=Tryz.f210) (f:=dW) (c:=ak.code) (by kernel_rfl) (by kernel_rfl) (Eq.mpr (by kernel_rfl) h)
noncomputable def dR.code:Code:=au Tryz.f218
theorem dR.run {a0 a1 a2:AV} (h:bnd (al a0) fun x1=>bnd (ab x1 0) fun x2=>bnd (ldA false 1 H x2) fun x3=>bnd (al a0) fun x4=>bnd (ab x4 1) fun x5=>bnd (ldA false 1 H x5) fun x6=>bnd (dg [I 0,I 0,Bo false,Bo false] [(0,1,x6),(1,1,a1),(2,1,a2),(3,1,(Bo true))]) fun l7=>bnd (al x3) fun x8=>bnd (ab x8 68) fun x9=>bnd (stA 4 H x9 (.agg l7)) fun H10=>K (.tup []) H10):∃ r H1,aq Tryz.prog σ aU [a0,a1,a2] H r H1∧K r H1 :=
 gwp 0 (fn:=Tryz.f218) (f:=aU) (c:=dR.code) (by kernel_rfl) (by kernel_rfl) (Eq.mpr (by kernel_rfl) h)
noncomputable def j3.code:Code:=au Tryz.f219
theorem j3.run {a0:AV} (h:bnd (al a0) fun x1=>bnd (ab x1 4) fun x2=>bnd (ldA false 1 H x2) fun x3=>af Tryz.prog σ b9 [a0,x3] H fun x4 H5=>bnd (ai .sub (I (-1002)) x4) fun x6=>af Tryz.prog σ aU [a0,x6,(Bo true)] H5 fun x7 H8=>bnd (al a0) fun x9=>bnd (ab x9 0) fun x10=>bnd (ldA false 1 H8 x10) fun x11=>bnd (al x11) fun x12=>bnd (ab x12 0) fun x13=>bnd (ldA false 1 H8 x13) fun x14=>bnd (al a0) fun x15=>bnd (ab x15 4) fun x16=>bnd (ldA false 1 H8 x16) fun x17=>af Tryz.prog σ b9 [a0,x17] H8 fun x18 H19=>kpK (x13,some 1) H8 H19 (kpK (x10,some 1) H8 H19 (bnd (al a0) fun x20=>bnd (ab x20 2) fun x21=>kpK (x21,some 1) H8 H19 (bnd (ldA false 1 H19 x21) fun x22=>bnd (aC 1 x14 x18) fun x23=>bnd (stA 1 H19 x23 x22) fun H24=>K (.fn cj []) H24)))):∃ r H1,aq Tryz.prog σ bW [a0] H r H1∧K r H1 :=
 gwp 0 (fn:=Tryz.f219) (f:=bW) (c:=j3.code) (by kernel_rfl) (by kernel_rfl) (Eq.mpr (by kernel_rfl) h)
noncomputable def c5.code:Code:=au Tryz.f220
theorem c5.run {a0 a1:AV} (h:af Tryz.prog σ aU [a0,(I (-1001)),(Bo true)] H fun x1 H2=>bnd (al a0) fun x3=>bnd (ab x3 0) fun x4=>bnd (ldA false 1 H2 x4) fun x5=>bnd (al x5) fun x6=>bnd (ab x6 2) fun x7=>bnd (stA 1 H2 x7 a1) fun H8=>K (.tup []) H8):∃ r H1,aq Tryz.prog σ br [a0,a1] H r H1∧K r H1 :=
 gwp 0 (fn:=Tryz.f220) (f:=br) (c:=c5.code) (by kernel_rfl) (by kernel_rfl) (Eq.mpr (by kernel_rfl) h)
noncomputable def kW.code:Code:=au Tryz.f221
theorem kW.run {a0:AV} (h:af Tryz.prog σ bN [a0] H fun x1 H2=>bnd (al a0) fun x3=>bnd (ab x3 3) fun x4=>bnd (stA 1 H2 x4 x1) fun H5=>bnd (al a0) fun x6=>bnd (ab x6 3) fun x7=>bnd (ldA false 1 H5 x7) fun x8=>bnd (al a0) fun x9=>bnd (ab x9 4) fun x10=>bnd (ldA false 1 H5 x10) fun x11=>bnd (ai .gtr x8 x11) fun x12=>ifB x12 (K (.fn aL []) H5) (K (.fn bi []) H5)):∃ r H1,aq Tryz.prog σ bx [a0] H r H1∧K r H1 :=
 gwp 0 (fn:=Tryz.f221) (f:=bx) (c:=kW.code) (by kernel_rfl) (by kernel_rfl) (Eq.mpr (by kernel_rfl) h)
noncomputable def jn.code:Code:=au Tryz.f222
theorem jn.run {a0:AV} (h:bnd (al a0) fun x1=>bnd (ab x1 3) fun x2=>bnd (ldA false 1 H x2) fun x3=>af Tryz.prog σ cG [a0,x3] H fun x4 H5=>K (.fn bK []) H5):∃ r H1,aq Tryz.prog σ bR [a0] H r H1∧K r H1 :=
 gwp 0 (fn:=Tryz.f222) (f:=bR) (c:=jn.code) (by kernel_rfl) (by kernel_rfl) (Eq.mpr (by kernel_rfl) h)
noncomputable def fA.code:Code:=au Tryz.f231
theorem fA.run {a0 a1:AV} (h:bnd (al a0) fun x1=>bnd (ab x1 0) fun x2=>bnd (ldA false 1 H x2) fun x3=>bnd (al x3) fun x4=>bnd (ab x4 0) fun x5=>bnd (ldA false 1 H x5) fun x6=>bnd (az x6) fun x7=>bnd (ai .rem a1 x7) fun x8=>K x8 H):∃ r H1,aq Tryz.prog σ b9 [a0,a1] H r H1∧K r H1 :=
 gwp 0 (fn:=Tryz.f231) (f:=b9) (c:=fA.code) (by kernel_rfl) (by kernel_rfl) (Eq.mpr (by kernel_rfl) h)
noncomputable def jX.code:Code:=au Tryz.f232
theorem jX.run {a0:AV} (h:bnd (al a0) fun x1=>bnd (ab x1 4) fun x2=>bnd (ldA false 1 H x2) fun x3=>bnd (ai .add x3 (I 1)) fun x4=>af Tryz.prog σ br [a0,x4] H fun x5 H6=>bnd (al a0) fun x7=>bnd (ab x7 5) fun x8=>bnd (stA 1 H6 x8 (Bo true)) fun H9=>K (.lit (.nilFunc)) H9):∃ r H1,aq Tryz.prog σ cj [a0] H r H1∧K r H1 :=
 gwp 0 (fn:=Tryz.f232) (f:=cj) (c:=jX.code) (by kernel_rfl) (by kernel_rfl) (Eq.mpr (by kernel_rfl) h)
noncomputable def kV.code:Code:=au Tryz.f233
theorem kV.run {a0:AV} (h:bnd (al a0) fun x1=>bnd (ab x1 4) fun x2=>bnd (ldA false 1 H x2) fun x3=>bnd (ai .add x3 (I 1)) fun x4=>af Tryz.prog σ br [a0,x4] H fun x5 H6=>K (.lit (.nilFunc)) H6):∃ r H1,aq Tryz.prog σ aL [a0] H r H1∧K r H1 :=
 gwp 0 (fn:=Tryz.f233) (f:=aL) (c:=kV.code) (by kernel_rfl) (by kernel_rfl) (Eq.mpr (by kernel_rfl) h)
noncomputable def k7.code:Code:=au Tryz.f234
theorem k7.run {a0:AV} (h:bnd (al a0) fun x1=>bnd (ab x1 4) fun x2=>bnd (ldA false 1 H x2) fun x3=>af Tryz.prog σ cG [a0,x3] H fun x4 H5=>bnd (al a0) fun x6=>bnd (ab x6 3) fun x7=>bnd (ldA false 1 H5 x7) fun x8=>bnd (al a0) fun x9=>bnd (ab x9 4) fun x10=>bnd (ldA false 1 H5 x10) fun x11=>bnd (ai .lss x8 x11) fun x12=>ifB x12 (bnd (al a0) fun x13=>bnd (ab x13 5) fun x14=>bnd (stA 1 H5 x14 (Bo true)) fun H15=>K (.lit (.nilFunc)) H15) (K (.fn bq []) H5)):∃ r H1,aq Tryz.prog σ bi [a0] H r H1∧K r H1 :=
 gwp 0 (fn:=Tryz.f234) (f:=bi) (c:=k7.code) (by kernel_rfl) (by kernel_rfl) (Eq.mpr (by kernel_rfl) h)
noncomputable def ey.code:Code:=au Tryz.f235
theorem ey.run {a0 a1:AV} (h:af Tryz.prog σ b9 [a0,a1] H fun x1 H2=>bnd (ai .sub (I (-1002)) x1) fun x3=>af Tryz.prog σ aU [a0,x3,(Bo false)] H2 fun x4 H5=>bnd (al a0) fun x6=>bnd (ab x6 0) fun x7=>bnd (ldA false 1 H5 x7) fun x8=>bnd (al x8) fun x9=>bnd (ab x9 0) fun x10=>bnd (ldA false 1 H5 x10) fun x11=>af Tryz.prog σ b9 [a0,a1] H5 fun x12 H13=>kpK (x10,some 1) H5 H13 (kpK (x7,some 1) H5 H13 (bnd (aC 1 x11 x12) fun x14=>bnd (ldA false 1 H13 x14) fun x15=>bnd (al a0) fun x16=>bnd (ab x16 2) fun x17=>bnd (stA 1 H13 x17 x15) fun H18=>K (.tup []) H18))):∃ r H1,aq Tryz.prog σ cG [a0,a1] H r H1∧K r H1 :=
 gwp 0 (fn:=Tryz.f235) (f:=cG) (c:=ey.code) (by kernel_rfl) (by kernel_rfl) (Eq.mpr (by kernel_rfl) h)
noncomputable def jy.code:Code:=au Tryz.f236
theorem jy.run {a0:AV} (h:af Tryz.prog σ co [a0] H fun x1 H2=>bnd (al a0) fun x3=>bnd (ab x3 5) fun x4=>bnd (stA 1 H2 x4 x1) fun H5=>K (.lit (.nilFunc)) H5):∃ r H1,aq Tryz.prog σ bK [a0] H r H1∧K r H1 :=
 gwp 0 (fn:=Tryz.f236) (f:=bK) (c:=jy.code) (by kernel_rfl) (by kernel_rfl) (Eq.mpr (by kernel_rfl) h)
noncomputable def kP.code:Code:=au Tryz.f243
theorem kP.run {a0:AV} (h:af Tryz.prog σ co [a0] H fun x1 H2=>bnd (al a0) fun x3=>bnd (ab x3 5) fun x4=>bnd (stA 1 H2 x4 x1) fun H5=>K (.fn aL []) H5):∃ r H1,aq Tryz.prog σ bq [a0] H r H1∧K r H1 :=
 gwp 0 (fn:=Tryz.f243) (f:=bq) (c:=kP.code) (by kernel_rfl) (by kernel_rfl) (Eq.mpr (by kernel_rfl) h)
noncomputable def dH.code:Code:=au Tryz.f244
theorem dH.run {a0:AV} (h:af Tryz.prog σ aU [a0,(I (-1000)),(Bo true)] H fun x1 H2=>bnd (al a0) fun x3=>bnd (ab x3 0) fun x4=>bnd (ldA false 1 H2 x4) fun x5=>bnd (al x5) fun x6=>bnd (ab x6 1) fun x7=>bnd (ldA false 1 H2 x7) fun x8=>bnd (al a0) fun x9=>bnd (ab x9 3) fun x10=>bnd (ldA false 1 H2 x10) fun x11=>bnd (ai .neq x8 x11) fun x12=>ifB x12 (K (Bo false) H2) (bnd (al a0) fun x13=>bnd (ab x13 0) fun x14=>bnd (ldA false 1 H2 x14) fun x15=>bnd (al x15) fun x16=>bnd (ab x16 1) fun x17=>bnd (ldA false 1 H2 x17) fun x18=>bnd (ai .add x18 (I 1)) fun x19=>bnd (al x15) fun x20=>bnd (ab x20 1) fun x21=>bnd (stA 1 H2 x21 x19) fun H22=>K (Bo true) H22)):∃ r H1,aq Tryz.prog σ co [a0] H r H1∧K r H1 :=
 gwp 0 (fn:=Tryz.f244) (f:=co) (c:=dH.code) (by kernel_rfl) (by kernel_rfl) (Eq.mpr (by kernel_rfl) h)
end Go.Proofs.YtegioimlblnajaaGreat.Ev
namespace Go.Proofs.YtegioimlblnajaaGreat.Ev
set_option maxRecDepth 100000
set_option maxHeartbeats 4000000
set_option linter.unusedVariables false
variable {σ:Sig} {K:AV→Hp→Prop} {H:Hp}
end Go.Proofs.YtegioimlblnajaaGreat.Ev
namespace Go.Proofs.YtegioimlblnajaaGreat.Ev
set_option linter.unusedVariables false
set_option linter.unusedSimpArgs false
variable {σ:Sig}
def gn (c:UInt8):UInt8:=if 65≤c.toNat∧c.toNat≤90 then UInt8.ofNat (c.toNat+32) else c
def sO (s:ByteArray):ByteArray:=⟨(s.data.toList.map gn).toArray⟩
def jZ (c:UInt8):AV:=.lit (.int .u8 c.toNat)
theorem wr8 {n:Int} (h0:0≤n) (h1:n≤255):wr .u8 n=n:=by
 unfold wr
 simp [IntKind.wrap,IntKind.signed,IntKind.bits]
 omega
theorem n5:∀ (l:List UInt8),j_ (l.map jZ)=some l
 | []=>rfl
 | c::l=>by
  have ih:=n5 l
  rw [List.map_cons]
  show (j_ (l.map jZ)).map (UInt8.ofNat ((c.toNat:Int)).toNat::·)=_
  rw [ih]
  simp
theorem DB (l:List UInt8):(l.map jZ).all AV.one=true:=by
 rw [List.all_map,List.all_eq_true]
 intro x _; rfl
theorem uB {H:Hp} {id:Nat} {l:List UInt8} {n:Nat} {ex:Bool} (hg:H.get id=some (.cells (l.map jZ) ex)) (hn:n=l.length):iA H (.sl id 0 1 n none)=some (Sx ⟨l.toArray⟩):=by
 subst hn
 simp only [iA,gM,hg]
 have e:List.take l.length (l.map jZ)=l.map jZ:=by
  have:=List.take_length (l:=l.map jZ)
  rwa [List.length_map] at this
 simp only [List.drop_zero,Nat.mul_one,iZ,e,List.length_map,decide_true,Bool.and_self,cond_true,DB,n5]
 rfl
theorem nT {l:List UInt8} {k:Nat} {c:UInt8} (h:l[k]?=some c) (v:UInt8) (hv:v=gn c):(l.set k v).take (k+1)++((l.set k v).drop (k+1)).map gn=l.take k++(l.drop k).map gn:=by
 subst hv
 obtain ⟨hlt,rfl⟩:=List.getElem?_eq_some_iff.1 h
 rw [List.drop_eq_getElem_cons hlt,List.take_succ_eq_append_getElem (by simpa using hlt),List.drop_set_of_lt (by omega),List.take_set_of_le (by omega)]
 simp
 rw [List.drop_eq_getElem_cons (i:=k) (l:=List.map gn l) (by simpa using hlt)]
 simp
theorem lK {l:List UInt8} {k:Nat} {c:UInt8} (h:l[k]?=some c) (hv:gn c=c):l.take (k+1)++(l.drop (k+1)).map gn=l.take k++(l.drop k).map gn:=by
 have:=nT h c hv.symm
 rwa [show l.set k c=l from by
  obtain ⟨hlt,rfl⟩:=List.getElem?_eq_some_iff.1 h
  simp] at this
theorem Fp {K:AV→Hp→Prop} {n id:Nat} (hn:n<9000000000000000000):∀ (d k:Nat) (l:List UInt8) (H:Hp) (ex:Bool),H.get id=some (.cells (l.map jZ) ex)→l.length=n→n - k=d→k≤n→(∀ H,K (Sx ⟨(l.take k++(l.drop k).map gn).toArray⟩) H) →
  aT.L0 σ K (.sl id 0 1 n none) (.sl id 0 1 n none) (I n) (I k) H:=by
 intro d
 induction d with
 | zero =>
  intro k l H ex hg hl hd hk hK
  have e:k=n:=by omega
  subst e
  refine aT.L0_step ?_
  simp [uB hg hl.symm]
  simpa [← hl] using hK H
 | succ d ih =>
  intro k l H ex hg hl hd hk hK
  have hlt:k<n:=by omega
  have hlt':k<l.length:=by omega
  have hget:l[k]?=some l[k]:=List.getElem?_eq_getElem hlt'
  have hc:=(l[k]).toNat_lt
  refine aT.L0_step ?_
  simp [hlt,kF,hg,uz hlt',jZ]
  have next:∀ (l':List UInt8) (H':Hp),H'.get id=some (.cells (l'.map jZ) ex)→l'.length=n→l'.take (k+1)++(l'.drop (k+1)).map gn=l.take k++(l.drop k).map gn→aT.J1 σ K (.sl id 0 1 n none) (.sl id 0 1 n none) (I n) (I k) H':=by
   intro l' H' hg' hl' he
   refine aT.J1_step ?_
   simp
   rw [ga (Nat.lt_trans hlt hn)]
   exact ih (k+1) l' H' ex hg' hl' (by omega) (by omega) (by rw [he]; exact hK)
  split
  ·split
   ·rename_i h1 h2
    have e1:wr .u8 ((l[k].toNat:Int)+97)=(l[k].toNat:Int)+97:=wr8 (by omega) (by omega)
    have e2:wr .u8 ((l[k].toNat:Int)+97 - 65)=((gn l[k]).toNat:Int):=by
     rw [wr8 (by omega) (by omega)]
     unfold gn
     rw [if_pos ⟨by omega,by omega⟩]
     simp; omega
    rw [e1,e2]
    have e3:(k:Int).toNat=k:=by omega
    rw [if_pos (show k+1≤l.length from hlt'),ae]
    have e4:AV.lit (.int .u8 (gn l[k]).toNat)=jZ (gn l[k]):=rfl
    rw [e4,G7 _ hlt']
    exact next (l.set k (gn l[k])) _ (by simp) (by simpa using hl) (nT hget _ rfl)
   ·rename_i h1 h2
    exact next l H hg hl (lK hget (by unfold gn; rw [if_neg (by omega)]))
  ·rename_i h1
   exact next l H hg hl (lK hget (by unfold gn; rw [if_neg (by omega)]))
theorem oK (s:ByteArray) (hs:s.data.size<9000000000000000000) (H:Hp):aq Tryz.prog σ ge [Sx s] H (Sx (sO s)) H:=by
 refine fw (fun K hK=>aT.run ?_) rfl rfl H
 simp only [hY,ae,BR]
 refine Fp hs _ 0 s.data.toList _ false (by simp [jZ]) (by simp) rfl (Nat.zero_le _) fun H=>?_
 simpa [sO] using hK H
theorem va {K:AV→Hp→Prop} {n id:Nat} (hn:n<9000000000000000000):∀ (d k:Nat) (l:List UInt8) (H:Hp) (ex:Bool),H.get id=some (.cells (l.map jZ) ex)→l.length=n→n - k=d→k≤n→(∀ H,K (Sx ⟨(l.take k++(l.drop k).map gn).toArray⟩) H) →
  aS.L0 σ K (.sl id 0 1 n none) (I k) H:=by
 intro d
 induction d with
 | zero =>
  intro k l H ex hg hl hd hk hK
  have e:k=n:=by omega
  subst e
  refine aS.L0_step ?_
  simp [uB hg hl.symm]
  simpa [← hl] using hK H
 | succ d ih =>
  intro k l H ex hg hl hd hk hK
  have hlt:k<n:=by omega
  have hlt':k<l.length:=by omega
  have hget:l[k]?=some l[k]:=List.getElem?_eq_getElem hlt'
  have hc:=(l[k]).toNat_lt
  refine aS.L0_step ?_
  simp [hlt,kF,hg,uz hlt',jZ]
  have next:∀ (l':List UInt8) (H':Hp),H'.get id=some (.cells (l'.map jZ) ex)→l'.length=n→l'.take (k+1)++(l'.drop (k+1)).map gn=l.take k++(l.drop k).map gn→aS.J1 σ K (.sl id 0 1 n none) (I k) H':=by
   intro l' H' hg' hl' he
   refine aS.J1_step ?_
   simp
   rw [ga (Nat.lt_trans hlt hn)]
   exact ih (k+1) l' H' ex hg' hl' (by omega) (by omega) (by rw [he]; exact hK)
  split
  ·split
   ·rename_i h1 h2
    have e2:wr .u8 ((l[k].toNat:Int)+32)=((gn l[k]).toNat:Int):=by
     rw [wr8 (by omega) (by omega)]
     unfold gn
     rw [if_pos ⟨by omega,by omega⟩]
     simp; omega
    rw [e2]
    rw [if_pos (show k+1≤l.length from hlt'),ae]
    have e4:AV.lit (.int .u8 (gn l[k]).toNat)=jZ (gn l[k]):=rfl
    rw [e4,G7 _ hlt']
    exact next (l.set k (gn l[k])) _ (by simp) (by simpa using hl) (nT hget _ rfl)
   ·rename_i h1 h2
    exact next l H hg hl (lK hget (by unfold gn; rw [if_neg (by omega)]))
  ·rename_i h1
   exact next l H hg hl (lK hget (by unfold gn; rw [if_neg (by omega)]))
theorem qg (s:ByteArray) (hs:s.data.size<9000000000000000000) (H:Hp):aq Tryz.prog σ fS [Sx s] H (Sx (sO s)) H:=by
 refine fw (fun K hK=>aS.run ?_) rfl rfl H
 simp only [hY,ae,BR]
 refine va hs _ 0 s.data.toList _ false (by simp [jZ]) (by simp) rfl (Nat.zero_le _) fun H=>?_
 simpa [sO] using hK H
end Go.Proofs.YtegioimlblnajaaGreat.Ev
namespace Go.Proofs.YtegioimlblnajaaGreat.Ev
set_option linter.unusedVariables false
set_option linter.unusedSimpArgs false
variable {σ:Sig}
theorem aq.imm0 {P:Program} {f sz:Nat} {r:AV} {H H':Hp} (h:∀ (a:Option Addr) (c:Nat),aq P σ f [.lit (.slice a 0 c)] H r H'):aq P σ f [.imm sz []] H r H':=by
 refine ⟨(h none 0).1,fun B w0 E w vs hσ hst hxs=>?_⟩
 have hl:=hxs.len
 have hv:vs[0]?=some (vs[0]'(by simp at hl; omega)):=Array.getElem?_eq_getElem _
 have hr:=hxs.at_ 0 _ _ rfl hv
 have:∃ a c,vs[0]'(by simp at hl; omega)=.slice a 0 c:=by
  generalize vs[0]'(by simp at hl; omega)=v at hr
  cases hr with
  | immE=>exact ⟨_,_,rfl⟩
  | imm val hn=>subst hn; exact ⟨_,_,rfl⟩
 obtain ⟨a,c,e⟩:=this
 refine (h a c).2 B w0 E w vs hσ hst ⟨by simpa using hl,fun i x v hx hv'=>?_⟩
 match i with
 | 0 =>
  simp at hx; subst hx
  rw [hv] at hv'
  cases hv'
  rw [e]; exact .lit _
 | i+1=>simp at hx
theorem tz (H:Hp):aq Tryz.prog σ aO [eW []] H (eW []) H:=by
 refine aq.imm0 fun a c=>?_
 cases a with
 | none =>
  have run:∃ r H1,aq Tryz.prog σ aO [.lit (.slice none 0 c)] Hp.empty r H1∧r=.lit (.slice none 0 0):=b_.run (by simp)
  obtain ⟨r,H1,hg,rfl⟩:=run
  exact hg.frzR rfl .nil H
 | some a =>
  have run:∃ r H1,aq Tryz.prog σ aO [.lit (.slice (some a) 0 c)] Hp.empty r H1∧Fz H1 r (eW []):=by
   refine b_.run ?_
   simp [cH,dg,eB,gM,iZ,ir,jW]
   exact .sl (cs:=[]) (ex:=true) (fun _ _=>.any) (by simp) rfl (by simp) (by simp) (by simp)
  obtain ⟨r,H1,hg,hf⟩:=run
  exact hg.frzR rfl hf H
theorem vW (H:Hp):aq Tryz.prog σ aY [.imm 2 []] H (.imm 2 []) H:=by
 refine aq.imm0 fun a c=>?_
 cases a with
 | none =>
  have run:∃ r H1,aq Tryz.prog σ aY [.lit (.slice none 0 c)] Hp.empty r H1∧r=.lit (.slice none 0 0):=bJ.run (by simp)
  obtain ⟨r,H1,hg,rfl⟩:=run
  exact hg.frzR rfl .nil H
 | some a =>
  have run:∃ r H1,aq Tryz.prog σ aY [.lit (.slice (some a) 0 c)] Hp.empty r H1∧Fz H1 r (.imm 2 []):=by
   refine bJ.run ?_
   simp [cH,dg,eB,gM,iZ,ir,jW]
   exact .sl (cs:=[]) (ex:=true) (fun _ _=>.any) (by simp) rfl (by simp) (by simp) (by simp)
  obtain ⟨r,H1,hg,hf⟩:=run
  exact hg.frzR rfl hf H
theorem uE {sz bytes:Nat} {z:List Value} {H:Hp} {rows:List (List AV)} (hr:rows≠[]) (h2:∀ row ∈ rows,row.length=sz) (hone:rows.flatten.all AV.one=true) (hb:rows.length*bytes≤140737488355328) (hn:rows.length≤4611686018427387904)
  {K:AV × Hp→Prop} (h:K (.sl (H.n+1) 0 sz rows.length none,(H.new (.cells [] true)).new (.cells rows.flatten false))) :
  bnd (cH z sz 0 H []) fun p=>bnd (eB false sz bytes p.2 p.1 (.imm sz rows)) K:=by
 have h0:rows.length≠0:=by cases rows<;>simp at hr ⊢
 have e:jW z 0=[]:=by simp [jW]
 simp only [cH,dg,Nat.zero_mul,e,List.length_nil,iZ,decide_true,cond_true,ae]
 simp only [eB,ir,cond_true,uZ,hone,iZ,h0,decide_false,cond_false,qY]
 simp [hb,hn,h0]
 exact h
theorem vv (l:List ByteArray) (hb:l.length*16≤140737488355328) (H:Hp):aq Tryz.prog σ aO [eW l] H (eW l) H:=by
 cases l with
 | nil=>exact tz H
 | cons s l =>
  have run:∃ r H1,aq Tryz.prog σ aO [eW (s::l)] Hp.empty r H1∧Fz H1 r (eW (s::l)):=by
   refine b_.run ?_
   simp only [eW,List.map_cons,LI,ae,aj,Bool.false_eq_true,if_false]
   refine uE (rows:=[Sx s]::l.map fun s=>[Sx s]) (K:=fun q=>Fz q.2 q.1 (.imm 1 ([Sx s]::l.map fun s=>[Sx s]))) (by simp) (fun row hrow=>?_) ?_ (by simpa using hb) (by simp at hb ⊢; omega) ?_
   ·rw [← List.map_cons (f:=fun s=>[Sx s])] at hrow
    obtain ⟨x,_,rfl⟩:=List.mem_map.1 hrow; rfl
   ·rw [← List.map_cons (f:=fun s=>[Sx s]),List.all_eq_true]
    intro x hx
    obtain ⟨row,hrow,hx⟩:=List.mem_flatten.1 hx
    obtain ⟨x,_,rfl⟩:=List.mem_map.1 hrow
    simp at hx; subst hx; rfl
   ·refine Fz.rows (cs:=([Sx s]::l.map fun s=>[Sx s]).flatten) (ex:=false) (by simp) (fun row hrow=>?_) ?_ ?_
    ·rw [← List.map_cons (f:=fun s=>[Sx s])] at hrow
     obtain ⟨x,_,rfl⟩:=List.mem_map.1 hrow; rfl
    ·rw [List.drop_zero]
     refine List.take_of_length_le ?_
     rw [cA (sz:=1)]
     ·simp
     ·intro row hrow
      rw [← List.map_cons (f:=fun s=>[Sx s])] at hrow
      obtain ⟨x,_,rfl⟩:=List.mem_map.1 hrow; rfl
    ·rw [← List.map_cons (f:=fun s=>[Sx s])]; exact bZ _ (fun _=>rfl) _
  obtain ⟨r,H1,hg,hf⟩:=run
  exact hg.frzR (by simp [bG]) hf H
def iN (p:ByteArray × ByteArray):ByteArray × ByteArray:=(sO p.1,p.2)
def cC (n:Nd):Nd:={ n with tag:=sO n.tag,attrs:=n.attrs.map iN }
structure k4 (n:Nd):Prop where
 parent:i64 n.parent
 tag:n.tag.data.size≤reachBytes
 classes:n.classes.length*16≤reachBytes
 attrs:n.attrs.length*32≤reachBytes
 names:∀ p ∈ n.attrs,p.1.data.size≤reachBytes
theorem gL:reachBytes=140737488351232:=rfl
@[simp] theorem P0 (H:Hp) (id off:Nat) (l:List ByteArray):stA 1 H (.ptr id off) (eW l)=stO 1 off [eW l] H id (H.get id):=gF 1 H id off _ rfl rfl
theorem hZ {rows:List (ByteArray × ByteArray)}:∀ row ∈ rows.map cD,row.length=2:=by
 intro row hrow
 obtain ⟨x,_,rfl⟩:=List.mem_map.1 hrow; rfl
theorem vI {rows:List (ByteArray × ByteArray)}:(rows.map cD).flatten.all AV.one=true:=by
 rw [List.all_eq_true]
 intro x hx
 obtain ⟨row,hrow,hx⟩:=List.mem_flatten.1 hx
 obtain ⟨x,_,rfl⟩:=List.mem_map.1 hrow
 simp [cD] at hx
 rcases hx with rfl | rfl<;>rfl
theorem vo (n:Nd) (hn:k4 n) {H:Hp} {K:AV→Hp→Prop}
  (h0:n.attrs=[]→∀ H',H'.n ≥ H.n→(∀ j,j<H.n→H'.get j=H.get j)→K (.agg (bD n)) H')
  (h1:n.attrs≠[]→∀ H' id,H'.n ≥ H.n→(∀ j,j<H.n→H'.get j=H.get j)→H.n≤id→id<H'.n→H'.get id=some (.cells (n.attrs.map cD).flatten false) →
   K (.agg [I n.parent,Sx n.tag,Sx n.id,eW n.classes,.sl id 0 2 n.attrs.length none]) H') :
  af Tryz.prog σ hO [.agg (bD n)] H K:=by
 have hc:=hn.classes
 have ha:=hn.attrs
 rw [gL] at hc ha
 have nlt:∀ {j:Nat},j<H.n→j≠H.n∧j≠H.n+1∧j≠H.n+2∧j≠H.n+3:=fun h=>by omega
 refine kS.run ?_
 simp [bD]
 refine bp (vv _ (by omega) _) ?_
 simp
 by_cases he:n.attrs=[]
 ·rw [he]
  refine bp (vW _) ?_
  have e:bD n=[I n.parent,Sx n.tag,Sx n.id,eW n.classes,.imm 2 []]:=by simp [bD,he]
  rw [e] at h0
  simp [dZ]
  exact h0 he _ (by simp; omega) (fun j hj=>by have:=nlt hj; simp [this])
 ·obtain ⟨p,ps,hps⟩:=List.exists_cons_of_ne_nil he
  refine bJ.run ?_
  rw [hps,List.map_cons]
  simp only [LI,ae,aj,Bool.false_eq_true,if_false]
  rw [← List.map_cons,← hps]
  refine uE (rows:=n.attrs.map cD) (by simpa using he) hZ vI (by simpa using Nat.le_trans ha (by omega)) (by simp; omega) ?_
  have q1:¬ (H.n=H.n+1+1+1):=by omega
  have q2:¬ (H.n=H.n+1+1):=by omega
  have q3:¬ (H.n+1=H.n+1+1+1):=by omega
  simp [dZ,q1,q2,q3]
  refine h1 he _ _ ?_ (fun j hj=>?_) ?_ ?_ ?_
  ·simp; omega
  ·have:=nlt hj
   have q4:j≠H.n+1+1:=by omega
   have q5:j≠H.n+1+1+1:=by omega
   simp [this,q4,q5]
  ·omega
  ·simp
  ·have q6:¬ (H.n+1+1=H.n):=by omega
   have q7:¬ (H.n+1+1+1=H.n):=by omega
   have q8:¬ (H.n+1+1+1=H.n+1):=by omega
   have q9:¬ (H.n+1+1=H.n+1):=by omega
   simp [q6,q7,q8,q9]
theorem G5 {l l0:List (ByteArray × ByteArray)} {k:Nat} (hk:k<l0.length) (hl:l.length=l0.length) (h1:l.take k=(l0.take k).map iN) (h2:l.drop k=l0.drop k) :
  ∃ hk':k<l.length,l[k]=l0[k]∧(l.set k (iN l0[k])).take (k+1)=(l0.take (k+1)).map iN∧(l.set k (iN l0[k])).drop (k+1)=l0.drop (k+1):=by
 have hk':k<l.length:=by omega
 rw [List.drop_eq_getElem_cons hk',List.drop_eq_getElem_cons hk] at h2
 have h3:=List.cons.inj h2
 refine ⟨hk',h3.1,?_,?_⟩
 ·rw [List.take_succ_eq_append_getElem (by simpa using hk'),List.take_succ_eq_append_getElem hk,List.map_append,← h1,List.take_set_of_le (by omega)]
  simp
 ·rw [List.drop_set_of_lt (by omega)]; exact h3.2
theorem J4 (n:Nd) (hn:k4 n) {K:AV→Hp→Prop} {id b1 b2:Nat} {par tg idd cl:AV} (h12:b1≠b2) (hi1:id≠b1) (hi2:id≠b2) (ho:[par,tg,idd,cl].all AV.one=true):∀ (d k:Nat) (l:List (ByteArray × ByteArray)) (H:Hp),H.get b1=some (.cells [par,tg,idd,cl,.sl id 0 2 n.attrs.length none] true)→(∃ cs,H.get b2=some (.cells cs true)∧cs.length=5) →
  H.get id=some (.cells (l.map cD).flatten false)→l.length=n.attrs.length→n.attrs.length - k=d→k≤n.attrs.length→l.take k=(n.attrs.take k).map iN→l.drop k=n.attrs.drop k →
  (∀ H',H'.get id=some (.cells ((n.attrs.map iN).map cD).flatten false)→K (.agg [par,tg,idd,cl,.sl id 0 2 n.attrs.length none]) H') →
  cv.L0 σ K (.ptr b1 0) (.ptr b2 0) (I n.attrs.length) (I k) H:=by
 have ha:=hn.attrs
 rw [gL] at ha
 intro d
 induction d with
 | zero =>
  intro k l H g1 g2 gi hl hd hk h1 h2 hK
  obtain ⟨cs,g2,hcs⟩:=g2
  have e:k=n.attrs.length:=by omega
  subst e
  have el:l=n.attrs.map iN:=by
   rw [← hl,List.take_length,hl,List.take_length] at h1
   exact h1
  refine cv.L0_step ?_
  simp [g1,g2,dZ,hcs]
  simp at ho
  simp [ho,cd,hcs,dZ]
  refine hK _ ?_
  simp [hi2,gi,el]
 | succ d ih =>
  intro k l H g1 g2 gi hl hd hk h1 h2 hK
  have hlt:k<n.attrs.length:=by omega
  obtain ⟨hlt',hlk,h3,h4⟩:=G5 hlt hl h1 h2
  have hsz:(n.attrs[k]).1.data.size<9000000000000000000:=by
   have:=hn.names _ (List.getElem_mem hlt)
   rw [gL] at this
   omega
  have hdrop:((l.map cD).flatten).drop (k*2)=cD n.attrs[k]++((l.map cD).drop (k+1)).flatten:=by
   rw [i7 hZ (by simpa using hlt'),List.getElem_map,hlk]
  refine cv.L0_step ?_
  simp [g1,hlt,kF,gi,hdrop,cD]
  refine bp (oK _ hsz _) ?_
  have hlen:k*2+1≤((l.map cD).flatten).length:=by
   rw [cA hZ,List.length_map]; omega
  simp [g1,gi]
  rw [if_pos (by simpa using hlen),ae,ga (by omega)]
  refine ih (k+1) (l.set k (iN n.attrs[k])) _ (by simp [Ne.symm hi1,g1]) ?_ ?_ (by simpa using hl) (by omega) (by omega) h3 h4 hK
  ·obtain ⟨cs,g2,hcs⟩:=g2
   exact ⟨cs,by simp [Ne.symm hi2,g2],hcs⟩
  ·simp
   have:=g_ (sz:=2) (xs:=[Sx (sO n.attrs[k].1)]) (k:=0) (by simp) (rows:=l.map cD) (w:=k) hZ (by simpa using hlt')
   rw [Nat.add_zero] at this
   rw [this]
   congr 3
   simp [cD,iN,hlk]
theorem JM (n:Nd) (hn:k4 n) (H:Hp):aq Tryz.prog σ ff [.agg (bD n)] H (.agg (bD (cC n))) H:=by
 have ht:n.tag.data.size<9000000000000000000:=by
  have:=hn.tag
  rw [gL] at this; omega
 obtain ⟨Q,hQ⟩:∃ Q:AV→Hp→Prop,∀ r H1,Q r H1 ↔ Fz H1 r (.agg (bD (cC n))):=⟨_,fun _ _=>Iff.rfl⟩
 have run:∃ r H1,aq Tryz.prog σ ff [.agg (bD n)] Hp.empty r H1∧Q r H1:=by
  refine cv.run ?_
  simp
  refine vo n hn (fun he H' hn' hs=>?_) (fun he H' id hn' hs hid hid' hg=>?_)
  ·have e0:H'.get Hp.empty.n=some (.cells (bD n) true):=by rw [hs _ (by simp; omega)]; simp
   have e1:H'.get (Hp.empty.n+1)=some (.cells [I 0,Sx ⟨#[]⟩,Sx ⟨#[]⟩,.lit (.slice none 0 0),.lit (.slice none 0 0)] true):=by rw [hs _ (by simp)]; simp
   generalize Hp.empty.n=z at e0 e1 ⊢
   simp [e0,e1,bD,he,cd]
   refine bp (oK _ ht _) ?_
   simp [e0,e1,cd]
   refine cv.L0_step ?_
   simp [e0,e1,dZ,cd]
   rw [hQ]
   have e2:bD (cC n)=[I n.parent,Sx (sO n.tag),Sx n.id,eW n.classes,.imm 2 []]:=by simp [cC,bD,he]
   rw [e2]
   exact .refl (by simp [bG,cX,dX])
  ·have e0:H'.get Hp.empty.n=some (.cells (bD n) true):=by rw [hs _ (by simp; omega)]; simp
   have e1:H'.get (Hp.empty.n+1)=some (.cells [I 0,Sx ⟨#[]⟩,Sx ⟨#[]⟩,.lit (.slice none 0 0),.lit (.slice none 0 0)] true):=by rw [hs _ (by simp)]; simp
   have hid:Hp.empty.n+2≤id:=by simpa using hid
   generalize Hp.empty.n=z at e0 e1 hid ⊢
   have d1:id≠z:=by omega
   have d2:id≠z+1:=by omega
   simp [e0,e1,bD,cd]
   refine bp (oK _ ht _) ?_
   simp [e0,e1,cd]
   refine J4 n hn (id:=id) (by omega) d1 d2 ?_ _ 0 n.attrs _ (by rw [cb,if_pos rfl]) ⟨_,by simp [e1]; rfl,rfl⟩ (by simp [d1,hg]) rfl rfl (Nat.zero_le _) (by simp) rfl fun H2 h2=>?_
   ·simp
   rw [hQ]
   refine .aggL (.cons (.refl rfl) (.cons (.refl rfl) (.cons (.refl rfl) (.cons (.refl (ky _)) (.cons ?_ .nil)))))
   have:=Fz.rows (cap:=none) h2 (rows:=(n.attrs.map iN).map cD) (off:=0) hZ (by rw [List.drop_zero]; exact List.take_of_length_le (by rw [cA hZ]; exact Nat.le_refl _)) (bZ _ (fun _=>rfl) _)
   simpa [cC] using this
 obtain ⟨r,H1,hg,hf⟩:=run
 rw [hQ] at hf
 exact hg.frzR (by simp [bG,cX,lY]) hf H
end Go.Proofs.YtegioimlblnajaaGreat.Ev
namespace Go.Proofs.YtegioimlblnajaaGreat.Ev
set_option linter.unusedVariables false
set_option linter.unusedSimpArgs false
variable {σ:Sig}
theorem kN {α β:Type} {f:α→β} {l:List α} {k:Nat} (h:k<l.length):(l.take (k+1)).map f=(l.take k).map f++[f l[k]]:=by
 rw [List.take_succ_eq_append_getElem h,List.map_append]; rfl
theorem Jh (n:Nd) (hn:k4 n) {K:AV→Hp→Prop} {b1 b2:Nat} {par tg idd cl:AV} {cr:List (List AV)} (h12:b1≠b2) (ho:[par,tg,idd].all AV.one=true) (ho1:AV.one cl=true):∀ (d k:Nat) (y:AV) (H:Hp),b1<H.n→b2<H.n→H.get b1=some (.cells [par,tg,idd,cl,.imm 2 (n.attrs.map cD)] true)→(∃ cs,H.get b2=some (.cells cs true)∧cs.length=5) →
  Gs 1 H cl cr→Gs 2 H y ((n.attrs.take k).map fun p=>cD (iN p))→¬ own cl b1→¬ own cl b2→¬ own y b1→¬ own y b2→(∀ j,own cl j→¬ own y j)→n.attrs.length - k=d→k≤n.attrs.length →
  (∀ y' H',Gs 1 H' cl cr→Gs 2 H' y' (n.attrs.map fun p=>cD (iN p))→K (.agg [par,tg,idd,cl,y']) H') →
  ck.L0 σ K (.ptr b1 0) (.ptr b2 0) y (I k) H:=by
 have ha:=hn.attrs
 rw [gL] at ha
 intro d
 induction d with
 | zero =>
  intro k y H l1 l2 g1 g2 gc gy c1 c2 y1 y2 hd' hd hk hK
  obtain ⟨cs,g2,hcs⟩:=g2
  have e:k=n.attrs.length:=by omega
  subst e
  rw [List.take_length] at gy
  refine ck.L0_step ?_
  simp at ho
  have o5:=gy.one
  simp [g1,gy.st (id:=b1) (off:=4) g1 (by simp),dZ,g2,hcs,Ne.symm h12,ho,ho1,o5,cd]
  refine hK _ _ (gc.keep (fun j hj=>?_) (by simp)) (gy.keep (fun j hj=>?_) (by simp))
  ·have:j≠b1:=fun e=>c1 (e ▸ hj)
   have:j≠b2:=fun e=>c2 (e ▸ hj)
   simp [*]
  ·have:j≠b1:=fun e=>y1 (e ▸ hj)
   have:j≠b2:=fun e=>y2 (e ▸ hj)
   simp [*]
 | succ d ih =>
  intro k y H l1 l2 g1 g2 gc gy c1 c2 y1 y2 hd' hd hk hK
  have hlt:k<n.attrs.length:=by omega
  have hget:n.attrs[k]?=some n.attrs[k]:=List.getElem?_eq_getElem hlt
  have hsz:(n.attrs[k]).1.data.size<9000000000000000000:=by
   have:=hn.names _ (List.getElem_mem hlt)
   rw [gL] at this
   omega
  refine ck.L0_step ?_
  simp [g1,hlt,eU hget,cD]
  refine bp (qg _ hsz _) ?_
  simp [g1,eU hget,cD,dg,iZ,qY]
  refine j7 gy rfl rfl rfl (by simp; omega) (by simp; omega) fun y' H' gy' f=>?_
  have n1:∀ {j:Nat},j<H.n→¬ own y j→¬ own y' j:=fun hj hy h=>by
   rcases f.mine _ h with h | h
   ·exact hy h
   ·omega
  rw [ga (by omega)]
  refine ih (k+1) y' H' (Nat.lt_of_lt_of_le l1 f.grow) (Nat.lt_of_lt_of_le l2 f.grow) (by rw [f.same _ l1 y1]; exact g1) ?_ (gc.keep (fun j hj=>f.same j (gc.lt hj) (hd' j hj)) f.grow) ?_ c1 c2 (n1 l1 y1) (n1 l2 y2) (fun j hj=>n1 (gc.lt hj) (hd' j hj)) (by omega) (by omega) hK
  ·obtain ⟨cs,g2,hcs⟩:=g2
   exact ⟨cs,by rw [f.same _ l2 y2]; exact g2,hcs⟩
  ·rw [kN hlt]
   exact gy'
theorem Kf (n:Nd) (hn:k4 n) (H:Hp):aq Tryz.prog σ eD [.agg (bD n)] H (.agg (bD (cC n))) H:=by
 have ht:n.tag.data.size<9000000000000000000:=by
  have:=hn.tag
  rw [gL] at this; omega
 have hc:=hn.classes
 rw [gL] at hc
 obtain ⟨Q,hQ⟩:∃ Q:AV→Hp→Prop,∀ r H1,Q r H1 ↔ Fz H1 r (.agg (bD (cC n))):=⟨_,fun _ _=>Iff.rfl⟩
 have run:∃ r H1,aq Tryz.prog σ eD [.agg (bD n)] Hp.empty r H1∧Q r H1:=by
  refine ck.run ?_
  simp [bD]
  refine bp (qg _ ht _) ?_
  simp
  refine qL (rows2:=n.classes.map fun s=>[Sx s]) .nil rfl uZ (fun row hrow=>?_) ?_ (by simp; omega) (by simp; omega) fun cl H2 gc f=>?_
  ·obtain ⟨x,_,rfl⟩:=List.mem_map.1 hrow; rfl
  ·rw [List.all_eq_true]
   intro x hx
   obtain ⟨row,hrow,hx⟩:=List.mem_flatten.1 hx
   obtain ⟨x,_,rfl⟩:=List.mem_map.1 hrow
   simp at hx; subst hx; rfl
  ·have f0:=f.same Hp.empty.n (by simp; omega) (fun h=>h)
   have f1:=f.same (Hp.empty.n+1) (by simp) (fun h=>h)
   have fm:=f.mine
   have fg:=f.grow
   simp at f0 f1 fg
   have c1:¬ own cl Hp.empty.n:=fun h=>by
    rcases fm _ h with h | h
    ·exact h
    ·have h:=h.1; simp at h; omega
   have c2:¬ own cl (Hp.empty.n+1):=fun h=>by
    rcases fm _ h with h | h
    ·exact h
    ·have h:=h.1; simp at h; omega
   clear fm f
   generalize Hp.empty.n=z at f0 f1 fg c1 c2 ⊢
   simp at gc
   simp [f0,gc.st (id:=z) (off:=3) f0 (by simp)]
   refine Jh n hn (by omega) ?_ gc.one _ 0 _ _ (by simp; omega) (by simp; omega) (by rw [cb,if_pos rfl]) ⟨_,by simp [f1]; rfl,rfl⟩ (gc.keep (fun j hj=>?_) (by simp)) .nil c1 c2 (fun h=>h) (fun h=>h) (fun j _ h=>h) rfl (Nat.zero_le _) fun y' H' g1 g2=>?_
   ·simp
   ·have:j≠z:=fun e=>c1 (e ▸ hj)
    simp [this]
   ·rw [hQ]
    refine .aggL (.cons (.refl rfl) (.cons (.refl rfl) (.cons (.refl rfl) (.cons ?_ (.cons ?_ .nil)))))
    ·exact g1.fz (bZ _ (fun _=>rfl) _)
    ·have:=g2.fz (bZ _ (fun _=>rfl) _)
     rw [show (cC n).attrs.map cD=n.attrs.map fun p=>cD (iN p) by simp [cC,Function.comp_def]]
     exact this
 obtain ⟨r,H1,hg,hf⟩:=run
 rw [hQ] at hf
 exact hg.frzR (by simp [bG,cX,lY]) hf H
end Go.Proofs.YtegioimlblnajaaGreat.Ev
namespace Go.Proofs.YtegioimlblnajaaGreat.Ev
set_option linter.unusedVariables false
set_option linter.unusedSimpArgs false
variable {σ:Sig}
theorem pT {z:List Value} {sz bytes:Nat} {H:Hp} {x y:AV} {rows:List (List AV)} {C:AV × Hp→Prop} (hC:C (.sl H.n 0 sz 1 (some 1),H.new (.cells y.cells true))) (hx:Gs sz H x rows) (hl:y.cells.length=sz) (ha:y.isAny=false) (hone:y.cells.all AV.one=true)
  (hb:(rows.length+1)*bytes≤140737488355328) (hn:rows.length+1≤4611686018427387904) {K:AV × Hp→Prop} (h:∀ x' H',Gs sz H' x' (rows++[y.cells])→Fr H x H' x'→K (x',H')) :
  bnd (cH z sz 1 H [(0,sz,y)]) fun p=>C p∧bnd (eB false sz bytes p.2 x p.1) K:=by
 have:=j7 (z:=z) hx hl ha hone hb hn h
 rw [ku hl ha,ae] at this ⊢
 exact ⟨hC,this⟩
structure jK (L:List Nd) (d:List Nat) (H:Hp) (t m:Nat) (sl:AV) (ch:List AV):Prop where
 tlt:t<H.n
 tg:H.get t=some (.cells [sl] true)
 len:ch.length=m
 rows:Gs 9 H sl (de L d ch cC)
 kid:∀ (i:Nat) (c:AV),ch[i]?=some c→Gs 1 H c ((ic L m i).map fun j:Nat=>[I j])
 nt:¬ own sl t
 nk:∀ (i:Nat) (c:AV),ch[i]?=some c→¬ own c t
 ns:∀ (i:Nat) (c:AV),ch[i]?=some c→∀ j,own c j→¬ own sl j
 nd:∀ (i i':Nat) (c c':AV),i≠i'→ch[i]?=some c→ch[i']?=some c'→∀ j,own c j→¬ own c' j
theorem LL {L:List Nd} {d:List Nat} {N:Nat} (hB:c6 L N d) {m:Nat} (hm:m<N) (hN:N≤4096) {H:Hp} {t x7:Nat} {sl:AV} {ch:List AV} {y6 y7:AV}
  (tlt:t<H.n) (tg:H.get t=some (.cells [sl] true)) (len:ch.length=m) (rows:Gs 9 H sl (de L d ch cC)) (kid:∀ (i:Nat) (c:AV),ch[i]?=some c→Gs 1 H c ((ic L (m+1) i).map fun j:Nat=>[I j]))
  (nt:¬ own sl t) (nk:∀ (i:Nat) (c:AV),ch[i]?=some c→¬ own c t) (ns:∀ (i:Nat) (c:AV),ch[i]?=some c→∀ j,own c j→¬ own sl j)
  (nd:∀ (i i':Nat) (c c':AV),i≠i'→ch[i]?=some c→ch[i']?=some c'→∀ j,own c j→¬ own c' j)
  (hx7:H.get x7=some (.cells (gS L d m (.lit (.slice none 0 0)) cC) true)) {K:AV→Hp→Prop} (h:∀ H' sl' ch',jK L d H' t (m+1) sl' ch'→K (I 0) H'):aE.J1 σ K (.ptr t 0) (.ptr x7 0) y6 y7 H:=by
 refine aE.J1_step ?_
 simp [tg,hx7]
 simp only [dZ (EQ L d m (.lit (.slice none 0 0)) cC),ae]
 have ht':t≠H.n:=by omega
 refine pT (y:=.agg (gS L d m (.lit (.slice none 0 0)) cC)) (bytes:=136) (by simp [ht',tg]) rows rfl rfl (by simp [gS,bD]) (by rw [d7]; omega) (by rw [d7]; omega) fun sl' H' g f=>?_
 have e1:H'.get t=some (.cells [sl] true):=by rw [f.same t tlt nt]; exact tg
 have sown:∀ j,own sl' j→own sl j∨(H.n≤j∧j<H'.n):=f.mine
 have nt':¬ own sl' t:=fun h=>by
  rcases sown t h with h | h
  ·exact nt h
  ·omega
 have kl:∀ (i:Nat) (c:AV),ch[i]?=some c→∀ j,own c j→j<H.n:=fun i c hc j hj=>(kid i c hc).lt hj
 simp [g.st (id:=t) (off:=0) e1 (by simp)]
 have cnew:∀ {i:Nat} {c:AV},(ch++[AV.lit (.slice none 0 0)])[i]?=some c→ch[i]?=some c∨(i=m∧c=.lit (.slice none 0 0)):=by
  intro i c hc
  by_cases hi:i<ch.length
  ·rw [List.getElem?_append_left hi] at hc; exact .inl hc
  ·rw [List.getElem?_append_right (by omega)] at hc
   have hl:=(List.getElem?_eq_some_iff.1 hc).1
   simp at hl
   have:i=m:=by omega
   subst this
   simp [len] at hc
   exact .inr ⟨rfl,hc.symm⟩
 refine h _ sl' (ch++[.lit (.slice none 0 0)]) ⟨?_,?_,?_,?_,?_,nt',?_,?_,?_⟩
 ·simp; have:=f.grow; omega
 ·simp
 ·simp [len]
 ·rw [vL,len]
  refine g.keep (fun j hj=>?_) (by simp)
  have:j≠t:=fun e=>nt' (e ▸ hj)
  simp [this]
 ·intro i c hc
  rcases cnew hc with hc | ⟨rfl,rfl⟩
  ·refine (kid i c hc).keep (fun j hj=>?_) (by simp; exact f.grow)
   have:j≠t:=fun e=>nk i c hc (e ▸ hj)
   simp [this]
   exact f.same j (kl i c hc j hj) (ns i c hc j hj)
  ·rw [I5 hB (by omega) (Nat.le_refl _)]
   exact .nil
 ·intro i c hc
  rcases cnew hc with hc | ⟨rfl,rfl⟩
  ·exact nk i c hc
  ·exact fun h=>h
 ·intro i c hc j hj h
  rcases cnew hc with hc | ⟨rfl,rfl⟩
  ·rcases sown j h with h | h
   ·exact ns i c hc j hj h
   ·have:=kl i c hc j hj; omega
  ·exact hj
 ·intro i i' c c' hne hc hc' j hj hj'
  rcases cnew hc with hc | ⟨rfl,rfl⟩
  ·rcases cnew hc' with hc' | ⟨rfl,rfl⟩
   ·exact nd i i' c c' hne hc hc' j hj hj'
   ·exact hj'
  ·exact hj
theorem LP {L:List Nd} {d:List Nat} {N:Nat} (hB:c6 L N d) {m p:Nat} (hm:m<N) (hN:N≤4096) (hm0:0<m) (hp:par L m=p) (hpm:p<m) {H:Hp} {t x7 id:Nat} {ch:List AV}
  (hT:jK L d H t m (.sl id 0 9 m none) ch) (hx7:H.get x7=some (.cells (gS L d m (.lit (.slice none 0 0)) cC) true)) (hn7:x7<H.n) (h7t:x7≠t) (h7s:x7≠id) (h7c:∀ (i:Nat) (c:AV),ch[i]?=some c→¬ own c x7)
  {K:AV→Hp→Prop} (h:∀ H' sl' ch',jK L d H' t (m+1) sl' ch'→K (I 0) H'):aE.J0 σ K (.ptr t 0) (.ptr x7 0) (I m) (.ptr id (p*9)) H:=by
 have hl:=hT.len
 obtain ⟨c,hc⟩:=k_ (l:=ch) (k:=p) (by omega)
 have hg:∃ ex,H.get id=some (.cells (de L d ch cC).flatten ex)∧id<H.n:=by
  have:=hT.rows
  have hlen:=d7 L d ch cC
  generalize de L d ch cC=rr at this hlen
  cases this with
  | sl hlt hg hsz=>exact ⟨_,hg,hlt⟩
 obtain ⟨ex,hg,hidn⟩:=hg
 obtain ⟨r5,h5⟩:=j4 (L:=L) (d:=d) (low:=cC) hc 5 (by omega)
 have hgc:=hT.kid p c hc
 have hlast:ic L (m+1) p=ic L m p++[m]:=by rw [mV,if_pos ⟨hm0,hp⟩]
 have hkl:(ic L m p).length≤m:=by
  have:=List.length_filter_le (fun j:Nat=>decide (0<j)&&decide (par L j=(p:Int))) (List.range m)
  simp at this
  unfold ic
  omega
 refine aE.J0_step ?_
 simp [hg,h5,gS,bD]
 refine j7 hgc rfl rfl rfl (by simp; omega) (by simp; omega) fun c' H' g f=>?_
 have cid:¬ own c id:=fun h=>(hT.ns p c hc id h) rfl
 have e1:H'.get id=some (.cells (de L d ch cC).flatten ex):=by rw [f.same id hidn cid]; exact hg
 have hlen:p*9+5<(de L d ch cC).flatten.length:=by
  rw [cA mh,d7]; omega
 simp [g.st (id:=id) (off:=p*9+5) e1 hlen]
 have hput:=v8 (L:=L) (d:=d) (low:=cC) (c':=c') hc
 rw [jw hlen] at hput
 rw [hput]
 have kl:∀ (i:Nat) (c:AV),ch[i]?=some c→∀ j,own c j→j<H.n:=fun i c hc j hj=>(hT.kid i c hc).lt hj
 have cown:∀ j,own c' j→own c j∨(H.n≤j∧j<H'.n):=f.mine
 have cset:∀ {i:Nat} {x:AV},(ch.set p c')[i]?=some x→(i≠p∧ch[i]?=some x)∨(i=p∧x=c'):=by
  intro i x hx
  rw [List.getElem?_set] at hx
  split at hx
  ·rename_i he
   split at hx
   ·cases hx; exact .inr ⟨he.symm,rfl⟩
   ·cases hx
  ·rename_i he; exact .inl ⟨fun e=>he e.symm,hx⟩
 have cid':¬ own c' id:=fun h=>by
  rcases cown id h with h | h
  ·exact cid h
  ·omega
 have ct':¬ own c' t:=fun h=>by
  rcases cown t h with h | h
  ·exact hT.nk p c hc h
  ·have:=hT.tlt; omega
 have idt:id≠t:=fun e=>hT.nt e
 refine LL hB hm hN (sl:=.sl id 0 9 m none) (ch:=ch.set p c') ?_ ?_ (by simpa using hl) ?_ ?_ hT.nt ?_ ?_ ?_ ?_ h
 ·simp; have:=f.grow; have:=hT.tlt; omega
 ·simp [Ne.symm idt]
  rw [f.same t hT.tlt (hT.nk p c hc)]; exact hT.tg
 ·have:m=(de L d (ch.set p c') cC).length:=by rw [d7]; simpa using hl.symm
  conv=>arg 3; rw [this]
  exact .sl (ex:=ex) (by simp; have:=f.grow; omega) (by simp) mh
 ·intro i x hx
  rcases cset hx with ⟨hne,hx⟩ | ⟨rfl,rfl⟩
  ·rw [mV,if_neg (fun h=>hne (by have:=h.2; rw [hp] at this; omega)),List.append_nil]
   refine (hT.kid i x hx).keep (fun j hj=>?_) (by simp; exact f.grow)
   have:j≠id:=fun e=>hT.ns i x hx j hj e.symm
   simp [this]
   exact f.same j (kl i x hx j hj) (hT.nd i p x c hne hx hc j hj)
  ·rw [hlast,List.map_append]
   refine Gs.keep (H:=H') g (fun j hj=>?_) (by simp)
   have:j≠id:=fun e=>cid' (e ▸ hj)
   simp [this]
 ·intro i x hx
  rcases cset hx with ⟨hne,hx⟩ | ⟨rfl,rfl⟩
  ·exact hT.nk i x hx
  ·exact ct'
 ·intro i x hx j hj h
  rcases cset hx with ⟨hne,hx⟩ | ⟨rfl,rfl⟩
  ·exact hT.ns i x hx j hj h
  ·exact cid' (by have h:id=j:=h; rw [h]; exact hj)
 ·intro i i' x x' hne hx hx' j hj hj'
  rcases cset hx with ⟨h1,hx⟩ | ⟨rfl,rfl⟩
  ·rcases cset hx' with ⟨h2,hx'⟩ | ⟨rfl,rfl⟩
   ·exact hT.nd i i' x x' hne hx hx' j hj hj'
   ·rename_i h3
    rcases cown j hj' with h | h
    ·exact hT.nd i i' x c hne h3 hc j hj h
    ·have:=kl i x h3 j hj; omega
  ·rcases cset hx' with ⟨h2,hx'⟩ | ⟨h3,rfl⟩
   ·rcases cown j hj with h | h
    ·exact hT.nd i i' c x' hne hc hx' j h hj'
    ·have:=kl i' x' hx' j hj'; omega
   ·exact hne h3.symm
 ·simp [h7s]
  rw [f.same x7 hn7 (h7c p c hc)]; exact hx7
theorem jK.new {L:List Nd} {d:List Nat} {H:Hp} {t m:Nat} {sl:AV} {ch:List AV} (h:jK L d H t m sl ch) {H':Hp} (hs:∀ j,j<H.n→H'.get j=H.get j) (hn:H.n≤H'.n):jK L d H' t m sl ch :=
 ⟨Nat.lt_of_lt_of_le h.tlt hn,by rw [hs t h.tlt]; exact h.tg,h.len,h.rows.keep (fun j hj=>hs j (h.rows.lt hj)) hn,fun i c hc=>(h.kid i c hc).keep (fun j hj=>hs j ((h.kid i c hc).lt hj)) hn,h.nt,h.nk,h.ns,h.nd⟩
theorem vK {L:List Nd} {m p:Nat} (hp:par L m=p) {j:Nat} {l:List Nat} (e:ic L m p=l++[j]):mU L m=j∧dL L m=(l.length:Int)+1+1:=by
 rw [pQ hp] at e
 unfold mU dL uG
 rw [e]
 simp
theorem Mn {L : List Nd} {d : List Nat} {N : Nat} (hB : c6 L N d) (hW : ∀ n ∈ L, k4 n) {m : Nat} (hm : m < N) (hN : N ≤ 4096) {H : Hp} {t : Nat} {sl : AV} {ch : List AV} (hT : jK L d H t m sl ch)
    {K:AV→Hp→Prop} (h:∀ H' sl' ch',jK L d H' t (m+1) sl' ch'→K (I 0) H'):af Tryz.prog σ fU [.ptr t 0,.agg (bD (dI L m))] H K:=by
  have hmL:m<L.length:=Nat.lt_of_lt_of_le hm hB.le
  have hnd:dI L m ∈ L:=by
    unfold dI
    rw [List.getD_eq_getElem?_getD,List.getElem?_eq_getElem hmL]
    exact List.getElem_mem hmL
  have hlow:=JM (σ:=σ) _ (hW _ hnd)
  have htn:=hT.tlt
  have t1:t≠H.n:=by omega
  have t2:t≠H.n+1:=by omega
  have hlen:=hT.rows.len
  rw [d7,hT.len] at hlen
  refine aE.run ?_
  simp
  refine bp (hlow _) ?_
  have eb:∀ c:AV,dg [I 0,Sx ⟨#[]⟩,Sx ⟨#[]⟩,.lit (.slice none 0 0),.lit (.slice none 0 0),.lit (.slice none 0 0),I 0,I 0,I 0] [(0,5,.agg (bD (cC (dI L m)))),(7,1,I 1),(8,1,I (-1))]=some (bD (cC (dI L m))++[.lit (.slice none 0 0),I 0,I 1,I (-1)]):=by
    intro c
    simp [dg,iZ,qY,bD,aD]
  rw [eb .any]
  have hnew:∀ (a b:Blk),jK L d ((H.new a).new b) t m sl ch:=fun a b=>hT.new (fun j hj=>by
    have:j≠H.n:=by omega
    have:j≠H.n+1:=by omega
    simp [*]) (by simp; omega)
  by_cases h0:m=0
  · subst h0
    have hr:=hB.root (by omega)
    have hpar:(dI L 0).parent=-1:=hr.1
    simp [t1,t2,hT.tg,hlen,bD,hpar,cd]
    have hT2 := hT.new (H' := ((H.new (.cells [I (-1), Sx (dI L 0).tag, Sx (dI L 0).id, eW (dI L 0).classes, .imm 2 (List.map cD (dI L 0).attrs)] true)).new
          (.cells [I 0,Sx ⟨#[]⟩,Sx ⟨#[]⟩,.lit (.slice none 0 0),.lit (.slice none 0 0),.lit (.slice none 0 0),I 0,I 0,I 0] true)).set (H.n+1)
      (some (.cells (bD (cC (dI L 0))++[.lit (.slice none 0 0),I 0,I 1,I (-1)]) true))) (fun j hj=>by
        have a1:j≠H.n:=by omega
        have a2:j≠H.n+1:=by omega
        simp [a1,a2]) (by simp; omega)
    have hd0:d.getD 0 0=0:=by rw [List.getD_eq_getElem?_getD,hr.2]; rfl
    refine LL hB hm hN hT2.tlt hT2.tg hT2.len hT2.rows (fun i c hc=>?_) hT2.nt hT2.nk hT2.ns hT2.nd ?_ h
    · rw [mV,if_neg (by omega),List.append_nil]; exact hT2.kid i c hc
    · unfold gS
      rw [hd0]
      simp [dL,vN,mU,uG]
  · obtain ⟨p,x,hp,hpm,hx,hdx,h256⟩:=hB.step m (by omega) hm
    have hpar:(dI L m).parent=p:=hp
    have hm0:¬ ((m:Int)=0):=by omega
    have hm1:(0:Int)<m:=by omega
    have hp1:¬ ((p:Int)<0):=by omega
    have hp2:¬ ((m:Int)≤p):=by omega
    have hmn:¬ (m=0):=h0
    have hmp:0<m:=by omega
    obtain ⟨id,ex,rfl,hg,hidn⟩:∃ id ex,sl=.sl id 0 9 m none∧H.get id=some (.cells (de L d ch cC).flatten ex)∧id<H.n:=by
      have:=hT.rows
      have hl:=d7 L d ch cC
      rw [hT.len] at hl
      generalize de L d ch cC=rr at this hl
      cases this with
      | nil=>simp at hl; omega
      | sl hlt hg hsz=>exact ⟨_,_,by rw [hl],hg,hlt⟩
    obtain ⟨c,hc⟩:=k_ (l:=ch) (k:=p) (by rw [hT.len]; exact hpm)
    obtain ⟨r5,h5⟩:=j4 (L:=L) (d:=d) (low:=cC) hc 5 (by omega)
    obtain ⟨r6,h6⟩:=j4 (L:=L) (d:=d) (low:=cC) hc 6 (by omega)
    have hdp:d.getD p 0=x:=by rw [List.getD_eq_getElem?_getD,hx]; rfl
    have hdm:d.getD m 0=x+1:=by rw [List.getD_eq_getElem?_getD,hdx]; rfl
    simp only [gS,hdp] at h5 h6
    have i1:id≠H.n:=by omega
    have i2:id≠H.n+1:=by omega
    have hpi:(p:Int)<m:=by omega
    have e256:¬ ((256:Int)<(x:Int)+1):=by omega
    simp [t1,t2,hT.tg,hlen,bD,hpar,cd,hm0,hm1,hp1,hp2,hmn,hmp,kF,hpi,i1,i2,hg,h5,h6]
    have ew:wr .i64 ((x:Int)+1)=((x+1:Nat):Int):=by rw [fe (by omega) (by omega)]; rfl
    have e256':¬ ((256:Int)<((x+1:Nat):Int)):=by omega
    rw [ew,if_neg e256']
    have hG : ∃ G : Hp, G = ((((H.new (.cells [I p, Sx (dI L m).tag, Sx (dI L m).id, eW (dI L m).classes, .imm 2 (List.map cD (dI L m).attrs)] true)).new
        (.cells [I 0,Sx ⟨#[]⟩,Sx ⟨#[]⟩,.lit (.slice none 0 0),.lit (.slice none 0 0),.lit (.slice none 0 0),I 0,I 0,I 0] true)).set (H.n+1)
        (some (.cells [I (cC (dI L m)).parent,Sx (cC (dI L m)).tag,Sx (cC (dI L m)).id,eW (cC (dI L m)).classes,.imm 2 (List.map cD (cC (dI L m)).attrs),.lit (.slice none 0 0),I 0,I 1,I (-1)] true))).set (H.n+1)
        (some (.cells [I (cC (dI L m)).parent,Sx (cC (dI L m)).tag,Sx (cC (dI L m)).id,eW (cC (dI L m)).classes,.imm 2 (List.map cD (cC (dI L m)).attrs),.lit (.slice none 0 0),I ((x+1:Nat):Int),I 1,I (-1)] true))):=⟨_,rfl⟩
    obtain ⟨G,eG⟩:=hG
    rw [← eG]
    have G1:∀ j,j<H.n→G.get j=H.get j:=fun j hj=>by
      have a1:j≠H.n:=by omega
      have a2:j≠H.n+1:=by omega
      rw [eG]; simp [a1,a2]
    have G2:G.get (H.n+1)=some (.cells [I (cC (dI L m)).parent,Sx (cC (dI L m)).tag,Sx (cC (dI L m)).id,eW (cC (dI L m)).classes,.imm 2 (List.map cD (cC (dI L m)).attrs),.lit (.slice none 0 0),I ((x+1:Nat):Int),I 1,I (-1)] true):=by rw [eG]; simp
    have G3:G.n=H.n+2:=by rw [eG]; rfl
    clear eG
    have hTG:=hT.new (H':=G) G1 (by omega)
    have hgG:G.get id=some (.cells (de L d ch cC).flatten ex):=by rw [G1 id hidn]; exact hg
    have hgc:=hTG.kid p c hc
    have hkl:=hgc.len
    rw [List.length_map] at hkl
    have own7:∀ (i:Nat) (c:AV),ch[i]?=some c→¬ own c (H.n+1):=fun i c hc hj=>by
      have:=(hT.kid i c hc).lt hj; omega
    have hpl:(ic L m p).length≤m:=by
      have:=List.length_filter_le (fun j:Nat=>decide (0<j)&&decide (par L j=(p:Int))) (List.range m)
      simp at this
      unfold ic
      omega
    rcases List.eq_nil_or_concat (ic L m p) with hk | ⟨l,j,hk⟩
    · rw [hk] at hkl
      simp [hkl]
      have hs:vN L m=[]:=by rw [← pQ hp]; exact hk
      refine LP hB hm hN hmp hp hpm hTG ?_ (by omega) (by omega) (by omega) own7 h
      rw [G2]
      unfold gS
      rw [hdm]
      simp [dL,mU,uG,hs,bD]
    · rw [List.concat_eq_append] at hk
      rw [hk,List.length_append,List.length_singleton] at hkl
      have hll:l.length+1≤m:=by rw [hk] at hpl; simpa using hpl
      obtain ⟨cid,cex,rfl,hcg⟩:∃ cid cex,c=.sl cid 0 1 (l.length+1) none∧G.get cid=some (.cells (((l++[j]).map fun j:Nat=>[I j]).flatten) cex):=by
        rw [hk] at hgc
        generalize hr:((l++[j]).map fun j:Nat=>[I (j:Int)])=rr at hgc
        have hrl:rr.length=l.length+1:=by rw [← hr]; simp
        cases hgc with
        | nil=>simp at hrl
        | sl hlt hg hsz=>exact ⟨_,_,by rw [hrl],hg⟩
      have hd:((l.map fun j:Nat=>[I (j:Int)]).flatten++[I (j:Int)]).drop l.length=[I (j:Int)]:=by
        have:(l.map fun j:Nat=>[I (j:Int)]).flatten.length=l.length:=by
          rw [cA (sz:=1) (fun row hrow=>by obtain ⟨x,_,rfl⟩:=List.mem_map.1 hrow; rfl)]; simp
        rw [List.drop_append_of_le_length (by omega),List.drop_of_length_le (by omega)]
        rfl
      have e1:wr .i64 (((l.length+1:Nat):Int)+1)=(l.length:Int)+1+1:=by rw [fe (by omega) (by omega)]; omega
      have e2:wr .i64 (((l.length+1:Nat):Int) - 1)=(l.length:Int):=by rw [fe (by omega) (by omega)]; omega
      have e3:(0:Int)<((l.length+1:Nat):Int):=by omega
      have e4:(l.length:Int)<((l.length+1:Nat):Int):=by omega
      simp only [hkl,ae,jf,aj,e3,decide_true,if_true,gp,oC,e1,e2]
      rw [kF (by omega) e4]
      have cid7:cid≠H.n+1:=fun e=>own7 p _ hc e
      have id7:id≠H.n+1:=i2
      have hs:=vK hp hk
      simp [hcg,hd,G2,cid7,hgG,h5,bD,id7]
      refine LP hB hm hN hmp hp hpm (hT.new (fun j hj=>?_) ?_) ?_ ?_ (by omega) (by omega) own7 h
      · have a2:j≠H.n+1:=by omega
        simp [a2,G1 j hj]
      · simp; omega
      · simp [gS,bD]
        rw [← List.getD_eq_getElem?_getD,hdm,hs.1,hs.2]
        simp
      · simp; omega
theorem vO {L:List Nd} {d:List Nat} (hB:c6 L L.length d) (hW:∀ n ∈ L,k4 n) (hN:L.length≤4096) {t:Nat} {K:AV→Hp→Prop} (h:∀ H sl ch,jK L d H t L.length sl ch→K (.tup [.ptr t 0,I 0]) H) :
  ∀ (k m:Nat) (H:Hp) (sl:AV) (ch:List AV),L.length - m=k→m≤L.length→jK L d H t m sl ch→eO.L0 σ K (.ptr t 0) (nds L) (I L.length) (I m) H:=by
 intro k
 induction k with
 | zero =>
  intro m H sl ch hk hm hT
  have:m=L.length:=by omega
  subst this
  refine eO.L0_step ?_
  simp
  exact h H sl ch hT
 | succ k ih =>
  intro m H sl ch hk hm hT
  have hlt:m<L.length:=by omega
  have hget:L[m]?=some (dI L m):=by
   unfold dI
   rw [List.getD_eq_getElem?_getD,List.getElem?_eq_getElem hlt]; rfl
  refine eO.L0_step ?_
  simp [nds,hlt,eU hget,cd]
  refine Mn hB hW hlt hN (hT.new (fun j hj=>?_) ?_) fun H' sl' ch' hT'=>?_
  ·have a1:j≠H.n:=by omega
   simp [a1]
  ·simp
  ·simp
   rw [ga (by omega)]
   exact ih (m+1) H' sl' ch' (by omega) (by omega) hT'
def elC (L:List Nd) (i:Nat):AV:=.imm 1 ((ic L L.length i).map fun j:Nat=>[I j])
def elE (L:List Nd) (d:List Nat) (i:Nat):List AV:=gS L d i (elC L i) cC
def fE (L:List Nd) (d:List Nat):AV:=.ip [.imm 9 ((List.range L.length).map (elE L d))]
theorem Gw (L:List Nd) (i:Nat):cX (elC L i)=true:=by unfold elC; simp only [cX]; exact bZ _ (fun _=>rfl) _
theorem qb:∀ {a b:List AV},bG a=true→bG b=true→bG (a++b)=true
 | [],b,_,h=>h
 | x::a,b,ha,hb=>by
  simp only [bG,Bool.and_eq_true] at ha
  simp only [List.cons_append,bG,ha.1,qb ha.2 hb,Bool.and_self]
theorem ry (L:List Nd) (d:List Nat) (i:Nat):bG (elE L d i)=true:=by
 unfold elE gS
 exact qb (lY _) (by simp only [bG,Gw,cX,Bool.and_self])
theorem i_ (L:List Nd) (d:List Nat):cX (fE L d)=true:=by
 unfold fE
 simp only [cX,bG,bZ _ (ry L d),Bool.and_self]
theorem JJ {L:List Nd} {d:List Nat} {H:Hp} {ch:List AV} (hl:ch.length=L.length) (hk:∀ (i:Nat) (c:AV),ch[i]?=some c→Gs 1 H c ((ic L L.length i).map fun j:Nat=>[I j])) {sl:AV} (hg:Gs 9 H sl (de L d ch cC)) :
  Fz H sl (.imm 9 ((List.range L.length).map (elE L d))):=by
 generalize hr:de L d ch cC=rr at hg
 have hrl:rr.length=L.length:=by rw [← hr,d7,hl]
 cases hg with
 | nil =>
  have:L.length=0:=by simpa using hrl.symm
  rw [this]; exact .nil
 | sl hlt hg hsz =>
  have rowAt:∀ (i:Nat) (row:List AV),((List.range L.length).map (elE L d))[i]?=some row→∃ c,ch[i]?=some c∧row=elE L d i:=by
   intro i row h
   rw [List.getElem?_map,Option.map_eq_some_iff] at h
   obtain ⟨x,hx,rfl⟩:=h
   have hi:=(List.getElem?_eq_some_iff.1 hx).1
   simp at hi
   rw [List.getElem?_range hi] at hx
   cases hx
   obtain ⟨c,hc⟩:=k_ (l:=ch) (k:=i) (by omega)
   exact ⟨c,hc,rfl⟩
  refine .sl (fun i j=>(gS L d i (ch.getD i .any) cC).getD j .any) hg (by simp [hrl]) (fun i row h=>?_) (fun i row j y h hj=>?_) (fun i row j y h hj=>?_)
  ·obtain ⟨c,_,rfl⟩:=rowAt i row h; rfl
  ·obtain ⟨c,hc,rfl⟩:=rowAt i row h
   have hj9:j<9:=by have:=(List.getElem?_eq_some_iff.1 hj).1; simpa [elE] using this
   have e:=mm (L:=L) (d:=d) (low:=cC) hc
   rw [hr] at e
   have hcd:ch.getD i .any=c:=by rw [List.getD_eq_getElem?_getD,hc]; rfl
   rw [Nat.zero_add]
   have hz:(gS L d i c cC)[j]?=some ((gS L d i c cC).getD j .any):=by
    rw [List.getD_eq_getElem?_getD,List.getElem?_eq_getElem (by simpa using hj9)]; rfl
   rw [hcd,mL hsz i _ j _ e hz]
  ·obtain ⟨c,hc,rfl⟩:=rowAt i row h
   have hcd:ch.getD i .any=c:=by rw [List.getD_eq_getElem?_getD,hc]; rfl
   rw [hcd]
   have hcs:=hk i c hc
   have h5:=hcs.fz (bZ _ (fun _=>rfl) _)
   have hL:FzL H (gS L d i c cC) (elE L d i):=by
    unfold elE gS bD
    exact .cons (.refl rfl) (.cons (.refl rfl) (.cons (.refl rfl) (.cons (.refl (ky _)) (.cons (.refl (by simp only [cX]; exact bZ _ (fun _=>rfl) _)) (.cons h5 (.cons (.refl rfl) (.cons (.refl rfl) (.cons (.refl rfl) .nil))))))))
   obtain ⟨x,hx,hf⟩:=hL.get.2 j y hj
   rw [List.getD_eq_getElem?_getD,hx]
   exact hf
theorem qn {L:List Nd} {d:List Nat} (hB:c6 L L.length d) (hW:∀ n ∈ L,k4 n) (hN:L.length≤4096) (H:Hp):aq Tryz.prog σ hP [nds L] H (.tup [fE L d,I 0]) H:=by
 obtain ⟨Q,hQ⟩:∃ Q:AV→Hp→Prop,∀ r H1,Q r H1 ↔ Fz H1 r (.tup [fE L d,I 0]):=⟨_,fun _ _=>Iff.rfl⟩
 have run:∃ r H1,aq Tryz.prog σ hP [nds L] Hp.empty r H1∧Q r H1:=by
  refine eO.run ?_
  have h1:¬ ((4096:Int)<(L.length:Int)):=by omega
  simp [h1,dg]
  refine vO hB hW hN (fun H sl ch hT=>?_) _ 0 _ (.lit (.slice none 0 0)) [] rfl (Nat.zero_le _) ⟨by simp,by simp,rfl,.nil,fun i c h=>by simp at h,fun h=>h,fun i c h=>by simp at h,fun i c h=>by simp at h,fun i i' c c' _ h=>by simp at h⟩
  rw [hQ]
  have hr:=JJ hT.len hT.kid hT.rows
  refine .tup rfl fun j x y hx hy=>?_
  match j with
  | 0 =>
   simp at hx hy
   subst hx; subst hy
   refine .ptr (fun _=>sl) hT.tg (fun j y hj=>?_) (fun j y hj=>?_)
   ·have:j=0:=by have:=(List.getElem?_eq_some_iff.1 hj).1; simp at this; omega
    subst this; simp
   ·have:j=0:=by have:=(List.getElem?_eq_some_iff.1 hj).1; simp at this; omega
    subst this
    simp at hj
    rw [← hj]; exact hr
  | 1=>simp at hx hy; subst hx; subst hy; exact .refl rfl
  | j+2=>simp at hx
 obtain ⟨r,H1,hg,hf⟩:=run
 rw [hQ] at hf
 exact hg.frzR (by simp [bG]) hf H
end Go.Proofs.YtegioimlblnajaaGreat.Ev

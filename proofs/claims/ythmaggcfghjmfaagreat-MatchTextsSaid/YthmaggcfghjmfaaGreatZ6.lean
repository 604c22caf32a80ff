/- The walks, part 6: the evaluator, the functions, the laws. Conditions: none. -/
import Derived.Test.YthmaggcfghjmfaaGreatZ5
namespace Go.Proofs.YthmaggcfghjmfaaGreat.Ev
set_option linter.unusedVariables false
set_option linter.unusedSimpArgs false
variable {σ:Sig}
def nP (σ:Sig):Prop:=∀ (s t:ByteArray) (H:Hp),s.data.size<4294967281→az Tryz.prog σ jM [Sx s,Sx t] H (Bo (decide (0≤Go.Lib.index (tl s) (tl t)))) H
theorem ve (c:UInt8) (H:Hp):az Tryz.prog σ iS [.lit (.int .u8 c.toNat)] H (Bo (wht c)) H:=by
  refine bl (fun K hK=>mi.run ?_) (by simp [aP,bF]) rfl H
  have hK:=hK Hp.empty
  simp only [bD,aa,ah,decide_eq_true_eq]
  split
  · rename_i h
    rwa [show wht c = true by have : c.toNat = 9 := by omega
                              simp [wht,this]] at hK
  rename_i h9
  split
  · rename_i h
    rwa [show wht c = true by have : c.toNat = 10 := by omega
                              simp [wht,this]] at hK
  rename_i h10
  split
  · rename_i h
    rwa [show wht c = true by have : c.toNat = 12 := by omega
                              simp [wht,this]] at hK
  rename_i h12
  split
  · rename_i h
    rwa [show wht c = true by have : c.toNat = 13 := by omega
                              simp [wht,this]] at hK
  rename_i h13
  have e:wht c=decide ((c.toNat:Int)=32):=by
    have a9:¬ c.toNat=9:=by omega
    have a10:¬ c.toNat=10:=by omega
    have a12:¬ c.toNat=12:=by omega
    have a13:¬ c.toNat=13:=by omega
    by_cases h:c.toNat=32
    · simp [wht,h]
    · have h':¬ ((c.toNat:Int)=32):=by omega
      simp [wht,a9,a10,a12,a13,h,h']
  rwa [e] at hK
theorem EG (s p:ByteArray) (H:Hp):az Tryz.prog σ cP [Sx s,Sx p] H (Bo (tJ (tl s) (tl p))) H:=by
 refine bl (fun K hK=>dw.run ?_) (by simp [aP,bF]) rfl H
 simp only [eU,aa,fl,ah,decide_eq_true_eq]
 split
 ·rename_i h
  rw [tY (by omega),aa]
  simp only [gD,aa]
  have:=uB (tl s) (tl p) (by rw [cK,cK]; omega)
  rw [cK,m9] at this
  rw [this]
  exact hK _
 ·rename_i h
  have:=uV (s:=tl s) (p:=tl p) (by rw [cK,cK]; omega)
  rw [this] at hK
  exact hK _
theorem A2 (s p:ByteArray) (H:Hp):az Tryz.prog σ d5 [Sx s,Sx p] H (Bo (tJ (tl s) (tl p))) H :=
 bl (fun K hK=>hZ.run (am (EG s p _) (hK _))) (by simp [aP,bF]) rfl H
theorem Hb (s p:ByteArray) (hs:s.data.size<9000000000000000000) (H:Hp):az Tryz.prog σ cQ [Sx s,Sx p] H (Bo (uv (tl s) (tl p))) H:=by
 refine bl (fun K hK=>dy.run ?_) (by simp [aP,bF]) rfl H
 simp only [eU,aa,fl,ah,decide_eq_true_eq]
 split
 ·rename_i h
  simp only [ik,aa]
  have e:wr .i64 ((s.data.size:Int) - p.data.size)=((s.data.size - p.data.size:Nat):Int):=by rw [eh (by omega) (by omega)]; omega
  rw [e,ug (by omega),aa]
  simp only [gD,aa]
  have:=uJ (tl s) (tl p) (by rw [cK,cK]; omega)
  rw [cK,cK,m9] at this
  rw [this]
  exact hK _
 ·rename_i h
  have:=uP (s:=tl s) (p:=tl p) (by rw [cK,cK]; omega)
  rw [this] at hK
  exact hK _
theorem Ix (s p:ByteArray) (hs:s.data.size<9000000000000000000) (H:Hp):az Tryz.prog σ fe [Sx s,Sx p] H (Bo (uv (tl s) (tl p))) H :=
 bl (fun K hK=>ib.run (am (Hb s p hs _) (hK _))) (by simp [aP,bF]) rfl H
def kH (l:List ByteArray) (s:ByteArray):Bool:=l.any fun x=>decide (x=s)
theorem Ig {l:List ByteArray} (hl:l.length≤reachBytes) {s:ByteArray} {K:AV→Hp→Prop}:∀ (m k:Nat) (H:Hp),l.length - m=k→m≤l.length→(∀ H,K (Bo (kH (l.drop m) s)) H)→eu.L0 σ K (Sx s) (dG l) (I l.length) (I m) H:=by
 intro m k
 revert m
 induction k with
 | zero =>
  intro m H hk hm hK
  have:m=l.length:=by omega
  subst this
  refine eu.L0_step ?_
  simp
  simpa [kH] using hK H
 | succ k ih =>
  intro m H hk hm hK
  have hlt:m<l.length:=by omega
  obtain ⟨x,hx⟩:=cb hlt
  rw [cm hx] at hK
  refine eu.L0_step ?_
  simp [dG,hlt,bS hx]
  split
  ·rename_i h
   have:=hK H
   simpa [kH,h] using this
  ·rename_i h
   rw [cO hlt hl (by decide)]
   refine ih (m+1) H (by omega) (by omega) fun H'=>?_
   have:=hK H'
   simpa [kH,h] using this
theorem I8 (l:List ByteArray) (hl:l.length≤reachBytes) (s:ByteArray) (H:Hp):az Tryz.prog σ kg [dG l,Sx s] H (Bo (kH l s)) H:=by
 refine bl (fun K hK=>eu.run ?_) (by simp [aP,bF]) rfl H
 simp
 exact Ig hl 0 _ _ rfl (Nat.zero_le _) (by simpa using hK)
section
attribute [local irreducible] aR.L0 aR.L1
theorem wW {js:Nat→AV} {K:AV→Hp→Prop} {H:Hp} {w t:ByteArray} {b:AV} (g0:H.get 0=some (.cells [Sx t] true)) (g1:H.get 1=some (.cells [b] true)) (g3:H.get 3=some (.loop (bK.R0 js (.ptr 0 0) (.ptr 1 0)) .ready none))
  (hT:w=t→K (Bo false) (((H.set 3 (some (.loop (bK.R0 js (.ptr 0 0) (.ptr 1 0)) .busy none))).set 1 (some (.cells [Bo true] true))).set 3 (some (.loop (bK.R0 js (.ptr 0 0) (.ptr 1 0)) .done (some .ret)))))
  (hF:w≠t→K (Bo true) ((H.set 3 (some (.loop (bK.R0 js (.ptr 0 0) (.ptr 1 0)) .busy none))).set 3 (some (.loop (bK.R0 js (.ptr 0 0) (.ptr 1 0)) .ready none)))):ko Tryz.prog σ (.yl 3) [Sx w] H K:=by
 refine bK.R0_round g3 ⟨g3,?_⟩
 simp only [aa,bE,ay]
 simp only [show ¬ ((0:Nat)=3) by decide,if_false,g0,br,List.drop_zero,iP,aa,gD,ah,decide_eq_true_eq]
 split
 ·rename_i h
  simp only [xX,ay,show ¬ ((1:Nat)=3) by decide,if_false,g1,cC]
  rw [if_pos (by simp),aa]
  refine ⟨by simp,?_⟩
  simpa using hT h
 ·rename_i h
  exact ⟨by simp,hF h⟩
theorem ld2 {H:Hp} {id:Nat} {x:AV} (g:H.get id=some (.cells [x] true)):ldA false 1 H (.ptr id 0)=some x:=by simp [g]
theorem DI {js:Nat→AV} {K:AV→Hp→Prop} {t:ByteArray} {b:AV} {N:Nat} (hN:N<9000000000000000000):∀ (f:Nat) (l:List UInt8) (H:Hp) (y3:AV),l.length<f→l.length≤N→H.get 0=some (.cells [Sx t] true)→H.get 1=some (.cells [b] true)→H.get 2=some (.cells [Sx (mk l)] true)→H.get 3=some (.loop (bK.R0 js (.ptr 0 0) (.ptr 1 0)) .ready none) →
  (tl t ∈ eE l→∀ H,H.get 1=some (.cells [Bo true] true)→H.get 3=some (.loop (bK.R0 js (.ptr 0 0) (.ptr 1 0)) .done (some .ret))→K (.tup []) H) →
  (tl t ∉ eE l→∀ H,H.get 1=some (.cells [b] true)→H.get 3=some (.loop (bK.R0 js (.ptr 0 0) (.ptr 1 0)) .ready none)→K (.tup []) H) →
  aR.L0 σ K (.yl 3) (.ptr 2 0) y3 H:=by
 intro f
 induction f with
 | zero=>intro l H y3 h; omega
 | succ f ih =>
  intro l H y3 hf hlN g0 g1 g2 g3 hT hF
  refine aR.L0_step ?_
  simp only [ld2 g2,aa,tW,ah]
  by_cases hl:l=[]
  ·subst hl
   simp only [show (mk []=(⟨#[]⟩:ByteArray)) from rfl,decide_true,Bool.not_true,Bool.false_eq_true,if_false]
   exact hF (by simp [jW]) H g1 g3
  ·have hmk:¬ (mk l=⟨#[]⟩):=fun h=>hl (vX (h.trans (show (⟨#[]⟩:ByteArray)=mk [] from rfl)))
   have hpos:0<l.length:=List.length_pos_iff.2 hl
   simp only [hmk,decide_false,Bool.not_false,if_true]
   have hwl:=BC l
   rw [kK hl] at hT hF
   have hsz:(mk l).data.size=l.length:=E9 l
   have rest:∀ (H:Hp),H.get 0=some (.cells [Sx t] true)→H.get 1=some (.cells [b] true)→H.get 2=some (.cells [Sx (mk l)] true)→H.get 3=some (.loop (bK.R0 js (.ptr 0 0) (.ptr 1 0)) .ready none) →
     (wl l=0∨tl t≠l.take (wl l)) →
     bnd (ldA false 1 H (.ptr 2 0)) fun x23=>bnd (af .add (I (wl l:Nat)) (I 1)) fun x24=>bnd (ldA false 1 H (.ptr 2 0)) fun x25=>bnd (ct x25) fun x26=>bnd (pc [x24,x26]) fun x27=>bnd (fx x23 (some x27) none) fun x28=>bnd (stA 1 H (.ptr 2 0) x28) fun H29=>aR.L0 σ K (.yl 3) (.ptr 2 0) (I (wl l:Nat)) H29:=by
    intro H g0 g1 g2 g3 hno
    simp only [ld2 g2,aa,bN,eU,hsz]
    rw [bz (by omega)]
    have hmin:pc [I ((wl l+1:Nat):Int),I (l.length:Int)]=some (I ((min (wl l+1) l.length:Nat):Int)):=by
     simp only [pc,toI,List.foldl,lj]
     congr 2
     split
     ·congr 2; omega
     ·congr 2; omega
    rw [hmin,aa,ug (by rw [hsz]; omega),aa]
    simp only [IT,g2,cC]
    rw [if_pos (by simp),aa,ml]
    have hdrop:l.drop (min (wl l+1) l.length)=l.drop (wl l+1):=by
     by_cases h:wl l+1≤l.length
     ·rw [Nat.min_eq_left h]
     ·rw [Nat.min_eq_right (by omega),List.drop_of_length_le (Nat.le_refl _),List.drop_of_length_le (by omega)]
    rw [hdrop]
    refine ih (l.drop (wl l+1)) _ _ (by simp; omega) (by simp; omega) (by simp [g0]) (by simp [g1]) (by simp) (by simp [g3]) (fun h=>hT ?_) (fun h=>hF ?_)
    ·split
     ·rename_i h0; rw [h0] at h; exact h
     ·exact List.mem_cons_of_mem _ h
    ·split
     ·rename_i h0; rw [h0] at h; exact h
     ·rename_i h0
      rcases hno with h1 | h1
      ·exact absurd h1 h0
      ·intro hm
       rcases List.mem_cons.1 hm with h2 | h2
       ·exact h1 h2
       ·exact h h2
   have stop:∀ (H:Hp),H.get 0=some (.cells [Sx t] true)→H.get 1=some (.cells [b] true)→H.get 2=some (.cells [Sx (mk l)] true)→H.get 3=some (.loop (bK.R0 js (.ptr 0 0) (.ptr 1 0)) .ready none) →
     bnd (af .gtr (I (wl l:Nat)) (I 0)) fun x10=>ifB x10 (bnd (ldA false 1 H (.ptr 2 0)) fun x11=>bnd (fx x11 none (some (I (wl l:Nat)))) fun x12=>ko Tryz.prog σ (.yl 3) [x12] H fun x13 H14=>bnd (unR .not x13) fun x15=>ifB x15 (K (.tup []) H14) (bnd (ldA false 1 H14 (.ptr 2 0)) fun x16=>bnd (af .add (I (wl l:Nat)) (I 1)) fun x17=>bnd (ldA false 1 H14 (.ptr 2 0)) fun x18=>bnd (ct x18) fun x19=>bnd (pc [x17,x19]) fun x20=>bnd (fx x16 (some x20) none) fun x21=>bnd (stA 1 H14 (.ptr 2 0) x21) fun H22=>aR.L0 σ K (.yl 3) (.ptr 2 0) (I (wl l:Nat)) H22))
      (bnd (ldA false 1 H (.ptr 2 0)) fun x23=>bnd (af .add (I (wl l:Nat)) (I 1)) fun x24=>bnd (ldA false 1 H (.ptr 2 0)) fun x25=>bnd (ct x25) fun x26=>bnd (pc [x24,x26]) fun x27=>bnd (fx x23 (some x27) none) fun x28=>bnd (stA 1 H (.ptr 2 0) x28) fun H29=>aR.L0 σ K (.yl 3) (.ptr 2 0) (I (wl l:Nat)) H29):=by
    intro H g0 g1 g2 g3
    simp only [eF,aa,ah,decide_eq_true_eq]
    split
    ·rename_i h0
     have h0':wl l≠0:=by omega
     rw [if_neg h0'] at hT hF
     simp only [ld2 g2,aa]
     rw [tY (by rw [hsz]; omega),aa,ml]
     refine wW g0 g1 g3 (fun he=>?_) (fun he=>?_)
     ·simp only [dQ,aa,ah,Bool.not_false,if_true]
      refine hT ?_ _ (by simp) (by simp)
      rw [← he,ml]; simp
     ·simp only [dQ,aa,ah,Bool.not_true,Bool.false_eq_true,if_false]
      refine rest _ ?_ ?_ ?_ ?_ (.inr fun h=>he ?_)
      ·simp [g0]
      ·simp [g1]
      ·simp [g2]
      ·simp
      ·rw [← h,m9]
    ·rename_i h0
     exact rest H g0 g1 g2 g3 (.inl (by omega))
   have L1:∀ (m k:Nat) (H:Hp),wl l - k=m→k≤wl l→H.get 0=some (.cells [Sx t] true)→H.get 1=some (.cells [b] true)→H.get 2=some (.cells [Sx (mk l)] true)→H.get 3=some (.loop (bK.R0 js (.ptr 0 0) (.ptr 1 0)) .ready none)→aR.L1 σ K (.yl 3) (.ptr 2 0) (I (k:Int)) H:=by
    intro m
    induction m with
    | zero =>
     intro k H hm hk g0 g1 g2 g3
     have:k=wl l:=by omega
     subst this
     refine aR.L1_step ?_
     simp only [ld2 g2,aa,eU,hsz,bA,ah,decide_eq_true_eq]
     split
     ·rename_i hlt
      obtain ⟨c,hc⟩:=cb (l:=l) (k:=wl l) (by omega)
      rw [uc (by rw [ml]; exact hc),aa]
      refine am (ve c H) ?_
      rw [HK hc]
      simp only [dQ,aa,ah,Bool.not_true,Bool.false_eq_true,if_false]
      exact stop H g0 g1 g2 g3
     ·have:=stop H g0 g1 g2 g3
      simp only [ld2 g2,aa] at this
      exact this
    | succ m ihm =>
     intro k H hm hk g0 g1 g2 g3
     obtain ⟨c,hc,hw⟩:=Dd (l:=l) (k:=k) (by omega)
     have hkl:=(List.getElem?_eq_some_iff.1 hc).1
     refine aR.L1_step ?_
     have h1:(k:Int)<l.length:=by omega
     simp only [ld2 g2,aa,eU,hsz,bA,ah,decide_eq_true_eq,h1,if_true]
     rw [uc (by rw [ml]; exact hc),aa]
     refine am (ve c H) ?_
     rw [hw]
     simp only [dQ,aa,ah,Bool.not_false,if_true,bN]
     rw [bz (by omega)]
     exact ihm (k+1) H (by omega) (by omega) g0 g1 g2 g3
   exact L1 _ 0 H rfl (Nat.zero_le _) g0 g1 g2 g3
end
def m_ (s t:ByteArray):Bool:=decide (tl t ∈ eE (tl s))
theorem G8 (s t:ByteArray) (hs:s.data.size<9000000000000000000) (H:Hp):az Tryz.prog σ jw [Sx s,Sx t] H (Bo (m_ s t)) H:=by
 refine bl (fun K hK=>bK.run ?_) (by simp [aP,bF]) rfl H
 have hbx:∀ (x:ByteArray) (H:Hp) (K:AV→Hp→Prop),eR (Sx x) H K=K (.ptr H.n 0) (H.new (.cells [Sx x] true)):=fun x H K=>qn rfl rfl H K
 rw [hbx]
 simp only [bw]
 refine mt.run ?_
 rw [hbx]
 intro js
 simp only [zL]
 refine aR.run ?_
 refine DI (js:=js) (t:=t) (b:=Bo false) (N:=(tl s).length) (by rw [cK]; exact hs) ((tl s).length+1) (tl s) _ _ (by omega) (Nat.le_refl _) (by simp [Hp.empty]) (by simp [Hp.empty]) (by simp [Hp.empty]) (by simp [Hp.empty]) (fun hm H g1 g3=>?_) (fun hm H g1 g3=>?_)
 ·have e3:H.get (((Hp.empty.new (Blk.cells [Sx t] true)).new (Blk.cells [AV.lit (Value.bool false)] true)).new (Blk.cells [Sx s] true)).n=some (.loop (bK.R0 js (.ptr 0 0) (.ptr 1 0)) .done (some .ret)):=g3
  rw [e3,Ek]
  have g1':(H.set (((Hp.empty.new (Blk.cells [Sx t] true)).new (Blk.cells [AV.lit (Value.bool false)] true)).new (Blk.cells [Sx s] true)).n none).get (Hp.empty.new (Blk.cells [Sx t] true)).n=some (.cells [Bo true] true):=by
   rw [ay,if_neg (by simp [Hp.empty])]; exact g1
  rw [ld2 g1',aa]
  have:=hK (H.set (((Hp.empty.new (Blk.cells [Sx t] true)).new (Blk.cells [AV.lit (Value.bool false)] true)).new (Blk.cells [Sx s] true)).n none)
  simpa [m_,hm] using this
 ·have e3:H.get (((Hp.empty.new (Blk.cells [Sx t] true)).new (Blk.cells [AV.lit (Value.bool false)] true)).new (Blk.cells [Sx s] true)).n=some (.loop (bK.R0 js (.ptr 0 0) (.ptr 1 0)) .ready none):=g3
  rw [e3,wn]
  have g1':(H.set (((Hp.empty.new (Blk.cells [Sx t] true)).new (Blk.cells [AV.lit (Value.bool false)] true)).new (Blk.cells [Sx s] true)).n none).get (Hp.empty.new (Blk.cells [Sx t] true)).n=some (.cells [Bo false] true):=by
   rw [ay,if_neg (by simp [Hp.empty])]; exact g1
  rw [xX,g1',cC,if_pos (by simp),aa,ld2 (x:=Bo false) (by simp),aa]
  have hw:m_ s t=false:=by simp [m_,hm]
  rw [hw] at hK
  exact hK _
def emp:ByteArray:=⟨#[]⟩
def soB (s:ByteArray) (a:At):Bool :=
 if a.op=0 then true else if a.op=1 then decide (s=a.text) else if a.op=2 then !decide (a.text=emp)&&m_ s a.text
 else if a.op=3 then decide (s=a.text)||tJ (tl s) (tl a.text++[45]) else if a.op=4 then !decide (a.text=emp)&&tJ (tl s) (tl a.text)
 else if a.op=5 then !decide (a.text=emp)&&uv (tl s) (tl a.text) else if a.op=6 then !decide (a.text=emp)&&decide (0≤Go.Lib.index (tl s) (tl a.text)) else false
structure Et (a:At):Prop where
 text:a.text.data.size≤reachBytes
theorem Lg (hC:nP σ) (s:ByteArray) (hs:s.data.size<4294967281) (a:At) (ha:Et a) (H:Hp):az Tryz.prog σ lO [Sx s,.agg (cg a)] H (Bo (soB s a)) H:=by
 refine bl (fun K hK=>qJ.run ?_) (by simp [aP,bF,oh]) rfl H
 have ht:=ha.text
 rw [eH] at ht
 have g:∀ {H:Hp} {j:Nat},True:=fun {_ _}=>trivial
 simp [cg]
 unfold soB at hK
 split
 ·rename_i h; simp [h] at hK; exact hK _
 rename_i h0
 simp only [h0,if_false] at hK
 split
 ·rename_i h
  have:=hK (Hp.empty.new (.cells (cg a) true))
  rw [if_pos h] at this
  simpa [cg] using this
 rename_i h1
 simp only [h1,if_false] at hK
 split
 ·rename_i h
  simp only [h,if_true] at hK
  split
  ·rename_i he
   have he':a.text=emp:=he
   simp [he'] at hK
   exact hK _
  ·rename_i he
   have he':¬ (a.text=emp):=he
   simp [he'] at hK
   exact am (G8 s a.text (by omega) _) (hK _)
 rename_i h2
 simp only [h2,if_false] at hK
 split
 ·rename_i h
  simp only [h,if_true] at hK
  split
  ·rename_i he
   simp [he] at hK
   exact hK _
  ·rename_i he
   simp [he] at hK
   rw [DT (by show a.text.data.size+1≤_; omega),aa]
   have:=A2 (σ:=σ) s (mk (tl a.text++tl ⟨#[45]⟩))
   rw [ml] at this
   exact am (this _) (hK _)
 rename_i h3
 simp only [h3,if_false] at hK
 split
 ·rename_i h
  simp only [h,if_true] at hK
  split
  ·rename_i he
   have he':a.text=emp:=he
   simp [he'] at hK
   exact hK _
  ·rename_i he
   have he':¬ (a.text=emp):=he
   simp [he'] at hK
   exact am (A2 s a.text _) (hK _)
 rename_i h4
 simp only [h4,if_false] at hK
 split
 ·rename_i h
  simp only [h,if_true] at hK
  split
  ·rename_i he
   have he':a.text=emp:=he
   simp [he'] at hK
   exact hK _
  ·rename_i he
   have he':¬ (a.text=emp):=he
   simp [he'] at hK
   exact am (Ix s a.text (by omega) _) (hK _)
 rename_i h5
 simp only [h5,if_false] at hK
 split
 ·rename_i h
  simp only [h,if_true] at hK
  split
  ·rename_i he
   have he':a.text=emp:=he
   simp [he'] at hK
   exact hK _
  ·rename_i he
   have he':¬ (a.text=emp):=he
   simp [he'] at hK
   exact am (hC s a.text _ hs) (hK _)
 ·rename_i h
  simp [h] at hK
  exact hK _
def fy (l:List (ByteArray × ByteArray)) (a:At):Bool:=match l.find? fun p=>decide (p.1=a.name) with
 | some p=>soB p.2 a
 | none=>false
theorem EO (hC:nP σ) {l:List (ByteArray × ByteArray)} (hl:l.length≤reachBytes) (ht:∀ p ∈ l,p.2.data.size<4294967281) {a:At} (ha:Et a) {K:AV→Hp→Prop} {y3:Nat}:∀ (m k:Nat) (H:Hp),l.length - m=k→m≤l.length→y3<H.n→H.get y3=some (.cells (cg a) true)→(∀ H,K (Bo (fy (l.drop m) a)) H)→dt.L0 σ K (.ptr y3 0) (.imm 2 (l.map cS)) (I l.length) (I m) H:=by
 intro m k
 revert m
 induction k with
 | zero =>
  intro m H hk hm hn hg hK
  have:m=l.length:=by omega
  subst this
  refine dt.L0_step ?_
  simp
  simpa [fy] using hK H
 | succ k ih =>
  intro m H hk hm hn hg hK
  have hlt:m<l.length:=by omega
  obtain ⟨x,hx⟩:=cb hlt
  have hxl:=ht x (List.mem_of_getElem? hx)
  rw [cm hx] at hK
  have hny:y3≠H.n:=by omega
  have h1:(m:Int)<l.length:=by omega
  refine dt.L0_step ?_
  have hlx:ldL true 2 (cS x)=some (.agg (cS x)):=rfl
  simp only [bA,h1,decide_true,aa,ah,if_true,bS hx,e8,hlx,bw]
  simp [cS,hny,hg,a8]
  simp only [cg,iP,aa,gD,ah,decide_eq_true_eq]
  split
  ·rename_i h
   refine am (Lg hC x.2 hxl a ha _) ?_
   have:fy (x::l.drop (m+1)) a=soB x.2 a:=by simp [fy,h]
   rw [this] at hK
   exact hK _
  ·rename_i h
   rw [cO hlt hl (by decide)]
   refine ih (m+1) _ (by omega) (by omega) (by simp; omega) (by simp [hny,hg,cg]) fun H'=>?_
   have:fy (x::l.drop (m+1)) a=fy (l.drop (m+1)) a:=by simp [fy,h]
   rw [this] at hK
   exact hK _
theorem ER (hC:nP σ) (n:Nd) (hl:n.attrs.length≤reachBytes) (ht:∀ p ∈ n.attrs,p.2.data.size<4294967281) (a:At) (ha:Et a) (H:Hp):az Tryz.prog σ jx [.agg (bt n),.agg (cg a)] H (Bo (fy n.attrs a)) H:=by
 refine bl (fun K hK=>dt.run ?_) (by simp [aP,bF,oh,j_]) rfl H
 simp [bt]
 exact EO hC hl ht ha 0 _ _ rfl (Nat.zero_le _) (by simp) (by simp) (by simpa using hK)
end Go.Proofs.YthmaggcfghjmfaaGreat.Ev
namespace Go.Proofs.YthmaggcfghjmfaaGreat.Ev
set_option linter.unusedVariables false
set_option linter.unusedSimpArgs false
variable {σ:Sig}
structure SmN (n:Nd):Prop where
 classes:n.classes.length≤reachBytes
 attrs:n.attrs.length≤reachBytes
 texts:∀ p ∈ n.attrs,p.2.data.size<4294967281
structure tE (c:Cp):Prop where
 ids:c.ids.length≤reachBytes
 classes:c.classes.length≤reachBytes
 attrs:c.attrs.length≤reachBytes
 texts:∀ a ∈ c.attrs,Et a
 ps:c.pseudos.length≤reachBytes
def pY (n:Nd) (c:Cp):Bool:=decide (c.tag=emp)||decide (c.tag=n.tag)
def idB (n:Nd) (x:ByteArray):Bool:=!decide (x=emp)&&decide (x=n.id)
def pA (n:Nd) (c:Cp):Bool:=pY n c&&(c.ids.all (idB n)&&(c.classes.all (kH n.classes)&&c.attrs.all (fy n.attrs)))
section
attribute [local irreducible] ax.L0 ax.L1 ax.L2
theorem C8 (hC:nP σ) {n:Nd} (hn:SmN n) {c:Cp} (hc:tE c) {K:AV→Hp→Prop} {b7:Nat} {y5 y31 y32 y33 y47 y48 y49:AV}:∀ (m k:Nat) (H:Hp),c.attrs.length - m=k→m≤c.attrs.length→b7<H.n→H.get b7=some (.cells (bt n) true)→(∀ H,K (Bo ((c.attrs.drop m).all (fy n.attrs))) H) →
  ax.L2 σ K y5 (.ptr b7 0) y31 y32 y33 y47 y48 y49 (.imm 3 (c.attrs.map cg)) (I c.attrs.length) (I m) H:=by
 intro m k
 revert m
 induction k with
 | zero =>
  intro m H hk hm hb hg hK
  have:m=c.attrs.length:=by omega
  subst this
  refine ax.L2_step ?_
  simp
  simpa using hK H
 | succ k ih =>
  intro m H hk hm hb hg hK
  have hlt:m<c.attrs.length:=by omega
  obtain ⟨x,hx⟩:=cb hlt
  rw [cm hx] at hK
  have h1:(m:Int)<c.attrs.length:=by omega
  have hny:b7≠H.n:=by omega
  refine ax.L2_step ?_
  simp only [bA,h1,decide_true,aa,ah,if_true,bS hx,e8,Ca,bw]
  simp [cg,hny,hg,a8]
  have e1:ldL true 3 [Sx x.name,I x.op,Sx x.text]=some (.agg (cg x)):=rfl
  rw [e1,aa]
  refine am (ER hC n hn.attrs hn.texts x (hc.texts x (List.mem_of_getElem? hx)) _) ?_
  simp only [dQ,aa,ah]
  cases hb2:fy n.attrs x with
  | false =>
   simp
   simp [hb2] at hK
   exact hK _
  | true =>
   simp
   rw [cO hlt hc.attrs (by decide)]
   refine ih (m+1) _ (by omega) (by omega) (by simp; omega) (by simp [hny,hg]) fun H'=>?_
   simp [hb2] at hK
   simpa using hK H'
theorem AK (hC:nP σ) {n:Nd} (hn:SmN n) {c:Cp} (hc:tE c) {K:AV→Hp→Prop} {b5 b7:Nat} {y31 y32 y33 y60 y61 y62:AV}:∀ (m k:Nat) (H:Hp),c.classes.length - m=k→m≤c.classes.length→b7<H.n→H.get b7=some (.cells (bt n) true)→H.get b5=some (.cells (bR c) true)→(∀ H,K (Bo ((c.classes.drop m).all (kH n.classes)&&c.attrs.all (fy n.attrs))) H) →
  ax.L1 σ K (.ptr b5 0) (.ptr b7 0) y31 y32 y33 (dG c.classes) (I c.classes.length) (I m) y60 y61 y62 H:=by
 intro m k
 revert m
 induction k with
 | zero =>
  intro m H hk hm hb hg hg5 hK
  have:m=c.classes.length:=by omega
  subst this
  refine ax.L1_step ?_
  simp [hg5]
  exact C8 hC hn hc 0 _ H rfl (Nat.zero_le _) hb hg (by simpa using hK)
 | succ k ih =>
  intro m H hk hm hb hg hg5 hK
  have hlt:m<c.classes.length:=by omega
  obtain ⟨x,hx⟩:=cb hlt
  rw [cm hx] at hK
  refine ax.L1_step ?_
  have h1:(m:Int)<c.classes.length:=by omega
  simp [h1,dG,bS hx,hg]
  refine am (I8 n.classes hn.classes x _) ?_
  simp only [dQ,aa,ah]
  cases hb2:kH n.classes x with
  | false =>
   simp
   simp [hb2] at hK
   exact hK _
  | true =>
   simp
   rw [cO hlt hc.classes (by decide)]
   refine ih (m+1) _ (by omega) (by omega) hb hg hg5 fun H'=>?_
   simp [hb2] at hK
   simpa using hK H'
theorem Af (hC:nP σ) {n:Nd} (hn:SmN n) {c:Cp} (hc:tE c) {K:AV→Hp→Prop} {b5 b7:Nat} {y47 y48 y49 y60 y61 y62:AV}:∀ (m k:Nat) (H:Hp),c.ids.length - m=k→m≤c.ids.length→b7<H.n→H.get b7=some (.cells (bt n) true)→H.get b5=some (.cells (bR c) true)→(∀ H,K (Bo ((c.ids.drop m).all (idB n)&&(c.classes.all (kH n.classes)&&c.attrs.all (fy n.attrs)))) H) →
  ax.L0 σ K (.ptr b5 0) (.ptr b7 0) (dG c.ids) (I c.ids.length) (I m) y47 y48 y49 y60 y61 y62 H:=by
 intro m k
 revert m
 induction k with
 | zero =>
  intro m H hk hm hb hg hg5 hK
  have:m=c.ids.length:=by omega
  subst this
  refine ax.L0_step ?_
  simp [hg5]
  exact AK hC hn hc 0 _ H rfl (Nat.zero_le _) hb hg hg5 (by simpa using hK)
 | succ k ih =>
  intro m H hk hm hb hg hg5 hK
  have hlt:m<c.ids.length:=by omega
  obtain ⟨x,hx⟩:=cb hlt
  rw [cm hx] at hK
  refine ax.L0_step ?_
  have h1:(m:Int)<c.ids.length:=by omega
  simp [h1,dG,bS hx,hg]
  split
  ·rename_i h
   have h':x=emp:=h
   simp [idB,h'] at hK
   exact hK _
  ·rename_i h
   have h':¬ (x=emp):=h
   split
   ·rename_i h2
    have h3:idB n x=true:=by simp [idB,h',← h2]
    simp [h3] at hK
    rw [cO hlt hc.ids (by decide)]
    exact ih (m+1) _ (by omega) (by omega) hb hg hg5 fun H'=>by simpa using hK H'
   ·rename_i h2
    simp [idB,h',h2] at hK
    exact hK _
end
theorem BL (hC:nP σ) {L:List Nd} {d:List Nat} (hN:L.length≤4096) {e:Nat} (he:e<L.length) (hn:SmN (ca (cB L e))) {c:Cp} (hc:tE c) (r:List AV) (hr:aP r=true) (H:Hp) :
  az Tryz.prog σ fd [.ip (eI L d::r),I (e:Int),.agg (bR c)] H (Bo (pA (ca (cB L e)) c)) H:=by
 refine bl (fun K hK=>ax.run ?_) (by simp [aP,bF,c6,mJ,hr]) rfl H
 simp
 refine am (EJ L d hN he _) ?_
 have hgo:∀ H b5 b7,b7<H.n→H.get b7=some (.cells (bt (ca (cB L e))) true)→H.get b5=some (.cells (bR c) true)→pY (ca (cB L e)) c=true→ax.L0 σ K (.ptr b5 0) (.ptr b7 0) (dG c.ids) (I c.ids.length) (I 0) (.lit undef) (.lit undef) (.lit undef) (.lit undef) (.lit undef) (.lit undef) H:=by
  intro H b5 b7 hb hg hg5 ht
  unfold pA at hK
  rw [ht,Bool.true_and] at hK
  exact Af hC hn hc 0 _ H rfl (Nat.zero_le _) hb hg hg5 (by simpa using hK)
 have hov:ce [I 0,Sx ⟨#[]⟩,Sx ⟨#[]⟩,.lit (.slice none 0 0),.lit (.slice none 0 0)] 0 (bt (ca (cB L e)))=bt (ca (cB L e)):=a8 (by simp)
 simp [hov]
 split
 ·rename_i h
  exact hgo _ _ _ (by simp) (by simp) (by simp) (by simp [pY,show c.tag=emp from h])
 ·rename_i h
  have h':¬ (c.tag=emp):=h
  split
  ·rename_i h2
   refine hgo _ _ _ (by simp) (by simp) (by simp) ?_
   simp [pY,h2]
  ·rename_i h2
   have:pY (ca (cB L e)) c=false:=by simp [pY,h',h2]
   unfold pA at hK
   rw [this,Bool.false_and] at hK
   exact hK _
def r8 (p a b:Int):Bool:=if a=0 then decide (p=b) else if 0<a then decide (b≤p)&&decide ((p - b) % a=0) else decide (p≤b)&&decide ((b - p) % (-a)=0)
theorem wrU (n:Int):wr .u64 n=n % 18446744073709551616:=by
 unfold wr
 simp [IntKind.wrap,IntKind.signed,IntKind.bits]
theorem AU {n:Int} (h0:0≤n) (h1:n<18446744073709551616):wr .u64 n=n:=by rw [wrU]; omega
theorem EQ (a b:Int):wr .u64 (wr .u64 a - wr .u64 b)=(a - b) % 18446744073709551616:=by
 rw [wrU,wrU,wrU]
 omega
theorem HW {p a b:Int} (hp:i64 p) (ha:i64 a) (hb:i64 b) (H:Hp):az Tryz.prog σ kz [I p,I a,I b] H (Bo (r8 p a b)) H:=by
 refine bl (fun K hK=>pF.run ?_) (by simp [aP,bF]) rfl H
 unfold i64 at hp ha hb
 unfold r8 at hK
 simp
 split
 ·rename_i h
  rw [if_pos h] at hK
  exact hK _
 rename_i h0
 rw [if_neg h0] at hK
 split
 ·rename_i h1
  rw [if_pos h1] at hK
  split
  ·rename_i h2
   have e1:wr .u64 a=a:=AU (by omega) (by omega)
   have e2:(p - b) % 18446744073709551616=p - b:=by omega
   rw [EQ,e1,e2,u9 _ _ _ h0,aa,bD,aa]
   have e3:(p - b).tmod a=(p - b) % a:=Int.tmod_eq_emod_of_nonneg (by omega)
   rw [e3]
   simpa [h2] using hK Hp.empty
  ·rename_i h2
   simpa [h2] using hK Hp.empty
 ·rename_i h1
  rw [if_neg h1] at hK
  split
  ·rename_i h2
   have e1:wr .u64 (-wr .u64 a)=-a:=by rw [wrU,wrU]; omega
   have e2:(b - p) % 18446744073709551616=b - p:=by omega
   have h3:(-a)≠0:=by omega
   rw [EQ,e2]
   rw [e1,u9 _ _ _ h3,aa,bD,aa]
   have e3:(b - p).tmod (-a)=(b - p) % (-a):=Int.tmod_eq_emod_of_nonneg (by omega)
   rw [e3]
   simpa [h2] using hK Hp.empty
  ·rename_i h2
   simpa [h2] using hK Hp.empty
theorem Az (L:List Nd) (e:Nat):(oO L e).length≤e:=by
 have:=List.length_filter_le (fun j:Nat=>decide (0<j)&&decide (par L j=par L e)) (List.range e)
 simp at this
 unfold oO; omega
theorem qW (L:List Nd) (e:Nat):1≤dn L e∧dn L e≤(e:Int)+1:=by
 have:=Az L e
 unfold dn; omega
theorem u4 {L:List Nd} {d:List Nat} (hB:cH L L.length d) (hN:L.length≤4096) {e:Nat} (he:e<L.length) (r:List AV) (hr:aP r=true) (H:Hp):az Tryz.prog σ eM [.ip (eI L d::r),I (e:Int)] H (Bo (mI L e)) H:=by
 refine bl (fun K hK=>iE.run ?_) (by simp [aP,bF,c6,hr]) rfl H
 simp
 refine am (o3 L d hN he _) ?_
 simp
 unfold mI at hK
 split
 ·rename_i h
  simpa [h] using hK Hp.empty
 ·rename_i h
  refine am (oq L d hN he _) ?_
  rcases my hB he with h1 | ⟨p,h1,h2⟩
  ·omega
  ·have hpl:=qW L e
   obtain ⟨k,hk⟩:∃ k:Nat,dn L e=k:=⟨(dn L e).toNat,by omega⟩
   rw [h1,hk] at hK ⊢
   refine am (uI L d hN (by omega) _) ?_
   have h3:¬ ((p:Int)<0):=by omega
   simp
   simpa [h3] using hK Hp.empty
def cw (L:List Nd) (e:Nat) (k:Int):Int:=if k=1∨k=2 then par L e else if k=3∨k=4 then eD L e else -1
def lW (k:Int):Bool:=decide (k=1)||decide (k=4)
theorem yN {L:List Nd} {d:List Nat} (hN:L.length≤4096) {e:Nat} (he:e<L.length) (k:Int) (r:List AV) (hr:aP r=true) (H:Hp):az Tryz.prog σ eT [.ip (eI L d::r),I (e:Int),I k] H (.tup [I (cw L e k),Bo (lW k)]) H:=by
 refine bl (fun K hK=>aY.run ?_) (by simp [aP,bF,c6,hr]) (by simp [gS,iN]) H
 have j0:∀ (b:Bool) (H:Hp),(b=true→k=1∨k=2)→(b=false→¬ (k=1∨k=2))→aY.J0 σ K (.ip (eI L d::r)) (I (e:Int)) (I k) (I k) (Bo b) (.lit undef) H:=by
  intro b H h1 h2
  refine aY.J0_step ?_
  cases b with
  | true =>
   have h:=h1 rfl
   simp
   refine am (o3 L d hN he _) ?_
   have h4:¬ (k=4):=by omega
   simpa [cw,lW,h,h4] using hK H
  | false =>
   have h:=h2 rfl
   have j1:∀ (c:Bool),(c=true→k=3∨k=4)→(c=false→¬ (k=3∨k=4))→aY.J1 σ K (.ip (eI L d::r)) (I (e:Int)) (I k) (I k) (Bo false) (Bo c) H:=by
    intro c h3 h4
    refine aY.J1_step ?_
    have h5:¬ (k=1):=by omega
    cases c with
    | true =>
     have h6:=h3 rfl
     simp
     refine am (zD L d hN he _) ?_
     have h7:cw L e k=eD L e:=by unfold cw; rw [if_neg h,if_pos h6]
     have h8:lW k=decide (k=4):=by unfold lW; simp [h5]
     rw [h7,h8] at hK
     exact hK H
    | false =>
     have h6:=h4 rfl
     have h7:cw L e k=-1:=by unfold cw; rw [if_neg h,if_neg h6]
     have h8:lW k=false:=by unfold lW; simp; omega
     rw [h7,h8] at hK
     exact hK H
   simp
   split
   ·rename_i h3
    exact j1 (decide (k=3)) (fun _=>.inl h3) (fun h=>by simp [h3] at h)
   ·rename_i h3
    refine j1 _ (fun h=>.inr (by simpa using h)) (fun h=>?_)
    simp at h
    omega
 simp
 split
 ·rename_i h
  exact j0 (decide (k=1)) _ (fun _=>.inl h) (fun h'=>by simp [h] at h')
 ·rename_i h
  refine j0 _ _ (fun h=>.inr (by simpa using h)) (fun h'=>?_)
  simp at h'
  omega
end Go.Proofs.YthmaggcfghjmfaaGreat.Ev
namespace Go.Proofs.YthmaggcfghjmfaaGreat.Ev
set_option linter.unusedVariables false
set_option linter.unusedSimpArgs false
variable {σ:Sig}
structure Lk where
 part:Pt
 lists:List (List Nat)
def pu (n:Nat):List AV:=[I (n:Int)]
def kU (l:List Nat):AV:=.imm 1 (l.map pu)
def eo (x:Lk):List AV:=bx x.part++[.imm 1 (x.lists.map fun l=>[kU l])]
def jp (c:List Lk):AV:=.imm 7 (c.map eo)
theorem sP (l:List Nat):bF (kU l)=true:=by unfold kU; simp only [bF]; exact bm _ (fun _=>rfl) _
theorem EH (x:Lk):aP (eo x)=true:=by
 unfold eo
 exact pB (tF _) (by simp only [aP,bF,bm _ (show ∀ l,aP [kU l]=true from fun l=>by simp [aP,sP]),Bool.and_self])
@[simp] theorem JF (x:Lk):(eo x).length=7:=by simp [eo]
def kS (n i e:Nat) (a:Bool):List AV:=[I (n:Int),I (i:Int),I (e:Int),Bo a]
abbrev qKK:List KK:=[.int .i64,.int .i64,.int .i64,.bool]
theorem CK {n i e n' i' e':Nat} {a a':Bool} (h:kS n i e a=kS n' i' e' a'):n=n'∧i=i'∧e=e'∧a=a':=by
 simp only [kS,List.cons.injEq,AV.lit.injEq,Value.int.injEq,Value.bool.injEq,true_and,and_true] at h
 exact ⟨by omega,by omega,by omega,h.2.2.2⟩
def mf (N:Nat) (T:Nat→Nat→Nat→Bool→Bool) (es:List (AV × AV)):Prop:=∀ p ∈ es,∃ n i e a,n<N∧p=(.agg (kS n i e a),Bo (T n i e a))∧kOk true qKK p.1=true
theorem su {N:Nat} {T:Nat→Nat→Nat→Bool→Bool}:∀ {es:List (AV × AV)},mf N T es→∀ n i e a,jJ (.agg (kS n i e a)) es=none∨jJ (.agg (kS n i e a)) es=some (Bo (T n i e a))
 | [],_,n,i,e,a=>.inl rfl
 | (x,y)::r,h,n,i,e,a=>by
  obtain ⟨n',i',e',a',_,hp,_⟩:=h (x,y) (by simp)
  cases hp
  unfold jJ
  by_cases he:AV.agg (kS n' i' e' a')=.agg (kS n i e a)
  ·rw [if_pos he]
   obtain ⟨rfl,rfl,rfl,rfl⟩:=CK (AV.agg.inj he)
   exact .inr rfl
  ·rw [if_neg he]
   exact su (fun p hp=>h p (by simp [hp])) n i e a
theorem vS {N:Nat} {T:Nat→Nat→Nat→Bool→Bool} {n i e:Nat} {a:Bool} (hnN:n<N) (hk:kOk true qKK (.agg (kS n i e a))=true):∀ {es:List (AV × AV)},mf N T es→mf N T (nu (.agg (kS n i e a)) (Bo (T n i e a)) es)
 | [],_=>fun p hp=>by
  simp [nu] at hp
  subst hp
  exact ⟨n,i,e,a,hnN,rfl,hk⟩
 | (x,y)::r,h=>by
  obtain ⟨n',i',e',a',hn',hp,hk'⟩:=h (x,y) (by simp)
  cases hp
  unfold nu
  by_cases he:AV.agg (kS n' i' e' a')=.agg (kS n i e a)
  ·rw [if_pos he]
   intro p hp
   rcases List.mem_cons.1 hp with rfl | hp
   ·exact ⟨n,i,e,a,hnN,by rw [he],by rw [he]; exact hk⟩
   ·exact h p (by simp [hp])
  ·rw [if_neg he]
   intro p hp
   rcases List.mem_cons.1 hp with rfl | hp
   ·exact ⟨n',i',e',a',hn',rfl,hk'⟩
   ·exact vS hnN hk (fun p hp=>h p (by simp [hp])) p hp
theorem vL {N:Nat} {T:Nat→Nat→Nat→Bool→Bool} {es:List (AV × AV)} (h:mf N T es):es.all (fun p=>kOk true qKK p.1)=true:=by
 rw [List.all_eq_true]
 intro p hp
 obtain ⟨n,i,e,a,_,_,hk⟩:=h p hp
 exact hk
structure iv (t:AV) (C:List (List Lk)) (T:Nat→Nat→Nat→Bool→Bool) (ab mb:Nat) (cs:AV) (H:Hp):Prop where
 gab:H.get ab=some (.cells [t,cs,.mp mb] true)
 nab:ab<H.n
 nmb:mb<H.n
 ne:ab≠mb
 gcs:Gs 1 H cs (C.map fun c=>[jp c])
 csm:¬ own cs mb
 memo:∃ es,H.get mb=some (.map es)∧mf C.length T es
structure Kp (mb:Nat) (H H':Hp):Prop where
 up:H.n≤H'.n
 get:∀ (j:Nat),j<H.n→j≠mb→H'.get j=H.get j
theorem Kp.refl (mb:Nat) (H:Hp):Kp mb H H:=⟨Nat.le_refl _,fun _ _ _=>rfl⟩
theorem Kp.trans {mb:Nat} {H H1 H2:Hp} (h:Kp mb H H1) (k:Kp mb H1 H2):Kp mb H H2:=⟨Nat.le_trans h.up k.up,fun j hj hne=>by rw [k.get j (Nat.lt_of_lt_of_le hj h.up) hne,h.get j hj hne]⟩
theorem Kp.new (mb:Nat) (H:Hp) (b:Blk):Kp mb H (H.new b):=by
 refine ⟨by simp,fun j hj _=>?_⟩
 have:j≠H.n:=by omega
 simp [this]
theorem Kp.setN {mb:Nat} {H H':Hp} (h:Kp mb H H') {j:Nat} (hj:H.n≤j) (b:Option Blk):Kp mb H (H'.set j b):=by
 refine ⟨by simpa using h.up,fun i hi hne=>?_⟩
 have:i≠j:=by omega
 simp [this]; exact h.get i hi hne
theorem iv.keep {t:AV} {C:List (List Lk)} {T:Nat→Nat→Nat→Bool→Bool} {ab mb:Nat} {cs:AV} {H H':Hp} (h:iv t C T ab mb cs H) (hn:H.n≤H'.n) (hg:∀ j,j<H.n→H'.get j=H.get j):iv t C T ab mb cs H':=by
 obtain ⟨es,he,hm⟩:=h.memo
 exact ⟨by rw [hg _ h.nab]; exact h.gab,Nat.lt_of_lt_of_le h.nab hn,Nat.lt_of_lt_of_le h.nmb hn,h.ne,h.gcs.keep (fun j hj=>hg j (h.gcs.lt hj)) hn,h.csm,es,by rw [hg _ h.nmb]; exact he,hm⟩
theorem iv.new {t:AV} {C:List (List Lk)} {T:Nat→Nat→Nat→Bool→Bool} {ab mb:Nat} {cs:AV} {H:Hp} (h:iv t C T ab mb cs H) (b:Blk):iv t C T ab mb cs (H.new b):=by
 refine h.keep (by simp) fun j hj=>?_
 have:j≠H.n:=by omega
 simp [this]
theorem iv.setN {t:AV} {C:List (List Lk)} {T:Nat→Nat→Nat→Bool→Bool} {ab mb:Nat} {cs:AV} {H0 H:Hp} (h0:iv t C T ab mb cs H0) (h:iv t C T ab mb cs H) {j:Nat} (hj:H0.n≤j) (b:Option Blk):iv t C T ab mb cs (H.set j b):=by
 obtain ⟨es,he,hm⟩:=h.memo
 have a1:=h0.nab
 have a2:=h0.nmb
 have e1:ab≠j:=by omega
 have e2:mb≠j:=by omega
 refine ⟨by simp [e1,h.gab],by simpa using h.nab,by simpa using h.nmb,h.ne,h.gcs.keep (fun i hi=>?_) (by simp),h.csm,es,by simp [e2,he],hm⟩
 have:=h0.gcs.lt hi
 have:i≠j:=by omega
 simp [this]
theorem iv.pure {L:List Nd} {d:List Nat} {C:List (List Lk)} {T:Nat→Nat→Nat→Bool→Bool} {ab mb:Nat} {cs:AV} {H:Hp} (h:iv (eI L d) C T ab mb cs H) {f:Nat} {xs:List AV} {r:AV}
  (hg:az Tryz.prog σ f (.ip (eI L d::[])::xs) Hp.empty r Hp.empty) (hx:aP xs=true) (hr:gS r=true):az Tryz.prog σ f (.ptr ab 0::xs) H r H:=by
 refine hg.frzA (.cons (.ptr (fun _=>eI L d) h.gab (fun j y hj=>?_) (fun j y hj=>?_)) (FzL.refl hx)) hr
 ·have:j=0:=by have:=(List.getElem?_eq_some_iff.1 hj).1; simp at this; omega
  subst this; simp
 ·have:j=0:=by have:=(List.getElem?_eq_some_iff.1 hj).1; simp at this; omega
  subst this
  simp at hj; subst hj
  exact .refl (c6 L d)
theorem xI {t:AV} {C:List (List Lk)} {T:Nat→Nat→Nat→Bool→Bool} {ab mb:Nat} {cs:AV} {H:Hp} (h:iv t C T ab mb cs H) {n i e:Nat} {a:Bool} (hnN:n<C.length) (hk:kOk true qKK (.agg (kS n i e a))=true) {fv:AV} {K:AV→Hp→Prop}
  (how:∀ H1 (K1:AV→Hp→Prop),iv t C T ab mb cs H1→Kp mb H H1→(∀ H2,iv t C T ab mb cs H2→Kp mb H1 H2→K1 (Bo (T n i e a)) H2)→ko Tryz.prog σ fv [] H1 K1)
  (hK:∀ H',iv t C T ab mb cs H'→Kp mb H H'→K (Bo (T n i e a)) H'):ai Tryz.prog σ eA [.ptr ab 0,.agg (kS n i e a),fv] H K:=by
 obtain ⟨es,hes,hm⟩:=h.memo
 have e1:ab≠H.n:=by have:=h.nab; omega
 have e2:mb≠H.n:=by have:=h.nmb; omega
 refine iz.run ?_
 have hl:ldL true 4 (kS n i e a)=some (.agg (kS n i e a)):=rfl
 simp only [d7,gH,aa,bj,Nat.zero_add,bE,aB,e1,if_false,if_true,h.gab,br,List.drop_zero,hl]
 simp only [List.drop,iP,aa,qM,aB,e2,if_false,hes,hk,vL hm,Bool.and_self,cond_true]
 rcases su hm n i e a with hf | hf
 ·rw [hf]
  simp [zk]
  refine how _ _ (h.new _) (Kp.new _ _ _) fun H2 h2 k2=>?_
  obtain ⟨es2,hes2,hm2⟩:=h2.memo
  have hbox:H2.get H.n=some (.cells (kS n i e a) true):=by rw [k2.get H.n (by simp) (Ne.symm e2)]; simp
  simp only [h2.gab,br,List.drop_succ_cons,List.drop_zero,iP,aa,hbox,hl,CH,hes2,hk,vL hm2,yT,Bool.not_false,Bool.and_self,cond_true]
  refine hK _ ?_ ?_
  ·refine ⟨by simp [h2.ne,h2.gab],by simpa using h2.nab,by simpa using h2.nmb,h2.ne,h2.gcs.keep (fun j hj=>?_) (by simp),h2.csm,_,by simp,vS hnN hk hm2⟩
   have:j≠mb:=fun e=>h2.csm (e ▸ hj)
   simp [this]
  ·have:=(Kp.new mb H (.cells (kS n i e a) true)).trans k2
   exact ⟨by simpa using this.up,fun j hj hne=>by simp [hne]; exact this.get j hj hne⟩
 ·rw [hf]
  simp [zk]
  exact hK _ (h.new _) (Kp.new _ _ _)
end Go.Proofs.YthmaggcfghjmfaaGreat.Ev
namespace Go.Proofs.YthmaggcfghjmfaaGreat.Ev
set_option linter.unusedVariables false
set_option linter.unusedSimpArgs false
variable {σ:Sig}
def Gm (c:Cp):Prop:=c.ids.length≤5∧c.classes.length≤5∧c.attrs.length≤5∧c.pseudos.length≤5
def p_:Nat→List Sl→Prop
 | 0,_=>False
 | f+1,l=>∀ s ∈ l,s.length≤60∧∀ p ∈ s,Gm p.c∧∀ q ∈ p.c.pseudos,p_ f q.list
def EX (f:Nat) (s:Sl):Prop:=s.length≤60∧∀ p ∈ s,Gm p.c∧∀ q ∈ p.c.pseudos,p_ f q.list
def Gl (f:Nat) (p:Pt):Prop:=Gm p.c∧∀ q ∈ p.c.pseudos,p_ f q.list
def xH (f:Nat) (l:List Sl) (n:Int):Prop:=0≤n∧n≤200*4 ^ f∧(n≤40→p_ f l)
theorem zr (f:Nat) (hf:f≤10) (ih:∀ l,i6 dF l→∃ n,(∀ H,az Tryz.prog σ d_ [sls l,I ((11 - f:Nat):Int)] H (I n) H)∧xH f l n) (l:List Sl) (hl:i6 dF l) :
  ∃ n,(∀ H,az Tryz.prog σ d_ [sls l,I ((10 - f:Nat):Int)] H (I n) H)∧xH (f+1) l n:=by
 have h4:4 ^ f ≥ 1:=Nat.one_le_pow _ _ (by omega)
 have h4b:4 ^ f≤1048576:=by
  calc 4 ^ f≤4 ^ 10:=Nat.pow_le_pow_right (by omega) hf
   _=1048576:=by decide
 have hpow:(200*4 ^ (f+1):Int)=800*4 ^ f:=by rw [Int.pow_succ]; omega
 have cast4:((4 ^ f:Nat):Int)=(4:Int) ^ f:=by simp
 let K:AV→Hp→Prop:=fun r _=>∃ n,r=I n∧xH (f+1) l n
 have stop:∀ H,K (I 100) H:=fun H=>⟨100,rfl,by omega,by rw [hpow]; omega,fun h=>by omega⟩
 have L0:∀ (d k:Nat) (H:Hp) (n:Int) (y7 y8 y9 y10:AV),l.length - k=d→k≤l.length→0≤n→n≤200*4 ^ (f+1)→(n≤40→∀ s ∈ l.take k,EX f s) →
   aL.L0 σ K (sls l) (I ((10 - f:Nat):Int)) (I n) (I k) y7 y8 y9 y10 H:=by
  intro d
  induction d with
  | zero =>
   intro k H n y7 y8 y9 y10 hd hk hn hn2 hfit
   have e:k=l.length:=by omega
   subst e
   refine aL.L0_step ?_
   simp [sls]
   exact ⟨n,rfl,hn,hn2,fun h=>by simpa [p_,EX] using hfit h⟩
  | succ d ihd =>
   intro k H n y7 y8 y9 y10 hd hk hn hn2 hfit
   have hlt:k<l.length:=by omega
   obtain ⟨s,hs⟩:=cb hlt
   have hsw:=hl.2 s (List.mem_of_getElem? hs)
   have htake:∀ (P:Sl→Prop),(∀ x ∈ l.take k,P x)→P s→∀ x ∈ l.take (k+1),P x:=by
    intro P h1 h2 x hx
    rw [List.take_add_one,hs] at hx
    simp only [Option.toList_some,List.mem_append,List.mem_singleton] at hx
    rcases hx with hx | rfl
    ·exact h1 x hx
    ·exact h2
   have L1:∀ (d2 j:Nat) (H:Hp) (n:Int) (y9 y10:AV),s.length - j=d2→j≤s.length→s.length≤60→0≤n→n≤200*4 ^ (f+1)→(n≤40→(∀ s ∈ l.take k,EX f s)∧∀ p ∈ s.take j,Gl f p) →
     aL.L1 σ K (sls l) (I ((10 - f:Nat):Int)) (I n) (I k) (.imm 6 (s.map bx)) (I j) y9 y10 H:=by
    intro d2
    induction d2 with
    | zero =>
     intro j H n y9 y10 hd2 hj h60 hn hn2 hfit2
     have e:j=s.length:=by omega
     subst e
     refine aL.L1_step ?_
     simp
     rw [cO hlt hl.1]
     exact ihd (k+1) H n _ _ _ _ (by omega) (by omega) hn hn2 fun h=>htake _ (hfit2 h).1 ⟨h60,by simpa [Gl] using (hfit2 h).2⟩
    | succ d2 ihd2 =>
     intro j H n y9 y10 hd2 hj h60 hn hn2 hfit2
     have hjlt:j<s.length:=by omega
     obtain ⟨p,hp⟩:=cb hjlt
     have hpw:=(Pt.wf_iff.1 (hsw.2 p (List.mem_of_getElem? hp))).2
     have htake2:∀ (P:Pt→Prop),(∀ x ∈ s.take j,P x)→P p→∀ x ∈ s.take (j+1),P x:=by
      intro P h1 h2 x hx
      rw [List.take_add_one,hp] at hx
      simp only [Option.toList_some,List.mem_append,List.mem_singleton] at hx
      rcases hx with hx | rfl
      ·exact h1 x hx
      ·exact h2
     have L2:∀ (d3 i:Nat) (H:Hp) (n:Int) (id:Nat),H.get id=some (.cells (bR p.c) true)→p.c.pseudos.length - i=d3→i≤p.c.pseudos.length→Gm p.c→0≤n→n≤200*4 ^ (f+1) →
       (n≤40→(∀ s ∈ l.take k,EX f s)∧(∀ p ∈ s.take j,Gl f p)∧∀ q ∈ p.c.pseudos.take i,p_ f q.list) →
       aL.L2 σ K (sls l) (I ((10 - f:Nat):Int)) (I n) (I k) (.imm 6 (s.map bx)) (I j) (.ptr id 0) (I i) H:=by
      intro d3
      induction d3 with
      | zero =>
       intro i H n id hid hd3 hi hc hn hn2 hfit3
       have e:i=p.c.pseudos.length:=by omega
       subst e
       refine aL.L2_step ?_
       simp [hid,cX]
       rw [cO hjlt hsw.1]
       exact ihd2 (j+1) H n _ _ (by omega) (by omega) h60 hn hn2 fun h=>⟨(hfit3 h).1,htake2 _ (hfit3 h).2.1 ⟨hc,by simpa using (hfit3 h).2.2⟩⟩
      | succ d3 ihd3 =>
       intro i H n id hid hd3 hi hc hn hn2 hfit3
       have hilt:i<p.c.pseudos.length:=by omega
       obtain ⟨q,hq⟩:=cb hilt
       have hqw:=(Ps.wf_iff.1 (hpw.ps q (List.mem_of_getElem? hq))).2.2.2
       obtain ⟨m,hm,hm0,hm1,hm2⟩:=ih q.list hqw
       refine aL.L2_step ?_
       have e1:wr .i64 (((10 - f:Nat):Int)+1)=((11 - f:Nat):Int):=by rw [eh (by omega) (by omega)]; omega
       simp [hid,cX,bS hq,eJ,hilt]
       split
       ·rename_i hlt100
        refine am (by rw [e1]; exact hm H) ?_
        simp only [oE,aa,bN]
        have e2:wr .i64 (3*m)=3*m:=eh (by omega) (by omega)
        have e3:wr .i64 (n+3*m)=n+3*m:=eh (by omega) (by omega)
        rw [e2,e3,cO hilt hpw.psL]
        refine ihd3 (i+1) H (n+3*m) id hid (by omega) (by omega) hc (by omega) (by rw [hpow]; omega) fun h=>?_
        have:=hfit3 (by omega)
        refine ⟨this.1,this.2.1,fun x hx=>?_⟩
        rw [List.take_add_one,hq] at hx
        simp only [Option.toList_some,List.mem_append,List.mem_singleton] at hx
        rcases hx with hx | rfl
        ·exact this.2.2 x hx
        ·exact hm2 (by omega)
       ·rw [cO hjlt hsw.1]
        refine ihd2 (j+1) H n _ _ (by omega) (by omega) h60 hn hn2 fun h=>by omega
     refine aL.L1_step ?_
     simp [bS hp,dm,a8,d6,cX,hjlt]
     split
     ·rename_i hlt100
      have e1:wr .i64 (n+1)=n+1:=eh (by omega) (by omega)
      have e2:wr .i64 (n+1+((10 - f:Nat):Int))=n+1+((10 - f:Nat):Int):=eh (by omega) (by omega)
      simp only [e1,e2]
      split
      ·exact stop Hp.empty
      split
      ·exact stop Hp.empty
      split
      ·exact stop Hp.empty
      split
      ·exact stop Hp.empty
      ·refine L2 _ 0 _ _ H.n ?_ rfl (Nat.zero_le _) ⟨by omega,by omega,by omega,by omega⟩ (by omega) (by rw [hpow]; omega) fun h=>?_
       ·simp [cX]
       ·have:=hfit2 (by omega)
        exact ⟨this.1,this.2,fun x hx=>by simp at hx⟩
     ·rw [cO hlt hl.1]
      exact ihd (k+1) H n _ _ _ _ (by omega) (by omega) hn hn2 fun h=>by omega
   refine aL.L0_step ?_
   simp only [sls]
   simp [bS hs,aU,hlt]
   have go:s.length≤60→∀ H,aL.L1 σ K (.imm 1 (l.map aU)) (I ((10 - f:Nat):Int)) (I n) (I k) (.imm 6 (s.map bx)) (I 0) y9 y10 H :=
    fun h60 H=>L1 _ 0 H n y9 y10 rfl (Nat.zero_le _) h60 hn hn2 fun h=>⟨hfit h,fun x hx=>by simp at hx⟩
   split
   ·split
    ·split
     ·exact stop Hp.empty
     ·split
      ·exact stop Hp.empty
      ·exact go (by omega) _
    ·split
     ·exact stop Hp.empty
     ·exact go (by omega) _
   ·exact ⟨n,rfl,hn,hn2,fun h=>by omega⟩
 have run:∃ r H1,az Tryz.prog σ d_ [sls l,I ((10 - f:Nat):Int)] Hp.empty r H1∧K r H1:=by
  refine aL.run ?_
  simp
  rw [if_neg (by omega)]
  exact L0 _ 0 _ 0 _ _ _ _ rfl (Nat.zero_le _) (by omega) (by rw [hpow]; omega) fun _ x hx=>by simp at hx
 obtain ⟨r,H1,hg,n,rfl,hd⟩:=run
 exact ⟨n,fun H=>hg.over (by simp [aP,bF]) rfl H,hd⟩
theorem ye:∀ (f:Nat),f≤11→∀ (l:List Sl),i6 dF l→∃ n,(∀ H,az Tryz.prog σ d_ [sls l,I ((11 - f:Nat):Int)] H (I n) H)∧xH f l n
 | 0,_,l,hl=>by
  have run:∃ r H1,az Tryz.prog σ d_ [sls l,I ((11 - 0:Nat):Int)] Hp.empty r H1∧r=I 100:=aL.run (by simp)
  obtain ⟨r,H1,hg,rfl⟩:=run
  exact ⟨100,fun H=>hg.over (by simp [aP,bF]) rfl H,by omega,by simp,fun h=>by omega⟩
 | f+1,hf,l,hl=>by
  have:=zr f (by omega) (ye f (by omega)) l hl
  rwa [show 10 - f=11 - (f+1) by omega] at this
theorem FS (l:List Sl) (hl:i6 dF l):∃ b,(∀ H,az Tryz.prog σ ir [sls l] H (Bo b) H)∧(b=false→p_ 11 l):=by
 obtain ⟨n,hn,h0,h1,h2⟩:=ye (σ:=σ) 11 (by omega) l hl
 have run:∃ r H1,az Tryz.prog σ ir [sls l] Hp.empty r H1∧r=Bo (decide (40<n)):=by
  refine nf.run (am (hn _) ?_)
  simp
 obtain ⟨r,H1,hg,rfl⟩:=run
 exact ⟨_,fun H=>hg.over (by simp [aP,bF]) rfl H,fun h=>h2 (by simpa using h)⟩
end Go.Proofs.YthmaggcfghjmfaaGreat.Ev
namespace Go.Proofs.YthmaggcfghjmfaaGreat.Ev
set_option linter.unusedVariables false
set_option linter.unusedSimpArgs false
variable {σ:Sig}
def ee (g:Nat→Bool) (L:List Nd) (k:Int):Nat→Nat→Bool
 | 0,_=>false
 | f+1,e=>decide (0≤cw L e k)&&(g (cw L e k).toNat||(lW k&&ee g L k f (cw L e k).toNat))
def dI (any:List Sl→Nat→Bool) (L:List Nd) (e:Nat) (q:Ps):Bool :=
 if q.kind=1 then decide (par L e<0) else if q.kind=2 then decide (dn L e=1) else if q.kind=3 then mI L e else if q.kind=4 then decide (dn L e=1)&&mI L e
 else if q.kind=5 then decide (ma L e 0<0) else if q.kind=6 then r8 (dn L e) q.a q.b else if q.kind=7 then !any q.list e else if q.kind=8 then any q.list e else false
def lU (any:List Sl→Nat→Bool) (L:List Nd) (e:Nat) (c:Cp):Bool:=pA (ca (cB L e)) c&&c.pseudos.all (dI any L e)
def bQ (any:List Sl→Nat→Bool) (L:List Nd) (s:Sl):Nat→Nat→Bool
 | 0,e=>match s[0]? with
  | some p=>lU any L e p.c
  | none=>false
 | i+1,e=>match s[i+1]? with
  | some p=>lU any L e p.c&&ee (bQ any L s i) L p.comb (e+1) e
  | none=>false
def rV (any:List Sl→Nat→Bool) (L:List Nd) (l:List Sl) (e:Nat):Bool:=l.any fun s=>!decide (s.length=0)&&bQ any L s (s.length - 1) e
def wK (L:List Nd):Nat→List Sl→Nat→Bool
 | 0,_,_=>false
 | f+1,l,e=>rV (wK L f) L l e
def ld:Nat→List Sl→Prop
 | 0,_=>False
 | f+1,l=>∀ s ∈ l,∀ p ∈ s,∀ q ∈ p.c.pseudos,ld f q.list
theorem p_.nest:∀ {f:Nat} {l:List Sl},p_ f l→ld f l
 | 0,l,h=>h
 | f+1,l,h=>fun s hs p hp q hq=>(((h s hs).2 p hp).2 q hq).nest
theorem pL {any any':List Sl→Nat→Bool} {L:List Nd} {c:Cp} (h:∀ q ∈ c.pseudos,∀ e,any q.list e=any' q.list e) (e:Nat):lU any L e c=lU any' L e c:=by
 unfold lU
 congr 1
 rw [Bool.eq_iff_iff,List.all_eq_true,List.all_eq_true]
 have:∀ q ∈ c.pseudos,dI any L e q=dI any' L e q:=fun q hq=>by unfold dI; rw [h q hq]
 exact ⟨fun h q hq=>by rw [← this q hq]; exact h q hq,fun h q hq=>by rw [this q hq]; exact h q hq⟩
theorem od {g g':Nat→Bool} {L:List Nd} {k:Int} (h:∀ e,g e=g' e):∀ (f e:Nat),ee g L k f e=ee g' L k f e
 | 0,e=>rfl
 | f+1,e=>by unfold ee; rw [h,od h f]
theorem oI {any any':List Sl→Nat→Bool} {L:List Nd} {s:Sl} (h:∀ p ∈ s,∀ q ∈ p.c.pseudos,∀ e,any q.list e=any' q.list e):∀ (i e:Nat),bQ any L s i e=bQ any' L s i e
 | 0,e=>by
  unfold bQ
  cases hs:s[0]? with
  | none=>rfl
  | some p=>exact pL (h p (List.mem_of_getElem? hs)) e
 | i+1,e=>by
  unfold bQ
  cases hs:s[i+1]? with
  | none=>rfl
  | some p =>
   simp only
   rw [pL (h p (List.mem_of_getElem? hs)) e,od (oI h i)]
theorem vW {any any':List Sl→Nat→Bool} {L:List Nd} {l:List Sl} (h:∀ s ∈ l,∀ p ∈ s,∀ q ∈ p.c.pseudos,∀ e,any q.list e=any' q.list e) (e:Nat):rV any L l e=rV any' L l e:=by
 unfold rV
 rw [Bool.eq_iff_iff,List.any_eq_true,List.any_eq_true]
 have:∀ s ∈ l,(!decide (s.length=0)&&bQ any L s (s.length - 1) e)=(!decide (s.length=0)&&bQ any' L s (s.length - 1) e):=fun s hs=>by rw [oI (h s hs)]
 exact ⟨fun ⟨s,hs,h⟩=>⟨s,hs,by rw [← this s hs]; exact h⟩,fun ⟨s,hs,h⟩=>⟨s,hs,by rw [this s hs]; exact h⟩⟩
theorem pw {L:List Nd}:∀ (f g:Nat) (l:List Sl) (e:Nat),ld f l→f≤g→wK L g l e=wK L f l e
 | 0,g,l,e,h,_=>h.elim
 | f+1,0,l,e,h,hfg=>by omega
 | f+1,g+1,l,e,h,hfg=>by
  unfold wK
  exact vW (fun s hs p hp q hq e=>pw f g q.list e (h s hs p hp q hq) (by omega)) e
def AA (L:List Nd):List Sl→Nat→Bool:=wK L 12
theorem AP {L:List Nd} {f:Nat} {l:List Sl} (h:ld f l) (hf:f≤12) (e:Nat):rV (AA L) L l e=AA L l e:=by
 show wK L 13 l e=wK L 12 l e
 rw [pw f 13 l e h (by omega),pw f 12 l e h hf]
def nE (C:List (List Lk)) (n:Nat):Sl:=(C.getD n []).map (·.part)
def Tru (L:List Nd) (C:List (List Lk)) (n i e:Nat):Bool→Bool
 | false=>bQ (AA L) L (nE C n) i e
 | true=>match (nE C n)[i]? with
  | some p=>ee (bQ (AA L) L (nE C n) (i - 1)) L p.comb (e+1) e
  | none=>false
def vd (R:List Sl→List Nat→Prop) (C:List (List Lk)) (s:Sl) (n:Nat):Prop :=
 ∃ c,C[n]?=some c∧c.map (·.part)=s∧∀ (k:Nat) (x:Lk),c[k]?=some x→x.lists.length=x.part.c.pseudos.length∧∀ (j:Nat) (q:Ps) (ns:List Nat),x.part.c.pseudos[j]?=some q→x.lists[j]?=some ns→R q.list ns
def Rep (C:List (List Lk)):Nat→List Sl→List Nat→Prop
 | 0,_,_=>False
 | f+1,l,ns=>ns.length=l.length∧∀ (i:Nat) (s:Sl) (n:Nat),l[i]?=some s→ns[i]?=some n→vd (Rep C f) C s n
theorem vd.sel {R:List Sl→List Nat→Prop} {C:List (List Lk)} {s:Sl} {n:Nat} (h:vd R C s n):nE C n=s:=by
 obtain ⟨c,hc,hs,_⟩:=h
 unfold nE
 rw [List.getD_eq_getElem?_getD,hc]
 exact hs
structure GR (x:Lk):Prop where
 c:tE x.part.c
 ps:∀ q ∈ x.part.c.pseudos,i64 q.a∧i64 q.b
 ls:∀ l ∈ x.lists,l.length≤reachBytes
structure Mc (σ:Sig) (L:List Nd) (d:List Nat) (C:List (List Lk)):Prop where
 hC:nP σ
 hB:cH L L.length d
 hN:L.length≤4096
 sm:∀ e,e<L.length→SmN (ca (cB L e))
 cl:C.length≤reachBytes
 ll:∀ c ∈ C,c.length≤reachBytes
 lk:∀ c ∈ C,∀ x ∈ c,GR x
theorem Gs.ld1 {H:Hp} {x v:AV} {rows:List (List AV)} {n:Nat} (h:Gs 1 H x rows) (hn:rows[n]?=some [v]):∃ p,aJ 1 x (I (n:Int))=some p∧ldA false 1 H p=some v:=by
 have hlt:=(List.getElem?_eq_some_iff.1 hn).1
 cases h with
 | nil=>simp at hlt
 | sl hl hg hsz =>
  rename_i id ex
  refine ⟨.ptr id (0+(n:Int).toNat*1),oH (by omega) (by omega),?_⟩
  have:=kN hsz hlt
  rw [List.getElem?_eq_getElem hlt] at hn
  rw [Option.some.inj hn] at this
  simp [hg]
  rw [Nat.mul_one] at this
  rw [this]
  simp
section
variable {L:List Nd} {d:List Nat} {C:List (List Lk)}
def rX (σ:Sig) (L:List Nd) (d:List Nat) (C:List (List Lk)) (f:Nat) (xs:List AV) (b:Bool):Prop :=
 ∀ (ab mb:Nat) (cs:AV) (H:Hp) (K:AV→Hp→Prop),iv (eI L d) C (Tru L C) ab mb cs H→(∀ H',iv (eI L d) C (Tru L C) ab mb cs H'→Kp mb H H'→K (Bo b) H')→ai Tryz.prog σ f (.ptr ab 0::xs) H K
theorem rX.pure {f:Nat} {xs:List AV} {b:Bool} (h:∀ H,az Tryz.prog σ f (.ip (eI L d::[])::xs) H (Bo b) H) (hx:aP xs=true):rX σ L d C f xs b :=
 fun ab mb cs H K hA hK=>am (hA.pure (h Hp.empty) hx rfl) (hK H hA (.refl _ _))
def rE (σ:Sig) (L:List Nd) (d:List Nat) (C:List (List Lk)) (f:Nat):Prop:=∀ (l:List Sl) (ns:List Nat),Rep C f l ns→ld f l→f≤12→ns.length≤reachBytes→∀ e,e<L.length→rX σ L d C dS [I (e:Int),kU ns] (AA L l e)
theorem yw (M:Mc σ L d C) {f:Nat} (hA:rE σ L d C f) (hf:f≤12) {q:Ps} (hq:i64 q.a∧i64 q.b) {ns:List Nat} (hr:(q.kind=7∨q.kind=8)→Rep C f q.list ns) (hnest:(q.kind=7∨q.kind=8)→ld f q.list) (hns:ns.length≤reachBytes) {e:Nat} (he:e<L.length) :
  rX σ L d C eV [I (e:Int),.agg (bv q),kU ns] (dI (AA L) L e q):=by
 intro ab mb cs H K hA0 hK
 have hpar:=my M.hB he
 have hpl:=qW L e
 have e1:ab≠H.n:=by have:=hA0.nab; omega
 have a1:=hA0.new (.cells (bv q) true)
 have k1:=Kp.new mb H (.cells (bv q) true)
 refine gP.run ?_
 simp [eJ,e1,hA0.gab]
 have e2:∀ Ks:AV→Hp→Prop,Ks=Ks:=fun _=>rfl
 unfold dI at hK
 have hH:Hp.new H (.cells [I q.kind,I q.a,I q.b,.imm 1 (q.list.map aU)] true)=Hp.new H (.cells (bv q) true):=by rw [eJ]
 rw [hH]
 obtain ⟨H1,hH1⟩:∃ H1,H1=H.new (.cells (bv q) true):=⟨_,rfl⟩
 have gq:H1.get H.n=some (.cells [I q.kind,I q.a,I q.b,.imm 1 (q.list.map aU)] true):=by rw [hH1,← eJ]; simp
 rw [← hH1] at a1 k1 ⊢
 have pur:∀ {g:Nat} {xs:List AV} {b:Bool},(∀ H,az Tryz.prog σ g (.ip (eI L d::[])::xs) H (Bo b) H)→aP xs=true→az Tryz.prog σ g (.ptr ab 0::xs) H1 (Bo b) H1:=fun h hx=>a1.pure (h Hp.empty) hx rfl
 split
 ·rename_i h
  rw [if_pos h] at hK
  refine am (o3 L d M.hN he _) ?_
  simpa using hK H1 a1 k1
 rename_i h1
 rw [if_neg h1] at hK
 split
 ·rename_i h
  rw [if_pos h] at hK
  refine am (oq L d M.hN he _) ?_
  simpa using hK H1 a1 k1
 rename_i h2
 rw [if_neg h2] at hK
 split
 ·rename_i h
  rw [if_pos h] at hK
  exact am (pur (fun H=>u4 M.hB M.hN he [] rfl H) rfl) (hK H1 a1 k1)
 rename_i h3
 rw [if_neg h3] at hK
 split
 ·rename_i h
  rw [if_pos h] at hK
  refine am (oq L d M.hN he _) ?_
  simp
  split
  ·rename_i hp
   simp [hp] at hK
   exact am (pur (fun H=>u4 M.hB M.hN he [] rfl H) rfl) (hK H1 a1 k1)
  ·rename_i hp
   simp [hp] at hK
   exact hK H1 a1 k1
 rename_i h4
 rw [if_neg h4] at hK
 split
 ·rename_i h
  rw [if_pos h] at hK
  have:=uI (σ:=σ) L d M.hN (k:=0) he
  refine am (this _) ?_
  simpa using hK H1 a1 k1
 rename_i h5
 rw [if_neg h5] at hK
 split
 ·rename_i h
  rw [if_pos h] at hK
  refine am (oq L d M.hN he _) ?_
  simp [gq]
  refine am (HW ?_ hq.1 hq.2 _) (hK H1 a1 k1)
  have:=M.hN
  unfold i64
  omega
 rename_i h6
 rw [if_neg h6] at hK
 split
 ·rename_i h
  rw [if_pos h] at hK
  refine hA q.list ns (hr (.inl h)) (hnest (.inl h)) hf hns e he ab mb cs H1 _ a1 fun H2 a2 k2=>?_
  simp
  exact hK H2 a2 (k1.trans k2)
 rename_i h7
 rw [if_neg h7] at hK
 split
 ·rename_i h
  rw [if_pos h] at hK
  exact hA q.list ns (hr (.inr h)) (hnest (.inr h)) hf hns e he ab mb cs H1 _ a1 fun H2 a2 k2=>hK H2 a2 (k1.trans k2)
 ·rename_i h
  rw [if_neg h] at hK
  exact hK H1 a1 k1
theorem Mj (x:Lk):ldL true 5 ((eo x).drop 1)=some (.agg (bR x.part.c)):=by
 have e:(eo x).drop 1=bR x.part.c++[.imm 1 (x.lists.map fun l=>[kU l])]:=by
  unfold eo; rw [d6]; rfl
 rw [e,F5 (by simp)]
 rw [List.take_append_of_le_length (by simp),List.take_of_length_le (by simp)]
theorem Lh (x:Lk):ldL false 1 ((eo x).drop 5)=some (.imm 4 (x.part.c.pseudos.map bv)):=by
 unfold eo; rw [d6,cX]; rfl
theorem KU (x:Lk):ldL false 1 ((eo x).drop 6)=some (.imm 1 (x.lists.map fun l=>[kU l])):=by
 unfold eo; rw [d6,cX]; rfl
theorem EW (x:Lk):ldL false 1 (eo x)=some (I x.part.comb):=by
 unfold eo; rw [d6]; rfl
section
attribute [local irreducible] bp.L0
theorem uz (M:Mc σ L d C) {f:Nat} (hA:rE σ L d C f) (hf:f≤12) {x:Lk} (hx:GR x) (hl:x.lists.length=x.part.c.pseudos.length) (hr:∀ (j:Nat) (q:Ps) (ns:List Nat),x.part.c.pseudos[j]?=some q→x.lists[j]?=some ns→Rep C f q.list ns) (hn:∀ q ∈ x.part.c.pseudos,ld f q.list) {e:Nat} (he:e<L.length) :
  rX σ L d C ed [I (e:Int),.agg (eo x)] (lU (AA L) L e x.part.c):=by
 intro ab mb cs H K hA0 hK
 have a1:=hA0.new (.cells (eo x) true)
 have k1:=Kp.new mb H (.cells (eo x) true)
 have hml:mb≠H.n:=by have:=hA0.nmb; omega
 have hm1:mb<H.n:=hA0.nmb
 have hps:=hx.c.ps
 have L0:∀ (m k:Nat) (H1:Hp),x.part.c.pseudos.length - m=k→m≤x.part.c.pseudos.length→iv (eI L d) C (Tru L C) ab mb cs H1→Kp mb (H.new (.cells (eo x) true)) H1 →
   (∀ H',iv (eI L d) C (Tru L C) ab mb cs H'→Kp mb H H'→K (Bo ((x.part.c.pseudos.drop m).all (dI (AA L) L e))) H')→bp.L0 σ K (.ptr ab 0) (I (e:Int)) (.ptr H.n 0) (.imm 4 (x.part.c.pseudos.map bv)) (I x.part.c.pseudos.length) (I m) H1:=by
  intro m k
  revert m
  induction k with
  | zero =>
   intro m H1 hk hm h1 kp hK
   have:m=x.part.c.pseudos.length:=by omega
   subst this
   refine bp.L0_step ?_
   simp
   simpa using hK H1 h1 (k1.trans kp)
  | succ k ih =>
   intro m H1 hk hm h1 kp hK
   have hlt:m<x.part.c.pseudos.length:=by omega
   obtain ⟨q,hq⟩:=cb hlt
   obtain ⟨ns,hns⟩:=cb (l:=x.lists) (k:=m) (by omega)
   have hqm:=List.mem_of_getElem? hq
   rw [cm hq] at hK
   have hlt':(m:Int)<x.part.c.pseudos.length:=by omega
   have gx:H1.get H.n=some (.cells (eo x) true):=by rw [kp.get H.n (by simp) (Ne.symm hml)]; simp
   have hup:=kp.up
   simp at hup
   have n1:H.n≠H1.n:=by omega
   refine bp.L0_step ?_
   have hls:aJ 1 (.imm 1 (x.lists.map fun l=>[kU l])) (I (m:Int))=some (.ip [kU ns]):=by
    have:=bS (f:=fun l:List Nat=>[kU l]) (sz:=1) hns
    exact this
   simp only [bA,hlt',decide_true,aa,ah,if_true,bS hq,e8,pe,bw]
   have hst:stA 4 (H1.new (.cells [I 0,I 0,I 0,.lit (.slice none 0 0)] true)) (.ptr H1.n 0) (.agg (bv q))=some ((H1.new (.cells [I 0,I 0,I 0,.lit (.slice none 0 0)] true)).set H1.n (some (.cells (bv q) true))):=by
    simp
    rw [yq q (by simp)]
   rw [hst,aa]
   simp only [bE,ay,if_true,br,List.drop_zero,pe,aa,bj,Nat.zero_add,n1,if_false,aB,gx,KU]
   rw [hls,aa]
   simp only [e8,iP,aa]
   have a2:=h1.setN (h1.new (.cells [I 0,I 0,I 0,.lit (.slice none 0 0)] true)) (Nat.le_refl H1.n) (some (.cells (bv q) true))
   have k2:=(Kp.new mb H1 (.cells [I 0,I 0,I 0,.lit (.slice none 0 0)] true)).setN (Nat.le_refl H1.n) (some (.cells (bv q) true))
   refine yw M hA hf (hx.ps q hqm) (fun _=>hr m q ns hq hns) (fun _=>hn q hqm) (hx.ls ns (List.mem_of_getElem? hns)) he ab mb cs _ _ a2 fun H2 a3 k3=>?_
   simp only [dQ,aa,ah]
   cases hb:dI (AA L) L e q with
   | false =>
    simp [hb] at hK
    simp
    exact hK H2 a3 (k1.trans (kp.trans (k2.trans k3)))
   | true =>
    simp [hb] at hK
    simp
    rw [cO hlt hps (by decide)]
    exact ih (m+1) H2 (by omega) (by omega) a3 (kp.trans (k2.trans k3)) (by simpa using hK)
 refine bp.run ?_
 simp only [d7,bj,Nat.zero_add,bE,aB,if_true,br,Mj,aa]
 refine am (a1.pure (BL M.hC M.hN he (M.sm e he) hx.c [] rfl Hp.empty) (by simp [aP,bF,mJ]) rfl) ?_
 simp only [dQ,aa,ah]
 unfold lU at hK
 cases hb:pA (ca (cB L e)) x.part.c with
 | false =>
  simp [hb] at hK
  simp
  exact hK _ a1 k1
 | true =>
  simp [hb] at hK
  simp [Lh]
  exact L0 0 _ _ rfl (Nat.zero_le _) a1 (.refl _ _) (by simpa using hK)
end
theorem sp (M:Mc σ L d C) {e:Nat} (he:e<L.length) (k:Int):cw L e k<e:=by
 unfold cw
 split
 ·rcases my M.hB he with h | ⟨p,h,hp⟩
  ·omega
  ·omega
 ·split
  ·unfold eD ou
   cases h:(oO L e).getLast? with
   | none=>simp<;>omega
   | some j =>
    have:=List.mem_of_getLast? h
    unfold oO at this
    simp only [List.mem_filter,List.mem_range] at this
    simp; omega
  ·omega
theorem zo (M:Mc σ L d C) {e:Nat} (he:e<L.length) (k:Int):-1≤cw L e k:=by
 unfold cw
 split
 ·rcases my M.hB he with h | ⟨p,h,hp⟩
  ·omega
  ·omega
 ·split
  ·unfold eD ou
   cases h:(oO L e).getLast? with
   | none=>simp
   | some j=>simp<;>omega
  ·omega
theorem pU (M:Mc σ L d C) (g:Nat→Bool) (k:Int):∀ (f f' e:Nat),e<L.length→e<f→e<f'→ee g L k f e=ee g L k f' e
 | 0,f',e,_,h,_=>by omega
 | f+1,0,e,_,_,h=>by omega
 | f+1,f'+1,e,he,h1,h2=>by
  unfold ee
  have:=sp M he k
  by_cases h:0≤cw L e k
  ·rw [pU M g k f f' _ (by omega) (by omega) (by omega)]
  ·simp [h]
theorem vn (M:Mc σ L d C) {ab mb:Nat} {cs:AV} {H:Hp} (hA:iv (eI L d) C (Tru L C) ab mb cs H) {n i:Nat} {c:List Lk} {x:Lk} (hc:C[n]?=some c) (hx:c[i]?=some x) :
  ∃ p,aJ 1 cs (I (n:Int))=some p∧ldA false 1 H p=some (jp c)∧aJ 7 (jp c) (I (i:Int))=some (.ip (eo x)):=by
 obtain ⟨p,h1,h2⟩:=hA.gcs.ld1 (n:=n) (v:=jp c) (by rw [List.getElem?_map,hc]; rfl)
 exact ⟨p,h1,h2,bS hx⟩
theorem yc (M:Mc σ L d C) {f:Nat} (hA:rE σ L d C f) (hf:f≤12) {n:Nat} {s:Sl} (hr:vd (Rep C f) C s n) (hn:∀ p ∈ s,∀ q ∈ p.c.pseudos,ld f q.list) (hn9:n<9000000000000000000) (i:Nat) (hi:i<s.length) (hi9:i<9000000000000000000)
  (hah:i≠0→∀ e,e<L.length→rX σ L d C dr [I (n:Int),I (i:Int),I (e:Int)] (Tru L C n i e true)) (e:Nat) (he:e<L.length) :
  rX σ L d C dx [I (n:Int),I (i:Int),I (e:Int)] (Tru L C n i e false):=by
 intro ab mb cs H K hA0 hK
 obtain ⟨c,hc,hcs,hcl⟩:=hr
 have hsel:nE C n=s:=vd.sel ⟨c,hc,hcs,hcl⟩
 obtain ⟨x,hx⟩:=cb (l:=c) (k:=i) (by rw [← List.length_map (f:=(·.part)),hcs]; exact hi)
 have hcm:=List.mem_of_getElem? hc
 have hxm:=List.mem_of_getElem? hx
 have hlk:=M.lk c hcm x hxm
 obtain ⟨hl1,hl2⟩:=hcl i x hx
 have hsx:s[i]?=some x.part:=by rw [← hcs,List.getElem?_map,hx]; rfl
 have hbx:∀ (v:AV) (H:Hp) (K:AV→Hp→Prop),v.isAny=false→v.cells=[v]→eR v H K=K (.ptr H.n 0) (H.new (.cells [v] true)):=fun v H K h1 h2=>qn h1 h2 H K
 have tr:Tru L C n i e false=(lU (AA L) L e x.part.c&&(decide (i=0)||Tru L C n i e true)):=by
  unfold Tru
  simp only [hsel]
  cases i with
  | zero=>unfold bQ; simp [hsx]
  | succ i=>rw [bQ]; simp [hsx]
 refine jQ.run ?_
 rw [hbx _ _ _ rfl rfl,hbx _ _ _ rfl rfl,hbx _ _ _ rfl rfl,hbx _ _ _ rfl rfl]
 obtain ⟨H4,hH4⟩:∃ H4,H4=(((H.new (.cells [.ptr ab 0] true)).new (.cells [I (n:Int)] true)).new (.cells [I (i:Int)] true)).new (.cells [I (e:Int)] true):=⟨_,rfl⟩
 have a4:iv (eI L d) C (Tru L C) ab mb cs H4:=by rw [hH4]; exact (((hA0.new _).new _).new _).new _
 have k4:Kp mb H H4:=by rw [hH4]; exact (((Kp.new mb H _).trans (Kp.new mb _ _)).trans (Kp.new mb _ _)).trans (Kp.new mb _ _)
 have q1:¬ (H.n=H.n+1+1+1):=by omega
 have q2:¬ (H.n=H.n+1+1):=by omega
 have q3:¬ (H.n+1=H.n+1+1+1):=by omega
 have g0:H4.get H.n=some (.cells [.ptr ab 0] true):=by rw [hH4]; simp [q1,q2]
 have g1:H4.get (H.n+1)=some (.cells [I (n:Int)] true):=by rw [hH4]; simp [q3]
 have g2:H4.get (H.n+1+1)=some (.cells [I (i:Int)] true):=by rw [hH4]; simp
 have g3:H4.get (H.n+1+1+1)=some (.cells [I (e:Int)] true):=by rw [hH4]; simp
 have n4:H4.n=H.n+4:=by rw [hH4]; rfl
 rw [← hH4]
 simp only [Hp.n_new]
 rw [ld2 g0,aa,ld2 g1,aa,ld2 g2,aa,ld2 g3,aa]
 have hb:bi [I 0,I 0,I 0,.lit (.bool false)] [(0,1,I (n:Int)),(1,1,I (i:Int)),(2,1,I (e:Int)),(3,1,Bo false)]=some (kS n i e false):=rfl
 rw [hb,aa]
 have mbl:=hA0.nmb
 refine xI (n:=n) (i:=i) (e:=e) (a:=false) a4 (List.getElem?_eq_some_iff.1 hc).1 rfl (fun H1 K1 h1 kp1 hK1=>?_) (fun H' h' kp'=>hK H' h' (k4.trans kp'))
 have keep:∀ {H2:Hp},Kp mb H4 H2→∀ {j:Nat} {v:AV},H.n≤j→j<H.n+4→H4.get j=some (.cells [v] true)→H2.get j=some (.cells [v] true):=fun kp j v h1 h2 hg=>by rw [kp.get j (by omega) (by omega)]; exact hg
 rw [sQ,List.nil_append]
 refine iH.run ?_
 obtain ⟨p,c1,c2,c3⟩:=vn M h1 hc hx
 have hlx:ldL true 7 (eo x)=some (.agg (eo x)):=dm (JF x)
 have hcab:ldA false 1 H1 (.ptr ab 1)=some cs:=by simp [h1.gab]
 rw [ld2 (keep kp1 (by omega) (by omega) g0),aa,ld2 (keep kp1 (by omega) (by omega) g3),aa,aa,gH,aa,bj,aa,hcab,aa,ld2 (keep kp1 (by omega) (by omega) g1),aa,c1,aa,c2,aa,ld2 (keep kp1 (by omega) (by omega) g2),aa,c3,aa,e8,hlx,aa]
 refine uz M hA hf hlk hl1 hl2 (hn x.part (List.mem_of_getElem? hsx)) he ab mb cs H1 _ h1 fun H2 h2 kp2=>?_
 simp only [ah]
 rw [tr] at hK1
 cases hcb:lU (AA L) L e x.part.c with
 | false =>
  simp [hcb] at hK1
  simp
  exact hK1 H2 h2 kp2
 | true =>
  simp [hcb] at hK1
  simp only [if_true]
  have kp12:=kp1.trans kp2
  rw [ld2 (keep kp12 (by omega) (by omega) g2),aa,bD,aa]
  simp only [ah,decide_eq_true_eq]
  split
  ·rename_i h0
   have h0':i=0:=by omega
   simp [h0'] at hK1
   exact hK1 H2 h2 kp2
  ·rename_i h0
   have h0':i≠0:=by omega
   simp [h0'] at hK1
   rw [ld2 (keep kp12 (by omega) (by omega) g0),aa,ld2 (keep kp12 (by omega) (by omega) g1),aa,aa,ld2 (keep kp12 (by omega) (by omega) g3),aa]
   exact hah h0' e he ab mb cs H2 _ h2 fun H3 h3 kp3=>hK1 H3 h3 (kp2.trans kp3)
theorem vV (M:Mc σ L d C) {n:Nat} {c:List Lk} (hc:C[n]?=some c) (hn9:n<9000000000000000000) {i:Nat} {x:Lk} (hx:c[i+1]?=some x) (hi9:i+1<9000000000000000000)
  (hsx:(nE C n)[i+1]?=some x.part) (his:∀ e,e<L.length→rX σ L d C dx [I (n:Int),I (i:Int),I (e:Int)] (Tru L C n i e false)) :
  ∀ (m e:Nat),e<m→e<L.length→rX σ L d C dr [I (n:Int),I ((i+1:Nat):Int),I (e:Int)] (Tru L C n (i+1) e true):=by
 intro m
 induction m with
 | zero=>intro e h; omega
 | succ m ih =>
  intro e hem he ab mb cs H K hA0 hK
  have hlt:=sp M he x.part.comb
  have hge:=zo M he x.part.comb
  have trE:∀ e,e<L.length→Tru L C n (i+1) e true=ee (bQ (AA L) L (nE C n) i) L x.part.comb (e+1) e:=fun e he=>by
   unfold Tru
   simp only [hsx,Nat.add_sub_cancel]
  have tr:Tru L C n (i+1) e true=(decide (0≤cw L e x.part.comb)&&(Tru L C n i (cw L e x.part.comb).toNat false||(lW x.part.comb&&Tru L C n (i+1) (cw L e x.part.comb).toNat true))):=by
   rw [trE e he]
   by_cases h:0≤cw L e x.part.comb
   ·rw [trE _ (by omega),ee]
    rw [pU M (bQ (AA L) L (nE C n) i) x.part.comb e ((cw L e x.part.comb).toNat+1) (cw L e x.part.comb).toNat (by omega) (by omega) (by omega)]
    rfl
   ·rw [ee]; simp [h]
  have hbx:∀ (v:AV) (H:Hp) (K:AV→Hp→Prop),v.isAny=false→v.cells=[v]→eR v H K=K (.ptr H.n 0) (H.new (.cells [v] true)):=fun v H K h1 h2=>qn h1 h2 H K
  refine ic.run ?_
  rw [hbx _ _ _ rfl rfl,hbx _ _ _ rfl rfl,hbx _ _ _ rfl rfl]
  obtain ⟨H3,hH3⟩:∃ H3,H3=((H.new (.cells [.ptr ab 0] true)).new (.cells [I (n:Int)] true)).new (.cells [I ((i+1:Nat):Int)] true):=⟨_,rfl⟩
  have a3:iv (eI L d) C (Tru L C) ab mb cs H3:=by rw [hH3]; exact ((hA0.new _).new _).new _
  have k3:Kp mb H H3:=by rw [hH3]; exact ((Kp.new mb H _).trans (Kp.new mb _ _)).trans (Kp.new mb _ _)
  have q2:¬ (H.n=H.n+1+1):=by omega
  have g0:H3.get H.n=some (.cells [.ptr ab 0] true):=by rw [hH3]; simp [q2]
  have g1:H3.get (H.n+1)=some (.cells [I (n:Int)] true):=by rw [hH3]; simp
  have g2:H3.get (H.n+1+1)=some (.cells [I ((i+1:Nat):Int)] true):=by rw [hH3]; simp
  have n3:H3.n=H.n+1+1+1:=by rw [hH3]; rfl
  rw [← hH3]
  simp only [Hp.n_new]
  obtain ⟨p,c1,c2,c3⟩:=vn M a3 hc hx
  have hcab:ldA false 1 H3 (.ptr ab 1)=some cs:=by simp [a3.gab]
  rw [ld2 g0,aa,aa,gH,aa,bj,aa,hcab,aa,ld2 g1,aa,c1,aa,c2,aa,ld2 g2,aa,c3,aa,nU,aa,List.drop_zero,nU,aa,List.drop_zero,e8,EW,aa]
  refine am (a3.pure (yN M.hN he x.part.comb [] rfl Hp.empty) rfl (by simp [gS,iN])) ?_
  simp only [oz,List.getElem?_cons_zero,List.getElem?_cons_succ,aa,bw,Hp.n_new]
  obtain ⟨H5,hH5⟩:∃ H5,H5=(((H3.new (.cells [I 0] true)).new (.cells [Bo false] true)).set H3.n (some (.cells [I (cw L e x.part.comb)] true))).set (H3.n+1) (some (.cells [Bo (lW x.part.comb)] true)):=⟨_,rfl⟩
  have s1:stA 1 ((H3.new (.cells [I 0] true)).new (.cells [Bo false] true)) (.ptr H3.n 0) (I (cw L e x.part.comb))=some (((H3.new (.cells [I 0] true)).new (.cells [Bo false] true)).set H3.n (some (.cells [I (cw L e x.part.comb)] true))):=by simp
  have s2:stA 1 (((H3.new (.cells [I 0] true)).new (.cells [Bo false] true)).set H3.n (some (.cells [I (cw L e x.part.comb)] true))) (.ptr (H3.n+1) 0) (Bo (lW x.part.comb))=some H5:=by rw [hH5]; simp
  rw [s1,aa,s2,aa]
  have a5:iv (eI L d) C (Tru L C) ab mb cs H5:=by
   rw [hH5]
   exact a3.setN (a3.setN ((a3.new _).new _) (Nat.le_refl _) _) (by omega) _
  have k5:Kp mb H3 H5:=by
   rw [hH5]
   exact ((((Kp.new mb H3 _).trans (Kp.new mb _ _))).setN (Nat.le_refl _) _).setN (by omega) _
  have mbl:=hA0.nmb
  have n5:H5.n=H.n+1+1+1+1+1:=by rw [hH5]; simp [n3]
  have r0:H5.get H.n=some (.cells [.ptr ab 0] true):=by rw [k5.get _ (by omega) (by omega)]; exact g0
  have r1:H5.get (H.n+1)=some (.cells [I (n:Int)] true):=by rw [k5.get _ (by omega) (by omega)]; exact g1
  have r2:H5.get (H.n+1+1)=some (.cells [I ((i+1:Nat):Int)] true):=by rw [k5.get _ (by omega) (by omega)]; exact g2
  have r3:H5.get H3.n=some (.cells [I (cw L e x.part.comb)] true):=by rw [hH5]; simp
  have r4:H5.get (H3.n+1)=some (.cells [Bo (lW x.part.comb)] true):=by rw [hH5]; simp
  clear hH5 s1 s2
  rw [ld2 r3,aa,fl,aa]
  simp only [ah,decide_eq_true_eq]
  rw [tr] at hK
  split
  ·rename_i h0
   rw [ld2 r0,aa,ld2 r1,aa,ld2 r2,aa]
   have hb:bi [I 0,I 0,I 0,.lit (.bool false)] [(0,1,I (n:Int)),(1,1,I ((i+1:Nat):Int)),(2,1,I (e:Int)),(3,1,Bo true)]=some (kS n (i+1) e true):=rfl
   rw [hb,aa]
   refine xI (n:=n) (i:=i+1) (e:=e) (a:=true) a5 (List.getElem?_eq_some_iff.1 hc).1 rfl (fun H1 K1 h1 kp1 hK1=>?_) (fun H' h' kp'=>?_)
   ·have keep:∀ {H2:Hp},Kp mb H5 H2→∀ {j:Nat} {v:AV},H.n≤j→j<H.n+5→H5.get j=some (.cells [v] true)→H2.get j=some (.cells [v] true):=fun kp j v h1 h2 hg=>by rw [kp.get j (by omega) (by omega)]; exact hg
    obtain ⟨x',hx'⟩:∃ k:Nat,cw L e x.part.comb=k:=⟨(cw L e x.part.comb).toNat,by omega⟩
    rw [tr,hx'] at hK1
    rw [hx'] at r3 hlt
    simp only [Int.toNat_natCast] at hK1
    rw [sQ,List.nil_append]
    refine gC.run ?_
    have e1:wr .i64 (((i+1:Nat):Int) - 1)=(i:Int):=by rw [eh (by omega) (by omega)]; omega
    rw [ld2 (keep kp1 (by omega) (by omega) r0),aa,ld2 (keep kp1 (by omega) (by omega) r1),aa,ld2 (keep kp1 (by omega) (by omega) r2),aa,ik,aa,e1,ld2 (keep kp1 (by omega) (by omega) r3),aa]
    refine his x' (by omega) ab mb cs H1 _ h1 fun H2 h2 kp2=>?_
    simp only [ah]
    have kp12:=kp1.trans kp2
    have h0':(0:Int)≤(x':Int):=by omega
    cases hf:Tru L C n i x' false with
    | true =>
     simp [hf,h0'] at hK1
     simp
     exact hK1 H2 h2 kp2
    | false =>
     simp [hf,h0'] at hK1
     simp only [Bool.false_eq_true,if_false]
     rw [ld2 (keep kp12 (by omega) (by omega) r4),aa]
     simp only [ah]
     cases hfar:lW x.part.comb with
     | false =>
      simp [hfar] at hK1
      simp
      exact hK1 H2 h2 kp2
     | true =>
      simp [hfar] at hK1
      simp only [if_true]
      rw [ld2 (keep kp12 (by omega) (by omega) r0),aa,ld2 (keep kp12 (by omega) (by omega) r1),aa,ld2 (keep kp12 (by omega) (by omega) r2),aa,ld2 (keep kp12 (by omega) (by omega) r3),aa]
      exact ih x' (by omega) (by omega) ab mb cs H2 _ h2 fun H3' h3 kp3=>hK1 H3' h3 (kp2.trans kp3)
   ·rw [← tr] at hK
    exact hK H' h' (k3.trans (k5.trans kp'))
  ·rename_i h0
   have:decide (0≤cw L e x.part.comb)=false:=by simpa using h0
   rw [this,Bool.false_and] at hK
   exact hK H5 a5 (k3.trans k5)
theorem HJ (M:Mc σ L d C) {f:Nat} (hA:rE σ L d C f) (hf:f≤12) {n:Nat} {s:Sl} (hr:vd (Rep C f) C s n) (hn:∀ p ∈ s,∀ q ∈ p.c.pseudos,ld f q.list) (hn9:n<9000000000000000000):∀ (i:Nat),i<s.length→i<9000000000000000000→∀ e,e<L.length →
  rX σ L d C dx [I (n:Int),I (i:Int),I (e:Int)] (Tru L C n i e false)
 | 0,hi,hi9,e,he=>yc M hA hf hr hn hn9 0 hi hi9 (fun h=>absurd rfl h) e he
 | i+1,hi,hi9,e,he=>by
  refine yc M hA hf hr hn hn9 (i+1) hi hi9 (fun _ e he=>?_) e he
  obtain ⟨c,hc,hcs,hcl⟩:=hr
  obtain ⟨x,hx⟩:=cb (l:=c) (k:=i+1) (by rw [← List.length_map (f:=(·.part)),hcs]; exact hi)
  have hsel:nE C n=s:=vd.sel ⟨c,hc,hcs,hcl⟩
  have hsx:(nE C n)[i+1]?=some x.part:=by rw [hsel,← hcs,List.getElem?_map,hx]; rfl
  exact vV M hc hn9 hx hi9 hsx (fun e he=>HJ M hA hf ⟨c,hc,hcs,hcl⟩ hn hn9 i (by omega) (by omega) e he) (e+1) e (by omega) he
section
attribute [local irreducible] bZ.L0
theorem A9 (M:Mc σ L d C) {f:Nat} (hA:rE σ L d C f) (hf:f+1≤12):rE σ L d C (f+1):=by
 intro l ns hr hn _ hns e he ab mb cs H K hA0 hK
 rw [← AP hn hf] at hK
 obtain ⟨hlen,hrep⟩:=hr
 have L0:∀ (m k:Nat) (H1:Hp),ns.length - m=k→m≤ns.length→iv (eI L d) C (Tru L C) ab mb cs H1→Kp mb H H1→(∀ H',iv (eI L d) C (Tru L C) ab mb cs H'→Kp mb H H'→K (Bo (rV (AA L) L (l.drop m) e)) H') →
   bZ.L0 σ K (.ptr ab 0) (I (e:Int)) (kU ns) (I ns.length) (I m) H1:=by
  intro m k
  revert m
  induction k with
  | zero =>
   intro m H1 hk hm h1 kp hK
   have:m=ns.length:=by omega
   subst this
   refine bZ.L0_step ?_
   simp
   have:=hK H1 h1 kp
   rw [hlen,List.drop_length] at this
   exact this
  | succ k ih =>
   intro m H1 hk hm h1 kp hK
   have hlt:m<ns.length:=by omega
   obtain ⟨n,hnn⟩:=cb hlt
   obtain ⟨s,hs⟩:=cb (l:=l) (k:=m) (by omega)
   have hrc:=hrep m s n hs hnn
   rw [cm hs] at hK
   have hlt':(m:Int)<ns.length:=by omega
   obtain ⟨c,hc,hcs,hcl⟩:=hrc
   have hcm:=List.mem_of_getElem? hc
   have hcl2:c.length=s.length:=by rw [← hcs,List.length_map]
   obtain ⟨p,c1,c2⟩:=h1.gcs.ld1 (n:=n) (v:=jp c) (by rw [List.getElem?_map,hc]; rfl)
   have hcab:ldA false 1 H1 (.ptr ab 1)=some cs:=by simp [h1.gab]
   have hix:aJ 1 (kU ns) (I (m:Int))=some (.ip (pu n)):=bS hnn
   have hllen:aW (jp c)=some (I (s.length:Int)):=by unfold jp; simp [hcl2]
   have hl9:=M.ll c hcm
   rw [eH] at hl9 hns
   have hn9:n<9000000000000000000:=by
    have:=(List.getElem?_eq_some_iff.1 hc).1
    have:=M.cl
    rw [eH] at this
    omega
   have hsel:nE C n=s:=vd.sel ⟨c,hc,hcs,hcl⟩
   refine bZ.L0_step ?_
   have hle:ldL false 1 (pu n)=some (I (n:Int)):=rfl
   simp only [bA,hlt',decide_true,aa,ah,if_true,hix,e8,hle,gH,bj,hcab,c1,c2,hllen,eF,decide_eq_true_eq]
   have hcons:rV (AA L) L (s::l.drop (m+1)) e=((!decide (s.length=0)&&bQ (AA L) L s (s.length - 1) e)||rV (AA L) L (l.drop (m+1)) e):=by simp [rV]
   rw [hcons] at hK
   split
   ·rename_i h0
    have e1:wr .i64 ((s.length:Int) - 1)=((s.length - 1:Nat):Int):=by rw [eh (by omega) (by omega)]; omega
    simp only [ik,aa,e1]
    refine HJ M hA (by omega) ⟨c,hc,hcs,hcl⟩ (fun p hp q hq=>hn s (List.mem_of_getElem? hs) p hp q hq) hn9 (s.length - 1) (by omega) (by omega) e he ab mb cs H1 _ h1 fun H2 h2 kp2=>?_
    have htr:Tru L C n (s.length - 1) e false=bQ (AA L) L s (s.length - 1) e:=by unfold Tru; simp only [hsel]
    rw [htr]
    have h0':¬ (s.length=0):=by omega
    simp only [ah]
    cases hfr:bQ (AA L) L s (s.length - 1) e with
    | true =>
     rw [hfr] at hK
     simp [h0'] at hK
     simp
     exact hK H2 h2 (kp.trans kp2)
    | false =>
     rw [hfr] at hK
     simp at hK
     simp
     rw [bz (by omega)]
     exact ih (m+1) H2 (by omega) (by omega) h2 (kp.trans kp2) hK
   ·rename_i h0
    have h0':s.length=0:=by omega
    simp [h0'] at hK
    simp only [bN,aa]
    rw [bz (by omega)]
    exact ih (m+1) H1 (by omega) (by omega) h1 kp hK
 refine bZ.run ?_
 have:aW (kU ns)=some (I (ns.length:Int)):=by unfold kU; simp
 rw [this,aa]
 exact L0 0 _ H rfl (Nat.zero_le _) hA0 (.refl _ _) (by simpa using hK)
theorem Ed (M:Mc σ L d C):∀ (f:Nat),f≤12→rE σ L d C f
 | 0,_=>fun l ns hr=>hr.elim
 | f+1,hf=>A9 M (Ed M f (by omega)) hf
end
end
end Go.Proofs.YthmaggcfghjmfaaGreat.Ev
namespace Go.Proofs.YthmaggcfghjmfaaGreat.Ev
set_option linter.unusedVariables false
set_option linter.unusedSimpArgs false
variable {σ:Sig}
def pz (g:List Sl→Nat→Bool) (dp:Nat) (q:Ps):Bool:=if q.kind=7∨q.kind=8 then !decide (dp=0)&&g q.list (dp - 1) else true
def qt (g:List Sl→Nat→Bool) (dp:Nat) (c:Cp):Bool:=c.pseudos.all (pz g dp)
def o7 (g:List Sl→Nat→Bool) (dp:Nat) (s:Sl):Bool:=decide (s.length≤50)&&s.all fun p=>qt g dp p.c
def fI:Nat→List Sl→Nat→Bool
 | 0,_,_=>false
 | f+1,l,dp=>l.all (o7 (fI f) dp)
section
attribute [local irreducible] bC.L0 bC.L1 aK.L0 aK.J1
def yd (σ:Sig) (f:Nat):Prop:=∀ (l:List Sl) (dp:Nat) (H:Hp),i6 dF l→ld f l→dp≤8→az Tryz.prog σ gh [sls l,I (dp:Int)] H (Bo (fI f l dp)) H
theorem Gu {f:Nat} (ih:yd σ f) (c:Cp) (hc:tL dF c) (hn:∀ q ∈ c.pseudos,ld f q.list) (dp:Nat) (hd:dp≤8) (H:Hp):az Tryz.prog σ ff [.agg (bR c),I (dp:Int)] H (Bo (qt (fI f) dp c)) H:=by
 refine bl (fun K hK=>aK.run ?_) (by simp [aP,bF,mJ]) rfl H
 have L0:∀ (m k:Nat) (H:Hp),c.pseudos.length - m=k→m≤c.pseudos.length→(∀ H,K (Bo ((c.pseudos.drop m).all (pz (fI f) dp))) H)→aK.L0 σ K (I (dp:Int)) (.imm 4 (c.pseudos.map bv)) (I c.pseudos.length) (I m) H:=by
  intro m k
  revert m
  induction k with
  | zero =>
   intro m H hk hm hK
   have:m=c.pseudos.length:=by omega
   subst this
   refine aK.L0_step ?_
   simp
   simpa using hK H
  | succ k ihk =>
   intro m H hk hm hK
   have hlt:m<c.pseudos.length:=by omega
   obtain ⟨q,hq⟩:=cb hlt
   have hqm:=List.mem_of_getElem? hq
   have hqw:=(Ps.wf_iff.1 (hc.ps q hqm)).2.2.2
   rw [cm hq,List.all_cons] at hK
   have hlt':(m:Int)<c.pseudos.length:=by omega
   have next:∀ H,pz (fI f) dp q=true→aK.J1 σ K (I (dp:Int)) (.imm 4 (c.pseudos.map bv)) (I c.pseudos.length) (I m) H:=by
    intro H ht
    refine aK.J1_step ?_
    simp
    rw [cO hlt hc.psL]
    refine ihk (m+1) H (by omega) (by omega) fun H'=>?_
    have:=hK H'
    rwa [ht,Bool.true_and] at this
   have ask:∀ (H:Hp),(q.kind=7∨q.kind=8)→H.get (H.n - 1)=some (.cells (bv q) true)→ifB (Bo (decide ((dp:Int)=0))) (K (Bo false) H) (bnd (ldA false 1 H (.ptr (H.n - 1) 3)) fun x22=>bnd (af .sub (I (dp:Int)) (I 1)) fun x23=>ai Tryz.prog σ gh [x22,x23] H fun x24 H25=>bnd (unR .not x24) fun x26=>ifB x26 (K (Bo false) H25) (aK.J1 σ K (I (dp:Int)) (.imm 4 (c.pseudos.map bv)) (I c.pseudos.length) (I m) H25)):=by
    intro H hkq hg
    simp only [ah,decide_eq_true_eq]
    have hQ:pz (fI f) dp q=(!decide (dp=0)&&fI f q.list (dp - 1)):=by unfold pz; rw [if_pos hkq]
    split
    ·rename_i h0
     have h0':dp=0:=by omega
     have:=hK H
     rw [hQ] at this
     simpa [h0'] using this
    ·rename_i h0
     have h0':¬ (dp=0):=by omega
     have e1:wr .i64 ((dp:Int) - 1)=((dp - 1:Nat):Int):=by rw [eh (by omega) (by omega)]; omega
     simp only [bE,hg,br,nR,aa,ik,e1]
     refine am (ih q.list (dp - 1) H hqw (hn q hqm) (by omega)) ?_
     simp only [dQ,aa,ah]
     cases hb:fI f q.list (dp - 1) with
     | false =>
      have:=hK H
      rw [hQ] at this
      simpa [h0',hb] using this
     | true =>
      simp
      exact next H (by rw [hQ]; simp [h0',hb])
   refine aK.L0_step ?_
   have hst:stA 4 (H.new (.cells [I 0,I 0,I 0,.lit (.slice none 0 0)] true)) (.ptr H.n 0) (.agg (bv q))=some ((H.new (.cells [I 0,I 0,I 0,.lit (.slice none 0 0)] true)).set H.n (some (.cells (bv q) true))):=by
    simp
    rw [yq q (by simp)]
   simp only [bA,hlt',decide_true,aa,ah,if_true,bS hq,e8,pe,bw,hst,bj,Nat.zero_add,bE,ay,br,List.drop_zero,uu,ki]
   have hask:=ask ((H.new (.cells [I 0,I 0,I 0,.lit (.slice none 0 0)] true)).set H.n (some (.cells (bv q) true)))
   simp only [Hp.n_set,Hp.n_new,Nat.add_sub_cancel,bE,ay,if_true,br] at hask
   by_cases h7:q.kind=7
   ·simp only [h7,decide_true,Bool.not_true,Bool.false_eq_true,if_false,bD,aa]
    exact hask (.inl h7) trivial
   ·simp only [h7,decide_false,Bool.not_false,if_true]
    by_cases h8:q.kind=8
    ·simp only [h8,decide_true,Bool.not_true,Bool.false_eq_true,if_false,bD,aa]
     exact hask (.inr h8) trivial
    ·simp only [h8,decide_false,Bool.not_false,if_true]
     exact next _ (by unfold pz; rw [if_neg (by omega)])
 simp only [d7,bj,aa,Nat.zero_add,bE,aB,if_true,br,rF,cI,List.length_map]
 exact L0 0 _ _ rfl (Nat.zero_le _) (by simpa [qt] using hK)
theorem BH {f:Nat} (ih:yd σ f):yd σ (f+1):=by
 intro l dp H hl hn hd
 refine bl (fun K hK=>bC.run ?_) (by simp [aP,bF]) rfl H
 have L0:∀ (m k:Nat) (H:Hp) (y20 y21 y22:AV),l.length - m=k→m≤l.length→(∀ H,K (Bo ((l.drop m).all (o7 (fI f) dp))) H)→bC.L0 σ K (I (dp:Int)) (sls l) (I l.length) (I m) y20 y21 y22 H:=by
  intro m k
  revert m
  induction k with
  | zero =>
   intro m H y20 y21 y22 hk hm hK
   have:m=l.length:=by omega
   subst this
   refine bC.L0_step ?_
   simp
   simpa using hK H
  | succ k ihk =>
   intro m H y20 y21 y22 hk hm hK
   have hlt:m<l.length:=by omega
   obtain ⟨s,hs⟩:=cb hlt
   have hsm:=List.mem_of_getElem? hs
   have hsw:=hl.2 s hsm
   rw [cm hs,List.all_cons] at hK
   have hlt':(m:Int)<l.length:=by omega
   have L1:∀ (j k2:Nat) (H:Hp),s.length - j=k2→j≤s.length→(∀ H,K (Bo ((s.drop j).all (fun p=>qt (fI f) dp p.c)&&(l.drop (m+1)).all (o7 (fI f) dp))) H) →
     bC.L1 σ K (I (dp:Int)) (sls l) (I l.length) (I m) (.imm 6 (s.map bx)) (I s.length) (I j) H:=by
    intro j k2
    revert j
    induction k2 with
    | zero =>
     intro j H hk2 hj hK
     have:j=s.length:=by omega
     subst this
     refine bC.L1_step ?_
     simp
     rw [cO hlt hl.1]
     exact ihk (m+1) H _ _ _ (by omega) (by omega) (by simpa using hK)
    | succ k2 ih2 =>
     intro j H hk2 hj hK
     have hjlt:j<s.length:=by omega
     obtain ⟨p,hp⟩:=cb hjlt
     have hpm:=List.mem_of_getElem? hp
     have hpw:=(Pt.wf_iff.1 (hsw.2 p hpm)).2
     rw [cm hp,List.all_cons] at hK
     have hjlt':(j:Int)<s.length:=by omega
     have hst:stA 6 (H.new (.cells [I 0,Sx ⟨#[]⟩,.lit (.slice none 0 0),.lit (.slice none 0 0),.lit (.slice none 0 0),.lit (.slice none 0 0)] true)) (.ptr H.n 0) (.agg (bx p))=some ((H.new (.cells [I 0,Sx ⟨#[]⟩,.lit (.slice none 0 0),.lit (.slice none 0 0),.lit (.slice none 0 0),.lit (.slice none 0 0)] true)).set H.n (some (.cells (bx p) true))):=by
      simp
      rw [HB p (by simp)]
     refine bC.L1_step ?_
     have hd1:(bx p).drop 1=bR p.c:=by rw [d6]; rfl
     simp only [bA,hjlt',decide_true,aa,ah,if_true,bS hp,e8,Ac,bw,hst,bj,Nat.zero_add,bE,ay,br,hd1,Am]
     refine am (Gu ih p.c hpw (fun q hq=>hn s hsm p hpm q hq) dp hd _) ?_
     simp only [dQ,aa,ah]
     cases hb:qt (fI f) dp p.c with
     | false =>
      rw [hb] at hK
      simpa using hK _
     | true =>
      rw [hb] at hK
      simp
      rw [cO hjlt hsw.1]
      exact ih2 (j+1) _ (by omega) (by omega) (by simpa using hK)
   refine bC.L0_step ?_
   have hst:stA 1 (H.new (.cells [.lit (.slice none 0 0)] true)) (.ptr H.n 0) (.agg (aU s))=some ((H.new (.cells [.lit (.slice none 0 0)] true)).set H.n (some (.cells (aU s) true))):=by
    simp [aU]
   have hix:aJ 1 (sls l) (I (m:Int))=some (.ip (aU s)):=bS hs
   simp only [bA,hlt',decide_true,aa,ah,if_true,hix,e8,nG,bw,hst,bj,Nat.zero_add,bE,ay,br,List.drop_zero,md,cI,List.length_map,eF,decide_eq_true_eq]
   have hS:o7 (fI f) dp s=(decide (s.length≤50)&&s.all fun p=>qt (fI f) dp p.c):=rfl
   rw [hS] at hK
   split
   ·rename_i h50
    have:¬ (s.length≤50):=by omega
    simpa [this] using hK _
   ·rename_i h50
    have:s.length≤50:=by omega
    refine L1 0 _ _ rfl (Nat.zero_le _) ?_
    simpa [this] using hK
 simp
 exact L0 0 _ _ _ _ _ rfl (Nat.zero_le _) (by simpa [fI] using hK)
theorem B4:∀ (f:Nat),yd σ f
 | 0=>fun l dp H hl hn=>hn.elim
 | f+1=>BH (B4 f)
end
end Go.Proofs.YthmaggcfghjmfaaGreat.Ev
namespace Go.Proofs.YthmaggcfghjmfaaGreat.Ev
set_option linter.unusedVariables false
set_option linter.unusedSimpArgs false
variable {σ:Sig}
def HFz (H H2:Hp):Prop:=∃ Hd:Hp,H2.n=H.n∧Hd.n=H.n∧(∀ id k,Hd.get id=some k→H.get id=some k∧H2.get id=none)∧(∀ id k2,H2.get id=some k2→∃ k1,H.get id=some k1∧FzB Hd k1 k2)
theorem FzT.refl {Hd:Hp}:∀ (T:List AV),FzT Hd T T
 | []=>.nil
 | x::T=>.same (.refl T)
theorem HFz.wk {H H2:Hp} (h:HFz H H2) (T:List AV):Wk σ T H T H2:=by
 obtain ⟨Hd,h1,h2,h3,h4⟩:=h
 exact Wk.frz h1 h2 h3 h4 (.refl T)
theorem HFz.loop {P:Program} {C:Ctx P} {c:Code} {T:List AV} {H H2:Hp} {Q:Exit→List AV→Hp→Prop} (k:HFz H H2) (h:a_ C c T H2 Q):a_ C c T H Q:=a_.conv (k.wk T) h
theorem v_ {szc sz:Nat} {H:Hp} {y x:AV} {rows:List (List AV)} {row:List AV} {rs:List (List AV)} (hy:Gs szc H y (rows++[row])) (hx:Gs sz H x rs) (hn:eQ rs=true) {j:Nat} (hj:row[j]?=some x) (hd:∀ i,own y i→¬ own x i) :
  ∃ H2,HFz H H2∧H2.n=H.n∧Gs szc H2 y (rows++[row.set j (.imm sz rs)])∧∀ i,¬ own y i→¬ own x i→H2.get i=H.get i:=by
 have hjl:=(List.getElem?_eq_some_iff.1 hj).1
 generalize hr:rows++[row]=rr at hy
 cases hy with
 | nil=>simp at hr
 | sl hlt hg hsz =>
  rename_i id ex
  have hrow:row.length=szc:=hsz row (by rw [← hr]; simp)
  have hrr:rr.length=rows.length+1:=by rw [← hr]; simp
  have hget:rr[rows.length]?=some row:=by rw [← hr]; simp
  have hk:=pG hsz rows.length row j x hget hj
  obtain ⟨Hd,H2,h1,h2,h3,h4,h5,h6,h7⟩:=FP hx hn hg hk (hd id rfl)
  have hflat:rr.flatten.set (rows.length*szc+j) (.imm sz rs)=(rows++[row.set j (.imm sz rs)]).flatten:=by
   have hkl:=(List.getElem?_eq_some_iff.1 hk).1
   rw [← oT hkl,jq (by simp; omega) hsz (by omega)]
   have e1:rr[rows.length]=row:=by
    rw [List.getElem?_eq_getElem (by omega)] at hget
    exact Option.some.inj hget
   have e2:ce row j [AV.imm sz rs]=row.set j (.imm sz rs):=oT hjl
   simp only [e1,e2]
   rw [← hr]
   simp
  rw [hflat] at h6
  have hl:rr.length=(rows++[row.set j (.imm sz rs)]).length:=by rw [hrr]; simp
  refine ⟨H2,⟨Hd,h2,h1,h3,h4⟩,h2,?_,fun i hi hi2=>h7 i (fun e=>hi e.symm) hi2⟩
  rw [hl]
  exact .sl (by omega) h6 (fun r hr'=>by
   rcases List.mem_append.1 hr' with h | h
   ·exact hsz r (by rw [← hr]; simp [h])
   ·simp at h; subst h; simpa using hrow)
abbrev NB:Nat:=1048576
def gd:Nat→List Sl→Nat
 | 0,_=>0
 | f+1,l=>(l.map fun s=>1+(s.map fun p=>(p.c.pseudos.map fun q=>gd f q.list).sum).sum).sum
def kr:Nat→List Sl→Prop
 | 0,_=>False
 | f+1,l=>l.length≤NB∧∀ s ∈ l,s.length≤NB∧∀ p ∈ s,tE p.c∧p.c.pseudos.length≤NB∧∀ q ∈ p.c.pseudos,(i64 q.a∧i64 q.b)∧kr f q.list
structure GU (c:List Lk):Prop where
 len:c.length≤NB
 lk:∀ x ∈ c,GR x
theorem Rep.mono {C D:List (List Lk)}:∀ {f:Nat} {l:List Sl} {ns:List Nat},Rep C f l ns→Rep (C++D) f l ns
 | 0,l,ns,h=>h
 | f+1,l,ns,h=>⟨h.1,fun i s n hs hn=>by
  obtain ⟨c,h1,h2,h3⟩:=h.2 i s n hs hn
  refine ⟨c,by rw [List.getElem?_append_left (List.getElem?_eq_some_iff.1 h1).1]; exact h1,h2,fun k x hx=>⟨(h3 k x hx).1,fun j q ns' hq hns=>((h3 k x hx).2 j q ns' hq hns).mono⟩⟩⟩
structure ue (t:AV) (C:List (List Lk)) (ab mb:Nat) (cs:AV) (H:Hp):Prop where
 gab:H.get ab=some (.cells [t,cs,.mp mb] true)
 nab:ab<H.n
 gcs:Gs 1 H cs (C.map fun c=>[jp c])
 csab:¬ own cs ab
structure AFr (H:Hp) (cs:AV) (ab:Nat) (H':Hp) (cs':AV):Prop where
 up:H.n≤H'.n
 get:∀ (j:Nat),j<H.n→j≠ab→¬ own cs j→H'.get j=H.get j
 mine:∀ j,own cs' j→own cs j∨H.n≤j
theorem AFr.refl (H:Hp) (cs:AV) (ab:Nat):AFr H cs ab H cs:=⟨Nat.le_refl _,fun _ _ _ _=>rfl,fun j h=>.inl h⟩
theorem AFr.trans {H H1 H2:Hp} {cs cs1 cs2:AV} {ab:Nat} (h:AFr H cs ab H1 cs1) (k:AFr H1 cs1 ab H2 cs2):AFr H cs ab H2 cs2:=by
 refine ⟨Nat.le_trans h.up k.up,fun j hj hne ho=>?_,fun j hj=>?_⟩
 ·rw [k.get j (Nat.lt_of_lt_of_le hj h.up) hne (fun hc=>by
   rcases h.mine j hc with h | h
   ·exact ho h
   ·omega),h.get j hj hne ho]
 ·rcases k.mine j hj with h1 | h1
  ·exact h.mine j h1
  ·have:=h.up; exact .inr (by omega)
theorem AFr.loc {H H1 H2:Hp} {cs cs1:AV} {ab:Nat} (h:AFr H cs ab H1 cs1) (hn:H1.n≤H2.n) (hg:∀ j,j<H.n→H2.get j=H1.get j):AFr H cs ab H2 cs1 :=
 ⟨Nat.le_trans h.up hn,fun j hj hne ho=>by rw [hg j hj,h.get j hj hne ho],h.mine⟩
theorem ue.loc {t:AV} {C:List (List Lk)} {ab mb:Nat} {cs:AV} {H H':Hp} (h:ue t C ab mb cs H) (hn:H.n≤H'.n) (h1:H'.get ab=H.get ab) (h2:∀ j,own cs j→H'.get j=H.get j):ue t C ab mb cs H' :=
 ⟨by rw [h1]; exact h.gab,Nat.lt_of_lt_of_le h.nab hn,h.gcs.keep h2 hn,h.csab⟩
def vo (σ:Sig) (f:Nat):Prop:=∀ (l:List Sl),kr f l→∀ (t:AV) (C:List (List Lk)) (ab mb:Nat) (cs:AV) (H:Hp) (K:AV→Hp→Prop),ue t C ab mb cs H→C.length+gd f l≤NB →
 (∀ (H':Hp) (cs':AV) (C2:List (List Lk)) (r:AV) (ns:List Nat),ue t (C++C2) ab mb cs' H'→Rep (C++C2) f l ns→C2.length=gd f l→(∀ c ∈ C2,GU c)→Gs 1 H' r (ns.map pu)→(∀ j,own r j→H.n≤j∧¬ own cs' j)→AFr H cs ab H' cs'→K r H') →
 ai Tryz.prog σ dU [.ptr ab 0,sls l] H K
structure AS (t:AV) (C0:List (List Lk)) (ab mb:Nat) (H0:Hp) (cs0:AV) (C2:List (List Lk)) (cs:AV) (H:Hp) (y5:AV) (ns:List Nat):Prop where
 add:ue t (C0++C2) ab mb cs H
 fr:AFr H0 cs0 ab H cs
 ok:∀ c ∈ C2,GU c
 out:Gs 1 H y5 (ns.map pu)
 o5:∀ j,own y5 j→H0.n≤j∧¬ own cs j
structure tO (H0:Hp) (cs y5:AV) (sz:Nat) (H:Hp) (x:AV) (rows:List (List AV)):Prop where
 gs:Gs sz H x rows
 o:∀ j,own x j→H0.n≤j∧¬ own cs j∧¬ own y5 j
theorem AS.loc {t:AV} {C0 C2:List (List Lk)} {ab mb:Nat} {H0 H H':Hp} {cs0 cs y5:AV} {ns:List Nat} (h:AS t C0 ab mb H0 cs0 C2 cs H y5 ns) (hab:ab<H0.n) (hn:H.n≤H'.n) (hg:∀ j,j<H0.n→H'.get j=H.get j) (h1:∀ j,own cs j→H'.get j=H.get j) (h5:∀ j,own y5 j→H'.get j=H.get j):AS t C0 ab mb H0 cs0 C2 cs H' y5 ns :=
 ⟨h.add.loc hn (hg _ hab) h1,h.fr.loc hn hg,h.ok,h.out.keep h5 hn,h.o5⟩
theorem tO.loc {H0 H H':Hp} {cs y5 x:AV} {sz:Nat} {rows:List (List AV)} (h:tO H0 cs y5 sz H x rows) (hn:H.n≤H'.n) (h1:∀ j,own x j→H'.get j=H.get j):tO H0 cs y5 sz H' x rows:=⟨h.gs.keep h1 hn,h.o⟩
theorem KT {K:AV→Hp→Prop} {y0 y5 y8 y11 y14 y15 y16 y21 y22 y23 y31 y32 y33:AV} {H H2:Hp} (k:HFz H H2) (h:al.L0 σ K y0 y5 y8 y11 y14 y15 y16 y21 y22 y23 y31 y32 y33 H2):al.L0 σ K y0 y5 y8 y11 y14 y15 y16 y21 y22 y23 y31 y32 y33 H:=fun js=>k.loop (h js)
theorem Lo {K:AV→Hp→Prop} {y0 y5 y8 y11 y14 y15 y16 y21 y22 y23 y31 y32 y33:AV} {H H2:Hp} (k:HFz H H2) (h:al.L1 σ K y0 y5 y8 y11 y14 y15 y16 y21 y22 y23 y31 y32 y33 H2):al.L1 σ K y0 y5 y8 y11 y14 y15 y16 y21 y22 y23 y31 y32 y33 H:=fun js=>k.loop (h js)
theorem Lm {K:AV→Hp→Prop} {y0 y5 y8 y11 y14 y15 y16 y21 y22 y23 y31 y32 y33:AV} {H H2:Hp} (k:HFz H H2) (h:al.L2 σ K y0 y5 y8 y11 y14 y15 y16 y21 y22 y23 y31 y32 y33 H2):al.L2 σ K y0 y5 y8 y11 y14 y15 y16 y21 y22 y23 y31 y32 y33 H:=fun js=>k.loop (h js)
def l7 (l:List Nat):List AV:=[kU l]
section
attribute [local irreducible] al.L0 al.L1 al.L2
theorem uZ (l:List (List Nat)):eQ (l.map l7)=true:=bm _ (fun l=>by simp [l7,aP,sP]) l
theorem C4 (p:Pt) (lsl:List (List Nat)):eo ⟨p,lsl⟩=bx p++[.imm 1 (lsl.map l7)]:=rfl
theorem Ki {f:Nat} (ih:vo σ f) {t:AV} {C0:List (List Lk)} {ab mb:Nat} {H0:Hp} {cs0:AV} (hab:ab<H0.n) {K:AV→Hp→Prop} {y5:AV} {ns:List Nat} {cl:List Lk} {p:Pt} (hpl:p.c.pseudos.length≤NB) (hp:∀ q ∈ p.c.pseudos,(i64 q.a∧i64 q.b)∧kr f q.list)
  {y14 y15 y16 y21 y22:AV} {j:Nat} (hj:j<NB) (hcl:cl.length≤j) {R:Nat} {P:List (List Lk)→Prop}
  (hK:∀ (H:Hp) (cs:AV) (C2:List (List Lk)) (y8 y11:AV) (lsl:List (List Nat)) (y31 y32 y33:AV),AS t C0 ab mb H0 cs0 C2 cs H y5 ns→P C2→tO H0 cs y5 7 H y8 ((cl++[Lk.mk p lsl]).map eo)→lsl.length=p.c.pseudos.length→(∀ (j:Nat) (q:Ps) (ns':List Nat),p.c.pseudos[j]?=some q→lsl[j]?=some ns'→Rep (C0++C2) f q.list ns')→(∀ l ∈ lsl,l.length≤NB) →
   (C0++C2).length+R≤NB→al.L1 σ K (.ptr ab 0) y5 y8 y11 y14 y15 y16 y21 y22 (I ((j+1:Nat):Int)) y31 y32 y33 H) :
  ∀ (m k:Nat) (H:Hp) (cs:AV) (C2:List (List Lk)) (y8:AV) (xb:Nat) (lv:AV) (lsl:List (List Nat)),p.c.pseudos.length - k=m→k≤p.c.pseudos.length→AS t C0 ab mb H0 cs0 C2 cs H y5 ns→(∀ D,C2 <+: D→D.length=C2.length+((p.c.pseudos.drop k).map fun q=>gd f q.list).sum→P D)→tO H0 cs y5 7 H y8 (cl.map eo)→H.get xb=some (.cells (bx p++[lv]) true)→H0.n≤xb→xb<H.n→¬ own cs xb→¬ own y5 xb→¬ own y8 xb →
   tO H0 cs y5 1 H lv (lsl.map l7)→¬ own lv xb→(∀ i,own lv i→¬ own y8 i)→lsl.length=k→(∀ (j:Nat) (q:Ps) (ns':List Nat),p.c.pseudos[j]?=some q→lsl[j]?=some ns'→Rep (C0++C2) f q.list ns')→(∀ l ∈ lsl,l.length≤NB) →
   (C0++C2).length+(((p.c.pseudos.drop k).map fun q=>gd f q.list).sum+R)≤NB →
   al.L2 σ K (.ptr ab 0) y5 y8 (.ptr xb 0) y14 y15 y16 y21 y22 (I (j:Int)) (.imm 4 (p.c.pseudos.map bv)) (I p.c.pseudos.length) (I (k:Int)) H:=by
 have hNB:NB=1048576:=rfl
 intro m
 induction m with
 | zero =>
  intro k H cs C2 y8 xb lv lsl hm hk hA hP h8 gx hx0 hxn hxc hx5 hx8 hl hlx hl8 hlk hrep hlen hcnt
  have:k=p.c.pseudos.length:=by omega
  subst this
  refine al.L2_step ?_
  have hl7:ldL true 7 (bx p++[lv])=some (.agg (bx p++[lv])):=dm (by simp)
  simp only [bA,Int.lt_irrefl,decide_false,aa,ah,Bool.false_eq_true,if_false,bE,gx,br,List.drop_zero,hl7]
  have hone:(bx p++[lv]).all AV.one=true:=by simp [hl.gs.one]
  refine fJ (y:=.agg (bx p++[lv])) h8.gs (by simp) rfl hone (by simp; omega) (by simp; omega) fun y8' H2 g8 f8=>?_
  simp only [bN,aa]
  rw [bz (by omega)]
  have own8:∀ i,own y8' i→H0.n≤i∧¬ own cs i∧¬ own y5 i∧¬ own lv i:=fun i hi=>by
   rcases f8.mine i hi with h | h
   ·exact ⟨(h8.o i h).1,(h8.o i h).2.1,(h8.o i h).2.2,fun h'=>hl8 i h' h⟩
   ·have h0:=hA.fr.up
    exact ⟨by omega,fun h'=>by have:=hA.add.gcs.lt h'; omega,fun h'=>by have:=hA.out.lt h'; omega,fun h'=>by have:=hl.gs.lt h'; omega⟩
  have keep:∀ i,i<H.n→¬ own y8 i→H2.get i=H.get i:=fun i hi ho=>f8.same i hi ho
  have hA2:AS t C0 ab mb H0 cs0 C2 cs H2 y5 ns:=hA.loc hab f8.grow (fun i hi=>keep i (by have:=hA.fr.up; omega) (fun h=>by have:=(h8.o i h).1; omega)) (fun i hi=>keep i (hA.add.gcs.lt hi) (fun h=>(h8.o i h).2.1 hi)) (fun i hi=>keep i (hA.out.lt hi) (fun h=>(h8.o i h).2.2 hi))
  have hl2:Gs 1 H2 lv (lsl.map l7):=hl.gs.keep (fun i hi=>keep i (hl.gs.lt hi) (hl8 i hi)) f8.grow
  have hcells:(AV.agg (bx p++[lv])).cells=bx p++[lv]:=rfl
  rw [hcells] at g8
  obtain ⟨H3,z1,z2,z3,z4⟩:=v_ (j:=6) g8 hl2 (uZ lsl) (by rw [List.getElem?_append_right (by simp)]; simp) (fun i hi=>(own8 i hi).2.2.2)
  have hrow:(bx p++[lv]).set 6 (.imm 1 (lsl.map l7))=eo ⟨p,lsl⟩:=by
   rw [C4,List.set_append_right _ _ (by simp)]
   simp
  rw [hrow] at z3
  have z3':Gs 7 H3 y8' ((cl++[Lk.mk p lsl]).map eo):=by simpa using z3
  have fin:al.L1 σ K (.ptr ab 0) y5 y8' (.ptr xb 0) y14 y15 y16 y21 y22 (I ((j+1:Nat):Int)) (.imm 4 (p.c.pseudos.map bv)) (I p.c.pseudos.length) (I (p.c.pseudos.length:Int)) H3:=by
   refine hK H3 cs C2 y8' (.ptr xb 0) lsl _ _ _ ?_ (hP C2 (List.prefix_refl _) (by simp)) ⟨z3',fun i hi=>⟨(own8 i hi).1,(own8 i hi).2.1,(own8 i hi).2.2.1⟩⟩ hlk hrep hlen (by simp at hcnt ⊢; omega)
   refine hA2.loc hab (by omega) (fun i hi=>z4 i (fun h=>by have:=(own8 i h).1; omega) (fun h=>by have:=(hl.o i h).1; omega)) (fun i hi=>z4 i (fun h=>(own8 i h).2.1 hi) (fun h=>(hl.o i h).2.1 hi)) (fun i hi=>z4 i (fun h=>(own8 i h).2.2.1 hi) (fun h=>(hl.o i h).2.2 hi))
  exact Lo z1 fin
 | succ m ihm =>
  intro k H cs C2 y8 xb lv lsl hm hk hA hP h8 gx hx0 hxn hxc hx5 hx8 hl hlx hl8 hlk hrep hlen hcnt
  have hlt:k<p.c.pseudos.length:=by omega
  obtain ⟨q,hq⟩:=cb hlt
  have hqm:=List.mem_of_getElem? hq
  have hlt':(k:Int)<p.c.pseudos.length:=by omega
  rw [cm hq,List.map_cons,List.sum_cons] at hcnt
  have hdq:p.c.pseudos.drop k=q::p.c.pseudos.drop (k+1):=cm hq
  refine al.L2_step ?_
  obtain ⟨H6,hH6⟩:∃ H6,H6=(H.new (.cells [I 0,I 0,I 0,.lit (.slice none 0 0)] true)).set H.n (some (.cells (bv q) true)):=⟨_,rfl⟩
  have hst:stA 4 (H.new (.cells [I 0,I 0,I 0,.lit (.slice none 0 0)] true)) (.ptr H.n 0) (.agg (bv q))=some H6:=by
   rw [hH6]
   simp
   rw [yq q (by simp)]
  have k6:∀ i,i<H.n→H6.get i=H.get i:=fun i hi=>by
   have:i≠H.n:=by omega
   rw [hH6]; simp [this]
  have n6:H6.n=H.n+1:=by rw [hH6]; rfl
  have g6:H6.get H.n=some (.cells (bv q) true):=by rw [hH6]; simp
  clear hH6
  have gx6:H6.get xb=some (.cells (bx p++[lv]) true):=by rw [k6 xb hxn]; exact gx
  have hd6:ldL false 1 ((bx p++[lv]).drop 6)=some lv:=by rw [List.drop_append_of_le_length (by simp),List.drop_of_length_le (by simp)]; simp
  simp only [bA,hlt',decide_true,aa,ah,if_true,bS hq,e8,pe,bw,hst,bj,Nat.zero_add,bE,gx6,br,hd6,g6,nR]
  have hA6:AS t C0 ab mb H0 cs0 C2 cs H6 y5 ns:=hA.loc hab (by omega) (fun i hi=>k6 i (by have:=hA.fr.up; omega)) (fun i hi=>k6 i (hA.add.gcs.lt hi)) (fun i hi=>k6 i (hA.out.lt hi))
  refine ih q.list (hp q hqm).2 t (C0++C2) ab mb cs H6 _ hA6.add (by omega) fun H' cs' D r ns' a1 a2 a3 a4 a5 a6 a7=>?_
  have hxab:xb≠ab:=by omega
  have k7:∀ i,H0.n≤i→i<H6.n→¬ own cs i→H'.get i=H6.get i:=fun i h1 h2 h3=>a7.get i h2 (by omega) h3
  have gx7:H'.get xb=some (.cells (bx p++[lv]) true):=by rw [k7 xb hx0 (by omega) hxc]; exact gx6
  have up7:=a7.up
  have cs7:∀ i,own cs' i→own cs i∨H6.n≤i:=a7.mine
  have hl7:tO H0 cs' y5 1 H' lv (lsl.map l7):=by
   refine ⟨hl.gs.keep (fun i hi=>?_) (by omega),fun i hi=>⟨(hl.o i hi).1,fun h=>?_,(hl.o i hi).2.2⟩⟩
   ·have:=hl.gs.lt hi
    rw [k7 i (hl.o i hi).1 (by omega) (hl.o i hi).2.1,k6 i this]
   ·rcases cs7 i h with h | h
    ·exact (hl.o i hi).2.1 h
    ·have:=hl.gs.lt hi; omega
  have h87:tO H0 cs' y5 7 H' y8 (cl.map eo):=by
   refine ⟨h8.gs.keep (fun i hi=>?_) (by omega),fun i hi=>⟨(h8.o i hi).1,fun h=>?_,(h8.o i hi).2.2⟩⟩
   ·have:=h8.gs.lt hi
    rw [k7 i (h8.o i hi).1 (by omega) (h8.o i hi).2.1,k6 i this]
   ·rcases cs7 i h with h | h
    ·exact (h8.o i hi).2.1 h
    ·have:=h8.gs.lt hi; omega
  have hA7:AS t C0 ab mb H0 cs0 (C2++D) cs' H' y5 ns:=by
   refine ⟨by rw [← List.append_assoc]; exact a1,hA6.fr.trans a7,fun c hc=>?_,hA6.out.keep (fun i hi=>?_) a7.up,fun i hi=>⟨(hA.o5 i hi).1,fun h=>?_⟩⟩
   ·rcases List.mem_append.1 hc with h | h
    ·exact hA.ok c h
    ·exact a4 c h
   ·exact k7 i (hA.o5 i hi).1 (hA6.out.lt hi) (hA.o5 i hi).2
   ·rcases cs7 i h with h | h
    ·exact (hA.o5 i hi).2 h
    ·have:=hA.out.lt hi; omega
  have hxc7:¬ own cs' xb:=fun h=>by
   rcases cs7 xb h with h | h
   ·exact hxc h
   ·omega
  have hl7':∀ i,own lv i→i<H'.n:=fun i hi=>hl7.gs.lt hi
  have one7:AV.one r=true:=a5.one
  have cel7:=a5.cells
  have hxn7:xb≠H'.n:=by omega
  simp only [nI,gx7]
  refine ⟨by rw [gx6],?_⟩
  have hlenN:lsl.length<NB:=by omega
  refine po (y:=r) (rows:=lsl.map l7) (by simp [hxn7,gx7]) hl7.gs (by rw [cel7.1]; rfl) cel7.2 (by rw [cel7.1]; simpa using one7) (by simp; omega) (by simp; omega) fun lv' H2 g2 f2=>?_
  rw [cel7.1] at g2
  have ownl:∀ i,own lv' i→own lv i∨(H'.n≤i∧i<H2.n):=f2.mine
  have k8:∀ i,i<H'.n→¬ own lv i→H2.get i=H'.get i:=fun i h1 h2=>f2.same i h1 h2
  have gx8:H2.get xb=some (.cells (bx p++[lv]) true):=by rw [k8 xb (by omega) hlx]; exact gx7
  have hst2:=g2.st (id:=xb) (off:=6) gx8 (by simp)
  have hset:(bx p++[lv]).set 6 lv'=bx p++[lv']:=by
   rw [List.set_append_right _ _ (by simp)]
   simp
  rw [hset] at hst2
  simp only [hst2,aa,bN]
  rw [bz (by omega)]
  obtain ⟨H3,hH3⟩:∃ H3,H3=H2.set xb (some (.cells (bx p++[lv']) true)):=⟨_,rfl⟩
  rw [← hH3]
  have k9:∀ i,i≠xb→H3.get i=H2.get i:=fun i hi=>by rw [hH3]; simp [hi]
  have gx9:H3.get xb=some (.cells (bx p++[lv']) true):=by rw [hH3]; simp
  have n9:H3.n=H2.n:=by rw [hH3]; rfl
  clear hH3
  have grow2:=f2.grow
  have lvx:¬ own lv' xb:=fun h=>by
   rcases ownl xb h with h | h
   ·exact hlx h
   ·omega
  have rx:¬ own r xb:=fun h=>by have:=(a6 xb h).1; omega
  have rlv:∀ i,own lv' i→¬ own r i:=fun i hi h=>by
   rcases ownl i hi with h1 | h1
   ·have:=(a6 i h).1; have:=hl.gs.lt h1; omega
   ·have:=a5.lt h; omega
  have g9:Gs 1 H3 lv' (lsl.map l7++[[r]]):=g2.keep (fun i hi=>k9 i (fun e=>lvx (e ▸ hi))) (by omega)
  have gr9:Gs 1 H3 r (ns'.map pu):=a5.keep (fun i hi=>by
   rw [k9 i (fun e=>rx (e ▸ hi)),k8 i (a5.lt hi) (fun h=>by have:=(a6 i hi).1; have:=hl.gs.lt h; omega)]) (by omega)
  obtain ⟨H4,z1,z2,z3,z4⟩:=v_ (j:=0) g9 gr9 (bm _ (fun _=>rfl) _) rfl rlv
  have hrow:([r]:List AV).set 0 (.imm 1 (ns'.map pu))=l7 ns':=rfl
  rw [hrow] at z3
  have z3':Gs 1 H4 lv' ((lsl++[ns']).map l7):=by simpa using z3
  have same:∀ i,i<H'.n→i≠xb→¬ own lv i→¬ own r i→H4.get i=H'.get i:=fun i h1 h2 h3 h4=>by
   rw [z4 i (fun h=>by
    rcases ownl i h with h | h
    ·exact h3 h
    ·omega) h4,k9 i h2,k8 i h1 h3]
  have hA4:AS t C0 ab mb H0 cs0 (C2++D) cs' H4 y5 ns:=by
   refine hA7.loc hab (by omega) (fun i hi=>same i (by have:=hA7.fr.up; omega) (by omega) (fun h=>by have:=(hl.o i h).1; omega) (fun h=>by have:=(a6 i h).1; have:=hA.fr.up; omega)) (fun i hi=>same i (a1.gcs.lt hi) (fun e=>hxc7 (e ▸ hi)) (fun h=>(hl7.o i h).2.1 hi) (fun h=>(a6 i h).2 hi)) (fun i hi=>same i (hA7.out.lt hi) (fun e=>hx5 (e ▸ hi)) (fun h=>(hl.o i h).2.2 hi) (fun h=>by have:=(a6 i h).1; have:=hA.out.lt hi; omega))
  refine Lm z1 ?_
  refine ihm (k+1) H4 cs' (C2++D) y8 xb lv' (lsl++[ns']) (by omega) (by omega) hA4 (fun D2 hpre hD2=>?_) (h87.loc (by omega) fun i hi=>?_) ?_ hx0 (by omega) hxc7 hx5 hx8 ⟨z3',fun i hi=>?_⟩ lvx (fun i hi h=>?_) (by simp [hlk]) (fun j q' ns2 hq' hns2=>?_) (fun l hl=>?_) ?_
  ·refine hP D2 ((List.prefix_append C2 D).trans hpre) ?_
   rw [hD2,hdq,List.map_cons,List.sum_cons,List.length_append,a3]
   omega
  ·exact same i (by have:=h8.gs.lt hi; omega) (fun e=>hx8 (e ▸ hi)) (fun h=>hl8 i h hi) (fun h=>by have:=(a6 i h).1; have:=h8.gs.lt hi; omega)
  ·rw [z4 xb lvx rx]; exact gx9
  ·rcases ownl i hi with h | h
   ·exact hl7.o i h
   ·exact ⟨by omega,fun h'=>by have:=a1.gcs.lt h'; omega,fun h'=>by have:=hA7.out.lt h'; omega⟩
  ·rcases ownl i hi with h1 | h1
   ·exact hl8 i h1 h
   ·have:=h8.gs.lt h; omega
  ·rw [← List.append_assoc]
   by_cases hjk:j<lsl.length
   ·rw [List.getElem?_append_left hjk] at hns2
    exact (hrep j q' ns2 hq' hns2).mono
   ·rw [List.getElem?_append_right (by omega)] at hns2
    have h1:=(List.getElem?_eq_some_iff.1 hns2).1
    simp at h1
    have:j=k:=by omega
    subst this
    rw [hq] at hq'
    cases hq'
    simp [hlk] at hns2
    subst hns2
    exact a2
  ·rcases List.mem_append.1 hl with h | h
   ·exact hlen l h
   ·simp at h
    subst h
    have hsl:=(hp q hqm).2
    cases f with
    | zero=>exact hsl.elim
    | succ f =>
     have:=a2.1
     have:=hsl.1
     omega
  ·rw [← List.append_assoc,List.length_append,a3]
   omega
def yj (C:List (List Lk)) (f:Nat) (cl:List Lk):Prop:=∀ (k:Nat) (x:Lk),cl[k]?=some x→x.lists.length=x.part.c.pseudos.length∧∀ (j:Nat) (q:Ps) (ns:List Nat),x.part.c.pseudos[j]?=some q→x.lists[j]?=some ns→Rep C f q.list ns
def vE (f:Nat) (p:Pt):Nat:=(p.c.pseudos.map fun q=>gd f q.list).sum
def Lu (f:Nat) (s:Sl):Prop:=s.length≤NB∧∀ p ∈ s,tE p.c∧p.c.pseudos.length≤NB∧∀ q ∈ p.c.pseudos,(i64 q.a∧i64 q.b)∧kr f q.list
theorem Jr {f:Nat} (ih:vo σ f) {t:AV} {C0:List (List Lk)} {ab mb:Nat} {H0:Hp} {cs0:AV} (hab:ab<H0.n) {K:AV→Hp→Prop} {y5:AV} {ns:List Nat} (hns:ns.length<NB) {s:Sl} (hs:Lu f s) {y14 y15:AV} {m0:Nat} (hm0:m0<NB) {R:Nat} {Q:List (List Lk)→Prop}
  (hK:∀ (H:Hp) (cs:AV) (C2:List (List Lk)) (y5' y8 y11 y21 y22 y23 y31 y32 y33:AV) (cl:List Lk),AS t C0 ab mb H0 cs0 (C2++[cl]) cs H y5' (ns++[(C0++C2).length])→Q C2→cl.map (·.part)=s→yj (C0++C2) f cl→(C0++C2).length+1+R≤NB →
   al.L0 σ K (.ptr ab 0) y5' y8 y11 y14 y15 (I ((m0+1:Nat):Int)) y21 y22 y23 y31 y32 y33 H) :
  ∀ (n2 j:Nat) (H:Hp) (cs:AV) (C2:List (List Lk)) (y8 y11 y31 y32 y33:AV) (cl:List Lk),s.length - j=n2→j≤s.length→AS t C0 ab mb H0 cs0 C2 cs H y5 ns→(∀ D,C2 <+: D→D.length=C2.length+((s.drop j).map (vE f)).sum→Q D)→tO H0 cs y5 7 H y8 (cl.map eo)→cl.map (·.part)=s.take j→yj (C0++C2) f cl→(∀ x ∈ cl,GR x) →
   (C0++C2).length+(((s.drop j).map (vE f)).sum+(1+R))≤NB →
   al.L1 σ K (.ptr ab 0) y5 y8 y11 y14 y15 (I (m0:Int)) (.imm 6 (s.map bx)) (I s.length) (I (j:Int)) y31 y32 y33 H:=by
 have hNB:NB=1048576:=rfl
 intro n2
 induction n2 with
 | zero =>
  intro j H cs C2 y8 y11 y31 y32 y33 cl hn hj hA hQ h8 hparts hrep hlk hcnt
  have:j=s.length:=by omega
  subst this
  rw [List.take_length] at hparts
  have hcl:cl.length=s.length:=by rw [← hparts,List.length_map]
  refine al.L1_step ?_
  have hcs1:ldA false 1 H (.ptr ab 1)=some cs:=by simp [hA.add.gab]
  have hlenC:aW cs=some (I ((C0++C2).length:Int)):=by rw [hA.add.gcs.len,List.length_map]
  simp only [bA,Int.lt_irrefl,decide_false,aa,ah,Bool.false_eq_true,if_false,gH,bj,Nat.zero_add,hcs1,hlenC]
  have habn:=hA.add.nab
  have up0:=hA.fr.up
  have cslt:∀ i,own cs i→i<H.n:=fun i hi=>hA.add.gcs.lt hi
  refine fJ (y:=I ((C0++C2).length:Int)) hA.out rfl rfl rfl (by simp; omega) (by simp; omega) fun y5' H1 g1 f1=>?_
  have grow1:=f1.grow
  have k1:∀ i,i<H.n→¬ own y5 i→H1.get i=H.get i:=fun i h1 h2=>f1.same i h1 h2
  have h5ab:¬ own y5 ab:=fun h=>by have:=(hA.o5 ab h).1; omega
  have gab1:H1.get ab=some (.cells [t,cs,.mp mb] true):=by rw [k1 ab habn h5ab]; exact hA.add.gab
  have gcs1:Gs 1 H1 cs ((C0++C2).map fun c=>[jp c]):=hA.add.gcs.keep (fun i hi=>k1 i (cslt i hi) (fun h=>(hA.o5 i h).2 hi)) f1.grow
  have g81:Gs 7 H1 y8 (cl.map eo):=h8.gs.keep (fun i hi=>k1 i (h8.gs.lt hi) (fun h=>(h8.o i hi).2.2 h)) f1.grow
  have hcs2:ldA false 1 H1 (.ptr ab 1)=some cs:=by simp [gab1]
  simp only [gH,aa,bj,Nat.zero_add,hcs2]
  have cel8:=h8.gs.cells
  have own5:∀ i,own y5' i→own y5 i∨(H.n≤i∧i<H1.n):=f1.mine
  refine fJ (y:=y8) gcs1 (by rw [cel8.1]; rfl) cel8.2 (by rw [cel8.1]; simpa using h8.gs.one) (by simp at hcnt ⊢; omega) (by simp at hcnt ⊢; omega) fun cs' H2 g2 f2=>?_
  rw [cel8.1] at g2
  have grow2:=f2.grow
  have csab:¬ own cs ab:=hA.add.csab
  have k2:∀ i,i<H1.n→¬ own cs i→H2.get i=H1.get i:=fun i h1 h2=>f2.same i h1 h2
  have gab2:H2.get ab=some (.cells [t,cs,.mp mb] true):=by rw [k2 ab (by omega) csab]; exact gab1
  have ownc:∀ i,own cs' i→own cs i∨(H1.n≤i∧i<H2.n):=f2.mine
  have cs'ab:¬ own cs' ab:=fun h=>by
   rcases ownc ab h with h | h
   ·exact csab h
   ·omega
  have hst:=g2.st (id:=ab) (off:=1) gab2 (by simp)
  simp only [gH,aa,bj,Nat.zero_add,hst,bN]
  rw [bz (by omega)]
  obtain ⟨H3,hH3⟩:∃ H3,H3=H2.set ab (some (.cells ([t,cs,.mp mb].set 1 cs') true)):=⟨_,rfl⟩
  rw [← hH3]
  have k3:∀ i,i≠ab→H3.get i=H2.get i:=fun i hi=>by rw [hH3]; simp [hi]
  have gab3:H3.get ab=some (.cells [t,cs',.mp mb] true):=by rw [hH3]; simp
  have n3:H3.n=H2.n:=by rw [hH3]; rfl
  clear hH3
  have c8:∀ i,own cs' i→¬ own y8 i:=fun i hi h=>by
   rcases ownc i hi with h1 | h1
   ·exact (h8.o i h).2.1 h1
   ·have:=h8.gs.lt h; omega
  have g3:Gs 1 H3 cs' (((C0++C2).map fun c=>[jp c])++[[y8]]):=g2.keep (fun i hi=>k3 i (fun e=>cs'ab (e ▸ hi))) (by omega)
  have g83:Gs 7 H3 y8 (cl.map eo):=g81.keep (fun i hi=>by
   have h1:=(h8.o i hi)
   have:=h8.gs.lt hi
   rw [k3 i (by omega),k2 i (by omega) h1.2.1]) (by omega)
  obtain ⟨H4,z1,z2,z3,z4⟩:=v_ (j:=0) g3 g83 (bm _ EH _) rfl c8
  have hrow:([y8]:List AV).set 0 (.imm 7 (cl.map eo))=[jp cl]:=rfl
  rw [hrow] at z3
  have z3':Gs 1 H4 cs' ((C0++(C2++[cl])).map fun c=>[jp c]):=by simpa using z3
  have y8ab:¬ own y8 ab:=fun h=>by have:=(h8.o ab h).1; omega
  have same:∀ i,i<H1.n→i≠ab→¬ own cs i→¬ own y8 i→H4.get i=H1.get i:=fun i h1 h2 h3 h4=>by
   rw [z4 i (fun h=>by
    rcases ownc i h with h | h
    ·exact h3 h
    ·omega) h4,k3 i h2,k2 i h1 h3]
  refine KT z1 ?_
  have o5':∀ i,own y5' i→H0.n≤i∧¬ own cs i∧¬ own y8 i:=fun i hi=>by
   rcases own5 i hi with h | h
   ·exact ⟨(hA.o5 i h).1,(hA.o5 i h).2,fun h'=>(h8.o i h').2.2 h⟩
   ·exact ⟨by omega,fun h'=>by have:=cslt i h'; omega,fun h'=>by have:=h8.gs.lt h'; omega⟩
  have g5:Gs 1 H4 y5' ((ns++[(C0++C2).length]).map pu):=by
   have:(I ((C0++C2).length:Int)).cells=pu (C0++C2).length:=rfl
   rw [this] at g1
   have h1:Gs 1 H1 y5' ((ns++[(C0++C2).length]).map pu):=by simpa using g1
   refine h1.keep (fun i hi=>same i (h1.lt hi) (fun e=>?_) (o5' i hi).2.1 (o5' i hi).2.2) (by omega)
   subst e
   have:=(o5' i hi).1
   omega
  refine hK H4 cs' C2 y5' y8 _ _ _ _ _ _ _ cl ⟨⟨?_,by omega,z3',cs'ab⟩,⟨by omega,fun i h1 h2 h3=>?_,fun i hi=>?_⟩,fun c hc=>?_,g5,fun i hi=>⟨(o5' i hi).1,fun h=>?_⟩⟩ (hQ C2 (List.prefix_refl _) (by simp)) hparts hrep (by simp at hcnt ⊢; omega)
  ·rw [z4 ab cs'ab y8ab]; exact gab3
  ·have hi5:¬ own y5 i:=fun h=>by have:=(hA.o5 i h).1; omega
   have hi8:¬ own y8 i:=fun h=>by have:=(h8.o i h).1; omega
   have hic:¬ own cs i:=fun h=>by
    rcases hA.fr.mine i h with h | h
    ·exact h3 h
    ·omega
   rw [same i (by omega) h2 hic hi8,k1 i (by omega) hi5]
   exact hA.fr.get i h1 h2 h3
  ·rcases ownc i hi with h | h
   ·exact hA.fr.mine i h
   ·exact .inr (by omega)
  ·rcases List.mem_append.1 hc with h | h
   ·exact hA.ok c h
   ·simp at h
    subst h
    exact ⟨by rw [hcl]; exact hs.1,hlk⟩
  ·rcases ownc i h with h | h
   ·exact (o5' i hi).2.1 h
   ·rcases own5 i hi with h' | h'
    ·have:=hA.out.lt h'; omega
    ·omega
 | succ n2 ih2 =>
  intro j H cs C2 y8 y11 y31 y32 y33 cl hn hj hA hQ h8 hparts hrep hlk hcnt
  have hlt:j<s.length:=by omega
  obtain ⟨p,hp⟩:=cb hlt
  have hpm:=List.mem_of_getElem? hp
  obtain ⟨hc1,hc2,hc3⟩:=hs.2 p hpm
  have hlt':(j:Int)<s.length:=by omega
  have hdp:s.drop j=p::s.drop (j+1):=cm hp
  rw [hdp,List.map_cons,List.sum_cons] at hcnt
  have hcl:cl.length=j:=by
   have:=congrArg List.length hparts
   simp at this
   omega
  refine al.L1_step ?_
  have hst1:stA 6 (H.new (.cells [I 0,Sx ⟨#[]⟩,.lit (.slice none 0 0),.lit (.slice none 0 0),.lit (.slice none 0 0),.lit (.slice none 0 0)] true)) (.ptr H.n 0) (.agg (bx p))=some ((H.new (.cells [I 0,Sx ⟨#[]⟩,.lit (.slice none 0 0),.lit (.slice none 0 0),.lit (.slice none 0 0),.lit (.slice none 0 0)] true)).set H.n (some (.cells (bx p) true))):=by
   simp
   rw [HB p (by simp)]
  obtain ⟨H1,hH1⟩:∃ H1,H1=(H.new (.cells [I 0,Sx ⟨#[]⟩,.lit (.slice none 0 0),.lit (.slice none 0 0),.lit (.slice none 0 0),.lit (.slice none 0 0)] true)).set H.n (some (.cells (bx p) true)):=⟨_,rfl⟩
  rw [← hH1] at hst1
  have k1:∀ i,i<H.n→H1.get i=H.get i:=fun i hi=>by
   have:i≠H.n:=by omega
   rw [hH1]; simp [this]
  have g1:H1.get H.n=some (.cells (bx p) true):=by rw [hH1]; simp
  have n1:H1.n=H.n+1:=by rw [hH1]; rfl
  clear hH1
  have hb:bi [I 0,Sx ⟨#[]⟩,.lit (.slice none 0 0),.lit (.slice none 0 0),.lit (.slice none 0 0),.lit (.slice none 0 0),.lit (.slice none 0 0)] [(0,6,.agg (bx p))]=some (bx p++[.lit (.slice none 0 0)]):=by
   simp only [bi,zi,kY,kE,decide_true,yW,Bool.not_false,Bool.and_true,rW]
   simp [ce]
  have hst2:stA 7 (H1.new (.cells [I 0,Sx ⟨#[]⟩,.lit (.slice none 0 0),.lit (.slice none 0 0),.lit (.slice none 0 0),.lit (.slice none 0 0),.lit (.slice none 0 0)] true)) (.ptr H1.n 0) (.agg (bx p++[.lit (.slice none 0 0)]))=some ((H1.new (.cells [I 0,Sx ⟨#[]⟩,.lit (.slice none 0 0),.lit (.slice none 0 0),.lit (.slice none 0 0),.lit (.slice none 0 0),.lit (.slice none 0 0)] true)).set H1.n (some (.cells (bx p++[.lit (.slice none 0 0)]) true))):=by
   simp
   rw [a8 (by simp)]
  obtain ⟨H2,hH2⟩:∃ H2,H2=(H1.new (.cells [I 0,Sx ⟨#[]⟩,.lit (.slice none 0 0),.lit (.slice none 0 0),.lit (.slice none 0 0),.lit (.slice none 0 0),.lit (.slice none 0 0)] true)).set H1.n (some (.cells (bx p++[.lit (.slice none 0 0)]) true)):=⟨_,rfl⟩
  rw [← hH2] at hst2
  have k2:∀ i,i<H1.n→H2.get i=H1.get i:=fun i hi=>by
   have:i≠H1.n:=by omega
   rw [hH2]; simp [this]
  have g2:H2.get H1.n=some (.cells (bx p++[.lit (.slice none 0 0)]) true):=by rw [hH2]; simp
  have n2':H2.n=H1.n+1:=by rw [hH2]; rfl
  clear hH2
  have g1':H2.get H.n=some (.cells (bx p) true):=by rw [k2 H.n (by omega)]; exact g1
  have hps:ldL false 1 ((bx p).drop 5)=some (.imm 4 (p.c.pseudos.map bv)):=by rw [d6,cX]; rfl
  simp only [bA,hlt',decide_true,aa,ah,if_true,bS hp,e8,Ac,bw,hst1,bE,g1,br,List.drop_zero,hb,hst2,bj,Nat.zero_add,g1',hps,cI,List.length_map]
  have up0:=hA.fr.up
  have kk:∀ i,i<H.n→H2.get i=H.get i:=fun i hi=>by rw [k2 i (by omega),k1 i hi]
  have hA2:AS t C0 ab mb H0 cs0 C2 cs H2 y5 ns:=hA.loc hab (by omega) (fun i hi=>kk i (by omega)) (fun i hi=>kk i (hA.add.gcs.lt hi)) (fun i hi=>kk i (hA.out.lt hi))
  refine Ki ih hab hc2 hc3 (j:=j) (R:=((s.drop (j+1)).map (vE f)).sum+(1+R)) (P:=fun D=>C2 <+: D∧D.length=C2.length+vE f p) (by have:=hs.1; omega) (Nat.le_of_eq hcl) (fun H' cs' C3 y8' y11' lsl y31' y32' y33' b1 b2 b3 b4 b5 b6 b7=>?_) p.c.pseudos.length 0 H2 cs C2 y8 H1.n (.lit (.slice none 0 0)) [] (by omega) (Nat.zero_le _) hA2 (fun D h1 h2=>⟨h1,by rw [h2]; rfl⟩) (h8.loc (by omega) fun i hi=>kk i (h8.gs.lt hi)) g2 (by omega) (by omega) (fun h=>by have:=hA.add.gcs.lt h; omega) (fun h=>by have:=hA.out.lt h; omega) (fun h=>by have:=h8.gs.lt h; omega) ⟨.nil,fun i h=>h.elim⟩ (fun h=>h) (fun i h=>h.elim) rfl (fun j q ns' _ h=>by simp at h) (fun l h=>by cases h) (by have hcp:vE f p=(p.c.pseudos.map (fun q=>gd f q.list)).sum:=rfl; rw [hcp] at hcnt; simp only [List.drop_zero]; omega)
  obtain ⟨D,hD⟩:=b2.1
  refine ih2 (j+1) H' cs' C3 y8' y11' y31' y32' y33' (cl++[Lk.mk p lsl]) (by omega) (by omega) b1 (fun D2 h1 h2=>hQ D2 (b2.1.trans h1) ?_) b3 ?_ (fun k x hx=>?_) (fun x hx=>?_) b7
  ·rw [h2,b2.2,hdp,List.map_cons,List.sum_cons]
   omega
  ·rw [List.map_append,hparts,List.take_succ_eq_append_getElem hlt]
   rw [List.getElem?_eq_getElem hlt] at hp
   rw [Option.some.inj hp]
   rfl
  ·by_cases hk:k<cl.length
   ·rw [List.getElem?_append_left hk] at hx
    refine ⟨(hrep k x hx).1,fun j q ns' h1 h2=>?_⟩
    have:=((hrep k x hx).2 j q ns' h1 h2).mono (D:=D)
    rwa [List.append_assoc,hD] at this
   ·rw [List.getElem?_append_right (by omega)] at hx
    have h1:=(List.getElem?_eq_some_iff.1 hx).1
    simp at h1
    have:k - cl.length=0:=by omega
    rw [this] at hx
    simp at hx
    subst hx
    exact ⟨b4,b5⟩
  ·rcases List.mem_append.1 hx with h | h
   ·exact hlk x h
   ·simp at h
    subst h
    refine ⟨hc1,fun q hq=>(hc3 q hq).1,fun l hl=>?_⟩
    have:=b6 l hl
    rw [eH]
    omega
theorem Ei {f:Nat} (ih:vo σ f):vo σ (f+1):=by
 have hNB:NB=1048576:=rfl
 intro l hl t C ab mb cs H K hA hcnt hK
 have L0:∀ (n m:Nat) (H1:Hp) (cs1:AV) (C2:List (List Lk)) (y5 y8 y11 y21 y22 y23 y31 y32 y33:AV) (ns:List Nat),l.length - m=n→m≤l.length→AS t C ab mb H cs C2 cs1 H1 y5 ns→Rep (C++C2) (f+1) (l.take m) ns→C2.length=gd (f+1) (l.take m)→(C++C2).length+gd (f+1) (l.drop m)≤NB →
   al.L0 σ K (.ptr ab 0) y5 y8 y11 (sls l) (I l.length) (I (m:Int)) y21 y22 y23 y31 y32 y33 H1:=by
  intro n
  induction n with
  | zero =>
   intro m H1 cs1 C2 y5 y8 y11 y21 y22 y23 y31 y32 y33 ns hn hm h1 hr hc hb
   have:m=l.length:=by omega
   subst this
   rw [List.take_length] at hr hc
   refine al.L0_step ?_
   simp only [bA,Int.lt_irrefl,decide_false,aa,ah,Bool.false_eq_true,if_false]
   exact hK H1 cs1 C2 y5 ns h1.add hr hc h1.ok h1.out h1.o5 h1.fr
  | succ n ihn =>
   intro m H1 cs1 C2 y5 y8 y11 y21 y22 y23 y31 y32 y33 ns hn hm h1 hr hc hb
   have hlt:m<l.length:=by omega
   obtain ⟨s,hs⟩:=cb hlt
   have hsm:=List.mem_of_getElem? hs
   have hsk:Lu f s:=hl.2 s hsm
   have hlt':(m:Int)<l.length:=by omega
   have hds:l.drop m=s::l.drop (m+1):=cm hs
   have hlb:=hl.1
   have hnl:ns.length=m:=by rw [hr.1,List.length_take]; omega
   have hcons:gd (f+1) (s::l.drop (m+1))=1+(s.map (vE f)).sum+gd (f+1) (l.drop (m+1)):=by
    simp [gd]
    rfl
   rw [hds,hcons] at hb
   have htk:gd (f+1) (l.take (m+1))=gd (f+1) (l.take m)+(1+(s.map (vE f)).sum):=by
    have:l.take (m+1)=l.take m++[s]:=by rw [List.take_add_one,hs]; rfl
    rw [this]
    simp [gd]
    rfl
   refine al.L0_step ?_
   have hix:aJ 1 (sls l) (I (m:Int))=some (.ip (aU s)):=bS hs
   have hst:stA 1 (H1.new (.cells [.lit (.slice none 0 0)] true)) (.ptr H1.n 0) (.agg (aU s))=some ((H1.new (.cells [.lit (.slice none 0 0)] true)).set H1.n (some (.cells (aU s) true))):=by
    simp [aU]
   simp only [bA,hlt',decide_true,aa,ah,if_true,hix,e8,nG,bw,hst,bj,Nat.zero_add,bE,ay,br,List.drop_zero,md,cI,List.length_map]
   have up0:=h1.fr.up
   have hab:=hA.nab
   have kk:∀ i,i<H1.n→((H1.new (.cells [.lit (.slice none 0 0)] true)).set H1.n (some (.cells (aU s) true))).get i=H1.get i:=fun i hi=>by
    have:i≠H1.n:=by omega
    simp [this]
   have h1':=h1.loc (H':=(H1.new (.cells [.lit (.slice none 0 0)] true)).set H1.n (some (.cells (aU s) true))) hab (by simp) (fun i hi=>kk i (by omega)) (fun i hi=>kk i (h1.add.gcs.lt hi)) (fun i hi=>kk i (h1.out.lt hi))
   refine Jr ih hab (by omega) hsk (m0:=m) (by omega) (R:=gd (f+1) (l.drop (m+1))) (Q:=fun D=>C2 <+: D∧D.length=C2.length+(s.map (vE f)).sum) (fun H' cs' C3 y5' y8' y11' y21' y22' y23' y31' y32' y33' cl b1 b2 b3 b4 b5=>?_) s.length 0 _ cs1 C2 (.lit (.slice none 0 0)) _ _ _ _ [] (by omega) (Nat.zero_le _) h1' (fun D g1 g2=>⟨g1,by simpa using g2⟩) ⟨.nil,fun i h=>h.elim⟩ rfl (fun k x h=>by simp at h) (fun x h=>by cases h) (by simp at hb ⊢; omega)
   obtain ⟨D,hD⟩:=b2.1
   refine ihn (m+1) H' cs' (C3++[cl]) y5' y8' y11' y21' y22' y23' y31' y32' y33' _ (by omega) (by omega) b1 ⟨by simp [hnl]; omega,fun i s' n' hs' hn'=>?_⟩ ?_ (by simp at b5 ⊢; omega)
   ·by_cases hi:i<m
    ·rw [List.getElem?_take,if_pos (by omega)] at hs'
     rw [List.getElem?_append_left (by omega)] at hn'
     have hr2:Rep (C++(C3++[cl])) (f+1) (l.take m) ns:=by
      have:=hr.mono (D:=D++[cl])
      rwa [show C++C2++(D++[cl])=C++(C3++[cl]) by rw [← hD]; simp] at this
     exact hr2.2 i s' n' (by rw [List.getElem?_take,if_pos hi]; exact hs') hn'
    ·rw [List.getElem?_append_right (by omega)] at hn'
     have h2:=(List.getElem?_eq_some_iff.1 hn').1
     simp at h2
     have him:i=m:=by omega
     subst him
     rw [List.getElem?_take,if_pos (by omega),hs] at hs'
     cases hs'
     simp [hnl] at hn'
     subst hn'
     refine ⟨cl,by simp,b3,fun k x hx=>⟨(b4 k x hx).1,fun j q ns' g1 g2=>?_⟩⟩
     have:=((b4 k x hx).2 j q ns' g1 g2).mono (D:=[cl])
     rwa [List.append_assoc] at this
   ·rw [htk,List.length_append,b2.2,hc]
    simp
    omega
 refine al.run ?_
 simp
 refine L0 l.length 0 H cs [] _ _ _ _ _ _ _ _ _ [] (by omega) (Nat.zero_le _) ⟨by simpa using hA,.refl _ _ _,fun c h=>(by cases h),.nil,fun i h=>h.elim⟩ ⟨rfl,fun i s n h=>by simp at h⟩ (by simp [gd]) (by simpa using hcnt)
theorem AJ:∀ (f:Nat),vo σ f
 | 0=>fun l h=>h.elim
 | f+1=>Ei (AJ f)
end
end Go.Proofs.YthmaggcfghjmfaaGreat.Ev
namespace Go.Proofs.YthmaggcfghjmfaaGreat.Ev
set_option linter.unusedVariables false
set_option linter.unusedSimpArgs false
variable {σ:Sig}
theorem FE {sz:Nat} {H:Hp} {x:AV} {rows:List (List AV)} (hg:Gs sz H x rows) (hn:eQ rows=true) :
  ∃ Hd H2:Hp,Hd.n=H.n∧H2.n=H.n∧(∀ id k,Hd.get id=some k→H.get id=some k∧H2.get id=none)∧(∀ id k2,H2.get id=some k2→∃ k1,H.get id=some k1∧FzB Hd k1 k2)∧Fz Hd x (.imm sz rows)∧∀ j,¬ own x j→H2.get j=H.get j:=by
 cases hg with
 | nil =>
  let Hd:Hp:=⟨H.n,Hp.empty.t⟩
  have hd0:∀ id,Hd.get id=none:=fun id=>by simp [Hd,Hp.empty,Hp.get,Tr.get]
  exact ⟨Hd,H,rfl,rfl,fun id k h=>(by rw [hd0] at h; cases h),fun id k2 h=>⟨k2,h,.refl _ _⟩,.nil,fun j _=>rfl⟩
 | sl hlt hg hsz =>
  rename_i id exx
  let Hd:Hp:=(⟨H.n,Hp.empty.t⟩:Hp).set id (some (.cells rows.flatten exx))
  have hd0:∀ j,Hd.get j=if j=id then some (.cells rows.flatten exx) else none:=fun j=>by
   show ((⟨H.n,Hp.empty.t⟩:Hp).set id _).get j=_
   rw [ay]
   split
   ·rfl
   ·simp [Hp.empty,Hp.get,Tr.get]
  have hf:Fz Hd (.sl id 0 sz rows.length none) (.imm sz rows):=.rows (cs:=rows.flatten) (ex:=exx) (by rw [hd0,if_pos rfl]) hsz (by rw [List.drop_zero]; exact List.take_of_length_le (by rw [dO hsz]; exact Nat.le_refl _)) hn
  refine ⟨Hd,H.set id none,rfl,rfl,fun j k h=>?_,fun j k2 h=>?_,hf,fun j ho=>?_⟩
  ·rw [hd0] at h
   split at h
   ·rename_i e; subst e; cases h
    exact ⟨hg,by simp⟩
   ·cases h
  ·rw [ay] at h
   split at h
   ·cases h
   ·exact ⟨k2,h,.refl _ _⟩
  ·have:j≠id:=fun e=>ho (by rw [e]; rfl)
   simp [this]
theorem Jz {f:Nat} {l:List Sl} (hl:kr f l) {t:AV} {C:List (List Lk)} {ab mb:Nat} {cs:AV} {H:Hp} {K:AV→Hp→Prop} (hA:ue t C ab mb cs H) (hc:C.length+gd f l≤NB)
  (hK:∀ (H':Hp) (cs':AV) (C2:List (List Lk)) (ns:List Nat),ue t (C++C2) ab mb cs' H'→Rep (C++C2) f l ns→C2.length=gd f l→(∀ c ∈ C2,GU c)→AFr H cs ab H' cs'→K (kU ns) H'):ai Tryz.prog σ dU [.ptr ab 0,sls l] H K:=by
 obtain ⟨r,H1,hg,cs',C2,ns,h1,h2,h3,h4,h5,h6,h7⟩:=AJ (σ:=σ) f l hl t C ab mb cs H (fun r H'=>∃ cs' C2 ns,ue t (C++C2) ab mb cs' H'∧Rep (C++C2) f l ns∧C2.length=gd f l∧(∀ c ∈ C2,GU c)∧Gs 1 H' r (ns.map pu)∧(∀ j,own r j→H.n≤j∧¬ own cs' j)∧AFr H cs ab H' cs') hA hc fun H' cs' C2 r ns a b c d e f g=>⟨cs',C2,ns,a,b,c,d,e,f,g⟩
 obtain ⟨Hd,H2,a1,a2,a3,a4,a5,a6⟩:=FE h5 (bm _ (fun _=>rfl) ns)
 have hab:=hA.nab
 refine am (hg.frzH a2 a1 a3 a4 (.inr a5)) (hK H2 cs' C2 ns (h1.loc (by omega) (a6 _ fun h=>?_) fun j hj=>a6 _ fun h=>(h6 j h).2 hj) h2 h3 h4 (h7.loc (by omega) fun j hj=>a6 _ fun h=>?_))
 ·have:=(h6 _ h).1; omega
 ·have:=(h6 _ h).1; omega
theorem Bv {C D:List (List Lk)} {n:Nat} (h:n<C.length):nE (C++D) n=nE C n:=by
 unfold nE
 rw [List.getD_eq_getElem?_getD,List.getD_eq_getElem?_getD,List.getElem?_append_left h]
theorem GN {L:List Nd} {C D:List (List Lk)} {n:Nat} (h:n<C.length) (i e:Nat) (a:Bool):Tru L (C++D) n i e a=Tru L C n i e a:=by
 unfold Tru
 rw [Bv h]
theorem mf.app {L:List Nd} {C D:List (List Lk)} {es:List (AV × AV)} (h:mf C.length (Tru L C) es):mf (C++D).length (Tru L (C++D)) es:=fun p hp=>by
 obtain ⟨n,i,e,a,h1,h2,h3⟩:=h p hp
 exact ⟨n,i,e,a,by rw [List.length_append]; omega,by rw [GN h1]; exact h2,h3⟩
theorem sJ (f:Nat) (s:Sl) (l:List Sl):gd f (s::l)=gd f [s]+gd f l:=by
 cases f with
 | zero=>rfl
 | succ f=>simp [gd]
theorem ld.one {f:Nat} {l:List Sl} (h:ld f l) {s:Sl} (hs:s ∈ l):ld f [s]:=by
 cases f with
 | zero=>exact h
 | succ f=>exact fun s' hs'=>by rw [List.mem_singleton.1 hs']; exact h s hs
theorem kr.one {f:Nat} {l:List Sl} (h:kr f l) {s:Sl} (hs:s ∈ l):kr f [s]:=by
 cases f with
 | zero=>exact h
 | succ f=>exact ⟨(by show 1≤NB; decide),fun s' hs'=>by rw [List.mem_singleton.1 hs']; exact h.2 s hs⟩
theorem Jw {l:List Sl} {m:Nat} {s:Sl} (h:l[m]?=some s):vH 1 (sls l) (some (I (m:Int))) (some (I ((m+1:Nat):Int))) none=some (sls [s]):=by
 have hlt:=(List.getElem?_eq_some_iff.1 h).1
 have e1:((m:Int)+1)≤l.length:=by omega
 have e2:(0:Int)≤(m:Int)+1:=by omega
 have e3:((m:Int)+1).toNat=m+1:=by omega
 have e4:(List.drop m (l.map aU)).take 1=[aU s]:=by
  rw [← List.map_drop,cm h]; rfl
 simp [vH,oc,jt,yp,sls,db,fB,kE,e1,e2,e3,e4,show ((m:Int)≤(m:Int)+1) from by omega]
def kF (L:List Nd) (f:Nat) (l:List Sl) (e:Nat):Bool:=l.any fun s=>fI f [s] 8&&AA L [s] e
structure McT (σ:Sig) (L:List Nd) (d:List Nat):Prop where
 hC:nP σ
 hB:cH L L.length d
 hN:L.length≤4096
 sm:∀ e,e<L.length→SmN (ca (cB L e))
structure oe (f:Nat) (l:List Sl):Prop where
 wf:i6 dF l
 ok:kr f l
 nest:ld f l
 hf:f≤12
 cnt:gd f l≤NB
section
attribute [local irreducible] dv.L0
theorem BZ {L:List Nd} {d:List Nat} (M:McT σ L d) {f:Nat} {l:List Sl} (S:oe f l) (e:Int) (H:Hp) :
  az Tryz.prog σ iY [eI L d,I e,sls l] H (Bo (decide (0≤e)&&decide (e<L.length)&&kF L f l e.toNat)) H:=by
 have hNB:NB=1048576:=rfl
 refine bl (fun K hK=>dv.run (am (KN L d e _) ?_)) (by simp [aP,bF,c6,kM]) rfl H
 simp only [dQ,aa,ah]
 cases hin:(decide (0≤e)&&decide (e<L.length)) with
 | false=>rw [hin] at hK; simpa using hK _
 | true =>
 rw [hin] at hK
 simp only [Bool.true_and] at hK
 simp only [Bool.and_eq_true,decide_eq_true_eq] at hin
 obtain ⟨en,rfl⟩:∃ en:Nat,e=(en:Int):=⟨e.toNat,by omega⟩
 have he:en<L.length:=by omega
 rw [Int.toNat_natCast] at hK
 simp only [Bool.not_true,Bool.false_eq_true,if_false]
 have hlen:aW (sls l)=some (I (l.length:Int)):=by unfold sls; simp
 have hlw:l.length≤NB:=by
  have:=S.ok
  revert this
  cases f with
  | zero=>exact fun h=>h.elim
  | succ f=>exact fun h=>h.1
 have L0:∀ (k m:Nat) (H1:Hp) (C:List (List Lk)) (ab mb:Nat) (cs:AV),l.length - m=k→m≤l.length→iv (eI L d) C (Tru L C) ab mb cs H1→¬ own cs ab→Mc σ L d C→C.length+gd f (l.drop m)≤NB→(∀ H,K (Bo (kF L f (l.drop m) en)) H) →
   dv.L0 σ K (I (en:Int)) (sls l) (.ptr ab 0) (I l.length) (I (m:Int)) H1:=by
  intro k
  induction k with
  | zero =>
   intro m H1 C ab mb cs hk hm hA hcs hM hc hK
   have:m=l.length:=by omega
   subst this
   refine dv.L0_step ?_
   simp
   simpa [kF] using hK H1
  | succ k ih =>
   intro m H1 C ab mb cs hk hm hA hcs hM hc hK
   have hlt:m<l.length:=by omega
   obtain ⟨s,hs⟩:=cb hlt
   have hsm:=List.mem_of_getElem? hs
   have hlt':(m:Int)<l.length:=by omega
   rw [cm hs] at hK hc
   rw [sJ] at hc
   have hwf:i6 dF [s]:=⟨(by show 1≤dF; decide),fun s' h=>by rw [List.mem_singleton.1 h]; exact S.wf.2 s hsm⟩
   have hn1:=S.nest.one hsm
   have hcons:kF L f (s::l.drop (m+1)) en=((fI f [s] 8&&AA L [s] en)||kF L f (l.drop (m+1)) en):=by simp [kF]
   rw [hcons] at hK
   refine dv.L0_step ?_
   simp only [bA,hlt',decide_true,aa,ah,if_true,bN,bz (show m<9000000000000000000 by omega),Jw hs]
   refine am (B4 f [s] 8 _ hwf hn1 (by omega)) ?_
   simp only [ah]
   cases hmay:fI f [s] 8 with
   | false =>
    rw [hmay] at hK
    simp only [Bool.false_and,Bool.false_or] at hK
    simp only [Bool.false_eq_true,if_false]
    exact ih (m+1) H1 C ab mb cs (by omega) (by omega) hA hcs hM (by omega) hK
   | true =>
    rw [hmay] at hK
    simp only [Bool.true_and] at hK
    simp only [if_true]
    have nmb:=hA.nmb
    have nab:=hA.nab
    refine Jz (S.ok.one hsm) ⟨hA.gab,hA.nab,hA.gcs,hcs⟩ (by omega) fun H' cs' C2 ns b1 b2 b3 b4 b5=>?_
    have up:=b5.up
    have hA':iv (eI L d) (C++C2) (Tru L (C++C2)) ab mb cs' H':=by
     obtain ⟨es,g1,g2⟩:=hA.memo
     refine ⟨b1.gab,b1.nab,by omega,hA.ne,b1.gcs,fun h=>?_,es,by rw [b5.get mb nmb hA.ne.symm hA.csm]; exact g1,g2.app⟩
     rcases b5.mine mb h with h | h
     ·exact hA.csm h
     ·omega
    have hM':Mc σ L d (C++C2):=by
     have hre:NB≤reachBytes:=by rw [eH]; decide
     refine ⟨M.hC,M.hB,M.hN,M.sm,?_,fun c hc'=>?_,fun c hc'=>?_⟩
     ·rw [List.length_append,b3]; omega
     ·rcases List.mem_append.1 hc' with h | h
      ·exact hM.ll c h
      ·exact Nat.le_trans (b4 c h).len hre
     ·rcases List.mem_append.1 hc' with h | h
      ·exact hM.lk c h
      ·exact (b4 c h).lk
    have hns:ns.length≤reachBytes:=by
     have:ns.length=1:=by
      have:=b2
      revert this
      cases f with
      | zero=>exact fun h=>h.elim
      | succ f=>exact fun h=>h.1
     rw [this]; decide
    refine Ed hM' f S.hf [s] ns b2 hn1 S.hf hns en he ab mb cs' H' _ hA' fun H2 h2 kp2=>?_
    simp only [ah]
    cases haa:AA L [s] en with
    | true =>
     rw [haa] at hK
     simpa using hK H2
    | false =>
     rw [haa] at hK
     simp only [Bool.false_or] at hK
     simp only [Bool.false_eq_true,if_false]
     exact ih (m+1) H2 (C++C2) ab mb cs' (by omega) (by omega) h2 b1.csab hM' (by rw [List.length_append,b3]; omega) hK
 refine mh.run ?_
 have hb:bi [.lit (.pointer none),.lit (.slice none 0 0),.lit (.map none)] [(0,1,eI L d),(2,1,.mp Hp.empty.n)]=some [eI L d,.lit (.slice none 0 0),.mp Hp.empty.n]:=rfl
 simp only [hb,aa,d7,hlen]
 refine L0 l.length 0 _ [] _ Hp.empty.n (.lit (.slice none 0 0)) (by omega) (Nat.zero_le _) ⟨?_,?_,?_,?_,.nil,fun h=>h.elim,[],?_,fun p hp=>by cases hp⟩ (fun h=>h.elim) ⟨M.hC,M.hB,M.hN,M.sm,Nat.zero_le _,fun c hc=>(by cases hc),fun c hc=>(by cases hc)⟩ (by simpa using S.cnt) (by simpa using hK)
 ·simp
 ·simp
 ·simp only [Hp.n_new]; omega
 ·simp
 ·simp
end
end Go.Proofs.YthmaggcfghjmfaaGreat.Ev
namespace Go.Proofs.YthmaggcfghjmfaaGreat.Ev
set_option linter.unusedVariables false
set_option linter.unusedSimpArgs false
variable {σ:Sig}
theorem Ik {H:Hp} {id:Nat} {s:Sl} {ex:Bool} {cap:Option Nat} (hg:H.get id=some (.cells (aU s) ex)):Fz H (.sl id 0 1 1 cap) (sls [s]):=by
 have h1:(aU s).length=1:=rfl
 have:Fz H (.sl id 0 1 [aU s].length cap) (.imm 1 [aU s]):=.rows hg (by simp [h1]) (by simp; exact List.take_of_length_le (by rw [h1]; exact Nat.le_refl _)) (by simp [eQ,lA])
 exact this
def sa (L:List Nd) (f:Nat) (s:Sl) (e:Int):Bool:=decide (0≤e)&&decide (e<L.length)&&kF L f [s] e.toNat
theorem tn {L:List Nd} {d:List Nat} (M:McT σ L d) {f:Nat} {s:Sl} (S:oe f [s]) (e:Int) (H:Hp):az Tryz.prog σ dC [eI L d,I e,.agg (aU s)] H (Bo (sa L f s e)) H:=by
 refine bl (fun K hK=>jL.run ?_) (by simp [aP,bF,c6,lA]) rfl H
 have hb:∀ H:Hp,aw [.slice none 0 0] 1 1 H [(0,1,.agg (aU s))]=some (.sl H.n 0 1 1 (some 1),H.new (.cells (aU s) true)):=fun H=>by
  unfold aw aU; rfl
 have hl:∀ H:Hp,ldA true 1 (H.new (.cells (aU s) true)) (.ptr H.n 0)=some (.agg (aU s)):=fun H=>by
  simp only [bE,aB,if_true,br,List.drop_zero,nG]
 simp only [d7,hl,hb,aa]
 refine am ((BZ M S e Hp.empty).frzA (.cons (.refl (c6 L d)) (.cons (.refl rfl) (.cons (Ik (ex:=true) (by simp)) .nil))) rfl) ?_
 exact hK _
end Go.Proofs.YthmaggcfghjmfaaGreat.Ev
namespace Go.Proofs.YthmaggcfghjmfaaGreat.Ev
set_option linter.unusedVariables false
set_option linter.unusedSimpArgs false
variable {σ:Sig}
def Iz (σ:Sig) (f:Nat):Prop:=∀ (s:Sl) (dp:Nat) (H:Hp),w_ dF s→(∀ p ∈ s,∀ q ∈ p.c.pseudos,ld f q.list)→dp≤8→az Tryz.prog σ gj [.agg (aU s),I (dp:Int)] H (Bo (!o7 (fI f) (8 - dp) s)) H
def IM (σ:Sig) (f:Nat):Prop:=∀ (c:Cp) (dp:Nat) (H:Hp),tL dF c→(∀ q ∈ c.pseudos,ld f q.list)→dp≤8→az Tryz.prog σ j8 [.agg (bR c),I (dp:Int)] H (Bo (!qt (fI f) (8 - dp) c)) H
section
attribute [local irreducible] ba.L0 ba.J1 ba.L2 cM.L0
theorem ya {f:Nat} (ih:IM σ f):Iz σ f:=by
 intro s dp H hw hn hd
 refine bl (fun K hK=>cM.run ?_) (by simp [aP,bF,lA]) rfl H
 have L0:∀ (m k y2:Nat) (H:Hp),s.length - m=k→m≤s.length→H.get y2=some (.cells (aU s) true)→(∀ H,K (Bo (!(s.drop m).all fun p=>qt (fI f) (8 - dp) p.c)) H)→cM.L0 σ K (I (dp:Int)) (.ptr y2 0) (I (m:Int)) H:=by
  intro m k
  revert m
  induction k with
  | zero =>
   intro m y2 H hk hm hg hK
   have:m=s.length:=by omega
   subst this
   refine cM.L0_step ?_
   simp only [bj,Nat.zero_add,aa,bE,hg,br,List.drop_zero,md,cI,List.length_map,bA,Int.lt_irrefl,decide_false,ah,Bool.false_eq_true,if_false]
   simpa using hK H
  | succ k ihk =>
   intro m y2 H hk hm hg hK
   have hlt:m<s.length:=by omega
   obtain ⟨p,hp⟩:=cb hlt
   have hpm:=List.mem_of_getElem? hp
   have hpw:=(Pt.wf_iff.1 (hw.2 p hpm)).2
   rw [cm hp,List.all_cons] at hK
   have hlt':(m:Int)<s.length:=by omega
   refine cM.L0_step ?_
   have hd1:(bx p).drop 1=bR p.c:=by rw [d6]; rfl
   have hld:ldL true 5 ((bx p).drop 1)=some (.agg (bR p.c)):=by rw [hd1,Am]
   have hsh:ae (.ip (bx p)) 1=some (.ip ((bx p).drop 1)):=by rw [d6,cX]; rfl
   simp only [bj,Nat.zero_add,aa,bE,hg,br,List.drop_zero,md,cI,List.length_map,bA,hlt',decide_true,ah,if_true,bS hp,hsh,e8,hld]
   refine am (ih p.c dp _ hpw (fun q hq=>hn p hpm q hq) hd) ?_
   simp only [ah]
   cases hb:qt (fI f) (8 - dp) p.c with
   | false =>
    rw [hb] at hK
    simpa using hK _
   | true =>
    rw [hb] at hK
    simp only [Bool.not_true,Bool.false_eq_true,if_false,bN,aa,cO hlt hw.1]
    exact ihk (m+1) y2 H (by omega) (by omega) hg (by simpa using hK)
 have hS:o7 (fI f) (8 - dp) s=(decide (s.length≤50)&&s.all fun p=>qt (fI f) (8 - dp) p.c):=rfl
 rw [hS] at hK
 simp only [d7,bj,aa,Nat.zero_add,bE,aB,if_true,br,List.drop_zero,md,cI,List.length_map,eF,ah,decide_eq_true_eq]
 split
 ·rename_i h50
  have:¬ (s.length≤50):=by omega
  simpa [this] using hK _
 ·rename_i h50
  have:s.length≤50:=by omega
  refine L0 0 _ _ _ rfl (Nat.zero_le _) (by simp) ?_
  simpa [this] using hK
theorem xN {f:Nat} (ih:∀ f',f=f'+1→Iz σ f'):IM σ f:=by
 intro c dp H hc hn hd
 refine bl (fun K hK=>ba.run ?_) (by simp [aP,bF,mJ]) rfl H
 have L0:∀ (k m y2:Nat) (H:Hp) (y6 y7:AV),c.pseudos.length - m=k→m≤c.pseudos.length→y2<H.n→H.get y2=some (.cells (bR c) true)→(∀ H,K (Bo (!(c.pseudos.drop m).all (pz (fI f) (8 - dp)))) H)→ba.L0 σ K (I (dp:Int)) (.ptr y2 0) (I (m:Int)) y6 y7 H:=by
  intro k
  induction k with
  | zero =>
   intro m y2 H y6 y7 hk hm hy2 hg hK
   have:m=c.pseudos.length:=by omega
   subst this
   refine ba.L0_step ?_
   simp only [bj,Nat.zero_add,aa,bE,hg,br,rF,cI,List.length_map,bA,Int.lt_irrefl,decide_false,ah,Bool.false_eq_true,if_false]
   simpa using hK H
  | succ k ihk =>
   intro m y2 H y6 y7 hk hm hy2 hg hK
   have hlt:m<c.pseudos.length:=by omega
   obtain ⟨q,hq⟩:=cb hlt
   have hqm:=List.mem_of_getElem? hq
   have hqw:=(Ps.wf_iff.1 (hc.ps q hqm)).2.2.2
   rw [cm hq,List.all_cons] at hK
   have hlt':(m:Int)<c.pseudos.length:=by omega
   have next:∀ (H:Hp) (y6 y7:AV),y2<H.n→H.get y2=some (.cells (bR c) true)→pz (fI f) (8 - dp) q=true→ba.J1 σ K (I (dp:Int)) (.ptr y2 0) (I (m:Int)) y6 y7 H:=by
    intro H y6 y7 h1 h2 ht
    refine ba.J1_step ?_
    simp only [bN,aa,cO hlt hc.psL]
    refine ihk (m+1) y2 H y6 y7 (by omega) (by omega) h1 h2 fun H'=>?_
    have:=hK H'
    rwa [ht,Bool.true_and] at this
   have ask:∀ (H:Hp) (y6:Nat) (y7:AV),(q.kind=7∨q.kind=8)→y2<H.n→H.get y2=some (.cells (bR c) true)→H.get y6=some (.cells (bv q) true)→ifB (Bo (decide ((8:Int)≤(dp:Int)))) (K (Bo true) H) (ba.L2 σ K (I (dp:Int)) (.ptr y2 0) (I (m:Int)) (.ptr y6 0) (I 0) H):=by
    intro H y6 y7 hkq hy hg2 hg6
    simp only [ah,decide_eq_true_eq]
    have hQ:pz (fI f) (8 - dp) q=(!decide (8 - dp=0)&&fI f q.list (8 - dp - 1)):=by unfold pz; rw [if_pos hkq]
    split
    ·rename_i h0
     have h0':8 - dp=0:=by omega
     have:=hK H
     rw [hQ] at this
     simpa [h0'] using this
    ·rename_i h0
     have h0':¬ (8 - dp=0):=by omega
     have hnq:=hn q hqm
     cases f with
     | zero=>exact hnq.elim
     | succ f' =>
     have hQ2:pz (fI (f'+1)) (8 - dp) q=q.list.all (o7 (fI f') (8 - (dp+1))):=by
      rw [hQ]
      simp only [h0',decide_false,Bool.not_false,Bool.true_and]
      rw [show 8 - (dp+1)=8 - dp - 1 by omega]
      rfl
     have L2:∀ (k2 j:Nat) (H:Hp),q.list.length - j=k2→j≤q.list.length→y2<H.n→H.get y2=some (.cells (bR c) true)→H.get y6=some (.cells (bv q) true)→(∀ i,i<j→∀ s,q.list[i]?=some s→o7 (fI f') (8 - (dp+1)) s=true)→ba.L2 σ K (I (dp:Int)) (.ptr y2 0) (I (m:Int)) (.ptr y6 0) (I (j:Int)) H:=by
      intro k2
      induction k2 with
      | zero =>
       intro j H hk2 hj hy hg2 hg6 hall
       have:j=q.list.length:=by omega
       subst this
       refine ba.L2_step ?_
       simp only [bj,Nat.zero_add,aa,bE,hg6,br,nR,sls,cI,List.length_map,bA,Int.lt_irrefl,decide_false,ah,Bool.false_eq_true,if_false]
       refine next H _ _ hy hg2 ?_
       rw [hQ2,List.all_eq_true]
       intro s hs
       obtain ⟨i,hi⟩:=List.getElem?_of_mem hs
       exact hall i (List.getElem?_eq_some_iff.1 hi).1 s hi
      | succ k2 ih2 =>
       intro j H hk2 hj hy hg2 hg6 hall
       have hjlt:j<q.list.length:=by omega
       obtain ⟨s,hs⟩:=cb hjlt
       have hsm:=List.mem_of_getElem? hs
       have hjlt':(j:Int)<q.list.length:=by omega
       refine ba.L2_step ?_
       have hix:aJ 1 (.imm 1 (q.list.map aU)) (I (j:Int))=some (.ip (aU s)):=bS hs
       have e1:wr .i64 ((dp:Int)+1)=((dp+1:Nat):Int):=by rw [eh (by omega) (by omega)]; rfl
       simp only [bj,Nat.zero_add,aa,bE,hg6,br,nR,sls,cI,List.length_map,bA,hjlt',decide_true,ah,if_true,hix,e8,nG,bN,e1]
       refine am (ih f' rfl s (dp+1) _ (hqw.2 s hsm) (fun p hp q2 hq2=>hnq s hsm p hp q2 hq2) (by omega)) ?_
       simp only [ah]
       cases hb:o7 (fI f') (8 - (dp+1)) s with
       | false =>
        have:=hK H
        have hf:q.list.all (o7 (fI f') (8 - (dp+1)))=false:=by
         rw [List.all_eq_false]
         exact ⟨s,hsm,by rw [hb]; simp⟩
        rw [hQ2,hf] at this
        simpa using this
       | true =>
        simp only [Bool.not_true,Bool.false_eq_true,if_false,aa,cO hjlt hqw.1]
        refine ih2 (j+1) H (by omega) (by omega) hy hg2 hg6 fun i hi s' hs'=>?_
        by_cases hij:i<j
        ·exact hall i hij s' hs'
        ·have:i=j:=by omega
         subst this
         rw [hs] at hs'
         cases hs'
         exact hb
     exact L2 _ 0 H rfl (Nat.zero_le _) hy hg2 hg6 fun i hi=>by omega
   refine ba.L0_step ?_
   have hst:stA 4 (H.new (.cells [I 0,I 0,I 0,.lit (.slice none 0 0)] true)) (.ptr H.n 0) (.agg (bv q))=some ((H.new (.cells [I 0,I 0,I 0,.lit (.slice none 0 0)] true)).set H.n (some (.cells (bv q) true))):=by
    simp
    rw [yq q (by simp)]
   simp only [bj,Nat.zero_add,aa,bE,hg,br,rF,cI,List.length_map,bA,hlt',decide_true,ah,if_true,bS hq,e8,pe,bw,hst,ay,List.drop_zero,uu,ki,fl]
   have hne:¬ (y2=H.n):=by omega
   have hg2:((H.new (.cells [I 0,I 0,I 0,.lit (.slice none 0 0)] true)).set H.n (some (.cells (bv q) true))).get y2=some (.cells (bR c) true):=by simp [hne,hg]
   have hn2:y2<((H.new (.cells [I 0,I 0,I 0,.lit (.slice none 0 0)] true)).set H.n (some (.cells (bv q) true))).n:=by simp; omega
   have hask:=fun h=>ask _ H.n (I 0) h hn2 hg2 (by simp)
   simp only [ah] at hask
   by_cases h7:q.kind=7
   ·simp only [h7,decide_true,Bool.not_true,Bool.false_eq_true,if_false]
    exact hask (.inl h7)
   ·simp only [h7,decide_false,Bool.not_false,if_true]
    by_cases h8:q.kind=8
    ·simp only [h8,decide_true,Bool.not_true,Bool.false_eq_true,if_false]
     exact hask (.inr h8)
    ·simp only [h8,decide_false,Bool.not_false,if_true]
     exact next _ _ _ hn2 hg2 (by unfold pz; rw [if_neg (by omega)])
 simp only [d7]
 exact L0 _ 0 _ _ _ _ rfl (Nat.zero_le _) (by simp) (by simp) (by simpa [qt] using hK)
theorem HD:∀ (f:Nat),IM σ f
 | 0=>xN fun f' h=>by omega
 | f+1=>xN fun f' h=>by
  have:f'=f:=by omega
  rw [this]
  exact ya (HD f)
theorem KJ (f:Nat):Iz σ f:=ya (HD f)
end
end Go.Proofs.YthmaggcfghjmfaaGreat.Ev
namespace Go.Proofs.YthmaggcfghjmfaaGreat.Ev
set_option linter.unusedVariables false
set_option linter.unusedSimpArgs false
variable {σ:Sig}
theorem rix {L:List Nd} {e:Nat} (he:e<L.length):aJ 5 (nds (L.map ca)) (I (e:Int))=some (.ip (bt (ca (cB L e)))):=by
 have:(L.map ca)[e]?=some (ca (cB L e)):=by
  rw [List.getElem?_map,List.getElem?_eq_getElem he]
  simp [cB,List.getD_eq_getElem?_getD,List.getElem?_eq_getElem he]
 exact bS this
theorem mZ (L:List Nd) (d:List Nat):au (dZ L d)=some (dZ L d):=rfl
theorem rsh (L:List Nd) (d:List Nat):ae (dZ L d) 0=some (dZ L d):=rfl
theorem rld (L:List Nd) (d:List Nat) (H:Hp):ldA false 1 H (dZ L d)=some (nds (L.map ca)):=rfl
theorem yx (L:List Nd):aW (nds (L.map ca))=some (I (L.length:Int)):=by unfold nds; simp
theorem De (L:List Nd) (e:Nat) (H:Hp):ldA false 1 H (.ip (bt (ca (cB L e))))=some (I (par L e)):=rfl
theorem u_ (L:List Nd) (e:Nat):ae (.ip (bt (ca (cB L e)))) 0=some (.ip (bt (ca (cB L e)))):=rfl
theorem B9 (L:List Nd) (d:List Nat) (e:Int) (H:Hp):az Tryz.prog σ da [dZ L d,I e] H (Bo (decide (0≤e)&&decide (e<L.length))) H:=by
 refine bl (fun K hK=>lC.run ?_) (by simp [aP,ey,bF]) rfl H
 have e1:iC .neq (dZ L d) (.lit (.pointer none))=some (Bo true):=rfl
 simp only [e1,aa,ah,if_true,fl,decide_eq_true_eq,mZ,rsh,rld,yx,bA]
 split
 ·rename_i h
  simpa [h] using hK _
 ·rename_i h
  simpa [h] using hK _
theorem sS (L:List Nd) (d:List Nat) {e:Nat} (he:e<L.length) (H:Hp):az Tryz.prog σ da [dZ L d,I (e:Int)] H (Bo true) H:=by
 have:=B9 (σ:=σ) L d (e:Int) H
 rwa [show (decide (0≤(e:Int))&&decide ((e:Int)<L.length))=true by simp; omega] at this
theorem lN (L:List Nd) (d:List Nat) {e:Nat} (he:e<L.length) (H:Hp):az Tryz.prog σ dh [dZ L d,I (e:Int)] H (I (par L e)) H:=by
 refine bl (fun K hK=>iA.run (am (sS L d he _) ?_)) (by simp [aP,ey,bF]) rfl H
 simp only [dQ,aa,Bool.not_true,ah,Bool.false_eq_true,if_false,mZ,rsh,rld,rix he,u_,De]
 exact hK _
theorem vu (P:Nat→Bool) (m:Nat):(List.range (m+1)).filter P=(List.range m).filter P++if P m then [m] else []:=by
 rw [List.range_succ,List.filter_append]
 congr 1
 simp only [List.filter_cons,List.filter_nil]
theorem pa (L:List Nd) (d:List Nat) (hN:L.length≤4096) {e:Nat} (he:e<L.length) (H:Hp):az Tryz.prog σ dR [dZ L d,I (e:Int)] H (I (dn L e)) H:=by
 refine bl (fun K hK=>aS.run (am (sS L d he _) ?_)) (by simp [aP,ey,bF]) rfl H
 simp only [dQ,aa,Bool.not_true,ah,Bool.false_eq_true,if_false]
 have L0:∀ (k m:Nat) (H:Hp),e - m=k→0<m→m≤e→aS.L0 σ K (dZ L d) (I (e:Int)) (I ((((List.range m).filter fun j=>decide (0<j)&&decide (par L j=par L e)).length+1:Nat):Int)) (I (m:Int)) H:=by
  intro k
  induction k with
  | zero =>
   intro m H hk h0 hm
   have:m=e:=by omega
   subst this
   refine aS.L0_step ?_
   simp only [bA,Int.lt_irrefl,decide_false,aa,ah,Bool.false_eq_true,if_false]
   exact hK _
  | succ k ih =>
   intro m H hk h0 hm
   have hlt:(m:Int)<(e:Int):=by omega
   have hl:((List.range m).filter fun j=>decide (0<j)&&decide (par L j=par L e)).length≤m:=by
    have:=List.length_filter_le (fun j=>decide (0<j)&&decide (par L j=par L e)) (List.range m)
    rwa [List.length_range] at this
   have hs:=vu (fun j=>decide (0<j)&&decide (par L j=par L e)) m
   refine aS.L0_step ?_
   simp only [bA,hlt,decide_true,aa,ah,if_true,mZ,rsh,rld,rix (show m<L.length by omega),rix he,u_,De,bD,decide_eq_true_eq]
   have nx:=ih (m+1) H (by omega) (by omega) (by omega)
   rw [hs] at nx
   split
   ·rename_i hp
    simp only [bN,aa]
    rw [bz (by omega)]
    refine aS.J1_step ?_
    simp only [bN,aa]
    rw [bz (by omega)]
    simpa [h0,hp] using nx
   ·rename_i hp
    refine aS.J1_step ?_
    simp only [bN,aa]
    rw [bz (by omega)]
    simpa [h0,hp] using nx
 by_cases h0:e=0
 ·subst h0
  refine aS.L0_step ?_
  have:¬ ((1:Int)<((0:Nat):Int)):=by omega
  simp only [bA,this,decide_false,aa,ah,Bool.false_eq_true,if_false]
  exact hK _
 ·exact L0 _ 1 _ rfl (by omega) (by omega)
theorem lK (L:List Nd) (d:List Nat) (hN:L.length≤4096) {e:Nat} (he:e<L.length) (H:Hp):az Tryz.prog σ df [dZ L d,I (e:Int)] H (I (eD L e)) H:=by
 refine bl (fun K hK=>cj.run (am (sS L d he _) ?_)) (by simp [aP,ey,bF]) rfl H
 simp only [dQ,aa,Bool.not_true,ah,Bool.false_eq_true,if_false,bD,decide_eq_true_eq]
 have L0:∀ (m:Nat) (H:Hp),m<e→(∀ H,K (I (ou ((List.range (m+1)).filter fun j=>decide (0<j)&&decide (par L j=par L e)))) H)→cj.L0 σ K (dZ L d) (I (e:Int)) (I (m:Int)) H:=by
  intro m
  induction m with
  | zero =>
   intro H hm hK
   refine cj.L0_step ?_
   simp only [eF,Int.natCast_zero,Int.lt_irrefl,decide_false,aa,ah,Bool.false_eq_true,if_false]
   exact hK _
  | succ m ih =>
   intro H hm hK
   have h0:(0:Int)<((m+1:Nat):Int):=by omega
   have hs:=vu (fun j=>decide (0<j)&&decide (par L j=par L e)) (m+1)
   rw [hs] at hK
   refine cj.L0_step ?_
   simp only [eF,h0,decide_true,aa,ah,if_true,mZ,rsh,rld,rix (show m+1<L.length by omega),rix he,u_,De,bD,decide_eq_true_eq]
   split
   ·rename_i hp
    have:=hK H
    simpa [hp,ou] using this
   ·rename_i hp
    have e1:wr .i64 (((m+1:Nat):Int) - 1)=(m:Int):=by rw [eh (by omega) (by omega)]; omega
    simp only [ik,aa,e1]
    exact ih H (by omega) fun H=>by simpa [hp] using hK H
 by_cases h0:e=0
 ·subst h0
  simp only [Int.natCast_zero,if_true]
  exact hK _
 ·have h0':¬ ((e:Int)=0):=by omega
  have e1:wr .i64 ((e:Int) - 1)=((e - 1:Nat):Int):=by rw [eh (by omega) (by omega)]; omega
  simp only [h0',if_false,ik,aa,e1]
  refine L0 (e - 1) _ (by omega) fun H=>?_
  rw [show e - 1+1=e by omega]
  exact hK H
end Go.Proofs.YthmaggcfghjmfaaGreat.Ev
namespace Go.Proofs.YthmaggcfghjmfaaGreat.Ev
set_option linter.unusedVariables false
set_option linter.unusedSimpArgs false
variable {σ:Sig}
theorem tf (L:List Nd) (p a:Nat):∀ (n:Nat),(eZ L a p).length≤(eZ L (a+n) p).length
 | 0=>Nat.le_refl _
 | n+1=>by
  rw [← Nat.add_assoc,hJ]
  simp only [List.length_append]
  have:=tf L p a n
  omega
theorem sT {L:List Nd} {p a:Nat}:∀ (n:Nat),(∀ i,a≤i→i<a+n→par L i≠p)→eZ L (a+n) p=eZ L a p
 | 0,_=>rfl
 | n+1,h=>by
  rw [← Nat.add_assoc,hJ,sT n fun i h1 h2=>h i h1 (by omega),if_neg (fun hh=>h (a+n) (by omega) (by omega) hh.2)]
  simp
theorem yR {L:List Nd} {p a b i:Nat} (h0:0<i) (h1:a≤i) (h2:i<b) (hp:par L i=p):(eZ L a p).length<(eZ L b p).length:=by
 have e1:=tf L p a (i - a)
 have e2:=tf L p (i+1) (b - (i+1))
 rw [show a+(i - a)=i by omega] at e1
 rw [show i+1+(b - (i+1))=b by omega,hJ,if_pos ⟨h0,hp⟩] at e2
 simp only [List.length_append,List.length_cons,List.length_nil] at e2
 omega
theorem ta {L:List Nd} {d:List Nat} (hB:cH L L.length d) {e:Nat} (he:e<L.length) (h0:0<e):∃ p:Nat,par L e=p∧mI L e=decide ((eZ L L.length p).length≤(eZ L (e+1) p).length):=by
 rcases my hB he with h | ⟨p,hp,hlt⟩
 ·obtain ⟨p,x,h1,_⟩:=hB.step e h0 he
  omega
 ·refine ⟨p,hp,?_⟩
  have hk:eZ L (e+1) p=oO L e++[e]:=by rw [hJ,if_pos ⟨h0,hp⟩,o_ hp]
  have hpl:(dn L e).toNat=(eZ L (e+1) p).length:=by
   rw [hk]
   unfold dn
   simp only [List.length_append,List.length_cons,List.length_nil]
   omega
  unfold mI
  rw [hp,Int.toNat_natCast,hpl]
  have hn:¬ ((p:Int)<0):=by omega
  simp only [hn,decide_false,Bool.false_or]
  unfold ma
  by_cases hle:(eZ L L.length p).length≤(eZ L (e+1) p).length
  ·rw [List.getElem?_eq_none hle]
   simp [hle]
  ·rw [List.getElem?_eq_getElem (by omega)]
   simp only [hle,decide_false]
   simp only [decide_eq_false_iff_not]
   omega
theorem ri {L:List Nd} {d:List Nat} (hB:cH L L.length d) (h:0<L.length):mI L 0=true:=by
 unfold mI
 rw [(hB.root h).1]
 rfl
theorem vz {L:List Nd} {d:List Nat} (hB:cH L L.length d) {e i:Nat} (h0:0<e) (h1:e<i) (h2:i<L.length) (hp:par L i=par L e):mI L e=false:=by
 obtain ⟨p,hpe,hl⟩:=ta hB (show e<L.length by omega) h0
 rw [hl]
 have:=yR (L:=L) (p:=p) (a:=e+1) (b:=L.length) (i:=i) (by omega) (by omega) h2 (by rw [hp,hpe])
 simp only [decide_eq_false_iff_not]
 omega
theorem xh {L:List Nd} {d:List Nat} (hB:cH L L.length d) {e:Nat} (h0:0<e) (he:e<L.length) (h:∀ i,e<i→i<L.length→par L i≠par L e):mI L e=true:=by
 obtain ⟨p,hpe,hl⟩:=ta hB he h0
 rw [hl]
 have:=sT (L:=L) (p:=p) (a:=e+1) (L.length - (e+1)) fun i h1 h2=>by rw [← hpe]; exact h i (by omega) (by omega)
 rw [show e+1+(L.length - (e+1))=L.length by omega] at this
 rw [this]
 simp
theorem uA (L:List Nd) (d:List Nat) (hB:cH L L.length d) (hN:L.length≤4096) {e:Nat} (he:e<L.length) (H:Hp):az Tryz.prog σ fp [dZ L d,I (e:Int)] H (Bo (mI L e)) H:=by
 refine bl (fun K hK=>cx.run ?_) (by simp [aP,ey,bF]) rfl H
 have L0:∀ (k m:Nat) (H:Hp),L.length - m=k→e<m→m≤L.length→(∀ i,e<i→i<m→par L i≠par L e)→cx.L0 σ K (dZ L d) (I (e:Int)) (I (m:Int)) H:=by
  intro k
  induction k with
  | zero =>
   intro m H hk h1 hm hall
   have:m=L.length:=by omega
   subst this
   refine cx.L0_step ?_
   simp only [eF,aa,ah,decide_eq_true_eq,mZ,rsh,rld,yx,bA,Int.lt_irrefl,if_false]
   split
   ·rename_i h0
    have:=hK H
    rwa [xh hB (by omega) he hall] at this
   ·rename_i h0
    have:e=0:=by omega
    subst this
    have:=hK H
    rwa [ri hB he] at this
  | succ k ih =>
   intro m H hk h1 hm hall
   have hlt:(m:Int)<L.length:=by omega
   refine cx.L0_step ?_
   simp only [eF,aa,ah,decide_eq_true_eq,mZ,rsh,rld,yx,bA,hlt,if_true,rix (show m<L.length by omega),rix he,u_,De,bD]
   split
   ·rename_i h0
    split
    ·rename_i hp
     have:=hK H
     rwa [vz hB (by omega) h1 (by omega) hp] at this
    ·rename_i hp
     simp only [bN,aa]
     rw [bz (by omega)]
     refine ih (m+1) H (by omega) (by omega) (by omega) fun i hi1 hi2=>?_
     by_cases him:i<m
     ·exact hall i hi1 him
     ·have:i=m:=by omega
      rw [this]; exact hp
   ·rename_i h0
    have:e=0:=by omega
    subst this
    have:=hK H
    rwa [ri hB he] at this
 simp only [bN,aa]
 rw [bz (by omega)]
 exact L0 _ (e+1) _ rfl (by omega) (by omega) fun i h1 h2=>by omega
theorem tK (L:List Nd) (d:List Nat) (hB:cH L L.length d) (hN:L.length≤4096) {e:Nat} (he:e<L.length) (H:Hp):az Tryz.prog σ dK [dZ L d,I (e:Int)] H (kU (eZ L L.length e)) H:=by
 obtain ⟨Q,hQ⟩:∃ Q:AV→Hp→Prop,∀ r H1,Q r H1 ↔ Gs 1 H1 r ((eZ L L.length e).map pu):=⟨_,fun _ _=>Iff.rfl⟩
 have run:∃ r H1,az Tryz.prog σ dK [dZ L d,I (e:Int)] Hp.empty r H1∧Q r H1:=by
  refine aM.run ?_
  have L0:∀ (k m:Nat) (H:Hp) (y5:AV),L.length - m=k→e<m→m≤L.length→Gs 1 H y5 ((eZ L m e).map pu)→aM.L0 σ Q (dZ L d) (I (e:Int)) y5 (I (m:Int)) H:=by
   intro k
   induction k with
   | zero =>
    intro m H y5 hk h1 hm hg
    have:m=L.length:=by omega
    subst this
    refine aM.L0_step (am (sS L d he _) ?_)
    simp only [aa,ah,mZ,rsh,rld,yx,bA,Int.lt_irrefl,decide_false,Bool.false_eq_true,if_false,if_true]
    exact (hQ _ _).2 hg
   | succ k ih =>
    intro m H y5 hk h1 hm hg
    have hlt:(m:Int)<L.length:=by omega
    have hkl:(eZ L m e).length≤m:=by
     have:=List.length_filter_le (fun j=>decide (0<j)&&decide (par L j=e)) (List.range m)
     rwa [List.length_range] at this
    have hs:=hJ L m e
    refine aM.L0_step (am (sS L d he _) ?_)
    simp only [aa,ah,mZ,rsh,rld,yx,bA,hlt,decide_true,if_true,rix (show m<L.length by omega),u_,De,bD,decide_eq_true_eq]
    split
    ·rename_i hp
     rw [if_pos ⟨by omega,hp⟩] at hs
     refine fJ (y:=I (m:Int)) hg rfl rfl rfl (by simp; omega) (by simp; omega) fun x' H' hg' _=>?_
     refine aM.J1_step ?_
     simp only [bN,aa]
     rw [bz (by omega)]
     refine ih (m+1) H' x' (by omega) (by omega) (by omega) ?_
     rw [hs,List.map_append]
     exact hg'
    ·rename_i hp
     rw [if_neg (fun h=>hp h.2),List.append_nil] at hs
     refine aM.J1_step ?_
     simp only [bN,aa]
     rw [bz (by omega)]
     refine ih (m+1) H y5 (by omega) (by omega) (by omega) ?_
     rw [hs]
     exact hg
  simp only [bN,aa]
  rw [bz (by omega)]
  refine L0 _ (e+1) _ _ rfl (by omega) (by omega) ?_
  rw [yb hB (by omega) (Nat.le_refl _)]
  exact .nil
 obtain ⟨r,H1,hg,hr⟩:=run
 rw [hQ] at hr
 exact hg.frzR (by simp [aP,ey,bF]) (hr.fz (bm _ (fun _=>rfl) _)) H
end Go.Proofs.YthmaggcfghjmfaaGreat.Ev
namespace Go.Proofs.YthmaggcfghjmfaaGreat.Ev
set_option linter.unusedVariables false
set_option linter.unusedSimpArgs false
variable {σ:Sig}
theorem Ag (c:UInt8) (H:Hp):az Tryz.prog σ jB [.lit (.int .u8 c.toNat)] H (Bo (wht c)) H:=by
  refine bl (fun K hK=>nC.run ?_) (by simp [aP,bF]) rfl H
  have hK:=hK Hp.empty
  simp only [bD,aa,ah,decide_eq_true_eq]
  split
  · rename_i h
    rwa [show wht c = true by have : c.toNat = 9 := by omega
                              simp [wht,this]] at hK
  rename_i h9
  split
  · rename_i h
    rwa [show wht c = true by have : c.toNat = 10 := by omega
                              simp [wht,this]] at hK
  rename_i h10
  split
  · rename_i h
    rwa [show wht c = true by have : c.toNat = 12 := by omega
                              simp [wht,this]] at hK
  rename_i h12
  split
  · rename_i h
    rwa [show wht c = true by have : c.toNat = 13 := by omega
                              simp [wht,this]] at hK
  rename_i h13
  have e:wht c=decide ((c.toNat:Int)=32):=by
    have a9:¬ c.toNat=9:=by omega
    have a10:¬ c.toNat=10:=by omega
    have a12:¬ c.toNat=12:=by omega
    have a13:¬ c.toNat=13:=by omega
    by_cases h:c.toNat=32
    · simp [wht,h]
    · have h':¬ ((c.toNat:Int)=32):=by omega
      simp [wht,a9,a10,a12,a13,h,h']
  rwa [e] at hK
theorem sO (s p:ByteArray) (H:Hp):az Tryz.prog σ gJ [Sx s,Sx p] H (Bo (tJ (tl s) (tl p))) H:=by
 refine bl (fun K hK=>lZ.run ?_) (by simp [aP,bF]) rfl H
 simp only [eU,aa,fl,ah,decide_eq_true_eq]
 split
 ·rename_i h
  rw [tY (by omega),aa]
  simp only [gD,aa]
  have:=uB (tl s) (tl p) (by rw [cK,cK]; omega)
  rw [cK,m9] at this
  rw [this]
  exact hK _
 ·rename_i h
  have:=uV (s:=tl s) (p:=tl p) (by rw [cK,cK]; omega)
  rw [this] at hK
  exact hK _
theorem GD (s p:ByteArray) (hs:s.data.size<9000000000000000000) (H:Hp):az Tryz.prog σ kv [Sx s,Sx p] H (Bo (uv (tl s) (tl p))) H:=by
 refine bl (fun K hK=>py.run ?_) (by simp [aP,bF]) rfl H
 simp only [eU,aa,fl,ah,decide_eq_true_eq]
 split
 ·rename_i h
  simp only [ik,aa]
  have e:wr .i64 ((s.data.size:Int) - p.data.size)=((s.data.size - p.data.size:Nat):Int):=by rw [eh (by omega) (by omega)]; omega
  rw [e,ug (by omega),aa]
  simp only [gD,aa]
  have:=uJ (tl s) (tl p) (by rw [cK,cK]; omega)
  rw [cK,cK,m9] at this
  rw [this]
  exact hK _
 ·rename_i h
  have:=uP (s:=tl s) (p:=tl p) (by rw [cK,cK]; omega)
  rw [this] at hK
  exact hK _
theorem Fd {l:List ByteArray} (hl:l.length≤reachBytes) {s:ByteArray} {K:AV→Hp→Prop}:∀ (m k:Nat) (H:Hp),l.length - m=k→m≤l.length→(∀ H,K (Bo (kH (l.drop m) s)) H)→fj.L0 σ K (dG l) (Sx s) (I m) H:=by
 intro m k
 revert m
 induction k with
 | zero =>
  intro m H hk hm hK
  have:m=l.length:=by omega
  subst this
  refine fj.L0_step ?_
  simp [dG]
  simpa [kH] using hK H
 | succ k ih =>
  intro m H hk hm hK
  have hlt:m<l.length:=by omega
  obtain ⟨x,hx⟩:=cb hlt
  rw [cm hx] at hK
  refine fj.L0_step ?_
  simp [dG,hlt,bS hx]
  split
  ·rename_i h
   have:=hK H
   simpa [kH,h] using this
  ·rename_i h
   rw [cO hlt hl (by decide)]
   refine ih (m+1) H (by omega) (by omega) fun H'=>?_
   have:=hK H'
   simpa [kH,h] using this
theorem xL (l:List ByteArray) (hl:l.length≤reachBytes) (s:ByteArray) (H:Hp):az Tryz.prog σ j6 [dG l,Sx s] H (Bo (kH l s)) H:=by
 refine bl (fun K hK=>fj.run ?_) (by simp [aP,bF]) rfl H
 exact Fd hl 0 _ _ rfl (Nat.zero_le _) (by simpa using hK)
theorem um {p a b:Int} (hp:i64 p) (ha:i64 a) (hb:i64 b) (h0:a≠0) (H:Hp):az Tryz.prog σ gY [I p,I a,I b] H (Bo (r8 p a b)) H:=by
 refine bl (fun K hK=>fZ.run ?_) (by simp [aP,bF]) rfl H
 unfold i64 at hp ha hb
 unfold r8 at hK
 rw [if_neg h0] at hK
 simp
 split
 ·rename_i h
  subst h
  split at hK
  ·simpa using hK _
  ·simpa using hK _
 rename_i hne
 by_cases hb':b<p<;>by_cases h3:0<a
 ·simp only [hb',h3,decide_true,not_true,if_true,if_false]
  have h2:¬ (a<0):=by omega
  rw [if_pos h3] at hK
  have e1:wr .u64 a=a:=AU (by omega) (by omega)
  have e2:(p - b) % 18446744073709551616=p - b:=by omega
  rw [if_neg h2]
  rw [EQ,e1,e2]
  refine fZ.J0_step ?_
  rw [u9 _ _ _ h0,aa,bD,aa]
  have e3:(p - b).tmod a=(p - b) % a:=Int.tmod_eq_emod_of_nonneg (by omega)
  rw [e3]
  have h5:b≤p:=by omega
  simpa [h5] using hK Hp.empty
 ·have hbp:¬ (p≤b):=by omega
  rw [if_neg h3] at hK
  simp [hb',h3]
  simpa [hbp] using hK Hp.empty
 ·have hbp:¬ (b≤p):=by omega
  rw [if_pos h3] at hK
  simp [hb',h3]
  simpa [hbp] using hK Hp.empty
 ·simp only [hb',h3,decide_false,not_true,if_true,if_false]
  have h2:a<0:=by omega
  rw [if_neg h3] at hK
  have e1:wr .u64 (-wr .u64 a)=-a:=by rw [wrU,wrU]; omega
  have e2:(b - p) % 18446744073709551616=b - p:=by omega
  have h3':(-a)≠0:=by omega
  rw [if_pos h2]
  rw [EQ,e2,e1]
  refine fZ.J0_step ?_
  rw [u9 _ _ _ h3',aa,bD,aa]
  have e3:(b - p).tmod (-a)=(b - p) % (-a):=Int.tmod_eq_emod_of_nonneg (by omega)
  rw [e3]
  have h5:p≤b:=by omega
  simpa [h5] using hK Hp.empty
theorem Mg {p a b:Int} (h0:a≠0):r8 p a b=(decide ((p - b).tmod a=0)&&decide (0≤(p - b).tdiv a)):=by
 unfold r8
 rw [if_neg h0]
 by_cases hdv:a ∣ p - b
 ·obtain ⟨q,hq⟩:=hdv
  have e1:(p - b).tmod a=0:=Int.tmod_eq_zero_of_dvd ⟨q,hq⟩
  have e2:(p - b).tdiv a=q:=by rw [hq]; exact Int.mul_tdiv_cancel_left q h0
  have e3:(p - b) % a=0:=Int.emod_eq_zero_of_dvd ⟨q,hq⟩
  have e4:(b - p) % (-a)=0:=Int.emod_eq_zero_of_dvd ⟨q,by rw [Int.neg_mul,← hq]; omega⟩
  rw [e1,e2,e3,e4]
  simp only [decide_true,Bool.and_true,Bool.true_and]
  split
  ·rename_i h
   by_cases h2:0≤q
   ·have:=Int.mul_nonneg (by omega:0≤a) h2
    simp [h2]; omega
   ·have:=Int.mul_neg_of_pos_of_neg h (by omega:q<0)
    simp [h2]; omega
  ·rename_i h
   by_cases h2:0≤q
   ·have:=Int.mul_nonneg (by omega:0≤-a) h2
    rw [Int.neg_mul] at this
    simp [h2]; omega
   ·have:=Int.mul_neg_of_pos_of_neg (by omega:0 < -a) (by omega:q<0)
    rw [Int.neg_mul] at this
    simp [h2]; omega
 ·have e1:¬ ((p - b).tmod a=0):=fun h=>hdv (Int.dvd_of_tmod_eq_zero h)
  have e3:¬ ((p - b) % a=0):=fun h=>hdv (Int.dvd_of_emod_eq_zero h)
  have e4:¬ ((b - p) % (-a)=0):=fun h=>hdv (by
   obtain ⟨q,hq⟩:=Int.dvd_of_emod_eq_zero h
   exact ⟨q,by rw [Int.neg_mul] at hq; omega⟩)
  have e5:¬ ((b - p) % a=0):=fun h=>e4 (by rw [Int.emod_neg]; exact h)
  simp [e1,e3,e5]
theorem GS {p a b:Int} (hp:0≤p∧p≤5000) (ha:i64 a) (hb:i64 b) (H:Hp):az Tryz.prog σ lg [I p,I a,I b] H (Bo (r8 p a b)) H:=by
 refine bl (fun K hK=>qU.run ?_) (by simp [aP,bF]) rfl H
 have hp64:i64 p:=⟨by omega,by omega⟩
 simp only [bD,aa,ah,decide_eq_true_eq,eF,bA]
 split
 ·rename_i h
  have:=hK Hp.empty
  rwa [show r8 p a b=decide (p=b) by unfold r8; rw [if_pos h]] at this
 rename_i h0
 split
 ·exact am (um hp64 ha hb h0 _) (hK _)
 rename_i h1
 split
 ·exact am (um hp64 ha hb h0 _) (hK _)
 rename_i h2
 split
 ·exact am (um hp64 ha hb h0 _) (hK _)
 rename_i h3
 split
 ·exact am (um hp64 ha hb h0 _) (hK _)
 rename_i h4
 have e1:wr .i64 (p - b)=p - b:=by rw [eh (by omega) (by omega)]
 have hq:wr .i64 ((p - b).tdiv a)=(p - b).tdiv a:=by
  have hn:((p - b).tdiv a).natAbs≤(p - b).natAbs:=by
   rw [Int.natAbs_tdiv]
   exact Nat.div_le_self _ _
  rw [eh (by omega) (by omega)]
 simp only [ik,aa,e1]
 rw [u9 _ _ _ h0,aa,bD,aa]
 have hK:=hK Hp.empty
 rw [Mg h0] at hK
 simp only [ah,decide_eq_true_eq]
 split
 ·rename_i h5
  rw [zQ _ _ _ h0,aa,hq]
  simpa [h5] using hK
 ·rename_i h5
  simpa [h5] using hK
end Go.Proofs.YthmaggcfghjmfaaGreat.Ev
namespace Go.Proofs.YthmaggcfghjmfaaGreat.Ev
set_option linter.unusedVariables false
set_option linter.unusedSimpArgs false
variable {σ:Sig}
theorem Lw (s x:ByteArray) (hs:s.data.size<4294967281) (hx:x.data.size≤reachBytes) (h0:tl x≠[]) (H:Hp):az Tryz.prog σ mP [Sx s,Sx x] H (Bo (decide (0≤Go.Lib.index (tl s) (tl x)))) H:=by
 refine bl (fun K hK=>gk.run ?_) (by simp [aP,bF]) rfl H
 have hr:=eH
 have L0:∀ (k m:Nat) (H:Hp),s.data.size+1 - m=k→m≤s.data.size+1→(∀ j,j<m→Go.Lib.occAt (tl s) (tl x) j=false)→gk.L0 σ K (Sx s) (Sx x) (I (m:Int)) H:=by
  intro k
  induction k with
  | zero =>
   intro m H hk hm hall
   have e1:wr .i64 ((m:Int)+(x.data.size:Int))=(m:Int)+x.data.size:=by rw [eh (by omega) (by omega)]
   refine gk.L0_step ?_
   have hn:¬ ((m:Int)+x.data.size≤s.data.size):=by omega
   simp only [eU,aa,bN,e1,kX,hn,decide_false,ah,Bool.false_eq_true,if_false]
   have:=Go.Lib.index_none (s:=tl s) (sub:=tl x) fun j hj=>hall j (by rw [cK] at hj; omega)
   rw [this] at hK
   exact hK _
  | succ k ih =>
   intro m H hk hm hall
   have e1:wr .i64 ((m:Int)+(x.data.size:Int))=((m+x.data.size:Nat):Int):=by rw [eh (by omega) (by omega)]; omega
   refine gk.L0_step ?_
   by_cases hle:m+x.data.size≤s.data.size
   ·have hle':((m+x.data.size:Nat):Int)≤(s.data.size:Int):=by omega
    simp only [eU,aa,bN,e1,kX,hle',decide_true,ah,if_true]
    rw [Ct (by omega) hle,aa]
    simp only [gD,aa,ah,decide_eq_true_eq]
    have ho:=Go.Lib.occAt_iff_take (tl s) (tl x) m (by rw [cK,cK]; exact hle)
    rw [show m+x.data.size - m=x.data.size by omega]
    rw [cK] at ho
    split
    ·rename_i h
     have h2:((tl s).drop m).take x.data.size=tl x:=by
      have:=congrArg tl h
      rwa [ml] at this
     rw [h2] at ho
     have:=Go.Lib.index_first (s:=tl s) (sub:=tl x) (i:=m) (by rw [cK]; omega) (by rw [ho]; simp) hall
     rw [this] at hK
     simpa using hK H
    ·rename_i h
     have h2:¬ ((tl s).drop m).take x.data.size=tl x:=fun e=>h (by rw [e,m9])
     rw [bz (by omega)]
     refine ih (m+1) H (by omega) (by omega) fun j hj=>?_
     by_cases hjm:j<m
     ·exact hall j hjm
     ·have:j=m:=by omega
      subst this
      rw [ho]
      simpa using h2
   ·have hle':¬ ((m+x.data.size:Nat):Int)≤(s.data.size:Int):=by omega
    simp only [eU,aa,bN,e1,kX,hle',decide_false,ah,Bool.false_eq_true,if_false]
    have:=Go.Lib.index_none (s:=tl s) (sub:=tl x) fun j hj=>by
     by_cases hjm:j<m
     ·exact hall j hjm
     ·cases ho:Go.Lib.occAt (tl s) (tl x) j with
      | false=>rfl
      | true =>
       rcases Go.Lib.occAt_room ho with h | h
       ·rw [cK,cK] at h; omega
       ·exact absurd h h0
    rw [this] at hK
    exact hK _
 exact L0 _ 0 _ rfl (Nat.zero_le _) fun j hj=>by omega
theorem wM:∀ {l:List UInt8} {n:Nat},(∀ k,k<n→∃ c,l[k]?=some c∧wht c=false)→(∀ c,l[n]?=some c→wht c=true)→wl l=n
 | [],n,h,_=>by
  cases n with
  | zero=>rfl
  | succ n =>
   obtain ⟨c,hc,_⟩:=h 0 (by omega)
   simp at hc
 | c::l,0,_,h=>by
  have:=h c (by simp)
  simp [wl,List.takeWhile,nw,this]
 | c::l,n+1,h,h2=>by
  obtain ⟨c',hc,hw⟩:=h 0 (by omega)
  simp at hc
  subst hc
  have ih:=wM (l:=l) (n:=n) (fun k hk=>by
   obtain ⟨c',h1,h2⟩:=h (k+1) (by omega)
   exact ⟨c',by simpa using h1,h2⟩) fun c' hc'=>h2 c' (by simpa using hc')
  unfold wl at ih ⊢
  rw [List.takeWhile_cons]
  simp [nw,hw] at ih ⊢
  exact ih
def vU (w:List UInt8):List AV:=[Sx (mk w)]
theorem sD (s:ByteArray) (hs:s.data.size<4294967281) (H:Hp):az Tryz.prog σ gu [Sx s] H (.imm 1 ((eE (tl s)).map vU)) H:=by
 obtain ⟨Q,hQ⟩:∃ Q:AV→Hp→Prop,∀ r H1,Q r H1 ↔ Gs 1 H1 r ((eE (tl s)).map vU):=⟨_,fun _ _=>Iff.rfl⟩
 have run:∃ r H1,az Tryz.prog σ gu [Sx s] Hp.empty r H1∧Q r H1:=by
  refine aV.run ?_
  have L0:∀ (k i fr:Nat) (H:Hp) (y3:AV) (out:List (List UInt8)),s.data.size+1 - i=k→i≤s.data.size+1→fr≤i→Gs 1 H y3 (out.map vU)→out.length≤fr→eE (tl s)=out++eE ((tl s).drop fr)→(∀ j,fr≤j→j<i→∃ c,(tl s)[j]?=some c∧wht c=false)→aV.L0 σ Q (Sx s) y3 (I (fr:Int)) (I (i:Int)) H:=by
   intro k
   induction k with
   | zero =>
    intro i fr H y3 out hk hi hfr hg ho hw hall
    have:i=s.data.size+1:=by omega
    subst this
    refine aV.L0_step ?_
    have hn:¬ (((s.data.size+1:Nat):Int)≤(s.data.size:Int)):=by omega
    simp only [eU,aa,kX,hn,decide_false,ah,Bool.false_eq_true,if_false]
    by_cases hf:fr≤s.data.size
    ·obtain ⟨c,hc,_⟩:=hall s.data.size hf (by omega)
     have:=(List.getElem?_eq_some_iff.1 hc).1
     rw [cK] at this
     omega
    ·rw [List.drop_eq_nil_of_le (by rw [cK]; omega),jW,List.append_nil] at hw
     rw [hQ,hw]
     exact hg
   | succ k ih =>
    intro i fr H y3 out hk hi hfr hg ho hw hall
    have hle:(i:Int)≤(s.data.size:Int):=by omega
    have fin:∀ (H:Hp),Gs 1 H y3 (out.map vU)→(∀ c,(tl s)[i]?=some c→wht c=true)→ifB (Bo (decide ((fr:Int)<(i:Int)))) (bnd (fx (Sx s) (some (I (fr:Int))) (some (I (i:Int)))) fun x6=>bnd (aw [.string ⟨#[]⟩] 1 1 H [(0,1,x6)]) fun p7=>bnd (bc false 1 16 p7.2 y3 p7.1) fun p8=>aV.J1 σ Q (Sx s) p8.1 (I (fr:Int)) (I (i:Int)) p8.2) (aV.J1 σ Q (Sx s) y3 (I (fr:Int)) (I (i:Int)) H):=by
     intro H hg hend
     have hwl:wl ((tl s).drop fr)=i - fr:=wM (fun k hk=>by
      rw [List.getElem?_drop]
      exact hall (fr+k) (by omega) (by omega)) fun c hc=>hend c (by
       rw [List.getElem?_drop] at hc
       rwa [show fr+(i - fr)=i by omega] at hc)
     simp only [ah,decide_eq_true_eq]
     split
     ·rename_i hlt
      have hlt':fr<i:=by omega
      have hne:(tl s).drop fr≠[]:=by
       intro e
       have:=congrArg List.length e
       rw [List.length_drop,cK,List.length_nil] at this
       omega
      have hwe:=kK hne
      rw [hwl,if_neg (by omega),List.drop_drop,show fr+(i - fr+1)=i+1 by omega] at hwe
      rw [Ct (by omega) (by omega),aa]
      refine fJ (y:=Sx (mk (((tl s).drop fr).take (i - fr)))) hg rfl rfl rfl (by simp; omega) (by simp; omega) fun y3' H' hg' _=>?_
      refine aV.J1_step ?_
      simp only [bN,aa]
      rw [bz (by omega)]
      refine aV.J2_step ?_
      simp only [bN,aa]
      rw [bz (by omega)]
      refine ih (i+1) (i+1) H' y3' (out++[((tl s).drop fr).take (i - fr)]) (by omega) (by omega) (Nat.le_refl _) (by rw [List.map_append]; exact hg') (by simp; omega) ?_ fun j h1 h2=>by omega
      rw [hw,hwe]
      simp
     ·rename_i hlt
      have hfi:fr=i:=by omega
      subst hfi
      refine aV.J1_step ?_
      simp only [bN,aa]
      rw [bz (by omega)]
      refine aV.J2_step ?_
      simp only [bN,aa]
      rw [bz (by omega)]
      refine ih (fr+1) (fr+1) H y3 out (by omega) (by omega) (Nat.le_refl _) hg (by omega) ?_ fun j h1 h2=>by omega
      rw [hw]
      congr 1
      by_cases hne:(tl s).drop fr=[]
      ·have:(tl s).drop (fr+1)=[]:=by rw [← List.drop_drop,hne]; rfl
       rw [hne,this]
      ·rw [kK hne,hwl,if_pos (by omega),List.drop_drop]
    refine aV.L0_step ?_
    simp only [eU,aa,kX,hle,decide_true,ah,if_true,bD,decide_eq_true_eq,eF]
    split
    ·rename_i he
     have he':i=s.data.size:=by omega
     have:=fin H hg fun c hc=>by
      have:=(List.getElem?_eq_some_iff.1 hc).1
      rw [cK] at this
      omega
     simpa only [ah,decide_eq_true_eq] using this
    ·rename_i he
     have hlt:i<(tl s).length:=by rw [cK]; omega
     obtain ⟨c,hc⟩:=cb hlt
     rw [uc hc,aa]
     refine am (Ag c _) ?_
     simp only [ah]
     cases hwc:wht c with
     | true =>
      have:=fin H hg fun c' hc'=>by rw [hc] at hc'; cases hc'; exact hwc
      simpa only [ah,decide_eq_true_eq,if_true] using this
     | false =>
      simp only [Bool.false_eq_true,if_false]
      refine aV.J2_step ?_
      simp only [bN,aa]
      rw [bz (by omega)]
      refine ih (i+1) fr H y3 out (by omega) (by omega) (by omega) hg ho hw fun j h1 h2=>?_
      by_cases hj:j<i
      ·exact hall j h1 hj
      ·have:j=i:=by omega
       subst this
       exact ⟨c,hc,hwc⟩
  exact L0 _ 0 0 _ _ [] rfl (Nat.zero_le _) (Nat.le_refl _) .nil (Nat.le_refl _) (by simp) fun j h1 h2=>by omega
 obtain ⟨r,H1,hg,hr⟩:=run
 rw [hQ] at hr
 exact hg.frzR (by simp [aP,bF]) (hr.fz (bm _ (fun _=>rfl) _)) H
end Go.Proofs.YthmaggcfghjmfaaGreat.Ev
namespace Go.Proofs.YthmaggcfghjmfaaGreat.Ev
set_option linter.unusedVariables false
set_option linter.unusedSimpArgs false
variable {σ:Sig}
theorem mL:∀ (n:Nat) (l:List UInt8),l.length≤n→(eE l).length≤l.length∧∀ w ∈ eE l,w≠[]∧∀ c ∈ w,wht c=false
 | 0,l,h=>by
  have:l=[]:=List.length_eq_zero_iff.1 (by omega)
  subst this
  rw [jW]
  exact ⟨Nat.le_refl _,fun w hw=>by cases hw⟩
 | n+1,l,h=>by
  by_cases hl:l=[]
  ·subst hl
   rw [jW]
   exact ⟨Nat.le_refl _,fun w hw=>by cases hw⟩
  ·have hpos:=List.length_pos_iff.2 hl
   rw [kK hl]
   split
   ·obtain ⟨h1,h2⟩:=mL n (l.drop 1) (by rw [List.length_drop]; omega)
    rw [List.length_drop] at h1
    exact ⟨by omega,h2⟩
   ·rename_i hw
    obtain ⟨h1,h2⟩:=mL n (l.drop (wl l+1)) (by rw [List.length_drop]; omega)
    rw [List.length_drop] at h1
    refine ⟨by rw [List.length_cons]; omega,fun w hm=>?_⟩
    rcases List.mem_cons.1 hm with rfl | hm
    ·refine ⟨fun e=>?_,fun c hc=>?_⟩
     ·have:=congrArg List.length e
      rw [List.length_take,List.length_nil] at this
      have:=BC l
      omega
     ·obtain ⟨i,hi⟩:=List.getElem?_of_mem hc
      rw [List.getElem?_take] at hi
      split at hi
      ·rename_i hlt
       obtain ⟨c',h3,h4⟩:=Dd hlt
       rw [h3] at hi
       cases hi
       exact h4
      ·cases hi
    ·exact h2 w hm
theorem yD {w:List UInt8} (h0:w≠[]) (h:∀ c ∈ w,wht c=false):eE w=[w]:=by
 have hpos:=List.length_pos_iff.2 h0
 have hwl:wl w=w.length:=wM (fun k hk=>⟨w[k],List.getElem?_eq_getElem hk,h _ (List.getElem_mem hk)⟩) fun c hc=>by
  have:=(List.getElem?_eq_some_iff.1 hc).1
  omega
 rw [kK h0,hwl,if_neg (by omega),List.take_length,List.drop_eq_nil_of_le (by omega),jW]
theorem E_ (s t:ByteArray):(match eE (tl t) with | [w]=>decide (mk w=t)&&kH ((eE (tl s)).map mk) t | _=>false)=(!decide (t=emp)&&m_ s t):=by
 have hin:kH ((eE (tl s)).map mk) t=m_ s t:=by
  unfold kH m_
  rw [Bool.eq_iff_iff,List.any_eq_true,decide_eq_true_eq]
  constructor
  ·rintro ⟨x,hx,hd⟩
   obtain ⟨w,hw,rfl⟩:=List.mem_map.1 hx
   rw [decide_eq_true_eq] at hd
   rw [← hd,ml]
   exact hw
  ·exact fun h=>⟨t,List.mem_map.2 ⟨tl t,h,m9 t⟩,by simp⟩
 rw [hin]
 by_cases hw:tl t ∈ eE (tl s)
 ·obtain ⟨h1,h2⟩:=(mL _ (tl s) (Nat.le_refl _)).2 _ hw
  rw [yD h1 h2]
  have:t≠emp:=fun e=>h1 (by rw [e]; rfl)
  simp [m9,this]
 ·have:m_ s t=false:=by unfold m_; simpa using hw
  rw [this]
  split<;>simp
theorem xl (l:List (List UInt8)):(.imm 1 (l.map vU):AV)=dG (l.map mk):=by unfold dG; rw [List.map_map]; rfl
theorem Cd {n:Nd} (hl:n.attrs.length≤reachBytes) (ht:∀ p ∈ n.attrs,p.2.data.size<4294967281) {a:At} (ha:a.text.data.size<4294967281) {K:AV→Hp→Prop} {b2 b3:Nat}:∀ (k m:Nat) (H:Hp),n.attrs.length - m=k→m≤n.attrs.length→H.get b2=some (.cells (bt n) true)→H.get b3=some (.cells (cg a) true)→(∀ H,K (Bo (fy (n.attrs.drop m) a)) H)→er.L0 σ K (.ptr b2 0) (.ptr b3 0) (I (m:Int)) H:=by
 have hre:=eH
 intro k
 induction k with
 | zero =>
  intro m H hk hm h2 h3 hK
  have:m=n.attrs.length:=by omega
  subst this
  have c2:ldA false 1 H (.ptr b2 4)=some (.imm 2 (n.attrs.map cS)):=by simp [h2,bt]
  refine er.L0_step ?_
  simp only [bj,Nat.zero_add,aa,c2,cI,List.length_map,bA,Int.lt_irrefl,decide_false,ah,Bool.false_eq_true,if_false]
  simpa [fy] using hK H
 | succ k ih =>
  intro m H hk hm h2 h3 hK
  have hlt:m<n.attrs.length:=by omega
  obtain ⟨x,hx⟩:=cb hlt
  have hxl:=ht x (List.mem_of_getElem? hx)
  rw [cm hx] at hK
  have h1:(m:Int)<n.attrs.length:=by omega
  have c2:ldA false 1 H (.ptr b2 4)=some (.imm 2 (n.attrs.map cS)):=by simp [h2,bt]
  have d0:ldA false 1 H (.ptr b3 0)=some (Sx a.name):=by simp [h3]
  have d1:ldA false 1 H (.ptr b3 1)=some (I a.op):=by simp [h3]
  have d2:ldA false 1 H (.ptr b3 2)=some (Sx a.text):=by simp [h3,cg]
  have s0:ae (.ip (cS x)) 0=some (.ip (cS x)):=rfl
  have s1:ae (.ip (cS x)) 1=some (.ip [Sx x.2]):=rfl
  have l0:ldA false 1 H (.ip (cS x))=some (Sx x.1):=rfl
  have l1:ldA false 1 H (.ip [Sx x.2])=some (Sx x.2):=rfl
  refine er.L0_step ?_
  simp only [bj,Nat.zero_add,aa,c2,cI,List.length_map,bA,h1,decide_true,ah,if_true,bS hx,s0,s1,l0,l1,d0,d1,d2,tW,bD,gD,decide_eq_true_eq]
  by_cases hn:x.1=a.name
  ·have hat:fy (x::n.attrs.drop (m+1)) a=soB x.2 a:=by simp [fy,hn]
   rw [hat] at hK
   simp only [hn,decide_true,Bool.not_true,Bool.false_eq_true,if_false]
   unfold soB at hK
   split
   ·rename_i h; simp only [h,if_true] at hK; exact hK _
   rename_i h0
   simp only [h0,if_false] at hK
   split
   ·rename_i h; simp only [h,if_true] at hK; exact hK _
   rename_i h1
   simp only [h1,if_false] at hK
   split
   ·rename_i h
    simp only [h,if_true] at hK
    rw [← E_] at hK
    refine am (sD a.text ha _) ?_
    rw [cI,aa,bD,aa,List.length_map]
    simp only [ah,decide_eq_true_eq]
    split
    ·rename_i hl1
     obtain ⟨w,hw⟩:∃ w,eE (tl a.text)=[w]:=List.length_eq_one_iff.1 (by omega)
     rw [hw] at hK
     have hix:aJ 1 (.imm 1 ((eE (tl a.text)).map vU)) (I 0)=some (.ip (vU w)):=by
      have:(eE (tl a.text))[(0:Nat)]?=some w:=by rw [hw]; rfl
      exact bS this
     have hlw:ldA false 1 H (.ip (vU w))=some (Sx (mk w)):=rfl
     rw [hix,aa,hlw,aa,d2,aa,gD,aa]
     simp only [ah,decide_eq_true_eq]
     split
     ·rename_i hq
      refine am (sD x.2 hxl _) ⟨rfl,?_⟩
      rw [d2,aa,xl]
      have hlen:=(mL _ (tl x.2) (Nat.le_refl _)).1
      rw [cK] at hlen
      refine am (xL _ (by rw [List.length_map]; omega) _ _) ?_
      simpa [hq] using hK H
     ·rename_i hq
      simpa [hq] using hK H
    ·rename_i hl1
     have:∀ b:List UInt8→Bool,(match eE (tl a.text) with | [w]=>b w | _=>false)=false:=fun b=>by
      split
      ·rename_i w hw; rw [hw] at hl1; simp at hl1
      ·rfl
     rw [this] at hK
     exact hK _
   rename_i h2'
   simp only [h2',if_false] at hK
   split
   ·rename_i h
    simp only [h,if_true] at hK
    split
    ·rename_i he
     simp [he] at hK
     exact hK _
    ·rename_i he
     simp [he] at hK
     rw [DT (by show a.text.data.size+1≤_; omega),aa]
     refine am (sO _ _ _) ?_
     rw [ml]
     exact hK _
   rename_i h3'
   simp only [h3',if_false] at hK
   split
   ·rename_i h
    simp only [h,if_true] at hK
    by_cases he:a.text=emp
    ·have he':a.text=⟨#[]⟩:=he
     simp [he'] at hK ⊢
     simpa [emp] using hK H
    ·have he':¬ (a.text=⟨#[]⟩):=he
     simp [he'] at hK ⊢
     refine am (sO _ _ _) ?_
     simpa [he] using hK H
   rename_i h4'
   simp only [h4',if_false] at hK
   split
   ·rename_i h
    simp only [h,if_true] at hK
    by_cases he:a.text=emp
    ·have he':a.text=⟨#[]⟩:=he
     simp [he'] at hK ⊢
     simpa [emp] using hK H
    ·have he':¬ (a.text=⟨#[]⟩):=he
     simp [he'] at hK ⊢
     refine am (GD _ _ (by omega) _) ?_
     simpa [he] using hK H
   rename_i h5'
   simp only [h5',if_false] at hK
   split
   ·rename_i h
    simp only [h,if_true] at hK
    by_cases he:a.text=emp
    ·have he':a.text=⟨#[]⟩:=he
     simp [he'] at hK ⊢
     simpa [emp] using hK H
    ·have he':¬ (a.text=⟨#[]⟩):=he
     simp [he'] at hK ⊢
     refine am (Lw _ _ hxl (by omega) (fun e=>he (IU e)) _) ?_
     simpa [he] using hK H
   ·rename_i h
    simp only [h,if_false] at hK
    exact hK _
  ·have hat:fy (x::n.attrs.drop (m+1)) a=fy (n.attrs.drop (m+1)) a:=by simp [fy,hn]
   rw [hat] at hK
   simp only [hn,decide_false,Bool.not_false,if_true,bN,aa]
   rw [cO hlt hl (by decide)]
   exact ih (m+1) H (by omega) (by omega) h2 h3 hK
theorem AQ (n:Nd) (hl:n.attrs.length≤reachBytes) (ht:∀ p ∈ n.attrs,p.2.data.size<4294967281) (a:At) (ha:a.text.data.size<4294967281) (H:Hp):az Tryz.prog σ j9 [.agg (bt n),.agg (cg a)] H (Bo (fy n.attrs a)) H:=by
 refine bl (fun K hK=>er.run ?_) (by simp [aP,bF,oh,j_]) rfl H
 simp only [d7]
 exact Cd hl ht ha _ 0 _ rfl (Nat.zero_le _) (by simp) (by simp) (by simpa using hK)
end Go.Proofs.YthmaggcfghjmfaaGreat.Ev
namespace Go.Proofs.YthmaggcfghjmfaaGreat.Ev
set_option linter.unusedVariables false
set_option linter.unusedSimpArgs false
variable {σ:Sig}
theorem Fy {L:List Nd} {d:List Nat} (hB:cH L L.length d) {e:Nat} (he:e<L.length):decide ((e:Int)=0)=decide (par L e<0):=by
 by_cases h0:e=0
 ·subst h0
  rw [(hB.root he).1]
  rfl
 ·obtain ⟨p,x,h1,_⟩:=hB.step e (by omega) he
  rw [h1]
  have a1:¬ ((e:Int)=0):=by omega
  have a2:¬ ((p:Int)<0):=by omega
  simp only [a1,a2]
theorem Cc (L:List Nd) (e:Nat):decide (((eZ L L.length e).length:Int)=0)=decide (ma L e 0<0):=by
 unfold ma
 cases eZ L L.length e with
 | nil=>rfl
 | cons x l =>
  have a1:¬ (((x::l).length:Int)=0):=by simp; omega
  have a2:¬ ((x:Int)<0):=by omega
  simp only [a1,decide_false,List.getElem?_cons_zero,a2]
theorem xr {L:List Nd} {d:List Nat} (hB:cH L L.length d) (hN:L.length≤4096) {e:Nat} (he:e<L.length) {q:Ps} (hq:i64 q.a∧i64 q.b) {dp:Nat} (hd:dp≤100)
  (hA:(q.kind=7∨q.kind=8)→∀ H,az Tryz.prog σ dX [dZ L d,I (e:Int),sls q.list,I ((dp+1:Nat):Int)] H (Bo (AA L q.list e)) H) (H:Hp) :
  az Tryz.prog σ cD [dZ L d,I (e:Int),.agg (bv q),I (dp:Int)] H (Bo (dI (AA L) L e q)) H:=by
 refine bl (fun K hK=>cn.run ?_) (by simp [aP,bF,ey,tI]) rfl H
 have hpl:=qW L e
 obtain ⟨H1,hH1⟩:∃ H1,H1=Hp.empty.new (.cells (bv q) true):=⟨_,rfl⟩
 have hg:H1.get Hp.empty.n=some (.cells (bv q) true):=by rw [hH1]; simp
 simp only [d7]
 rw [← hH1]
 generalize Hp.empty.n=b at hg
 have d0:ldA false 1 H1 (.ptr b 0)=some (I q.kind):=by simp [hg]
 have d1:ldA false 1 H1 (.ptr b 1)=some (I q.a):=by simp [hg]
 have d2:ldA false 1 H1 (.ptr b 2)=some (I q.b):=by simp [hg]
 have d3:ldA false 1 H1 (.ptr b 3)=some (sls q.list):=by simp [hg]; rfl
 simp only [bj,Nat.zero_add,aa,d0,d1,d2,bD,ah,decide_eq_true_eq]
 unfold dI at hK
 split
 ·rename_i h
  simp only [h,if_true] at hK
  rw [Fy hB he]
  exact hK _
 rename_i h1
 simp only [h1,if_false] at hK
 split
 ·rename_i h
  simp only [h,if_true] at hK
  refine am (pa L d hN he _) ?_
  rw [bD,aa]
  exact hK _
 rename_i h2
 simp only [h2,if_false] at hK
 split
 ·rename_i h
  simp only [h,if_true] at hK
  exact am (uA L d hB hN he _) (hK _)
 rename_i h3
 simp only [h3,if_false] at hK
 split
 ·rename_i h
  simp only [h,if_true] at hK
  refine am (pa L d hN he _) ?_
  simp only [bD,aa,ah,decide_eq_true_eq]
  split
  ·rename_i hp
   refine am (uA L d hB hN he _) ?_
   simpa [hp] using hK H1
  ·rename_i hp
   simpa [hp] using hK H1
 rename_i h4
 simp only [h4,if_false] at hK
 split
 ·rename_i h
  simp only [h,if_true] at hK
  refine am (tK L d hB hN he _) ?_
  have:aW (kU (eZ L L.length e))=some (I ((eZ L L.length e).length:Int)):=by unfold kU; simp
  rw [this,aa,bD,aa,Cc]
  exact hK _
 rename_i h5
 simp only [h5,if_false] at hK
 split
 ·rename_i h
  simp only [h,if_true] at hK
  refine am (pa L d hN he _) ⟨rfl,?_⟩
  rw [d1,aa]
  refine ⟨rfl,?_⟩
  rw [d2,aa]
  exact am (GS (by omega) hq.1 hq.2 _) (hK _)
 rename_i h6
 simp only [h6,if_false] at hK
 have J0:∀ c:Bool,(c=true ↔ (q.kind=7∨q.kind=8))→cn.J0 σ K (dZ L d) (I (e:Int)) (I (dp:Int)) (.ptr b 0) (Bo c) H1:=by
  intro c hc
  refine cn.J0_step ?_
  simp only [ah]
  by_cases hk:q.kind=7∨q.kind=8
  ·rw [hc.2 hk]
   simp only [if_true,bj,Nat.zero_add,aa,d3,bN]
   rw [bz (by omega)]
   refine am (hA hk _) ?_
   simp only [d0,aa,bD]
   by_cases h7:q.kind=7
   ·have h8:¬ (q.kind=8):=by omega
    simp only [h7,if_true] at hK
    have:=hK H1
    simp only [h8,decide_false]
    cases hb:AA L q.list e<;>simpa [hb] using this
   ·have h8:q.kind=8:=by omega
    simp only [h7,h8,if_false,if_true] at hK
    have:=hK H1
    simp only [h8,decide_true]
    cases hb:AA L q.list e<;>simpa [hb] using this
  ·have:c=false:=by
    cases c with
    | false=>rfl
    | true=>exact absurd (hc.1 rfl) hk
   subst this
   have h7:¬ (q.kind=7):=fun h=>hk (.inl h)
   have h8:¬ (q.kind=8):=fun h=>hk (.inr h)
   simp only [h7,h8,if_false] at hK
   simpa using hK H1
 split
 ·rename_i h
  exact J0 _ (by simp [h])
 ·rename_i h
  exact J0 _ (by simp [h])
end Go.Proofs.YthmaggcfghjmfaaGreat.Ev
namespace Go.Proofs.YthmaggcfghjmfaaGreat.Ev
set_option linter.unusedVariables false
set_option linter.unusedSimpArgs false
variable {σ:Sig}
section
variable {L:List Nd} {d:List Nat} {e:Nat} {c:Cp} {n:Nd} {dp:Nat} {b6 b9:Nat} {K:AV→Hp→Prop}
theorem K0 (hps:c.pseudos.length≤reachBytes) (hP:∀ q ∈ c.pseudos,∀ H,az Tryz.prog σ cD [dZ L d,I (e:Int),.agg (bv q),I (dp:Int)] H (Bo (dI (AA L) L e q)) H) {y10 y11 y12:AV}:∀ (k m:Nat) (H:Hp),c.pseudos.length - m=k→m≤c.pseudos.length→H.get b6=some (.cells (bR c) true)→(∀ H,K (Bo ((c.pseudos.drop m).all (dI (AA L) L e))) H) →
  av.L3 σ K (dZ L d) (I (e:Int)) (I (dp:Int)) (.ptr b6 0) (.ptr b9 0) y10 y11 y12 (I (m:Int)) H:=by
 intro k
 induction k with
 | zero =>
  intro m H hk hm h6 hK
  have:m=c.pseudos.length:=by omega
  subst this
  have d4:ldA false 1 H (.ptr b6 4)=some (.imm 4 (c.pseudos.map bv)):=by simp [h6]
  refine av.L3_step ?_
  simp only [bj,Nat.zero_add,aa,d4,cI,List.length_map,bA,Int.lt_irrefl,decide_false,ah,Bool.false_eq_true,if_false]
  simpa using hK H
 | succ k ih =>
  intro m H hk hm h6 hK
  have hlt:m<c.pseudos.length:=by omega
  obtain ⟨q,hq⟩:=cb hlt
  rw [cm hq,List.all_cons] at hK
  have hlt':(m:Int)<c.pseudos.length:=by omega
  have d4:ldA false 1 H (.ptr b6 4)=some (.imm 4 (c.pseudos.map bv)):=by simp [h6]
  refine av.L3_step ?_
  simp only [bj,Nat.zero_add,aa,d4,cI,List.length_map,bA,hlt',decide_true,ah,if_true,bS hq,e8,pe]
  refine am (hP q (List.mem_of_getElem? hq) _) ?_
  simp only [dQ,aa,ah]
  cases hb:dI (AA L) L e q with
  | false=>rw [hb] at hK; simpa using hK H
  | true =>
   rw [hb] at hK
   simp only [Bool.not_true,Bool.false_eq_true,if_false,bN,aa]
   rw [cO hlt hps (by decide)]
   exact ih (m+1) H (by omega) (by omega) h6 (by simpa using hK)
theorem KM (has:c.attrs.length≤reachBytes) (hps:c.pseudos.length≤reachBytes) (hn:SmN n) (ha:∀ a ∈ c.attrs,a.text.data.size<4294967281) (hP:∀ q ∈ c.pseudos,∀ H,az Tryz.prog σ cD [dZ L d,I (e:Int),.agg (bv q),I (dp:Int)] H (Bo (dI (AA L) L e q)) H) {y10 y11 y14:AV}:∀ (k m:Nat) (H:Hp),c.attrs.length - m=k→m≤c.attrs.length→H.get b6=some (.cells (bR c) true)→H.get b9=some (.cells (bt n) true)→(∀ H,K (Bo ((c.attrs.drop m).all (fy n.attrs)&&c.pseudos.all (dI (AA L) L e))) H) →
  av.L2 σ K (dZ L d) (I (e:Int)) (I (dp:Int)) (.ptr b6 0) (.ptr b9 0) y10 y11 (I (m:Int)) y14 H:=by
 intro k
 induction k with
 | zero =>
  intro m H hk hm h6 h9 hK
  have:m=c.attrs.length:=by omega
  subst this
  have d3:ldA false 1 H (.ptr b6 3)=some (.imm 3 (c.attrs.map cg)):=by simp [h6]
  refine av.L2_step ?_
  simp only [bj,Nat.zero_add,aa,d3,cI,List.length_map,bA,Int.lt_irrefl,decide_false,ah,Bool.false_eq_true,if_false]
  exact K0 hps hP _ 0 H rfl (Nat.zero_le _) h6 (by simpa using hK)
 | succ k ih =>
  intro m H hk hm h6 h9 hK
  have hlt:m<c.attrs.length:=by omega
  obtain ⟨a,hq⟩:=cb hlt
  rw [cm hq,List.all_cons] at hK
  have hlt':(m:Int)<c.attrs.length:=by omega
  have d3:ldA false 1 H (.ptr b6 3)=some (.imm 3 (c.attrs.map cg)):=by simp [h6]
  have d9:ldA true 5 H (.ptr b9 0)=some (.agg (bt n)):=by simp only [bE,h9,br,List.drop_zero,xB]
  refine av.L2_step ?_
  simp only [bj,Nat.zero_add,aa,d3,d9,cI,List.length_map,bA,hlt',decide_true,ah,if_true,bS hq,e8,Ca]
  refine am (AQ n hn.attrs hn.texts a (ha a (List.mem_of_getElem? hq)) _) ?_
  simp only [dQ,aa,ah]
  cases hb:fy n.attrs a with
  | false=>rw [hb] at hK; simpa using hK H
  | true =>
   rw [hb] at hK
   simp only [Bool.not_true,Bool.false_eq_true,if_false,bN,aa]
   rw [cO hlt has (by decide)]
   exact ih (m+1) H (by omega) (by omega) h6 h9 (by simpa using hK)
structure xo (c:Cp):Prop where
 ids:c.ids.length≤reachBytes
 classes:c.classes.length≤reachBytes
 attrs:c.attrs.length≤reachBytes
 ps:c.pseudos.length≤reachBytes
 texts:∀ a ∈ c.attrs,a.text.data.size<4294967281
theorem K5 (hc:xo c) (hn:SmN n) (hP:∀ q ∈ c.pseudos,∀ H,az Tryz.prog σ cD [dZ L d,I (e:Int),.agg (bv q),I (dp:Int)] H (Bo (dI (AA L) L e q)) H) {y10 y12 y14:AV}:∀ (k m:Nat) (H:Hp),c.classes.length - m=k→m≤c.classes.length→H.get b6=some (.cells (bR c) true)→H.get b9=some (.cells (bt n) true)→(∀ H,K (Bo ((c.classes.drop m).all (kH n.classes)&&(c.attrs.all (fy n.attrs)&&c.pseudos.all (dI (AA L) L e)))) H) →
  av.L1 σ K (dZ L d) (I (e:Int)) (I (dp:Int)) (.ptr b6 0) (.ptr b9 0) y10 (I (m:Int)) y12 y14 H:=by
 intro k
 induction k with
 | zero =>
  intro m H hk hm h6 h9 hK
  have:m=c.classes.length:=by omega
  subst this
  have d2:ldA false 1 H (.ptr b6 2)=some (.imm 1 (c.classes.map fun s=>[Sx s])):=by simp [h6,cX,dG]
  refine av.L1_step ?_
  simp only [bj,Nat.zero_add,aa,d2,cI,List.length_map,bA,Int.lt_irrefl,decide_false,ah,Bool.false_eq_true,if_false]
  exact KM hc.attrs hc.ps hn hc.texts hP _ 0 H rfl (Nat.zero_le _) h6 h9 (by simpa using hK)
 | succ k ih =>
  intro m H hk hm h6 h9 hK
  have hlt:m<c.classes.length:=by omega
  obtain ⟨x,hq⟩:=cb hlt
  rw [cm hq,List.all_cons] at hK
  have hlt':(m:Int)<c.classes.length:=by omega
  have d2:ldA false 1 H (.ptr b6 2)=some (.imm 1 (c.classes.map fun s=>[Sx s])):=by simp [h6,cX,dG]
  have d9:ldA false 1 H (.ptr b9 3)=some (dG n.classes):=by simp [h9,bt]
  have lx:ldA false 1 H (.ip [Sx x])=some (Sx x):=rfl
  have hix:aJ 1 (.imm 1 (c.classes.map fun s=>[Sx s])) (I (m:Int))=some (.ip [Sx x]):=bS hq
  refine av.L1_step ?_
  simp only [bj,Nat.zero_add,aa,d2,d9,cI,List.length_map,bA,hlt',decide_true,ah,if_true,hix,lx]
  refine am (xL n.classes hn.classes x _) ?_
  simp only [dQ,aa,ah]
  cases hb:kH n.classes x with
  | false=>rw [hb] at hK; simpa using hK H
  | true =>
   rw [hb] at hK
   simp only [Bool.not_true,Bool.false_eq_true,if_false,bN,aa]
   rw [cO hlt hc.classes (by decide)]
   exact ih (m+1) H (by omega) (by omega) h6 h9 (by simpa using hK)
theorem KR (hc:xo c) (hn:SmN n) (hP:∀ q ∈ c.pseudos,∀ H,az Tryz.prog σ cD [dZ L d,I (e:Int),.agg (bv q),I (dp:Int)] H (Bo (dI (AA L) L e q)) H) {y11 y12 y14:AV}:∀ (k m:Nat) (H:Hp),c.ids.length - m=k→m≤c.ids.length→H.get b6=some (.cells (bR c) true)→H.get b9=some (.cells (bt n) true)→(∀ H,K (Bo ((c.ids.drop m).all (idB n)&&(c.classes.all (kH n.classes)&&(c.attrs.all (fy n.attrs)&&c.pseudos.all (dI (AA L) L e))))) H) →
  av.L0 σ K (dZ L d) (I (e:Int)) (I (dp:Int)) (.ptr b6 0) (.ptr b9 0) (I (m:Int)) y11 y12 y14 H:=by
 intro k
 induction k with
 | zero =>
  intro m H hk hm h6 h9 hK
  have:m=c.ids.length:=by omega
  subst this
  have d2:ldA false 1 H (.ptr b6 1)=some (.imm 1 (c.ids.map fun s=>[Sx s])):=by simp [h6,cX,dG]
  refine av.L0_step ?_
  simp only [bj,Nat.zero_add,aa,d2,cI,List.length_map,bA,Int.lt_irrefl,decide_false,ah,Bool.false_eq_true,if_false]
  exact K5 hc hn hP _ 0 H rfl (Nat.zero_le _) h6 h9 (by simpa using hK)
 | succ k ih =>
  intro m H hk hm h6 h9 hK
  have hlt:m<c.ids.length:=by omega
  obtain ⟨x,hq⟩:=cb hlt
  rw [cm hq,List.all_cons] at hK
  have hlt':(m:Int)<c.ids.length:=by omega
  have d2:ldA false 1 H (.ptr b6 1)=some (.imm 1 (c.ids.map fun s=>[Sx s])):=by simp [h6,cX,dG]
  have d9:ldA false 1 H (.ptr b9 2)=some (Sx n.id):=by simp [h9,bt]
  have lx:ldA false 1 H (.ip [Sx x])=some (Sx x):=rfl
  have hix:aJ 1 (.imm 1 (c.ids.map fun s=>[Sx s])) (I (m:Int))=some (.ip [Sx x]):=bS hq
  refine av.L0_step ?_
  simp only [bj,Nat.zero_add,aa,d2,d9,cI,List.length_map,bA,hlt',decide_true,ah,if_true,hix,lx,tW,gD]
  by_cases h1:x=n.id
  ·by_cases h2:n.id=emp
   ·have h2':n.id=⟨#[]⟩:=h2
    have hid:idB n x=false:=by unfold idB; rw [h1,h2]; simp
    rw [hid] at hK
    simp only [h1,h2',decide_true,Bool.not_true,Bool.false_eq_true,if_false,if_true]
    simpa using hK H
   ·have h2':¬ (n.id=⟨#[]⟩):=h2
    have hid:idB n x=true:=by unfold idB; rw [h1]; simp [h2]
    rw [hid] at hK
    simp only [h1,h2',decide_true,decide_false,Bool.not_true,Bool.false_eq_true,if_false,bN,aa]
    rw [cO hlt hc.ids (by decide)]
    exact ih (m+1) H (by omega) (by omega) h6 h9 (by simpa using hK)
  ·have hid:idB n x=false:=by unfold idB; simp [h1]
   rw [hid] at hK
   simp only [h1,decide_false,Bool.not_false,if_true]
   simpa using hK H
end
end Go.Proofs.YthmaggcfghjmfaaGreat.Ev

/- The walks, part 6: the evaluator, the functions, the laws. Conditions: none. -/
import Derived.Test.YtegioimlblnajaaGreatZ5
namespace Go.Proofs.YtegioimlblnajaaGreat.Ev
set_option linter.unusedVariables false
set_option linter.unusedSimpArgs false
variable {σ:Sig} {P:Pm} {rl sl:AV} {G:MG} {M M':MS} {H H':Hp} {tg tg':Nat→Tg} {K:AV→Hp→Prop}
structure Sd (P:Pm) (M:MS) (who e:Nat):Prop where
 last:M.last.length≤900
 st:M.st.length≤1000000∧∀ p ∈ M.st,p.2≤1000000
 of:M.of.length=P.L.length∧∀ x ∈ M.of,-1≤x∧x≤1000000
 ee:(M.ws who).e=e
 el:e<P.L.length
 ca:(M.ws who).ca.length≤8∧∀ p ∈ (M.ws who).ca,0≤p.1∧p.1<P.L.length
theorem Mp {e:Nat} (h:e<M.of.length):ofI M e ∈ M.of:=by
 unfold ofI
 simp [List.getD_eq_getElem?_getD,h]
section
attribute [local irreducible] av.J0 av.J1
theorem tW {who e:Nat} (h:Ok P rl sl G M H tg) (hw:who<P.W) (hl:M.last.length≤1000) (he:(M.ws who).e=e) (hel:e≤1000000)
  (hK:∀ H' tg',Ok P rl sl G ((M.did ⟨who,3*e,true,false⟩).w who fun w=>{ w with mode:=3 }) H' tg'→Fm H tg H' tg'→K (.tup []) H'):av.J1 σ K (.ptr G.m 0) (I who) (.ptr (G.wk who) 0) H:=by
 obtain ⟨sk,bw,_⟩:=(h.w who hw).e
 refine av.J1_step (aa rfl (aa rfl (aa (bw.cell rfl) ?_)))
 rw [he,sY,ae,fL (by omega) (by omega)]
 refine m6 h hl ⟨who,3*e,true,false⟩ fun H1 tg1 h1 f1=>?_
 obtain ⟨H2,s2,h2,f2⟩:=mz h1 hw 3
 exact aa rfl (aa rfl (aa s2 (hK H2 tg1 h2 (f1.trans f2))))
theorem sN (E:En P) {who e:Nat} (h:Ok P rl sl G M H tg) (hw:who<P.W) (S:Sd P M who e) (my:∀ c:Nat,(c:Int) ∈ dV (M.ws who).ca→c<P.L.length→vk σ P sl c e) (wn:tu σ P rl e)
  (hK:∀ H' tg',Ok P rl sl G (((match qA P (M.ws who) with | some c=>rz M who c | none=>kj P M who).did ⟨who,3*e,true,false⟩).w who fun w=>{ w with mode:=3 }) H' tg'→Fm H tg H' tg'→K (.tup []) H'):av.J0 σ K (.ptr G.m 0) (I who) (.ptr (G.wk who) 0) H:=by
 have hN:=E.hN
 have hel:=S.el
 have hol:=S.of.1
 refine av.J0_step ?_
 refine LF E h hw S.ee S.el S.ca.2 my ?_
 obtain ⟨sk,bw,_⟩:=(h.w who hw).e
 cases ht:qA P (M.ws who) with
 | some c =>
  rw [ht] at hK
  have hcm:0≤c∧c<P.L.length:=by
   unfold qA at ht
   have:=List.mem_of_find?_eq_some ht
   unfold dV at this
   obtain ⟨p,hp,rfl⟩:=List.mem_map.1 this
   exact S.ca.2 p (by simpa using hp)
  obtain ⟨cn,rfl⟩:∃ k:Nat,c=k:=⟨c.toNat,by omega⟩
  refine aa rfl (aa rfl ?_)
  rw [ah,if_pos rfl]
  refine aa rfl (aa rfl (aa (bw.cell rfl) ?_))
  refine NS (h.c who hw) S.ca.1 cn fun r H1 tg1 c1 f1=>?_
  have f1':Fg (.c who) H tg H1 tg1:=f1.mono fun k hk=>by rcases hk with rfl | rfl<;>rfl
  have h1:=h.toC f1' c1
  obtain ⟨of,id,off,e1,_,e2,e3,_⟩:=mf h1 (e:=cn) (by show cn<M.of.length; omega)
  refine aa rfl (aa rfl (aa e1 (aa e2 (aa e3 (aa rfl (aa rfl ?_))))))
  refine Kf h1 S.st.2 _ fun r2 H2 h2 f2=>?_
  have ob:=S.of.2 _ (Mp (M:=M) (e:=cn) (by omega))
  generalize hi:ofI M cn=i at ob
  have hi1:ofI (M.w who fun w=>{ w with ca:=qv (M.ws who).ca cn }) cn=i:=hi
  rw [hi1] at h2 ⊢
  obtain ⟨sk2,bw2,_⟩:=(h2.w who hw).e
  obtain ⟨of2,id2,off2,e4,_,e5,_,e6⟩:=mf h2 (e:=e) (by show e<M.of.length; omega)
  obtain ⟨H3,s3,h3,f3⟩:=e6 i
  have he2:((sS (M.w who fun w=>{ w with ca:=qv (M.ws who).ca cn }) i).ws who).e=e:=by
   show (up M.ws who _ who).e=e
   rw [az]; exact S.ee
  have lw:ldA false 1 H2 (.ptr (G.wk who) 4)=some (I e):=by rw [← he2]; exact bw2.cell rfl
  refine aa rfl (aa rfl (aa e4 (aa rfl (aa rfl (aa lw (aa e5 (aa s3 ?_)))))))
  rw [sY,ae,fL (by omega) (by omega),fJ,ae,fL (by omega) (by omega)]
  have hl:=S.last
  refine m6 h3 (by show M.last.length≤1000; omega) ⟨who,3*i+2,true,true⟩ fun H4 tg4 h4 f4=>?_
  have eM:rz M who cn=({ (sS (M.w who fun w=>{ w with ca:=qv (M.ws who).ca cn }) i) with of:=(sS (M.w who fun w=>{ w with ca:=qv (M.ws who).ca cn }) i).of.set e i }).did ⟨who,3*i+2,true,true⟩:=by
   unfold rz
   simp only [hi,S.ee,Int.toNat_natCast]
   rfl
  rw [← eM] at h4
  refine tW h4 hw (by rw [eM]; show (M.last++[_]).length≤1000; simp; omega) (by rw [eM]; exact he2) (by omega) fun H5 tg5 h5 f5=>hK H5 tg5 h5 ((f1'.fm (by simp)).trans (f2.trans (f3.trans (f4.trans f5))))
 | none =>
  rw [ht] at hK
  refine aa rfl (aa rfl ?_)
  rw [ah,if_neg (by simp)]
  obtain ⟨st,of,la,b,_⟩:=h.m.e
  refine aa rfl (aa rfl (aa (b.cell rfl) (aa rfl (aa rfl (aa (bw.cell rfl) (aa rfl (aa rfl (aa rfl (aa rfl (aa (bw.cell rfl) ?_))))))))))
  rw [S.ee]
  refine wl E h S.el S.of.1 fun x H1 tg1 f1 good=>?_
  have h1:=h.keep f1
  have b1:=b.keep f1 fun h=>h
  have bw1:=bw.keep f1 fun h=>h
  have gw:H1.get (G.wk who)=H.get (G.wk who):=f1.get _ bw.lt fun h=>h
  have gm:H1.get G.m=H.get G.m:=f1.get _ b.lt fun h=>h
  simp only [Nat.zero_add,gZ,gw,gm,true_and,sV,me,ae,b1.cell (off:=0) rfl,b1.cell (off:=1) rfl,bw1.cell (off:=4) rfl]
  rw [S.ee]
  obtain ⟨w,g1,nw,g2,g3⟩:=wn
  refine aD (g1 H1) ⟨congrArg (caO 1 4) gw,congrArg (caO 1 7) gm,?_⟩
  refine aD (good w nw _ g2 g3 rfl) ⟨rfl,rfl,?_⟩
  generalize hx:P.sty (if 0≤par P.L e then some (lz M (ofI M (par P.L e))) else none) e=xs
  have hx8:xs.length=8:=by rw [← hx]; exact E.len _ _
  refine JP h1 S.st.1 xs hx8 fun H2 tg2 h2 f2 g2 c2=>?_
  have gw2:H2.get (G.wk who)=H1.get (G.wk who):=g2 _ bw1.lt (by rw [bw1.tg]; simp [Tg.g])
  refine ⟨congrArg (caO 1 4) gw2,c2,?_⟩
  obtain ⟨of2,id2,off2,e4,_,e5,_,e6⟩:=mf h2 (e:=e) (by show e<M.of.length; omega)
  have eof:of2=of:=by
   obtain ⟨st',of',la',b',_⟩:=h2.m.e
   have a1:=b'.caE (off:=7) rfl
   rw [c2,b1.caE (off:=7) rfl] at a1
   have a2:=b'.cell (off:=7) rfl
   rw [e4] at a2
   have a3:of=of':=by simpa using a1
   rw [a3]; exact Option.some.inj a2
  rw [eof] at e5
  obtain ⟨H3,s3,h3,f3⟩:=e6 M.st.length
  refine aa e5 (aa s3 ?_)
  obtain ⟨sk3,bw3,_⟩:=(h3.w who hw).e
  have lw:ldA false 1 H3 (.ptr (G.wk who) 4)=some (I e):=by
   have:=bw3.cell (off:=4) rfl
   rw [this]
   show some (I (M.ws who).e)=_
   rw [S.ee]
  obtain ⟨of4,id4,off4,e7,_,e8,e9,_⟩:=mf h3 (e:=e) (by show e<(M.of.set e _).length; rw [List.length_set]; omega)
  have eo:ofI { { M with st:=M.st++[(xs,1)] } with of:=M.of.set e M.st.length } e=M.st.length:=by
   unfold ofI
   simp [List.getD_eq_getElem?_getD,show e<M.of.length by omega]
  rw [eo] at e9
  refine aa (bw3.cell rfl) (aa lw (aa e7 (aa lw (aa e8 (aa e9 ?_)))))
  refine NT (h3.c who hw) S.ca.1 ((e:Int),(M.st.length:Int)) fun r H4 tg4 c4 f4=>?_
  have f4':Fg (.c who) H3 tg2 H4 tg4:=f4.mono fun k hk=>by rcases hk with rfl | rfl<;>rfl
  have h4:=h3.toC f4' c4
  have eM:kj P M who=({ { M with st:=M.st++[(xs,1)] } with of:=M.of.set e M.st.length }:MS).w who fun w=>{ w with ca:=Bz (M.ws who).ca ((e:Int),(M.st.length:Int)) }:=by
   unfold kj
   simp only [S.ee,Int.toNat_natCast]
   have:sr P (e:Int)=par P.L e:=rfl
   rw [this,hx]
   rfl
  have hl:=S.last
  have h4':Ok P rl sl G (kj P M who) H4 tg4:=by rw [eM]; exact h4
  refine tW h4' hw (by rw [eM]; show M.last.length≤1000; omega) (by rw [eM]; simp only [MS.w,az]; exact S.ee) (by omega) fun H5 tg5 h5 f5=>hK H5 tg5 h5 (f1.fm0.trans (f2.trans (f3.trans ((f4'.fm (by simp)).trans f5))))
theorem yg (E:En P) {who e:Nat} {a b:Int} (h:Ok P rl sl G M H tg) (hw:who<P.W) (S:Sd P M who e) (my:∀ c:Nat,(c:Int) ∈ dV (M.ws who).ca→c<P.L.length→vk σ P sl c e) (wn:tu σ P rl e) (hl:M.last.length≤800)
  (hK:∀ H' tg',Ok P rl sl G (jL P M who) H' tg'→Fm H tg H' tg'→K (.tup []) H'):ai Tryz.prog σ bF [.ptr G.m 0,I who,pk a b] H K:=by
 refine av.run ?_
 show dN (.agg [I a,I b]) _ _
 rw [dL]
 have f0:Fx (fun _=>False) H tg (H.new (.cells [I a,I b] true)) (up tg H.n .fr):=.new _ _
 have h0:=h.keep f0
 generalize H.new (.cells [I a,I b] true)=H0 at f0 h0 ⊢
 generalize up tg H.n .fr=tg0 at f0 h0
 obtain ⟨st,of,la,bm,_⟩:=h0.m.e
 obtain ⟨id,off,e1,e2⟩:=h0.wp hw
 obtain ⟨sk,bw,_⟩:=(h0.w who hw).e
 have hN:=E.hN
 have hel:=S.el
 refine aa rfl (aa rfl (aa (bm.cell rfl) (aa e1 (aa e2 (aa rfl (aa rfl (aa (bm.cell rfl) (aa rfl (aa rfl (aa (bw.cell rfl) ?_))))))))))
 rw [S.ee]
 refine aD (qE P.L P.d E.hN S.el H0) ?_
 rw [jA,ae,ah]
 unfold jL rm at hK
 rw [S.ee] at hK
 have ep:sr P (e:Int)=par P.L e:=rfl
 rw [ep] at hK
 rcases Bc E.hB S.el with hp | ⟨p,hp,hlt⟩
 ·rw [hp,if_neg (by decide)]
  rw [hp,if_neg (by decide)] at hK
  exact sN E h0 hw S my wn fun H1 tg1 h1 f1=>hK H1 tg1 h1 (f0.fm0.trans f1)
 ·rw [hp,if_pos (by simp)]
  rw [hp,if_pos (by omega)] at hK
  rw [sY,ae,fL (by omega) (by omega)]
  refine m6 h0 (by omega) ⟨who,3*(p:Int),false,false⟩ fun H1 tg1 h1 f1=>?_
  exact sN E h1 hw ⟨by show (M.last++[_]).length≤900; simp; omega,S.st,S.of,S.ee,S.el,S.ca⟩ my wn fun H2 tg2 h2 f2=>hK H2 tg2 h2 (f0.fm0.trans (f1.trans f2))
end
end Go.Proofs.YtegioimlblnajaaGreat.Ev
namespace Go.Proofs.YtegioimlblnajaaGreat.Ev
set_option linter.unusedVariables false
set_option linter.unusedSimpArgs false
variable {σ:Sig} {P:Pm} {rl sl:AV} {G:MG} {M M':MS} {H H':Hp} {tg tg':Nat→Tg} {K:AV→Hp→Prop}
theorem O_ {who e:Nat} {a b:Int} (h:Ok P rl sl G M H tg) (hw:who<P.W) (hl:M.last.length≤900) (he:(M.ws who).e=e) (hel:e<M.pub.length) (hb:M.pub.length≤1000000)
  (hK:∀ H' tg',Ok P rl sl G (og M who) H' tg'→Fm H tg H' tg'→K (.tup []) H'):ai Tryz.prog σ bp [.ptr G.m 0,I who,pk a b] H K:=by
 refine eR.run ?_
 show dN (.agg [I a,I b]) _ _
 rw [dL]
 have f0:Fx (fun _=>False) H tg (H.new (.cells [I a,I b] true)) (up tg H.n .fr):=.new _ _
 have h0:=h.keep f0
 generalize H.new (.cells [I a,I b] true)=H0 at f0 h0 ⊢
 generalize up tg H.n .fr=tg0 at f0 h0
 obtain ⟨st,of,la,bm,r1,r2,r3,r4⟩:=h0.m.e
 obtain ⟨id,off,e1,e2⟩:=h0.wp hw
 obtain ⟨sk,bw,_⟩:=(h0.w who hw).e
 have ix:aw 1 (.sl G.pb 0 1 M.pub.length (some M.pub.length)) (I (e:Int))=some (.ptr G.pb e):=by rw [lA (by omega) (by omega)]; simp
 refine aa rfl (aa rfl (aa (bm.cell rfl) (aa e1 (aa e2 (aa rfl (aa rfl (aa (bm.cell rfl) (aa rfl (aa rfl (aa (bw.cell rfl) ?_))))))))))
 rw [he]
 obtain ⟨H1,s1,b1,f1⟩:=r3.st (off:=e) (x:=Bo true) rfl rfl rfl (by simpa using hel)
 have f1':Fg .m H0 tg0 H1 tg0:=f1.to rfl
 have h1:Ok P rl sl G { M with pub:=M.pub.set e true } H1 tg0:=h0.toM f1' ⟨st,of,la,by rw [List.length_set]; exact bm.keep f1 (by simp),r1.keep f1 (by simp),r2.keep f1 (by simp),by rw [List.map_set]; exact b1,r4.keep f1 (by simp)⟩ rfl
 refine aa ix (aa s1 (aa rfl (aa rfl (aa ((bw.keep f1 (by simp)).cell rfl) ?_))))
 rw [he,sY,ae,fL (by omega) (by omega),fJ,ae,fL (by omega) (by omega)]
 refine m6 h1 (by show M.last.length≤1000; omega) ⟨who,3*e+1,true,true⟩ fun H2 tg2 h2 f2=>?_
 obtain ⟨sk2,bw2,r⟩:=(h2.w who hw).e
 obtain ⟨H3,s3,b3,f3⟩:=bw2.st (off:=0) (x:=I 4) rfl rfl rfl (by simp)
 obtain ⟨H4,s4,b4,f4⟩:=b3.st (off:=5) (x:=I 0) rfl rfl rfl (by simp)
 have f:Fg (.w who) H2 tg2 H4 tg2:=(f3.to rfl).trans (f4.to rfl)
 refine aa rfl (aa rfl (aa s3 (aa rfl (aa rfl (aa s4 ?_)))))
 refine hK H4 tg2 ?_ (f0.fm0.trans ((f1'.fm (by simp)).trans (f2.trans (f.fm (by simp)))))
 have:=h2.toW (f:=fun w=>{ w with mode:=4,child:=0 }) f ⟨sk2,b4,(r.keep f3 (by simp)).keep f4 (by simp)⟩ rfl rfl
 unfold og
 simp only [he,Int.toNat_natCast]
 exact this
theorem Kb {who:Nat} (h:Ok P rl sl G M H tg) (hw:who<P.W) (hl:(M.ws who).stk.length≤1000000) (x:Int) (hK:∀ H' tg',Ok P rl sl G (M.w who fun w=>{ w with stk:=w.stk++[x] }) H' tg'→Fm H tg H' tg'→K (.tup []) H') :
  ai Tryz.prog σ dH [.ptr (G.wk who) 3,I x] H K:=by
 obtain ⟨sk,bw,r⟩:=(h.w who hw).e
 refine fY.run (aa rfl (aa rfl (aa (bw.cell rfl) ?_)))
 refine Rw.app1 (bytes:=8) (y:=I x) r rfl rfl rfl (by simp [dB]; omega) (by simp [dB]; omega) fun x' H1 tg1 r1 f1=>?_
 have bw1:=bw.keep f1 (by simp)
 obtain ⟨H2,s2,b2,f2⟩:=bw1.st (off:=3) r1.cells.1 r1.cells.2 r1.one (by simp)
 have f:Fg (.w who) H tg H2 tg1:=(f1.to rfl).trans (f2.to rfl)
 refine aa rfl (aa rfl (aa s2 (hK H2 tg1 (h.toW f ⟨x',b2,?_⟩ rfl rfl) (f.fm (by simp)))))
 have:=r1.keep f2 (by simp)
 simpa [dB] using this
theorem B6 {who:Nat} (h:Ok P rl sl G M H tg) (hw:who<P.W) (hl:(M.ws who).stk.length≤1000000)
  (hK:∀ H',(match (M.ws who).stk.getLast? with | some e=>Ok P rl sl G (M.w who fun w=>{ w with stk:=w.stk.dropLast }) H' tg | none=>Ok P rl sl G M H' tg)→Fm H tg H' tg→K (match (M.ws who).stk.getLast? with | some e=>.tup [I e,Bo true] | none=>.tup [I 0,Bo false]) H') :
  ai Tryz.prog σ dy [.ptr (G.wk who) 3] H K:=by
 obtain ⟨sk,bw,r⟩:=(h.w who hw).e
 have hlen:=r.len
 unfold dB at hlen
 rw [List.length_map] at hlen
 refine fq.run (aa rfl (aa rfl (aa (bw.cell rfl) (aa hlen ?_))))
 rw [pR,ae,fL (by omega) (by omega),cS,ae,ah]
 generalize hs:(M.ws who).stk=s at *
 cases hg:s.getLast? with
 | none =>
  rw [hg] at hK
  have:s=[]:=List.getLast?_eq_none_iff.1 hg
  rw [if_pos (by rw [this]; rfl)]
  exact hK H h .refl
 | some e =>
  rw [hg] at hK
  have hne:s≠[]:=by rintro rfl; cases hg
  have hpos:0<s.length:=List.length_pos_iff.2 hne
  have hge:s[s.length - 1]?=some e:=by rw [← hg,List.getLast?_eq_getElem?]
  rw [if_neg (by simp; omega)]
  have en:(s.length:Int) - 1=((s.length - 1:Nat):Int):=by omega
  rw [en]
  obtain ⟨id,off,e1,e2⟩:=r.ld1 (i:=s.length - 1) (y:=I e) (by unfold dB; rw [List.getElem?_map,hge]; rfl)
  obtain ⟨x',c1,r1⟩:=r.cut (n:=s.length - 1) (by simp [dB])
  obtain ⟨H2,s2,b2,f2⟩:=bw.st (off:=3) r1.cells.1 r1.cells.2 r1.one (by simp)
  refine aa rfl (aa rfl (aa (bw.cell rfl) (aa e1 (aa e2 (aa rfl (aa rfl (aa (bw.cell rfl) (aa c1 (aa rfl (aa rfl (aa s2 ?_)))))))))))
  refine hK H2 (h.toW (f2.to rfl) ⟨x',b2,?_⟩ rfl rfl) ((f2.to (g:=.w who) rfl).fm (by simp))
  have:=r1.keep f2 (by simp)
  have e3:(dB s).take (s.length - 1)=dB s.dropLast:=by unfold dB; rw [← List.map_take,List.dropLast_eq_take]
  rw [e3] at this
  show Rw 1 H2 tg (.sk who) x' (dB (M.ws who).stk.dropLast)
  rw [hs]; exact this
structure Gd (P:Pm) (M:MS) (who e:Nat):Prop where
 last:M.last.length≤900
 ee:(M.ws who).e=e
 el:e<P.L.length
 ch:(M.ws who).child≤1000000
 sl:(M.ws who).stk.length≤1000000
 le:-1000000≤M.left∧M.left≤1000000
 d:0≤oe P (M.ws who)→DOk (M.ws who).dq 1 who (oe P (M.ws who))
theorem Kv (E:En P) {who e:Nat} {a b:Int} (h:Ok P rl sl G M H tg) (hw:who<P.W) (S:Gd P M who e)
  (hK:∀ h H' tg',Ok P rl sl G (vr P M who h) H' tg'→Fm H tg H' tg'→K (.tup []) H'):ai Tryz.prog σ bL [.ptr G.m 0,I who,pk a b] H K:=by
 refine gK.run ?_
 show dN (.agg [I a,I b]) _ _
 rw [dL]
 have f0:Fx (fun _=>False) H tg (H.new (.cells [I a,I b] true)) (up tg H.n .fr):=.new _ _
 have h0:=h.keep f0
 generalize H.new (.cells [I a,I b] true)=H0 at f0 h0 ⊢
 generalize up tg H.n .fr=tg0 at f0 h0
 obtain ⟨st,of,la,bm,r1,r2,r3,r4⟩:=h0.m.e
 obtain ⟨id,off,e1,e2⟩:=h0.wp hw
 obtain ⟨sk,bw,rsk⟩:=(h0.w who hw).e
 have hch:=S.ch
 have hle:=S.le
 have hl:=S.last
 refine aa rfl (aa rfl (aa (bm.cell rfl) (aa e1 (aa e2 (aa rfl (aa rfl (aa (bm.cell rfl) (aa rfl (aa rfl (aa (bw.cell rfl) (aa rfl (aa rfl (aa (bw.cell rfl) ?_)))))))))))))
 rw [S.ee]
 refine aD (IY P.L P.d E.hN S.el H0) ?_
 have hk:qd P.L e (M.ws who).child=oe P (M.ws who):=by unfold oe; rw [S.ee]; rfl
 rw [hk,jA,ae,ah]
 unfold vr at hK
 by_cases hc:0≤oe P (M.ws who)
 ·rw [if_pos (by simpa using hc)]
  simp only [if_pos hc] at hK
  refine pU (kind:=1) h0 E.hW hw hw hl (.inl rfl) (S.d hc) fun hh H1 tg1 h1 f1=>?_
  have hK:=hK hh
  have hch1:((mdq M who who 1 (oe P (M.ws who)) hh).1.ws who).child=(M.ws who).child:=by simp [mdq,MS.did,MS.w]
  have hst1:((mdq M who who 1 (oe P (M.ws who)) hh).1.ws who).stk=(M.ws who).stk:=by simp [mdq,MS.did,MS.w]
  generalize mdq M who who 1 (oe P (M.ws who)) hh=r at h1 hK hch1 hst1 ⊢
  obtain ⟨M1,en,x,ok⟩:=r
  refine aa rfl (aa rfl (aa rfl ?_))
  rw [ah]
  cases en with
  | false=>exact hK H1 tg1 h1 (f0.fm0.trans f1)
  | true =>
   simp only [if_true] at hK ⊢
   obtain ⟨sk1,bw1,rs1⟩:=(h1.w who hw).e
   have hch2:(M1.ws who).child=(M.ws who).child:=hch1
   refine aa rfl (aa rfl (aa (bw1.cell rfl) ?_))
   rw [fJ,ae,iC (by omega)]
   obtain ⟨H2,s2,b2,f2⟩:=bw1.st (off:=5) (x:=I (((M1.ws who).child+1:Nat):Int)) rfl rfl rfl (by simp)
   have h2:Ok P rl sl G (M1.w who fun w=>{ w with child:=w.child+1 }) H2 tg1:=h1.toW (f2.to rfl) ⟨sk1,b2,rs1.keep f2 (by simp)⟩ rfl rfl
   have f2':Fm H1 tg1 H2 tg1:=(f2.to (g:=.w who) rfl).fm (by simp)
   refine aa rfl (aa rfl (aa s2 ?_))
   rw [fF,ae,ah]
   cases ok with
   | true =>
    simp only [if_true,Bool.not_true,Bool.false_eq_true,if_false] at hK ⊢
    exact hK H2 tg1 h2 (f0.fm0.trans (f1.trans f2'))
   | false =>
    simp only [Bool.not_false,if_true,Bool.false_eq_true,if_false] at hK ⊢
    have hsl:=S.sl
    refine aa rfl (aa rfl ?_)
    refine Kb h2 hw (by simp only [MS.w,az]; rw [show (M1.ws who).stk=_ from hst1]; exact hsl) _ fun H3 tg3 h3 f3=>hK H3 tg3 ?_ (f0.fm0.trans (f1.trans (f2'.trans f3)))
    rw [w_w] at h3
    exact h3
 ·rw [if_neg (by simpa using hc)]
  simp only [if_neg hc] at hK
  have hK:=hK 0
  unfold C7 at hK
  obtain ⟨H1,s1,b1,f1⟩:=bm.st (off:=6) (x:=I (M.left - 1)) rfl rfl rfl (by simp)
  have f1':Fg .m H0 tg0 H1 tg0:=f1.to rfl
  have h1:Ok P rl sl G { M with left:=M.left - 1 } H1 tg0:=h0.toM f1' ⟨st,of,la,b1,r1.keep f1 (by simp),r2.keep f1 (by simp),r3.keep f1 (by simp),r4.keep f1 (by simp)⟩ rfl
  refine aa rfl (aa rfl (aa (bm.cell rfl) ?_))
  rw [pR,ae,fL (by omega) (by omega)]
  refine aa rfl (aa rfl (aa s1 ?_))
  refine m6 h1 (by show M.last.length≤1000; omega) ⟨who,-1,true,true⟩ fun H2 tg2 h2 f2=>?_
  obtain ⟨H3,s3,h3,f3⟩:=mz h2 hw 0
  refine aa rfl (aa rfl (aa s3 (aa rfl (aa rfl ?_))))
  have f03:Fm H tg H3 tg2:=f0.fm0.trans ((f1'.fm (by simp)).trans (f2.trans f3))
  have e3:((({ M with left:=M.left - 1 }:MS).did ⟨who,-1,true,true⟩).w who fun w=>{ w with mode:=0 }).ws who={ M.ws who with mode:=0 }:=by simp [MS.w,MS.did]
  refine B6 h3 hw (by rw [e3]; exact S.sl) fun H4 h4 f4=>?_
  rw [e3] at h4
  rw [e3]
  have e4:({ M.ws who with mode:=0 }:Wkr).stk=(M.ws who).stk:=rfl
  rw [e4] at h4 ⊢
  cases hg:(M.ws who).stk.getLast? with
  | none =>
   rw [hg] at h4
   simp only [hg] at hK
   refine aa rfl (aa rfl ?_)
   rw [ah,if_neg (by simp)]
   exact hK H4 tg2 h4 (f03.trans f4)
  | some e =>
   rw [hg] at h4
   simp only [hg] at hK
   refine aa rfl (aa rfl ?_)
   rw [ah,if_pos rfl]
   rw [w_w] at h4
   exact pS h4 hw e fun H5 tg5 h5 f5=>hK H5 tg5 h5 (f03.trans (f4.trans f5))
theorem I6 (H:Hp):aq Tryz.prog σ gM [] H (.agg [.fn bK [],.fn bG [],.fn bF [],.fn bp [],.fn bL []]) H:=by
 suffices h:∃ r H1,aq Tryz.prog σ gM [] Hp.empty r H1∧r=.agg [.fn bK [],.fn bG [],.fn bF [],.fn bp [],.fn bL []] by
  obtain ⟨r,H1,hg,rfl⟩:=h
  exact hg.frzR rfl (.refl rfl) H
 refine lV.run ?_
 rw [cP]
 exact aa rfl (aa rfl (aa rfl rfl))
structure Sp (P:Pm) (M:MS) (who:Nat) (b:Int):Prop where
 mode:(M.ws who).mode≤4
 m0:(M.ws who).mode=0→DOk (M.ws who).dq 2 who 0
 m1:(M.ws who).mode=1→SOk P M who b
 m2:(M.ws who).mode=2→∃ e,Sd P { M with last:=[] } who e
 m3:(M.ws who).mode=3→∃ e:Nat,(M.ws who).e=e∧e<M.pub.length∧M.pub.length≤1000000
 m4:(M.ws who).mode=4→∃ e,Gd P { M with last:=[] } who e
section
theorem rX (E:En P) {a b:Int} (h:Ok P rl sl G M H tg) (S:M.left≠0→0≤a→a<P.W→Sp P M a.toNat b)
  (T:0≤a→a<P.W→∀ e:Nat,(M.ws a.toNat).mode=2→(M.ws a.toNat).e=e→e<P.L.length→(∀ c:Nat,(c:Int) ∈ dV (M.ws a.toNat).ca→c<P.L.length→vk σ P sl c e)∧tu σ P rl e)
  (hK:∀ h H' tg',Ok P rl sl G (jz P M a b h).1 H' tg'→Fm H tg H' tg'→K (Bo (jz P M a b h).2) H'):ai Tryz.prog σ bj [.ptr G.m 0,pk a b] H K:=by
 refine gt.run ?_
 show dN (.agg [I a,I b]) _ _
 rw [dL]
 have f0:Fx (fun _=>False) H tg (H.new (.cells [I a,I b] true)) (up tg H.n .fr):=.new _ _
 have g0:(H.new (.cells [I a,I b] true)).get H.n=some (.cells [I a,I b] true):=by simp
 have t0:up tg H.n .fr H.n=Tg.fr:=by simp
 have l0:H.n<(H.new (.cells [I a,I b] true)).n:=by simp
 have h0:=h.keep f0
 generalize H.new (.cells [I a,I b] true)=H0 at f0 h0 g0 l0 ⊢
 generalize up tg H.n .fr=tg0 at f0 h0 t0
 obtain ⟨st,of,la,bm,r1,r2,r3,r4⟩:=h0.m.e
 obtain ⟨H1,s1,b1,f1⟩:=bm.st (off:=9) (x:=.lit (.slice none 0 0)) rfl rfl rfl (by simp)
 have f1':Fg .m H0 tg0 H1 tg0:=f1.to rfl
 have h1:Ok P rl sl G { M with last:=[] } H1 tg0:=h0.toM f1' ⟨st,of,_,b1,r1.keep f1 (by simp),r2.keep f1 (by simp),r3.keep f1 (by simp),.nil⟩ rfl
 have f01:Fm H tg H1 tg0:=f0.fm0.trans (f1'.fm (by simp))
 have gb:H1.get H.n=some (.cells [I a,I b] true):=by rw [f1.get _ l0 (by rw [t0]; simp)]; exact g0
 refine aa rfl (aa rfl (aa s1 ?_))
 refine eL.run (aa rfl (aa rfl (aa (b1.cell rfl) ?_)))
 rw [gn,ae,ah]
 have lda:ldA false 1 H1 (.ptr H.n 0)=some (I a):=by rw [b_,gb]; rfl
 have ldb:ldA true 2 H1 (.ptr H.n 0)=some (pk a b):=by rw [b_,gb]; rfl
 unfold jz at hK
 by_cases hL:M.left=0
 ·rw [if_pos (by simpa using hL)]
  simp only [if_pos (Or.inl hL:M.left=0∨a<0∨(P.W:Int)≤a)] at hK
  exact hK 0 H1 tg0 h1 f01
 rw [if_neg (by simpa using hL)]
 refine aa rfl (aa lda ?_)
 refine fP.run ?_
 rw [jA,ae,ah]
 rcases Int.lt_or_le a 0 with ha | ha
 ·rw [if_neg (by simpa using ha),fF,ae,ah,if_pos (show (!false)=true from rfl)]
  simp only [if_pos (Or.inr (Or.inl (by omega)):M.left=0∨a<0∨(P.W:Int)≤a)] at hK
  exact hK 0 H1 tg0 h1 f01
 rw [if_pos (by simpa using ha)]
 have hlen:=h1.wi.len
 rw [List.length_map,List.length_range] at hlen
 refine aa rfl (aa rfl (aa (b1.cell rfl) (aa hlen ?_)))
 rw [cS,ae,fF,ae,ah]
 rcases Int.lt_or_le a P.W with hw | hw
 rotate_left
 ·rw [if_pos (by simpa using hw)]
  simp only [if_pos (Or.inr (Or.inr (by omega)):M.left=0∨a<0∨(P.W:Int)≤a)] at hK
  exact hK 0 H1 tg0 h1 f01
 rw [if_neg (by simpa using hw)]
 simp only [if_neg (by omega:¬ (M.left=0∨a<0∨(P.W:Int)≤a))] at hK
 have S:=S hL ha hw
 have T:=T ha hw
 obtain ⟨who,rfl⟩:∃ k:Nat,a=k:=⟨a.toNat,by omega⟩
 rw [Int.toNat_natCast] at S T
 simp only [Int.toNat_natCast] at hK
 have hw':who<P.W:=by omega
 obtain ⟨id,off,e1,e2⟩:=h1.wp hw'
 obtain ⟨sk,bw,_⟩:=(h1.w who hw').e
 have lm:ldA false 1 H1 (.ptr (G.wk who) 0)=some (I (M.ws who).mode):=bw.cell rfl
 refine aD (I6 H1) ?_
 refine aa rfl (aa rfl ⟨rfl,aa (b1.cell rfl) (aa rfl ⟨rfl,aa lda (aa e1 ?_)⟩)⟩)
 rw [gZ]
 refine ⟨rfl,aa e2 (aa rfl (aa rfl ⟨rfl,aa lm ?_⟩))⟩
 have hm:=S.mode
 have lst:({ M with last:=[] }:MS).last.length≤800:=Nat.zero_le _
 have fin:∀ (f:Nat),tL false 5 1 (.agg [.fn bK [],.fn bG [],.fn bF [],.fn bp [],.fn bL []]) (I (M.ws who).mode)=some (.fn f []) →
   ai Tryz.prog σ f [.ptr G.m 0,I who,pk who b] H1 (fun x29 H30=>K (Bo true) H30)→bnd (tL false 5 1 (.agg [.fn bK [],.fn bG [],.fn bF [],.fn bp [],.fn bL []]) (I (M.ws who).mode)) fun x25=>bnd (ab (.ptr H.n 0) 0) fun x26 =>
    kpK (x26,some 1) H1 H1 (bnd (ldA false 1 H1 x26) fun x27=>kpK (.ptr H.n 0,some 2) H1 H1 (bnd (ldA true 2 H1 (.ptr H.n 0)) fun x28=>jd Tryz.prog σ x25 [.ptr G.m 0,x27,x28] H1 fun x29 H30=>K (Bo true) H30)):=by
  intro f hf hc
  exact aa hf (aa rfl ⟨rfl,aa lda ⟨rfl,aa ldb hc⟩⟩)
 have hmm:(M.ws who).mode=0∨(M.ws who).mode=1∨(M.ws who).mode=2∨(M.ws who).mode=3∨(M.ws who).mode=4:=by omega
 rcases hmm with m0 | m0 | m0 | m0 | m0
 ·refine fin bK (by rw [m0]; rfl) ?_
  refine Ki h1 E.hW hw' (by omega) (S.m0 m0) fun hh H2 tg2 h2 f2=>hK hh H2 tg2 ?_ (f01.trans f2)
  unfold bv
  rw [if_pos m0]; exact h2
 ·refine fin bG (by rw [m0]; rfl) ?_
  refine Ja h1 E.hW hw' (by omega) (S.m1 m0) fun hh H2 tg2 h2 f2=>hK hh H2 tg2 ?_ (f01.trans f2)
  unfold bv
  rw [if_neg (show ¬ (M.ws who).mode=0 by omega),if_pos m0]; exact h2
 ·obtain ⟨e,sd⟩:=S.m2 m0
  refine fin bF (by rw [m0]; rfl) ?_
  obtain ⟨my,wn⟩:=T e m0 sd.ee sd.el
  refine yg E h1 hw' sd my wn lst fun H2 tg2 h2 f2=>hK 0 H2 tg2 ?_ (f01.trans f2)
  unfold bv
  rw [if_neg (show ¬ (M.ws who).mode=0 by omega),if_neg (show ¬ (M.ws who).mode=1 by omega),if_pos m0]; exact h2
 ·obtain ⟨e,e4,e5,e6⟩:=S.m3 m0
  refine fin bp (by rw [m0]; rfl) ?_
  refine O_ h1 hw' (by omega) e4 e5 e6 fun H2 tg2 h2 f2=>hK 0 H2 tg2 ?_ (f01.trans f2)
  unfold bv
  rw [if_neg (show ¬ (M.ws who).mode=0 by omega),if_neg (show ¬ (M.ws who).mode=1 by omega),if_neg (show ¬ (M.ws who).mode=2 by omega),if_pos m0]; exact h2
 ·obtain ⟨e,gd⟩:=S.m4 m0
  refine fin bL (by rw [m0]; rfl) ?_
  refine Kv E h1 hw' gd fun hh H2 tg2 h2 f2=>hK hh H2 tg2 ?_ (f01.trans f2)
  unfold bv
  rw [if_neg (show ¬ (M.ws who).mode=0 by omega),if_neg (show ¬ (M.ws who).mode=1 by omega),if_neg (show ¬ (M.ws who).mode=2 by omega),if_neg (show ¬ (M.ws who).mode=3 by omega)]; exact h2
end
end Go.Proofs.YtegioimlblnajaaGreat.Ev
namespace Go.Proofs.YtegioimlblnajaaGreat.Ev
set_option linter.unusedVariables false
set_option linter.unusedSimpArgs false
variable {σ:Sig} {P:Pm} {rl sl:AV} {G:MG} {M M':MS} {H H':Hp} {tg tg':Nat→Tg} {K:AV→Hp→Prop}
theorem Lx (h:Ok P rl sl G M H tg) (hK:K (Bo (decide (M.left=0))) H):ai Tryz.prog σ dc [.ptr G.m 0] H K:=by
 obtain ⟨st,of,la,b,_⟩:=h.m.e
 refine eL.run (aa rfl (aa rfl (aa (b.cell rfl) ?_)))
 rw [gn,ae]; exact hK
theorem Lh (h:Ok P rl sl G M H tg) (hK:K (I M.st.length) H):ai Tryz.prog σ dO [.ptr G.m 0] H K:=by
 obtain ⟨st,of,la,b,_⟩:=h.m.e
 exact gG.run (aa rfl (aa rfl (g6.run (aa rfl (aa rfl (aa (b.cell rfl) hK))))))
theorem xL (h:Ok P rl sl G M H tg) (w:Int) (hK:K (Bo (decide (0≤w)&&decide (w<P.W))) H):ai Tryz.prog σ cL [.ptr G.m 0,I w] H K:=by
 obtain ⟨st,of,la,b,_⟩:=h.m.e
 have hlen:=h.wi.len
 rw [List.length_map,List.length_range] at hlen
 refine fP.run ?_
 rw [jA,ae,ah]
 rcases Int.lt_or_le w 0 with h0 | h0
 ·rw [if_neg (by simpa using h0)]
  rw [show decide (0≤w)=false from decide_eq_false (by omega)] at hK
  exact hK
 ·rw [if_pos (by simpa using h0)]
  rw [show decide (0≤w)=true from decide_eq_true h0,Bool.true_and] at hK
  refine aa rfl (aa rfl (aa (b.cell rfl) (aa hlen ?_)))
  rw [cS,ae]; exact hK
theorem vW (h:Ok P rl sl G M H tg) (w:Int) (hK:K (I (if 0≤w∧w<P.W then ((M.ws w.toNat).mode:Int) else -1)) H):ai Tryz.prog σ da [.ptr G.m 0,I w] H K:=by
 refine gz.run (xL h w ?_)
 rw [fF,ae,ah]
 by_cases hc:0≤w∧w<P.W
 ·rw [if_pos hc] at hK
  obtain ⟨n,rfl⟩:∃ k:Nat,w=k:=⟨w.toNat,by omega⟩
  rw [if_neg (by simp; omega)]
  obtain ⟨st,of,la,b,_⟩:=h.m.e
  obtain ⟨id,off,e1,e2⟩:=h.wp (i:=n) (by omega)
  obtain ⟨sk,bw,_⟩:=(h.w n (by omega)).e
  exact aa rfl (aa rfl (aa (b.cell rfl) (aa e1 (aa e2 (aa rfl (aa rfl (aa (bw.cell rfl) hK)))))))
 ·rw [if_neg hc] at hK
  rw [if_pos (by simp; omega)]
  exact hK
def Hq (s:S):Int:=if 0<s.bot - s.top then s.bot - s.top else 0
def vz (P:Pm) (M:MS) (w:Int):Int:=if 0≤w∧w<P.W then Hq (M.ws w.toNat).dq+(M.ws w.toNat).stk.length else 0
theorem uK (h:Ok P rl sl G M H tg) (w:Int) (hb:∀ i:Nat,w=i→i<P.W→sm (M.ws i).dq.top∧sm (M.ws i).dq.bot∧(M.ws i).stk.length≤1000000) (hK:K (I (vz P M w)) H):ai Tryz.prog σ dg [.ptr G.m 0,I w] H K:=by
 refine eV.run (xL h w ?_)
 rw [fF,ae,ah]
 unfold vz at hK
 by_cases hc:0≤w∧w<P.W
 ·rw [if_pos hc] at hK
  obtain ⟨n,rfl⟩:∃ k:Nat,w=k:=⟨w.toNat,by omega⟩
  rw [if_neg (by simp; omega)]
  obtain ⟨st,of,la,b,_⟩:=h.m.e
  obtain ⟨id,off,e1,e2⟩:=h.wp (i:=n) (by omega)
  obtain ⟨sk,bw,rs⟩:=(h.w n (by omega)).e
  obtain ⟨⟨t1,t2⟩,⟨b1,b2⟩,hs⟩:=hb n rfl (by omega)
  refine aa rfl (aa rfl (aa (b.cell rfl) (aa e1 (aa e2 (aa rfl (aa rfl (aa (bw.cell rfl) ?_)))))))
  refine Nq (h.d n (by omega)).d (fL (by omega) (by omega)) ?_
  have hlen:=rs.len
  unfold dB at hlen
  rw [List.length_map] at hlen
  refine aa rfl (aa rfl ⟨rfl,aa (b.cell rfl) (aa e1 ?_)⟩)
  rw [gZ]
  refine ⟨rfl,aa e2 (aa rfl (aa rfl (aa rfl ⟨rfl,aa (bw.cell rfl) (aa hlen ?_)⟩)))⟩
  rw [fJ,ae]
  rw [Int.toNat_natCast] at hK
  have:wr .i64 ((if 0<(M.ws n).dq.bot - (M.ws n).dq.top then (M.ws n).dq.bot - (M.ws n).dq.top else 0)+((M.ws n).stk.length:Int))=Hq (M.ws n).dq+(M.ws n).stk.length:=by
   unfold Hq
   split<;>exact fL (by omega) (by omega)
  rw [this]
  exact hK
 ·rw [if_neg hc] at hK
  rw [if_pos (by simp; omega)]
  exact hK
theorem wV (h:Ok P rl sl G M H tg) (w:Int) (hK:K (if 0≤w∧w<P.W then .imm 1 (dB (dV (M.ws w.toNat).ca)) else .lit (.slice none 0 0)) H):ai Tryz.prog σ dw [.ptr G.m 0,I w] H K:=by
 refine fy.run (xL h w ?_)
 rw [fF,ae,ah]
 by_cases hc:0≤w∧w<P.W
 ·rw [if_pos hc] at hK
  obtain ⟨n,rfl⟩:∃ k:Nat,w=k:=⟨w.toNat,by omega⟩
  rw [if_neg (by simp; omega)]
  obtain ⟨st,of,la,b,_⟩:=h.m.e
  obtain ⟨id,off,e1,e2⟩:=h.wp (i:=n) (by omega)
  obtain ⟨sk,bw,_⟩:=(h.w n (by omega)).e
  exact aa rfl (aa rfl (aa (b.cell rfl) (aa e1 (aa e2 (aa rfl (aa rfl (aa (bw.cell rfl) (aD (vp (h.c n (by omega))) hK))))))))
 ·rw [if_neg hc] at hK
  rw [if_pos (by simp; omega)]
  exact hK
def oq (M:MS) (e:Int):Int:=if 0≤e∧e<M.of.length then ofI M e else -1
theorem wM (h:Ok P rl sl G M H tg) (e:Int) (hK:K (I (oq M e)) H):ai Tryz.prog σ dA [.ptr G.m 0,I e] H K:=by
 refine fw.run ?_
 rw [cS,ae,ah]
 unfold oq at hK
 rcases Int.lt_or_le e 0 with h0 | h0
 ·rw [if_pos (by simpa using h0)]
  rw [if_neg (by omega)] at hK
  exact hK
 ·rw [if_neg (by simpa using h0)]
  obtain ⟨st,of,la,b,r1,r2,_⟩:=h.m.e
  have hlen:=r2.len
  unfold dB at hlen
  rw [List.length_map] at hlen
  refine aa rfl (aa rfl (aa (b.cell rfl) (aa hlen ?_)))
  rw [jA,ae,ah]
  by_cases h1:(M.of.length:Int)≤e
  ·rw [if_pos (by simpa using h1)]
   rw [if_neg (by omega)] at hK
   exact hK
  ·rw [if_neg (by simpa using h1)]
   rw [if_pos (by omega)] at hK
   obtain ⟨n,rfl⟩:∃ k:Nat,e=k:=⟨e.toNat,by omega⟩
   obtain ⟨of',id,off,e1,_,e2,e3,_⟩:=mf h (e:=n) (by omega)
   exact aa rfl (aa rfl (aa e1 (aa e2 (aa e3 hK))))
def r_ (M:MS) (e:Int):Bool:=decide (0≤e)&&(decide (e<M.pub.length)&&M.pub.getD e.toNat false)
theorem Aq (h:Ok P rl sl G M H tg) (e:Int) (hK:K (Bo (r_ M e)) H):ai Tryz.prog σ cB [.ptr G.m 0,I e] H K:=by
 refine ef.run ?_
 rw [jA,ae,ah]
 unfold r_ at hK
 rcases Int.lt_or_le e 0 with h0 | h0
 ·rw [if_neg (by simpa using h0)]
  rw [show decide (0≤e)=false from decide_eq_false (by omega)] at hK
  exact hK
 ·rw [if_pos (by simpa using h0)]
  rw [show decide (0≤e)=true from decide_eq_true h0,Bool.true_and] at hK
  obtain ⟨st,of,la,b,r1,r2,r3,_⟩:=h.m.e
  refine aa rfl (aa rfl (aa (b.cell rfl) (aa rfl ?_)))
  rw [cS,ae,ah]
  by_cases h1:e<M.pub.length
  ·rw [if_pos (by simpa using h1)]
   rw [show decide (e<(M.pub.length:Int))=true from decide_eq_true h1,Bool.true_and] at hK
   obtain ⟨n,rfl⟩:∃ k:Nat,e=k:=⟨e.toNat,by omega⟩
   have ix:aw 1 (.sl G.pb 0 1 M.pub.length (some M.pub.length)) (I (n:Int))=some (.ptr G.pb n):=by rw [lA (by omega) (by omega)]; simp
   refine aa rfl (aa rfl (aa (b.cell rfl) (aa ix (aa (r3.cell (off:=n) (y:=Bo (M.pub.getD n false)) ?_) hK))))
   rw [List.getElem?_map,List.getElem?_eq_getElem (by omega)]
   simp [List.getD_eq_getElem?_getD,show n<M.pub.length by omega]
  ·rw [if_neg (by simpa using h1)]
   rw [show decide (e<(M.pub.length:Int))=false from decide_eq_false h1,Bool.false_and] at hK
   exact hK
end Go.Proofs.YtegioimlblnajaaGreat.Ev
namespace Go.Proofs.YtegioimlblnajaaGreat.Ev
set_option linter.unusedVariables false
set_option linter.unusedSimpArgs false
variable {σ:Sig} {P:Pm} {rl sl:AV} {G:MG} {M M':MS} {H H':Hp} {tg tg':Nat→Tg} {K:AV→Hp→Prop}
theorem Iv.mono {c c':Int} {s:S} {E:Int} {L:List Int} {fl pu:Option Int} (h:Iv c s E L fl pu) (hc:c≤c'):Iv c' s E L fl pu:=⟨h.hl,h.t0,h.lL,h.ln,by have:=h.en; omega,h.lv,h.ow,h.tv⟩
theorem Iv.s0 (ip:Nat):Iv 0 (s0 ip 16) 0 [] none none :=
 ⟨by simp [Go.Proofs.YtegioimlblnajaaGreat.Ev.s0],by simp [Go.Proofs.YtegioimlblnajaaGreat.Ev.s0],by simp [Go.Proofs.YtegioimlblnajaaGreat.Ev.s0],by simp,Int.le_refl _,fun i hi=>by simp at hi,.idle,fun _ _=>.gone⟩
theorem Iv.beg {c:Int} {s:S} {E:Int} {L:List Int} {pu fl:Option Int} (h:Iv c s E L fl pu) (kind who:Nat) (x:Int) (id:Nat) (hop:s.op (dby kind who)=none) :
  Iv c (put s (dby kind who) ⟨id,x,0,0,false,.fn (dfn kind) []⟩) E L fl (if kind=3 then pu else if kind=2 then none else some x):=by
 by_cases k3:kind=3
 ·have hb:dby kind who=who+1:=if_pos k3
  rw [if_pos k3,hb]
  have hf:dfn kind=aY:=if_pos k3
  rw [hf]
  refine ⟨h.hl,h.t0,h.lL,h.ln,h.en,h.lv,by simpa [put] using h.ow,fun w hw=>?_⟩
  by_cases e:w=who+1
  ·subst e; simp only [put,cv]; exact .s1 rfl rfl
  ·simp only [put,gp _ _ e]; exact h.tv w hw
 ·have hb:dby kind who=0:=if_neg k3
  rw [hb] at hop ⊢
  have how:=h.ow
  rw [hop] at how
  cases how
  rw [if_neg k3]
  have tv:∀ (q:O) (w:Nat),1≤w→Thp s.top s.bot s.pl ((put s 0 q).op w):=fun q w hw=>by simp only [put,gp _ _ (show w≠0 by omega)]; exact h.tv w hw
  by_cases k2:kind=2
  ·have hf:dfn kind=bD:=by unfold dfn; rw [if_neg k3,if_pos k2]
   rw [if_pos k2,hf]
   exact ⟨h.hl,h.t0,h.lL,h.ln,h.en,h.lv,by simp only [put,cv]; exact .o1 rfl rfl,tv _⟩
  ·have hf:dfn kind=aO:=by unfold dfn; rw [if_neg k3,if_neg k2]
   rw [if_neg k2,hf]
   exact ⟨h.hl,h.t0,h.lL,h.ln,h.en,h.lv,by simp only [put,cv]; exact Ow.u1 (o:=⟨id,x,0,0,false,.fn aO []⟩) rfl rfl,tv _⟩
theorem LT {c:Int} {s:S} {E:Int} {o:O} (iv:Iv c s E [] none (some 0)) (ho:s.op 0=some o) :
  ((∃ E',Iv (c+1) (aP s 0).1 E' [] none (some 0))∧∃ o',(aP s 0).1.op 0=some o')∨((∃ E',Iv (c+1) (aP s 0).1 E' [0] none none)∧(aP s 0).1.op 0=none):=by
 obtain ⟨E',L',fl',pu',iv',oc,hs,_⟩:=iv.step ho
 generalize hq:(aP s 0).2=q at oc
 generalize hall:L'++fl'.toList=all' at oc
 generalize hal:[]++(none:Option Int).toList=all at oc
 have hal:all=[]:=hal.symm
 rw [hq] at hs
 have how:=iv'.ow
 cases oc with
 | go hpm =>
  rw [hal] at hpm
  have h0:=hpm.eq_nil
  rw [h0] at hall
  obtain ⟨rfl,hf⟩:=List.append_eq_nil_iff.1 hall
  have:fl'=none:=by cases fl' with
   | none=>rfl
   | some _=>cases hf
  subst this
  refine .inl ⟨⟨E',iv'⟩,?_⟩
  cases hz:(aP s 0).1.op 0 with
  | none=>rw [hz] at hs; simp at hs
  | some o'=>exact ⟨o',rfl⟩
 | full hw hp h16=>rw [hal] at h16; simp at h16
 | push hw hp hpm =>
  cases hp
  have hz:(aP s 0).1.op 0=none:=by
   cases hz:(aP s 0).1.op 0 with
   | none=>rfl
   | some o'=>rw [hz] at hs; simp at hs
  rw [hz] at how
  cases how
  rw [hal] at hpm
  have:L'=[0]:=by
   rw [← hall] at hpm
   simpa using List.perm_singleton.1 hpm
  subst this
  exact .inr ⟨⟨_,iv'⟩,hz⟩
 | none hp2=>exact absurd (hp2 rfl).1 (by simp)
 | take hp2 _=>exact absurd (hp2 rfl) (by simp)
def ws0 (ip:Nat):Wkr:=⟨0,0,0,-1,[],[],s0 ip 16⟩
structure Mk7 (n:Nat) (M:MS) (k:Nat):Prop where
 left:M.left=n
 of:M.of=List.replicate n (-1)
 pub:M.pub=List.replicate n false
 st:M.st=[]
 last:M.last=[]
 ws:∀ i,i<k→∃ ip,M.ws i=ws0 ip
def Pm.at (P:Pm) (k:Nat):Pm:={ P with W:=k }
section
attribute [local irreducible] aH.L0 aH.L1 aH.L2 aH.J3
theorem yI {y2 y9 y41 y42 y54 y55:AV} (h:K (.tup [.ptr G.m 0,I 0]) H):aH.J3 σ K y2 (.ptr G.m 0) y9 y41 y42 y54 y55 H:=aH.J3_step h
theorem No {y2 y41 y42 y54 y55:AV} (h0W:0<P.W):∀ (m:Nat) (M:MS) (H:Hp) (tg:Nat→Tg) (c E:Int) (o:O),rk (some o)≤m→Ok P rl sl G M H tg→c+m≤100→Iv c (M.ws 0).dq E [] none (some 0)→(M.ws 0).dq.op 0=some o→(∀ w,1≤w→(M.ws 0).dq.op w=none) →
  (∀ H' tg' s' E',Ok P rl sl G (M.w 0 fun w=>{ w with dq:=s' }) H' tg'→Fm H tg H' tg'→Iv 100 s' E' [0] none none→(∀ w,s'.op w=none)→K (.tup [.ptr G.m 0,I 0]) H')→aH.L2 σ K y2 (.ptr G.m 0) (.ptr (G.dq 0) 0) y41 y42 y54 y55 H:=by
 intro m
 induction m with
 | zero =>
  intro M H tg c E o hr h hc iv ho ht hK
  obtain ⟨g,sf⟩:=iv.sf (by omega) ho
  rw [n6 sf.nx] at hr
  have hm:=sf.mem
  simp only [phs,List.mem_cons,List.not_mem_nil,or_false] at hm
  rcases hm with rfl | rfl | rfl | rfl | rfl | rfl | rfl | rfl | rfl | rfl | rfl | rfl | rfl | rfl<;>exact absurd hr (by decide)
 | succ m ih =>
  intro M H tg c E o hr h hc iv ho ht hK
  have hd:=h.d 0 h0W
  refine aH.L2_step (oG hd.d ?_)
  have hb:(decide ((0:Int)≤0)&&(decide ((0:Int)≤64)&&((M.ws 0).dq.op (0:Int).toNat).isSome))=true:=by
   show (true&&(true&&((M.ws 0).dq.op 0).isSome))=true
   rw [ho]; rfl
  rw [hb,ah,if_pos rfl]
  obtain ⟨g,sf⟩:=iv.sf (by omega) ho
  refine xw (w:=0) hd.d (by omega) ho sf fun H1 d1 f1=>?_
  obtain ⟨pd1,fx1⟩:=Fd.fx hd d1 f1 (tR _ _) fun w o' hw h1=>by
   by_cases e:w=0
   ·subst e; exact (kR _ 0).2 o' h1
   ·rw [(kR _ 0).1 w e] at h1; exact ⟨o',h1,rfl⟩
  have h1:=h.toD fx1 pd1
  have hw:((M.w 0 fun w=>{ w with dq:=(aP (M.ws 0).dq 0).1 }).ws 0).dq=(aP (M.ws 0).dq 0).1:=by simp only [MS.w,az]
  have ht':∀ w,1≤w→(aP (M.ws 0).dq 0).1.op w=none:=fun w hw1=>by rw [(kR _ 0).1 w (by omega)]; exact ht w hw1
  have hrk:=(iv.step ho)
  obtain ⟨_,_,_,_,_,_,_,hrk⟩:=hrk
  rw [ho] at hrk
  rcases LT iv ho with ⟨⟨E',iv'⟩,o',ho'⟩ | ⟨⟨E',iv'⟩,ho'⟩
  ·rw [ho'] at hrk
   refine ih _ H1 tg (c+1) E' o' (by omega) h1 (by omega) (by rw [hw]; exact iv') (by rw [hw]; exact ho') (by rw [hw]; exact ht') fun H' tg' s' E'' hok f' i' n'=>hK H' tg' s' E'' ?_ ((fx1.fm (by simp)).trans f') i' n'
   rw [w_w] at hok
   exact hok
  ·refine aH.L2_step (oG pd1.d ?_)
   have hb:(decide ((0:Int)≤0)&&(decide ((0:Int)≤64)&&((aP (M.ws 0).dq 0).1.op (0:Int).toNat).isSome))=false:=by
    show (true&&(true&&((aP (M.ws 0).dq 0).1.op 0).isSome))=false
    rw [ho']; rfl
   rw [hb,ah,if_neg (by decide)]
   refine yI (hK H1 tg _ E' h1 (fx1.fm (by simp)) (iv'.mono (by omega)) fun w=>?_)
   by_cases e:w=0
   ·subst e; exact ho'
   ·exact ht' w (by omega)
theorem PW.to {G':MG} {w:Wkr} {i:Nat} (h:PW G w i H tg) (h1:G'.wk i=G.wk i) (h2:G'.ca i=G.ca i) (h3:G'.dq i=G.dq i):PW G' w i H tg:=by
 obtain ⟨sk,a,b⟩:=h.e
 exact ⟨sk,by rw [h1,h2,h3]; exact a,b⟩
theorem PD.to {G':MG} {s:S} {i:Nat} (h:PD G s i H tg) (h3:G'.dq i=G.dq i):PD G' s i H tg:=⟨by rw [h3]; exact h.d,fun j hj=>by rw [h3] at hj; exact h.t j hj⟩
structure Ini (P:Pm) (n:Nat) (M:MS):Prop where
 left:M.left=n
 of:M.of=List.replicate n (-1)
 pub:M.pub=List.replicate n false
 st:M.st=[]
 last:M.last=[]
 ws:∀ i,i<P.W→(M.ws i).mode=0∧(M.ws i).victim=-1∧(M.ws i).stk=[]∧(M.ws i).ca=[]
 dq:∀ i,i<P.W→(∃ E,Iv 100 (M.ws i).dq E (if i=0∧0<n then [0] else []) none none)∧∀ w,(M.ws i).dq.op w=none
theorem Of {n:Nat} {y9 y41 y42:AV} (hW:1≤P.W∧P.W≤64) (hn:n≤4096) (hK:∀ G M H' tg',Ok P rl sl G M H' tg'→Ini P n M→(∀ j,j<H.n→H'.get j=H.get j)→H.n≤H'.n→(∀ j,j<H.n→tg' j=.fr)→K (.tup [.ptr G.m 0,I 0]) H') :
  ∀ (m k:Nat) (G:MG) (M:MS) (H1:Hp) (tg1:Nat→Tg),P.W - k=m→k≤P.W→Ok (P.at k) rl sl G M H1 tg1→Mk7 n M k→(∀ j,j<H.n→H1.get j=H.get j)→H.n≤H1.n→(∀ j,j<H.n→tg1 j=.fr)→aH.L1 σ K (I P.W) (.ptr G.m 0) y9 y41 y42 (I P.W) (I (k:Int)) H1:=by
 intro m
 induction m with
 | zero =>
  intro k G M H1 tg1 hm hk h mk g1 n1 t1
  have:k=P.W:=by omega
  subst this
  have h:Ok P rl sl G M H1 tg1:=h
  refine aH.L1_step ?_
  rw [cS,ae,ah,if_neg (by simp)]
  obtain ⟨st,of,la,b,_⟩:=h.m.e
  refine aa rfl (aa rfl (aa (b.cell rfl) ?_))
  rw [mk.left,iz,ae,ah]
  have wsi:∀ i,i<P.W→(M.ws i).mode=0∧(M.ws i).victim=-1∧(M.ws i).stk=[]∧(M.ws i).ca=[]:=fun i hi=>by
   obtain ⟨ip,e⟩:=mk.ws i hi
   rw [e]; exact ⟨rfl,rfl,rfl,rfl⟩
  have dqi:∀ i,i<P.W→(∃ E,Iv 90 (M.ws i).dq E [] none none)∧∀ w,(M.ws i).dq.op w=none:=fun i hi=>by
   obtain ⟨ip,e⟩:=mk.ws i hi
   rw [e]; exact ⟨⟨0,(Iv.s0 ip).mono (by decide)⟩,fun _=>rfl⟩
  by_cases h0:0<n
  ·rw [if_pos (by simpa using h0)]
   obtain ⟨id,off,e1,e2⟩:=h.wp (i:=0) (by omega)
   obtain ⟨sk,bw,_⟩:=(h.w 0 (by omega)).e
   refine aa rfl (aa rfl (aa (b.cell rfl) (aa e1 (aa e2 (aa rfl (aa rfl (aa (bw.cell rfl) ?_)))))))
   have pd:=h.d 0 (by omega)
   obtain ⟨⟨E,iv⟩,no⟩:=dqi 0 (by omega)
   refine tq (w:=0) (g:=aO) pd.d (by omega) (no 0) rfl fun H2 d2 n2 g2=>?_
   have fx:Fg (.d 0) H1 tg1 H2 (up tg1 H1.n (.dq 0)):=⟨by omega,fun j hj=>cF _ _ (by omega),fun j hj hne=>g2 j hj fun e=>hne (by rw [pd.t j (.inl e)]; rfl)⟩
   have pd2:PD G (put (M.ws 0).dq 0 ⟨H1.n,0,0,0,false,.fn aO []⟩) 0 H2 (up tg1 H1.n (.dq 0)):=by
    refine ⟨d2,fun j hj=>?_⟩
    by_cases e:j=H1.n
    ·subst e; simp
    ·rw [cF _ _ e]
     refine pd.t j ?_
     rcases hj with rfl | rfl | ⟨w,o,hw,h2,rfl⟩
     ·exact .inl rfl
     ·exact .inr (.inl rfl)
     ·by_cases ew:w=0
      ·subst ew
       simp only [put,cv,Option.some.injEq] at h2
       subst h2
       exact absurd rfl e
      ·simp only [put,gp _ _ ew] at h2
       exact .inr (.inr ⟨w,o,hw,h2,rfl⟩)
   have h2:=h.toD fx pd2
   have e0:((M.w 0 fun w=>{ w with dq:=put (M.ws 0).dq 0 ⟨H1.n,0,0,0,false,.fn aO []⟩ }).ws 0).dq=put (M.ws 0).dq 0 ⟨H1.n,0,0,0,false,.fn aO []⟩:=by simp only [MS.w,az]
   have ivb:=iv.beg 1 0 0 H1.n (no 0)
   have ivb:Iv 90 (put (M.ws 0).dq 0 ⟨H1.n,0,0,0,false,.fn aO []⟩) E [] none (some 0):=ivb
   refine No (P:=P) (G:=G) (by omega) 6 (M.w 0 fun w=>{ w with dq:=put (M.ws 0).dq 0 ⟨H1.n,0,0,0,false,.fn aO []⟩ }) H2 _ 90 E ⟨H1.n,0,0,0,false,.fn aO []⟩ (by rw [n6 (g:=aO) (cs:=[]) rfl]; decide) h2 (by omega) (by rw [e0]; exact ivb) (by rw [e0]; simp [put]) (fun w hw1=>by rw [e0]; simp only [put,gp _ _ (show w≠0 by omega)]; exact no w) fun H3 tg3 s' E' h3 f3 iv3 no3=>?_
   rw [w_w] at h3
   have f23:Fm H1 tg1 H3 tg3:=(fx.fm (by simp)).trans f3
   refine hK G _ H3 tg3 h3 ⟨mk.left,mk.of,mk.pub,mk.st,mk.last,fun i hi=>?_,fun i hi=>?_⟩ (fun j hj=>by rw [f23.get j (by omega) (by rw [t1 j hj]; simp),g1 j hj]) (by have:=f23.n; omega) (fun j hj=>by rw [f23.old j (by omega)]; exact t1 j hj)
   ·by_cases e:i=0
    ·subst e; simp only [MS.w,az]; exact wsi 0 hi
    ·simp only [MS.w,cF _ _ e]; exact wsi i hi
   ·by_cases e:i=0
    ·subst e; simp only [MS.w,az]; rw [if_pos ⟨trivial,h0⟩]; exact ⟨⟨E',iv3⟩,no3⟩
    ·simp only [MS.w,cF _ _ e]; rw [if_neg (fun h=>e h.1)]; obtain ⟨⟨E,a⟩,b⟩:=dqi i hi; exact ⟨⟨E,a.mono (by decide)⟩,b⟩
  ·rw [if_neg (by simpa using h0)]
   refine yI (hK G M H1 tg1 h ⟨mk.left,mk.of,mk.pub,mk.st,mk.last,wsi,fun i hi=>?_⟩ g1 n1 t1)
   rw [if_neg (fun h=>h0 h.2)]
   obtain ⟨⟨E,a⟩,b⟩:=dqi i hi
   exact ⟨⟨E,a.mono (by decide)⟩,b⟩
 | succ m ih =>
  intro k G M H1 tg1 hm hk h mk g1 n1 t1
  obtain ⟨st,of,la,b,r1,r2,r3,r4⟩:=h.m.e
  refine aH.L1_step ?_
  rw [cS,ae,ah,if_pos (by simp; omega)]
  refine aa rfl (aa rfl (aa (b.cell rfl) ?_))
  refine Ni (n:=16) (by decide) (by decide) fun H2 d2 n2 g2=>?_
  have fa:Fx (fun _=>False) H1 tg1 H2 (up (up tg1 H1.n (.dq k)) (H1.n+1) (.dq k)):=⟨by omega,fun j hj=>by rw [cF _ _ (by omega),cF _ _ (by omega)],fun j hj _=>g2 j hj⟩
  have ta:up (up tg1 H1.n (.dq k)) (H1.n+1) (.dq k) H1.n=.dq k∧up (up tg1 H1.n (.dq k)) (H1.n+1) (.dq k) (H1.n+1)=.dq k:=⟨by rw [cF _ _ (by omega),az],az _ _ _⟩
  generalize up (up tg1 H1.n (.dq k)) (H1.n+1) (.dq k)=tg2 at fa ta
  have ma:H2.get G.m=H1.get G.m:=g2 _ b.lt
  rw [gZ]
  refine ⟨congrArg (caO 1 5) ma,?_⟩
  refine rW.run (aa rfl (aa rfl (aa rfl ?_)))
  show dN (.agg [I 8,.lit (.slice none 0 0)]) _ _
  rw [dL]
  have fb:Fx (fun _=>False) H2 tg2 (H2.new (.cells [I 8,.lit (.slice none 0 0)] true)) (up tg2 H2.n (.ca k)):=.new _ _
  have bb:Bk (H2.new (.cells [I 8,.lit (.slice none 0 0)] true)) (up tg2 H2.n (.ca k)) (.ca k) H2.n [I 8,.lit (.slice none 0 0)]:=.new
  have hca:H2.n<(H2.new (.cells [I 8,.lit (.slice none 0 0)] true)).n:=by simp
  generalize H2.new (.cells [I 8,.lit (.slice none 0 0)] true)=H3 at fb bb hca ⊢
  generalize up tg2 H2.n (.ca k)=tg3 at fb bb
  have mb:H3.get G.m=H2.get G.m:=fb.get _ (by have:=b.lt; omega) fun h=>h
  rw [gZ]
  refine ⟨congrArg (caO 1 5) mb,?_⟩
  refine aa rfl ?_
  show dN (.agg [I 0,.ptr (H1.n+1) 0,.ptr H2.n 0,.lit (.slice none 0 0),I 0,I 0,I (-1)]) _ _
  rw [dL]
  have fc:Fx (fun _=>False) H3 tg3 (H3.new (.cells [I 0,.ptr (H1.n+1) 0,.ptr H2.n 0,.lit (.slice none 0 0),I 0,I 0,I (-1)] true)) (up tg3 H3.n (.wk k)):=.new _ _
  have bc:Bk (H3.new (.cells [I 0,.ptr (H1.n+1) 0,.ptr H2.n 0,.lit (.slice none 0 0),I 0,I 0,I (-1)] true)) (up tg3 H3.n (.wk k)) (.wk k) H3.n [I 0,.ptr (H1.n+1) 0,.ptr H2.n 0,.lit (.slice none 0 0),I 0,I 0,I (-1)]:=.new
  generalize H3.new (.cells [I 0,.ptr (H1.n+1) 0,.ptr H2.n 0,.lit (.slice none 0 0),I 0,I 0,I (-1)] true)=H4 at fc bc ⊢
  generalize up tg3 H3.n (.wk k)=tg4 at fc bc
  have mc:H4.get G.m=H3.get G.m:=fc.get _ (by have:=b.lt; omega) fun h=>h
  rw [gZ]
  refine ⟨congrArg (caO 1 5) mc,?_⟩
  have f4:Fx (fun _=>False) H1 tg1 H4 tg4:=fa.trans (fb.trans fc)
  have h4:=h.keep f4
  have b4:=b.keep f4 fun h=>h
  have bld:=jK (z:=[.pointer none]) (H:=H4) (x:=.ptr H3.n 0) (sz:=1) rfl rfl
  refine aa bld ?_
  rw [gZ]
  refine ⟨by have:=b4.lt; rw [cx,if_neg (by omega)],?_⟩
  have ap:=Rw.app1 (z:=[.pointer none]) (bytes:=8) (y:=.ptr H3.n 0) h4.wi rfl rfl rfl (by simp [Pm.at]; omega) (by simp [Pm.at]; omega) (K:=fun p13=>bnd (stA 1 p13.2 (.ptr G.m 5) p13.1) fun H16=>bnd (aj .add (I (k:Int)) (I 1)) fun x17=>aH.L1 σ K (I P.W) (.ptr G.m 0) y9 y41 y42 (I P.W) x17 H16) (fun x' H5 tg5 r5 f5=>?_)
  ·rw [bld] at ap; exact ap
  have b5:=b4.keep f5 (by simp)
  obtain ⟨H6,s6,b6,f6⟩:=b5.st (off:=5) r5.cells.1 r5.cells.2 r5.one (by simp)
  refine aa s6 ?_
  rw [fJ,ae,iC (by omega)]
  have k5:∀ t:Tg,t≠.wi→¬ (fun x=>x=Tg.wi) t:=fun t h=>h
  have k6:∀ t:Tg,t≠.m→¬ (fun x=>x=Tg.m) t:=fun t h=>h
  have fx6:∀ t:Tg,t≠.wi→t≠.m→¬ (fun x=>x=Tg.wi∨x=Tg.m) t:=fun t a b h=>h.elim a b
  have f56:Fx (fun x=>x=Tg.wi∨x=Tg.m) H4 tg4 H6 tg5:=(f5.mono fun _ h=>.inl h).trans (f6.mono fun _ h=>.inr h)
  have d3:PD ⟨G.m,x',G.pb,up G.wk k H3.n,up G.ca k H2.n,up G.dq k (H1.n+1)⟩ (s0 H1.n 16) k H2 tg2:=by
   refine ⟨by show Dq H2 (up G.dq k (H1.n+1) k) _; rw [az]; exact d2,fun j hj=>?_⟩
   have hj:Own (up G.dq k (H1.n+1) k) (s0 H1.n 16) j:=hj
   rw [az] at hj
   rcases hj with rfl | rfl | ⟨w,o,hw,h2,rfl⟩
   ·exact ta.2
   ·exact ta.1
   ·cases h2
  have okk:Ok (P.at (k+1)) rl sl ⟨G.m,x',G.pb,up G.wk k H3.n,up G.ca k H2.n,up G.dq k (H1.n+1)⟩ { M with ws:=up M.ws k (ws0 H1.n) } H6 tg5:=by
   refine ⟨?_,?_,fun i hi=>?_,fun i hi=>?_,fun i hi=>?_⟩
   ·exact ⟨st,of,la,b6,((r1.keep f4 fun h=>h).keep f5 (by simp)).keep f6 (by simp),((r2.keep f4 fun h=>h).keep f5 (by simp)).keep f6 (by simp),((r3.keep f4 fun h=>h).keep f5 (by simp)).keep f6 (by simp),((r4.keep f4 fun h=>h).keep f5 (by simp)).keep f6 (by simp)⟩
   ·have:=r5.keep f6 (by simp)
    have e:(List.range (P.at (k+1)).W).map (fun i=>[AV.ptr (up G.wk k H3.n i) 0])=(List.range (P.at k).W).map (fun i=>[AV.ptr (G.wk i) 0])++[(AV.ptr H3.n 0).cells]:=by
     show (List.range (k+1)).map _=(List.range k).map _++_
     rw [List.range_succ,List.map_append]
     congr 1
     ·refine List.map_congr_left fun i hi=>?_
      rw [cF _ _ (by have:=List.mem_range.1 hi; omega)]
     ·simp
    show Rw 1 H6 tg5 .wi x' ((List.range (P.at (k+1)).W).map fun i=>[AV.ptr (up G.wk k H3.n i) 0])
    rw [e]; exact this
   ·have hi:i<k+1:=hi
    by_cases e:i=k
    ·subst e
     show PW _ (up M.ws i (ws0 H1.n) i) i H6 tg5
     rw [az]
     refine ⟨.lit (.slice none 0 0),?_,.nil⟩
     show Bk H6 tg5 (.wk i) (up G.wk i H3.n i) [I ((0:Nat):Int),.ptr (up G.dq i (H1.n+1) i) 0,.ptr (up G.ca i H2.n i) 0,.lit (.slice none 0 0),I 0,I ((0:Nat):Int),I (-1)]
     rw [az,az,az]
     exact bc.keep f56 (fx6 _ (by simp) (by simp))
    ·show PW _ (up M.ws k (ws0 H1.n) i) i H6 tg5
     rw [cF _ _ e]
     exact ((h4.w i (by show i<k; omega)).keep f56 fun t ht=>fx6 t (by rintro rfl; simp [Tg.g] at ht) (by rintro rfl; simp [Tg.g] at ht)).to (cF _ _ e) (cF _ _ e) (cF _ _ e)
   ·have hi:i<k+1:=hi
    by_cases e:i=k
    ·subst e
     show Ca H6 tg5 i (up G.ca i H2.n i) (up M.ws i (ws0 H1.n) i).ca
     rw [az,az]
     exact ⟨⟨.lit (.slice none 0 0),(bb.keep fc fun h=>h).keep f56 (fx6 _ (by simp) (by simp)),.nil⟩,by simp [ws0]⟩
    ·show Ca H6 tg5 i (up G.ca k H2.n i) (up M.ws k (ws0 H1.n) i).ca
     rw [cF _ _ e,cF _ _ e]
     exact (h4.c i (by show i<k; omega)).keep f56 (fx6 _ (by simp) (by simp)) (fx6 _ (by simp) (by simp))
   ·have hi:i<k+1:=hi
    by_cases e:i=k
    ·subst e
     show PD _ (up M.ws i (ws0 H1.n) i).dq i H6 tg5
     rw [az]
     exact (((d3.keep fb fun h=>h).keep fc fun h=>h).keep f56 (fx6 _ (by simp) (by simp)))
    ·show PD _ (up M.ws k (ws0 H1.n) i).dq i H6 tg5
     rw [cF _ _ e]
     exact ((h4.d i (by show i<k; omega)).keep f56 (fx6 _ (by simp) (by simp))).to (cF _ _ e)
  have f16:∀ j,j<H1.n→j<H.n→H6.get j=H1.get j∧tg5 j=.fr:=fun j hj hjH=>by
   have a1:=f4.get j hj fun h=>h
   have a2:=f4.old j hj
   have a3:=f4.n
   rw [t1 j hjH] at a2
   exact ⟨by rw [f56.get j (by omega) (by rw [a2]; simp),a1],by rw [f56.old j (by omega),a2]⟩
  refine ih (k+1) ⟨G.m,x',G.pb,up G.wk k H3.n,up G.ca k H2.n,up G.dq k (H1.n+1)⟩ { M with ws:=up M.ws k (ws0 H1.n) } H6 tg5 (by omega) (by omega) okk ⟨mk.left,mk.of,mk.pub,mk.st,mk.last,fun i hi=>?_⟩ (fun j hj=>by rw [(f16 j (by omega) hj).1,g1 j hj]) (by have:=f4.n; have:=f56.n; omega) fun j hj=>(f16 j (by omega) hj).2
  by_cases e:i=k
  ·subst e; exact ⟨H1.n,az _ _ _⟩
  ·obtain ⟨ip,hip⟩:=mk.ws i (by omega)
   exact ⟨ip,by show up M.ws k _ i=_; rw [cF _ _ e]; exact hip⟩
theorem NU {n:Nat} {y9 y54 y55:AV} (hW:1≤P.W∧P.W≤64) (hn:n≤4096) (hK:∀ G M H' tg',Ok P rl sl G M H' tg'→Ini P n M→(∀ j,j<H.n→H'.get j=H.get j)→H.n≤H'.n→(∀ j,j<H.n→tg' j=.fr)→K (.tup [.ptr G.m 0,I 0]) H') :
  ∀ (m i:Nat) (M:MS) (H1:Hp) (tg1:Nat→Tg),n - i=m→i≤n→Ok (P.at 0) rl sl G M H1 tg1→M.left=n→M.of=List.replicate i (-1)→M.pub=List.replicate n false→M.st=[]→M.last=[]→(∀ j,j<H.n→H1.get j=H.get j)→H.n≤H1.n→(∀ j,j<H.n→tg1 j=.fr)→aH.L0 σ K (I P.W) (.ptr G.m 0) y9 (I n) (I (i:Int)) y54 y55 H1:=by
 intro m
 induction m with
 | zero =>
  intro i M H1 tg1 hm hi h a1 a2 a3 a4 a5 g1 n1 t1
  have:i=n:=by omega
  subst this
  refine aH.L0_step ?_
  rw [cS,ae,ah,if_neg (by simp)]
  exact Of hW hn hK _ 0 G M H1 tg1 rfl (Nat.zero_le _) h ⟨a1,a2,a3,a4,a5,fun i hi=>by omega⟩ g1 n1 t1
 | succ m ih =>
  intro i M H1 tg1 hm hi h a1 a2 a3 a4 a5 g1 n1 t1
  obtain ⟨st,of,la,b,r1,r2,r3,r4⟩:=h.m.e
  refine aH.L0_step ?_
  rw [cS,ae,ah,if_pos (by simp; omega)]
  refine aa rfl (aa rfl (aa (b.cell rfl) ?_))
  have hol:M.of.length=i:=by rw [a2]; simp
  refine Rw.app1 (bytes:=8) (y:=I (-1)) r2 rfl rfl rfl (by simp [dB,hol]; omega) (by simp [dB,hol]; omega) fun x' H2 tg2 r5 f1=>?_
  have b1:=b.keep f1 (by simp)
  obtain ⟨H3,s3,b3,f3⟩:=b1.st (off:=7) r5.cells.1 r5.cells.2 r5.one (by simp)
  refine aa rfl (aa rfl (aa s3 ?_))
  rw [fJ,ae,iC (by omega)]
  have f:Fg .m H1 tg1 H3 tg2:=(f1.to rfl).trans (f3.to rfl)
  have h3:Ok (P.at 0) rl sl G { M with of:=M.of++[-1] } H3 tg2:=h.toM f ⟨st,x',la,b3,(r1.keep f1 (by simp)).keep f3 (by simp),(by have:=r5.keep f3 (by simp); simpa [dB] using this),(r3.keep f1 (by simp)).keep f3 (by simp),(r4.keep f1 (by simp)).keep f3 (by simp)⟩ rfl
  have fm:=f.fm (g:=.m) (by simp)
  exact ih (i+1) { M with of:=M.of++[-1] } H3 tg2 (by omega) (by omega) h3 a1 (by show M.of++[-1]=_; rw [a2,List.replicate_succ']) a3 a4 a5 (fun j hj=>by rw [fm.get j (by omega) (by rw [t1 j hj]; simp),g1 j hj]) (by have:=fm.n; omega) fun j hj=>by rw [fm.old j (by omega)]; exact t1 j hj
theorem Gt {a:AV} (hW:1≤P.W∧P.W≤64) (hN:P.L.length≤4096) (cp:∀ H,aq Tryz.prog σ eH [a] H rl H) (ls:∀ H,aq Tryz.prog σ fj [rl] H sl H) (c1:rl.cells=[rl]∧rl.isAny=false∧AV.one rl=true) (c2:sl.cells=[sl]∧sl.isAny=false∧AV.one sl=true)
  (hK:∀ G M H' tg',Ok P rl sl G M H' tg'→Ini P P.L.length M→(∀ j,j<H.n→H'.get j=H.get j)→H.n≤H'.n→(∀ j,j<H.n→tg' j=.fr)→K (.tup [.ptr G.m 0,I 0]) H'):ai Tryz.prog σ iX [gJ P.L P.d,a,I P.W] H K:=by
 refine aH.run ?_
 have e0:fB .eql (gJ P.L P.d) (.lit (.pointer none))=some (Bo false):=rfl
 rw [e0,ae,ah,if_neg (by decide),cS,ae,ah,if_neg (by simp; omega),iz,ae,ah,if_neg (by simp; omega)]
 refine aD (cp H) (aD (Ah P.L P.d H) (aD (Ah P.L P.d H) ?_))
 have e3:lE [.bool false] 1 1 H (I P.L.length) (I P.L.length)=some (.sl H.n 0 1 P.L.length (some P.L.length),H.new (.cells (iG [.bool false] (P.L.length*1)) true)):=by
  have a:(0:Int)≤P.L.length:=by omega
  have b:Nat.ble P.L.length 9223372036854775807=true:=Nat.ble_eq_true_of_le (by omega)
  have c:Nat.ble (1*P.L.length) 281474976710656=true:=Nat.ble_eq_true_of_le (by omega)
  simp only [lE,jN,Int.toNat_natCast,a,Int.le_refl,b,c,decide_true,Bool.and_self,cond_true]
 rw [e3,ae]
 have ez:iG [.bool false] (P.L.length*1)=(List.replicate P.L.length false).map Bo:=by
  unfold iG
  apply List.ext_getElem
  ·simp
  ·intro i h1 h2
   simp [Nat.mod_one]
 have e4:cR [.lit (.pointer none),.lit (.slice none 0 0),.lit (.slice none 0 0),.lit (.slice none 0 0),I 0,.lit (.slice none 0 0),I 0,.lit (.slice none 0 0),.lit (.slice none 0 0),.lit (.slice none 0 0)] [(0,1,gJ P.L P.d),(1,1,rl),(6,1,I P.L.length),(8,1,.sl H.n 0 1 P.L.length (some P.L.length))] =
   some [gJ P.L P.d,rl,.lit (.slice none 0 0),.lit (.slice none 0 0),I 0,.lit (.slice none 0 0),I P.L.length,.lit (.slice none 0 0),.sl H.n 0 1 P.L.length (some P.L.length),.lit (.slice none 0 0)]:=by
  have hd:(gJ P.L P.d).cells=[gJ P.L P.d]∧(gJ P.L P.d).isAny=false:=⟨rfl,rfl⟩
  simp [cR,c1.1,c1.2.1,hd.1,hd.2,i4,oS]
 refine aa e4 ?_
 rw [dL]
 obtain ⟨Ha,hHa⟩:∃ Ha,Ha=H.new (.cells (iG [.bool false] (P.L.length*1)) true):=⟨_,rfl⟩
 obtain ⟨Hb,hHb⟩:∃ Hb,Hb=Ha.new (.cells [gJ P.L P.d,rl,.lit (.slice none 0 0),.lit (.slice none 0 0),I 0,.lit (.slice none 0 0),I P.L.length,.lit (.slice none 0 0),.sl H.n 0 1 P.L.length (some P.L.length),.lit (.slice none 0 0)] true):=⟨_,rfl⟩
 show bnd _ _
 have na:Ha.n=H.n+1:=by rw [hHa]; simp
 have fa:Fx (fun _=>False) H (fun _=>.fr) Ha (up (fun _=>.fr) H.n .pub):=by rw [hHa]; exact .new _ _
 have fb:Fx (fun _=>False) Ha (up (fun _=>.fr) H.n .pub) Hb (up (up (fun _=>.fr) H.n .pub) Ha.n .m):=by rw [hHb]; exact .new _ _
 have ba:Bk Ha (up (fun _=>.fr) H.n .pub) .pub H.n ((List.replicate P.L.length false).map Bo):=by rw [hHa,ez]; exact .new
 have bb:Bk Hb (up (up (fun _=>.fr) H.n .pub) Ha.n .m) .m Ha.n [gJ P.L P.d,rl,.lit (.slice none 0 0),.lit (.slice none 0 0),I 0,.lit (.slice none 0 0),I P.L.length,.lit (.slice none 0 0),.sl H.n 0 1 P.L.length (some P.L.length),.lit (.slice none 0 0)]:=by rw [hHb]; exact .new
 rw [← hHa,← hHb]
 have fab:=fa.trans fb
 have ba2:=ba.keep fb fun h=>h
 clear hHa hHb e4 e3 ez
 generalize up (up (fun _=>Tg.fr) H.n .pub) Ha.n .m=tgb at fab bb ba2
 refine aa rfl (aa rfl (aa (bb.cell rfl) (aD (ls Hb) ?_)))
 obtain ⟨Hc,sc,bc,fc⟩:=bb.st (off:=2) c2.1 c2.2.1 c2.2.2 (by simp)
 refine aa rfl (aa rfl (aa sc (aa rfl (aa rfl (aa (bc.cell rfl) ?_)))))
 refine NU (G:=⟨Ha.n,.lit (.slice none 0 0),H.n,fun _=>0,fun _=>0,fun _=>0⟩) (n:=P.L.length) hW hN hK _ 0 ⟨P.L.length,[],List.replicate P.L.length false,[],[],fun _=>ws0 0⟩ Hc tgb rfl (Nat.zero_le _) ⟨⟨.lit (.slice none 0 0),.lit (.slice none 0 0),.lit (.slice none 0 0),?_,.nil,.nil,ba2.keep fc (by simp),.nil⟩,.nil,fun i hi=>absurd hi (Nat.not_lt_zero i),fun i hi=>absurd hi (Nat.not_lt_zero i),fun i hi=>absurd hi (Nat.not_lt_zero i)⟩ rfl rfl rfl rfl rfl (fun j hj=>?_) ?_ fun j hj=>fab.old j hj
 ·show Bk Hc tgb .m Ha.n [gJ P.L P.d,rl,sl,.lit (.slice none 0 0),I 0,.lit (.slice none 0 0),I P.L.length,.lit (.slice none 0 0),.sl H.n 0 1 (List.replicate P.L.length false).length (some (List.replicate P.L.length false).length),.lit (.slice none 0 0)]
  rw [List.length_replicate]
  exact bc
 ·rw [fc.get j (by have:=fab.n; omega) (by rw [fab.old j hj]; simp),fab.get j hj fun h=>h]
 ·have:=fab.n; have:=fc.n; omega
end
end Go.Proofs.YtegioimlblnajaaGreat.Ev
namespace Go.Proofs.YtegioimlblnajaaGreat.Ev
set_option linter.unusedVariables false
set_option linter.unusedSimpArgs false
variable {σ:Sig}
def mS (s:ByteArray):Bool:=decide (60<(s.data.size:Int))
def qx (p:ByteArray × ByteArray):Bool:=mS p.1||decide (100<(p.2.data.size:Int))
def GL (n:Nd):Bool:=decide (8<(n.classes.length:Int))||(decide (8<(n.attrs.length:Int))||(mS n.tag||(mS n.id||(n.classes.any mS||n.attrs.any qx))))
def v5 (L:List Nd):Bool:=if 40<L.length then (if L.length≤4096 then true else decide (4100<L.length)) else decide (4100<L.length)
def l_ (L:List Nd) (m:Nat):Bool:=((L.drop m).take (100 - m)).any GL||v5 L
structure JN (n:Nd):Prop where
 classes:n.classes.length≤8
 attrs:n.attrs.length≤8
 tag:n.tag.data.size≤60
 id:n.id.data.size≤60
 cl:∀ s ∈ n.classes,s.data.size≤60
 at':∀ p ∈ n.attrs,p.1.data.size≤60∧p.2.data.size≤100
theorem JN.of {n:Nd} (h:GL n=false):JN n:=by
 unfold GL qx mS at h
 simp only [Bool.or_eq_false_iff,decide_eq_false_iff_not,List.any_eq_false,Bool.or_eq_true,decide_eq_true_eq,not_or] at h
 obtain ⟨h1,h2,h3,h4,h5,h6⟩:=h
 exact ⟨by omega,by omega,by omega,by omega,fun s hs=>by have:=h5 s hs; omega,fun p hp=>by have:=h6 p hp; omega⟩
theorem wq {L:List Nd} {m:Nat} {n:Nd} (h:L[m]?=some n) (hm:m<100):l_ L m=(GL n||l_ L (m+1)):=by
 unfold l_
 obtain ⟨j,hj⟩:∃ j,100 - m=j+1:=⟨99 - m,by omega⟩
 rw [h_ h,hj,List.take_succ_cons,List.any_cons,Bool.or_assoc,show 100 - (m+1)=j by omega]
section
attribute [local irreducible] ay.L0 ay.L1 ay.L2
theorem NH {L:List Nd} {m:Nat} {n:Nd} (hn:L[m]?=some n) (hm:m<100) {K:AV→Hp→Prop} {y4:AV} (hl:n.attrs.length≤8)
  (h0:∀ H y4 y5,(∀ H,K (Bo (l_ L (m+1))) H)→ay.L0 σ K (nds L) (I ((m+1:Nat):Int)) y4 y5 H):∀ (f k:Nat) (H:Hp),n.attrs.length - k=f→k≤n.attrs.length→(∀ H,K (Bo ((n.attrs.drop k).any qx||l_ L (m+1))) H) →
  ay.L2 σ K (nds L) (I (m:Int)) y4 (I (k:Int)) H:=by
 have hix:aw 5 (nds L) (I (m:Int))=some (.ip (bH n)):=fA hn
 intro f
 induction f with
 | zero =>
  intro k H hf hk hK
  have:k=n.attrs.length:=by omega
  subst this
  refine ay.L2_step ?_
  have hw:wr .i64 ((m:Int)+1)=((m+1:Nat):Int):=gC (by omega)
  simp only [hix,ae,qK,n8,pt,mw,List.length_map,cS,Int.lt_irrefl,decide_false,ah,Bool.false_eq_true,if_false,fJ,hw]
  refine h0 _ _ _ ?_
  simpa using hK
 | succ f ih =>
  intro k H hf hk hK
  have hlt:k<n.attrs.length:=by omega
  obtain ⟨p,hp⟩:=lU hlt
  rw [h_ hp,List.any_cons] at hK
  have hlt':(k:Int)<n.attrs.length:=by omega
  have hixp:aw 2 (.imm 2 (n.attrs.map cO)) (I (k:Int))=some (.ip (cO p)):=fA hp
  have hw:wr .i64 ((k:Int)+1)=((k+1:Nat):Int):=gC (by omega)
  refine ay.L2_step ?_
  simp only [hix,ae,qK,n8,pt,mw,List.length_map,cS,hlt',decide_true,ah,if_true,hixp,List.drop_zero,Jp,wU,rp,iz,decide_eq_true_eq,fJ,hw]
  split
  ·rename_i h
   have:qx p=true:=by unfold qx mS; rw [decide_eq_true h,Bool.true_or]
   rw [this] at hK
   simpa using hK H
  rename_i h1
  split
  ·rename_i h
   have:qx p=true:=by unfold qx; rw [decide_eq_true h,Bool.or_true]
   rw [this] at hK
   simpa using hK H
  ·rename_i h
   have:qx p=false:=by unfold qx mS; rw [decide_eq_false h,decide_eq_false h1]; rfl
   rw [this] at hK
   exact ih (k+1) H (by omega) (by omega) (by simpa using hK)
theorem Oj {L:List Nd} {m:Nat} {n:Nd} (hn:L[m]?=some n) (hm:m<100) {K:AV→Hp→Prop} {y5:AV} (hl:n.attrs.length≤8) (hl2:n.classes.length≤8)
  (h0:∀ H y4 y5,(∀ H,K (Bo (l_ L (m+1))) H)→ay.L0 σ K (nds L) (I ((m+1:Nat):Int)) y4 y5 H):∀ (f k:Nat) (H:Hp),n.classes.length - k=f→k≤n.classes.length→(∀ H,K (Bo ((n.classes.drop k).any mS||(n.attrs.any qx||l_ L (m+1)))) H) →
  ay.L1 σ K (nds L) (I (m:Int)) (I (k:Int)) y5 H:=by
 have hix:aw 5 (nds L) (I (m:Int))=some (.ip (bH n)):=fA hn
 intro f
 induction f with
 | zero =>
  intro k H hf hk hK
  have:k=n.classes.length:=by omega
  subst this
  refine ay.L1_step ?_
  simp only [hix,ae,qK,n8,pM,pF,cS,Int.lt_irrefl,decide_false,ah,Bool.false_eq_true,if_false]
  exact NH hn hm hl h0 _ 0 H rfl (Nat.zero_le _) (by simpa using hK)
 | succ f ih =>
  intro k H hf hk hK
  have hlt:k<n.classes.length:=by omega
  obtain ⟨p,hp⟩:=lU hlt
  rw [h_ hp,List.any_cons] at hK
  have hlt':(k:Int)<n.classes.length:=by omega
  have hixp:aw 1 (fu n.classes) (I (k:Int))=some (.ip [Sx p]):=fA hp
  have lx:∀ H,ldA false 1 H (.ip [Sx p])=some (Sx p):=fun _=>rfl
  have hw:wr .i64 ((k:Int)+1)=((k+1:Nat):Int):=gC (by omega)
  refine ay.L1_step ?_
  simp only [hix,ae,qK,n8,pM,pF,cS,hlt',decide_true,ah,if_true,hixp,iH,rp,iz,decide_eq_true_eq,fJ,hw]
  split
  ·rename_i h
   have:mS p=true:=decide_eq_true h
   rw [this] at hK
   simpa using hK H
  ·rename_i h
   have:mS p=false:=decide_eq_false h
   rw [this] at hK
   exact ih (k+1) H (by omega) (by omega) (by simpa using hK)
theorem sw {L:List Nd} {K:AV→Hp→Prop} {H:Hp} (hK:∀ H,K (Bo (v5 L)) H):bnd (aM (nds L)) fun x24=>bnd (aj .gtr x24 (I 40)) fun x25=>ifB x25 (bnd (aM (nds L)) fun x26=>bnd (aj .leq x26 (I 4096)) fun x27=>ifB x27 (K (Bo true) H) (bnd (aM (nds L)) fun x28=>bnd (aj .gtr x28 (I 4100)) fun x29=>K x29 H)) (bnd (aM (nds L)) fun x30=>bnd (aj .gtr x30 (I 4100)) fun x31=>K x31 H):=by
 simp only [i_,ae,iz,o7,ah,decide_eq_true_eq]
 have e:decide ((4100:Int)<(L.length:Int))=decide (4100<L.length):=by rw [decide_eq_decide]; omega
 rw [e]
 unfold v5 at hK
 by_cases h1:40<L.length
 ·have h1':(40:Int)<(L.length:Int):=by omega
  rw [if_pos h1] at hK
  rw [if_pos h1']
  by_cases h2:L.length≤4096
  ·have h2':(L.length:Int)≤4096:=by omega
   rw [if_pos h2] at hK
   rw [if_pos h2']
   exact hK H
  ·have h2':¬ (L.length:Int)≤4096:=by omega
   rw [if_neg h2] at hK
   rw [if_neg h2']
   exact hK H
 ·have h1':¬ (40:Int)<(L.length:Int):=by omega
  rw [if_neg h1] at hK
  rw [if_neg h1']
  exact hK H
theorem oP (L:List Nd) (H:Hp):aq Tryz.prog σ iT [nds L] H (Bo (l_ L 0)) H:=by
 refine dh (fun K hK=>ay.run ?_) (by simp [bE,cW]) rfl H
 have L0:∀ (f m:Nat) (H:Hp) (y4 y5:AV),100 - m=f→m≤L.length→m≤100→(∀ H,K (Bo (l_ L m)) H)→ay.L0 σ K (nds L) (I (m:Int)) y4 y5 H:=by
  intro f
  induction f with
  | zero =>
   intro m H y4 y5 hf hm hm2 hK
   obtain rfl:m=100:=by omega
   have hK:∀ H,K (Bo (v5 L)) H:=by simpa [l_] using hK
   refine ay.L0_step ?_
   have e0:¬ (((100:Nat):Int)<100):=by decide
   by_cases h:((100:Nat):Int)<L.length
   ·simp only [i_,ae,cS,h,decide_true,ah,if_true,e0,decide_false,Bool.false_eq_true,if_false]
    have hE:=sw (H:=H) hK
    simp only [i_,ae,iz,o7] at hE ⊢
    exact hE
   ·simp only [i_,ae,cS,h,decide_false,ah,Bool.false_eq_true,if_false]
    have hE:=sw (H:=H) hK
    simp only [i_,ae,iz,o7] at hE ⊢
    exact hE
  | succ f ih =>
   intro m H y4 y5 hf hm hm2 hK
   refine ay.L0_step ?_
   have e0:((m:Nat):Int)<100:=by omega
   by_cases h:m<L.length
   ·have h':(m:Int)<L.length:=by omega
    obtain ⟨n,hn⟩:=lU h
    rw [wq hn (by omega)] at hK
    have hix:aw 5 (nds L) (I (m:Int))=some (.ip (bH n)):=fA hn
    simp only [i_,ae,cS,h',decide_true,ah,if_true,e0,hix,qK,n8,pM,pt,wx,Js,pF,mw,List.length_map,rp,iz,decide_eq_true_eq]
    unfold GL at hK
    split
    ·rename_i h1; simp only [h1,decide_true,Bool.true_or] at hK; exact hK H
    rename_i h1
    split
    ·rename_i h2; simp only [h2,decide_true,Bool.true_or,Bool.or_true] at hK; exact hK H
    rename_i h2
    split
    ·rename_i h3
     have:mS n.tag=true:=decide_eq_true h3
     simp only [this,Bool.true_or,Bool.or_true] at hK; exact hK H
    rename_i h3
    split
    ·rename_i h4
     have:mS n.id=true:=decide_eq_true h4
     simp only [this,Bool.true_or,Bool.or_true] at hK; exact hK H
    rename_i h4
    have t3:mS n.tag=false:=decide_eq_false h3
    have t4:mS n.id=false:=decide_eq_false h4
    simp only [h1,h2,t3,t4,decide_false,Bool.false_or,Bool.or_assoc] at hK
    exact Oj hn (by omega) (by omega) (by omega) (fun H y4 y5 hK'=>ih (m+1) H y4 y5 (by omega) (by omega) (by omega) hK') _ 0 H rfl (Nat.zero_le _) (by simpa using hK)
   ·have h':¬ (m:Int)<L.length:=by omega
    have:m=L.length:=by omega
    subst this
    have hK:∀ H,K (Bo (v5 L)) H:=by simpa [l_] using hK
    simp only [i_,ae,cS,h',decide_false,ah,Bool.false_eq_true,if_false]
    have hE:=sw (H:=H) hK
    simp only [i_,ae,iz,o7] at hE ⊢
    exact hE
 exact L0 _ 0 _ _ _ rfl (Nat.zero_le _) (by decide) hK
end
structure oM (L:List Nd) (d:List Nat):Prop where
 len:L.length≤40
 hB:dj L L.length d
 sm:∀ n ∈ L,JN n
end Go.Proofs.YtegioimlblnajaaGreat.Ev
namespace Go.Proofs.YtegioimlblnajaaGreat.Ev
set_option linter.unusedVariables false
set_option linter.unusedSimpArgs false
set_option maxRecDepth 100000
variable {σ:Sig}
theorem RG {z:List AV} {x y:AV} {a b:Nat} (hx:x.cells=[x]∧x.isAny=false) (hy:y.cells=[y]∧y.isAny=false) (ha:a<z.length) (hb:b<z.length):cR z [(a,1,x),(b,1,y)]=some ((z.set a x).set b y):=by
 have e1:ax z a [x]=z.set a x:=iE ha
 have e2:ax (z.set a x) b [y]=(z.set a x).set b y:=iE (by simpa using hb)
 have h1:a+1≤z.length:=ha
 have h2:b+1≤z.length:=hb
 simp [cR,hx.1,hx.2,hy.1,hy.2,i4,oS,e1,e2,h1,h2]
theorem Ro (H:Hp):lE [.int .i64 0] 1 8 H (I 16) (I 16)=some (.sl H.n 0 1 16 (some 16),H.new (.cells (iG [.int .i64 0] 16) true)):=rfl
theorem Q3 {H:Hp} {K:AV→Hp→Prop} (hK:∀ H' cs,H'=(H.new (.cells (iG [.int .i64 0] 16) true)).new (.cells cs true)→cs[3]?=some (.sl H.n 0 1 16 (some 16))→3<cs.length→K (.ptr (H.n+1) 0) H'):ai Tryz.prog σ ff [I 16] H K:=by
 refine aZ.run ?_
 rw [cS,ae,ah,if_neg (by decide)]
 refine aZ.J0_step ?_
 rw [iz,ae,ah,if_neg (by decide)]
 refine aZ.J1_step (aa (Ro H) ?_)
 refine aa (RG ⟨rfl,rfl⟩ ⟨rfl,rfl⟩ (by decide) (by decide)) ?_
 rw [dL]
 refine hK _ _ rfl ?_ ?_
 ·rw [List.getElem?_set,if_pos rfl,if_pos (by rw [List.length_set]; decide)]
 ·rw [List.length_set,List.length_set]; decide
theorem RF {H:Hp} {K:AV→Hp→Prop} (hK:K (.ptr H.n 0) (H.new (.cells [I 8,.lit (.slice none 0 0)] true))):ai Tryz.prog σ eY [I 8] H K:=by
 refine aX.run ?_
 rw [cS,ae,ah,if_neg (by decide)]
 refine aX.J0_step ?_
 rw [iz,ae,ah,if_neg (by decide)]
 exact aX.J1_step (aa rfl hK)
section
attribute [local irreducible] al.L0 al.L1
variable {L:List Nd} {d:List Nat} {a1 y:AV} {m:Nat} {K:AV→Hp→Prop} {H0:Hp}
theorem QE {W:Nat} {y9:AV} (hW:0<W) (hN:L.length≤4096) (hK:∀ H,(∀ j,j<H0.n→H.get j=H0.get j)→H0.n≤H.n→K (.tup [.ptr m 0,I 0]) H) :
  ∀ (q i:Nat) (H:Hp) (tg:Nat→Tg),L.length - i=q→i≤L.length→(∃ x o p rows orows prows,Bk H tg .m m [lh L d,a1,y,x,I L.length,.lit (.slice none 0 0),o,p,.lit (.slice none 0 0)]∧Rw 8 H tg .wi x rows∧Rw 1 H tg .of o orows∧Rw 1 H tg .pub p prows∧orows.length=i∧prows.length=i ∧
   (∃ c d ip cs ps,rows[0]?=some [I 0,I 0,I 0,I 0,.ptr d 0,c,.lit (.slice none 0 0),.lit (.slice none 0 0)]∧Bk H tg (.dq 0) d cs∧cs[3]?=some (.sl ip 0 1 16 (some 16))∧3<cs.length∧Bk H tg (.ce 0) ip ps∧ps.length=16)) →
   (∀ j,j<H0.n→H.get j=H0.get j)→H0.n≤H.n→(∀ j,j<H0.n→tg j=.fr)→al.L1 σ K (lh L d) (I W) (.ptr m 0) y9 (I (i:Int)) H:=by
 intro q
 induction q with
 | zero =>
  intro i H tg hq hi ⟨x,o,p,rows,orows,prows,b,r1,r2,r3,l1,l2,c,dd,ip,cs,ps,k1,k2,k3,k4,k5,k6⟩ g1 n1 t1
  have:i=L.length:=by omega
  subst this
  have ln:aM (nds (L.map cA))=some (I L.length):=by simp [nds]
  refine al.L1_step ?_
  refine aa rfl (aa rfl (aa (x:=nds (L.map cA)) (by simp) (aa ln ?_)))
  rw [cS,ae,ah,if_neg (by simp)]
  refine aa rfl (aa rfl (aa (x:=nds (L.map cA)) (by simp) (aa ln ?_)))
  rw [iz,ae,ah]
  by_cases h0:0<L.length
  ·rw [if_pos (by simpa using h0)]
   obtain ⟨id,off,cs0,e1,bk,hl,hr,_⟩:=r1.at (i:=0) k1
   have e1:aw 8 x (I 0)=some (.ptr id off):=e1
   have lp:∀ {HH:Hp},HH.get id=H.get id→ldA false 1 HH (.ptr id (off+4))=some (.ptr dd 0):=fun h=>by
    rw [b_,h,bk.ld,h_ (oT (j:=4) hr rfl),iH]
   obtain ⟨H1,s1,b1,f1⟩:=k5.st (off:=0) (x:=I 0) rfl rfl rfl (by omega)
   have ixp:aw 1 (.sl ip 0 1 16 (some 16)) (I 0)=some (.ptr ip 0):=rfl
   refine aa rfl (aa rfl (aa (b.cell rfl) (aa e1 (aa rfl (aa (lp rfl) (aa rfl (aa rfl (aa (k2.cell k3) (aa ixp (aa s1 ?_))))))))))
   have b':=b.keep f1 (by simp)
   have k2':=k2.keep f1 (by simp)
   have gid:H1.get id=H.get id:=f1.get _ bk.lt (by rw [bk.tg]; simp)
   obtain ⟨H2,s2,b2,f2⟩:=k2'.st (off:=2) (x:=I 1) rfl rfl rfl (by omega)
   refine aa rfl (aa rfl (aa (b'.cell rfl) (aa e1 (aa rfl (aa (lp gid) (aa rfl (aa rfl (aa s2 ?_))))))))
   refine al.J2_step (hK _ (fun j hj=>?_) ?_)
   ·rw [f2.get j (by have:=f1.n; omega) (by rw [t1 j hj]; simp),f1.get j (by omega) (by rw [t1 j hj]; simp),g1 j hj]
   ·have:=f1.n; have:=f2.n; omega
  ·rw [if_neg (by simpa using h0)]
   exact al.J2_step (hK _ g1 n1)
 | succ q ih =>
  intro i H tg hq hi ⟨x,o,p,rows,orows,prows,b,r1,r2,r3,l1,l2,c,dd,ip,cs,ps,k1,k2,k3,k4,k5,k6⟩ g1 n1 t1
  have ln:aM (nds (L.map cA))=some (I L.length):=by simp [nds]
  refine al.L1_step ?_
  refine aa rfl (aa rfl (aa (x:=nds (L.map cA)) (by simp) (aa ln ?_)))
  rw [cS,ae,ah,if_pos (by simp; omega)]
  refine aa rfl (aa rfl (aa (b.cell rfl) ?_))
  refine Rw.app1 (bytes:=8) (y:=I (-1)) r2 rfl rfl rfl (by omega) (by omega) fun o' Ha tga ra fa=>?_
  have ba:=b.keep fa (by simp)
  obtain ⟨Hb,sb,bb,fb⟩:=ba.st (off:=6) ra.cells.1 ra.cells.2 ra.one (by simp)
  refine aa rfl (aa rfl (aa sb (aa rfl (aa rfl (aa (bb.cell rfl) ?_)))))
  have r3b:=(r3.keep fa (by simp)).keep fb (by simp)
  refine Rw.app1 (bytes:=1) (y:=Bo false) r3b rfl rfl rfl (by omega) (by omega) fun p' Hc tgc rc fc=>?_
  have bc:=bb.keep fc (by simp)
  obtain ⟨Hd,sd,bd,fd⟩:=bc.st (off:=7) rc.cells.1 rc.cells.2 rc.one (by simp)
  refine aa rfl (aa rfl (aa sd ?_))
  rw [fJ,ae,iC (by omega)]
  have f:Fx (fun t=>t=Tg.of∨t=Tg.m∨t=Tg.pub) H tg Hd tgc:=(fa.mono fun _ h=>.inl h).trans ((fb.mono fun _ h=>.inr (.inl h)).trans ((fc.mono fun _ h=>.inr (.inr h)).trans (fd.mono fun _ h=>.inr (.inl h))))
  refine ih (i+1) Hd tgc (by omega) (by omega) ⟨x,o',p',rows,_,_,bd,r1.keep f (by simp),((ra.keep fb (by simp)).keep fc (by simp)).keep fd (by simp),rc.keep fd (by simp),by simp [l1],by simp [l2],c,dd,ip,cs,ps,k1,k2.keep f (by simp),k3,k4,k5.keep f (by simp),k6⟩ (fun j hj=>?_) (by have:=f.n; omega) fun j hj=>?_
  ·rw [f.get j (by omega) (by rw [t1 j hj]; simp),g1 j hj]
  ·rw [f.old j (by omega)]; exact t1 j hj
theorem P8 {W:Nat} {y10:AV} (hW:0<W∧W≤64) (hN:L.length≤4096) (hK:∀ H,(∀ j,j<H0.n→H.get j=H0.get j)→H0.n≤H.n→K (.tup [.ptr m 0,I 0]) H) :
  ∀ (q k:Nat) (H:Hp) (tg:Nat→Tg),W - k=q→k≤W→(∃ x rows,Bk H tg .m m [lh L d,a1,y,x,I L.length,.lit (.slice none 0 0),.lit (.slice none 0 0),.lit (.slice none 0 0),.lit (.slice none 0 0)]∧Rw 8 H tg .wi x rows∧rows.length=k ∧
   (0<k→∃ c d ip cs ps,rows[0]?=some [I 0,I 0,I 0,I 0,.ptr d 0,c,.lit (.slice none 0 0),.lit (.slice none 0 0)]∧Bk H tg (.dq 0) d cs∧cs[3]?=some (.sl ip 0 1 16 (some 16))∧3<cs.length∧Bk H tg (.ce 0) ip ps∧ps.length=16)) →
   (∀ j,j<H0.n→H.get j=H0.get j)→H0.n≤H.n→(∀ j,j<H0.n→tg j=.fr)→al.L0 σ K (lh L d) (I W) (.ptr m 0) (I (k:Int)) y10 H:=by
 intro q
 induction q with
 | zero =>
  intro k H tg hq hk ⟨x,rows,b,r1,l1,hf⟩ g1 n1 t1
  have:k=W:=by omega
  subst this
  refine al.L0_step ?_
  rw [cS,ae,ah,if_neg (by simp)]
  exact QE hW.1 hN hK _ 0 H tg rfl (Nat.zero_le _) ⟨x,_,_,rows,[],[],b,r1,.nil,.nil,rfl,rfl,hf hW.1⟩ g1 n1 t1
 | succ q ih =>
  intro k H tg hq hk ⟨x,rows,b,r1,l1,hf⟩ g1 n1 t1
  refine al.L0_step ?_
  rw [cS,ae,ah,if_pos (by simp; omega)]
  refine aa rfl (aa rfl (aa (b.cell rfl) ?_))
  refine Q3 fun Ha cs ea k3 k4=>?_
  have fa:Fx (fun _=>False) H tg Ha (up (up tg H.n (if k=0 then .ce 0 else .fr)) (H.n+1) (if k=0 then .dq 0 else .fr)):=by
   rw [ea]
   have h1:Fx (fun _=>False) H tg (H.new (.cells (iG [.int .i64 0] 16) true)) (up tg H.n (if k=0 then .ce 0 else .fr)):=.new _ _
   exact h1.trans (.new _ _)
  have b1:k=0→Bk Ha (up (up tg H.n (if k=0 then .ce 0 else .fr)) (H.n+1) (if k=0 then .dq 0 else .fr)) (.dq 0) (H.n+1) cs:=fun e=>by
   rw [ea,if_pos e,if_pos e]
   exact Bk.new (H:=H.new (.cells (iG [.int .i64 0] 16) true))
  have b2:k=0→Bk Ha (up (up tg H.n (if k=0 then .ce 0 else .fr)) (H.n+1) (if k=0 then .dq 0 else .fr)) (.ce 0) H.n (iG [.int .i64 0] 16):=fun e=>by
   rw [ea,if_pos e,if_pos e]
   have h1:Bk (H.new (.cells (iG [.int .i64 0] 16) true)) (up tg H.n (.ce 0)) (.ce 0) H.n (iG [.int .i64 0] 16):=.new
   exact h1.keep (Fx.new (A:=fun _=>False) _ _) fun h=>h
  generalize up (up tg H.n (if k=0 then .ce 0 else .fr)) (H.n+1) (if k=0 then .dq 0 else .fr)=tga at fa b1 b2
  have ma:Ha.get m=H.get m:=fa.get _ b.lt fun h=>h
  rw [gZ]
  refine ⟨congrArg (caO 1 3) ma,?_⟩
  refine RF ?_
  have fb:Fx (fun _=>False) Ha tga (Ha.new (.cells [I 8,.lit (.slice none 0 0)] true)) (up tga Ha.n .fr):=.new _ _
  generalize Ha.new (.cells [I 8,.lit (.slice none 0 0)] true)=Hb at fb ⊢
  generalize up tga Ha.n .fr=tgb at fb
  have mb:Hb.get m=Ha.get m:=fb.get _ (by have:=b.lt; have:=fa.n; omega) fun h=>h
  rw [gZ]
  refine ⟨congrArg (caO 1 3) mb,?_⟩
  have fab:=fa.trans fb
  have bm:=b.keep fab fun h=>h
  refine aa (x:=[I 0,I 0,I 0,I 0,.ptr (H.n+1) 0,.ptr Ha.n 0,.lit (.slice none 0 0),.lit (.slice none 0 0)]) rfl ?_
  have bld:=jK (z:=[.int .i64 0,.int .i64 0,.int .i64 0,.int .i64 0,.pointer none,.pointer none,.slice none 0 0,.slice none 0 0]) (H:=Hb) (x:=.agg [I 0,I 0,I 0,I 0,.ptr (H.n+1) 0,.ptr Ha.n 0,.lit (.slice none 0 0),.lit (.slice none 0 0)]) (sz:=8) rfl rfl
  refine aa bld ?_
  rw [gZ]
  refine ⟨by have:=bm.lt; rw [cx,if_neg (by omega)],?_⟩
  have ap:=Rw.app1 (z:=[.int .i64 0,.int .i64 0,.int .i64 0,.int .i64 0,.pointer none,.pointer none,.slice none 0 0,.slice none 0 0]) (bytes:=96) (y:=.agg [I 0,I 0,I 0,I 0,.ptr (H.n+1) 0,.ptr Ha.n 0,.lit (.slice none 0 0),.lit (.slice none 0 0)]) (r1.keep fab fun h=>h) rfl rfl rfl (by omega) (by omega) (K:=fun p11=>bnd (stA 1 p11.2 (.ptr m 3) p11.1) fun H14=>bnd (aj .add (I (k:Int)) (I 1)) fun x15=>al.L0 σ K (lh L d) (I W) (.ptr m 0) x15 y10 H14) (fun x' Hc tgc rc fc=>?_)
  ·rw [bld] at ap; exact ap
  have bc:=bm.keep fc (by simp)
  obtain ⟨Hd,sd,bd,fd⟩:=bc.st (off:=3) rc.cells.1 rc.cells.2 rc.one (by simp)
  refine aa sd ?_
  rw [fJ,ae,iC (by omega)]
  have f:Fx (fun t=>t=Tg.wi∨t=Tg.m) Hb tgb Hd tgc:=(fc.mono fun _ h=>.inl h).trans (fd.mono fun _ h=>.inr h)
  have nd:H0.n≤Hd.n:=by clear hf; have:=fab.n; have:=f.n; omega
  refine ih (k+1) Hd tgc (by clear hf; omega) (by clear hf; omega) ⟨x',_,bd,rc.keep fd (by simp),by simp [l1],fun _=>?_⟩ (fun j hj=>?_) nd fun j hj=>?_
  ·by_cases e:k=0
   ·have:rows=[]:=List.length_eq_zero_iff.1 (by omega)
    subst this
    exact ⟨.ptr Ha.n 0,H.n+1,H.n,cs,_,rfl,((b1 e).keep fb fun h=>h).keep f (by simp),k3,k4,((b2 e).keep fb fun h=>h).keep f (by simp),by simp [pL]⟩
   ·obtain ⟨c,dd,ip,cs,ps,q1,q2,q3,q4,q5,q6⟩:=hf (by omega)
    exact ⟨c,dd,ip,cs,ps,by rw [List.getElem?_append_left (by omega)]; exact q1,(q2.keep fab fun h=>h).keep f (by simp),q3,q4,(q5.keep fab fun h=>h).keep f (by simp),q6⟩
  ·have:=fab.n
   rw [f.get j (by omega) (by rw [fab.old j (by omega),t1 j hj]; simp),fab.get j (by omega) fun h=>h,g1 j hj]
  ·have:=fab.n
   rw [f.old j (by omega),fab.old j (by omega)]; exact t1 j hj
end
theorem ug {L:List Nd} {d:List Nat} {a1 y:AV} {W:Nat} {H:Hp} {K:AV→Hp→Prop} (hW:0<W∧W≤64) (hN:L.length≤4096) (nl:∀ H,aq Tryz.prog σ dE [a1] H y H) (c1:a1.cells=[a1]∧a1.isAny=false) (c2:y.cells=[y]∧y.isAny=false)
  (hK:∀ r H',(∀ j,j<H.n→H'.get j=H.get j)→H.n≤H'.n→K (.tup [r,I 0]) H'):ai Tryz.prog σ ey [lh L d,a1,I W] H K:=by
 refine al.run ?_
 have e0:fB .eql (lh L d) (.lit (.pointer none))=some (Bo false):=rfl
 rw [e0,ae,ah,if_neg (by decide),cS,ae,ah,if_neg (by simp; omega),iz,ae,ah,if_neg (by simp; omega)]
 refine aD (nl H) ?_
 have ln:aM (nds (L.map cA))=some (I L.length):=by simp [nds]
 refine aa rfl (aa rfl ?_)
 show kpK (.ip _,some 1) _ _ _
 rw [Qw]
 refine aa (x:=nds (L.map cA)) (by simp) (aa ln ?_)
 have e4:cR [.lit (.pointer none),.lit (.slice none 0 0),.lit (.slice none 0 0),.lit (.slice none 0 0),I 0,.lit (.slice none 0 0),.lit (.slice none 0 0),.lit (.slice none 0 0),.lit (.slice none 0 0)] [(0,1,lh L d),(1,1,a1),(2,1,y),(4,1,I L.length)] =
   some [lh L d,a1,y,.lit (.slice none 0 0),I L.length,.lit (.slice none 0 0),.lit (.slice none 0 0),.lit (.slice none 0 0),.lit (.slice none 0 0)]:=by
  have hd:(lh L d).cells=[lh L d]∧(lh L d).isAny=false:=⟨rfl,rfl⟩
  simp [cR,c1.1,c1.2,c2.1,c2.2,hd.1,hd.2,i4,oS]
 refine aa e4 ?_
 rw [dL]
 have f0:Fx (fun _=>False) H (fun _=>Tg.fr) (H.new (.cells [lh L d,a1,y,.lit (.slice none 0 0),I L.length,.lit (.slice none 0 0),.lit (.slice none 0 0),.lit (.slice none 0 0),.lit (.slice none 0 0)] true)) (up (fun _=>Tg.fr) H.n .m):=.new _ _
 exact P8 (H0:=H) hW hN (fun H' g n=>hK _ H' g n) _ 0 _ (up (fun _=>Tg.fr) H.n .m) rfl (Nat.zero_le _) ⟨_,[],.new,.nil,rfl,fun h=>absurd h (Nat.lt_irrefl 0)⟩ (fun j hj=>f0.get j hj fun h=>h) f0.n fun j hj=>f0.old j hj
end Go.Proofs.YtegioimlblnajaaGreat.Ev
namespace Go.Proofs.YtegioimlblnajaaGreat.Ev
set_option linter.unusedVariables false
set_option linter.unusedSimpArgs false
variable {σ:Sig}
theorem Kd {L:List Nd} {d:List Nat} (hN:L.length≤4096) (hB:dj L L.length d) (hb:l_ L 0=false):oM L d:=by
 unfold l_ v5 at hb
 simp only [Bool.or_eq_false_iff,List.drop_zero] at hb
 have hl:L.length≤40:=by
  have h2:=hb.2
  by_cases h:40<L.length
  ·rw [if_pos h,if_pos hN] at h2; cases h2
  ·omega
 refine ⟨hl,hB,fun n hn=>JN.of ?_⟩
 have:=List.any_eq_false.1 hb.1 n (by rw [List.take_of_length_le (by omega)]; exact hn)
 simpa using this
structure Qc (σ:Sig) (L:List Nd) (d:List Nat):Prop where
 t:oM L d
 big:l_ L 0=false
 new:∀ H,aq Tryz.prog σ dk [nds L] H (.tup [lh L d,I 0]) H
theorem NX {L:List Nd} (hW:∀ n ∈ L,kI n) {a:AV} (ha:cW a=true) {b:Bool} (hD:∀ H,aq Tryz.prog σ eh [a] H (Bo b) H) (w:Int):(∀ H,aq Tryz.prog σ hO [nds L,a,I w] H (Bo false) H) ∨
  (b=false∧1≤w∧w≤64∧(∃ d,Qc σ L d)∧∀ H,aq Tryz.prog σ hO [nds L,a,I w] H (Bo true) H):=by
 have hx:bE [nds L,a,I w]=true:=by simp [bE,cW,ha]
 cases b with
 | true =>
  refine .inl fun H=>dh (fun K hK=>gY.run (aD (hD _) ?_)) hx rfl H
  rw [ah,if_pos rfl]
  rcases qN (σ:=σ) L hW with ⟨_,e,he,hg⟩ | ⟨d,hN,hB,hg⟩<;>(refine aD (hg _) (aa rfl (aa rfl (aa rfl ?_))); rw [ah,if_neg (by decide)]; exact hK _)
 | false =>
  rcases qN (σ:=σ) L hW with ⟨_,e,he,hg⟩ | ⟨d,hN,hB,hg⟩
  ·refine .inl fun H=>dh (fun K hK=>gY.run (aD (hD _) ?_)) hx rfl H
   rw [ah,if_neg (by decide)]
   refine aD (oP L _) (aD (hg _) (aa rfl (aa rfl ?_)))
   rw [fF,ae,ah]
   split
   ·rw [gn,ae,ah,if_neg (by simpa using he)]; exact hK _
   ·exact hK _
  ·cases hb:l_ L 0 with
   | true =>
    refine .inl fun H=>dh (fun K hK=>gY.run (aD (hD _) ?_)) hx rfl H
    rw [ah,if_neg (by decide)]
    refine aD (oP L _) (aD (hg _) (aa rfl (aa rfl ?_)))
    rw [hb,fF,ae,ah,if_neg (by decide)]; exact hK _
   | false =>
    by_cases hw:1≤w∧w≤64
    ·refine .inr ⟨rfl,hw.1,hw.2,⟨d,Kd hN hB hb,hb,hg⟩,fun H=>dh (fun K hK=>gY.run (aD (hD _) ?_)) hx rfl H⟩
     rw [ah,if_neg (by decide)]
     refine aD (oP L _) (aD (hg _) (aa rfl (aa rfl ?_)))
     rw [hb,fF,ae,ah,if_pos (by decide),gn,ae,ah,if_pos (by decide),jA,ae,ah,if_pos (by simpa using hw.1),o7,ae,decide_eq_true hw.2]
     exact hK _
    ·refine .inl fun H=>dh (fun K hK=>gY.run (aD (hD _) ?_)) hx rfl H
     rw [ah,if_neg (by decide)]
     refine aD (oP L _) (aD (hg _) (aa rfl (aa rfl ?_)))
     rw [hb,fF,ae,ah,if_pos (by decide),gn,ae,ah,if_pos (by decide),jA,ae,ah]
     by_cases h1:1≤w
     ·rw [if_pos (by simpa using h1),o7,ae,decide_eq_false (fun h=>hw ⟨h1,h⟩)]; exact hK _
     ·rw [if_neg (by simpa using h1)]; exact hK _
theorem uC {n:Int} {H:Hp} {K:AV→Hp→Prop} (hK:K (I n) H):ai Tryz.prog σ gh [I n] H K:=nf.run hK
theorem J9 {P:Pm} {rl sl a y:AV} {H:Hp} {K:AV→Hp→Prop} (hW:1≤P.W∧P.W≤64) (hL:∀ n ∈ P.L,kI n) (T:Qc σ P.L P.d) (hD:∀ H,aq Tryz.prog σ eh [a] H (Bo false) H)
  (cp:∀ H,aq Tryz.prog σ eH [a] H rl H) (ls:∀ H,aq Tryz.prog σ fj [rl] H sl H) (nl:∀ H,aq Tryz.prog σ dE [a] H y H)
  (c1:rl.cells=[rl]∧rl.isAny=false∧AV.one rl=true) (c2:sl.cells=[sl]∧sl.isAny=false∧AV.one sl=true) (c3:a.cells=[a]∧a.isAny=false) (c4:y.cells=[y]∧y.isAny=false)
  (hK:∀ G M H' tg' q,Ok P rl sl G M H' tg'→Ini P P.L.length M→(∀ j,j<H.n→H'.get j=H.get j)→H.n≤H'.n→(∀ j,j<H.n→tg' j=.fr)→K (.tup [.ptr G.m 0,q,Bo true]) H'):ai Tryz.prog σ iF [nds P.L,a,I P.W] H K:=by
 have hl:=T.t.len
 have hB:=T.t.hB
 refine lQ.run (aD (hD _) ?_)
 rw [ah,if_neg (by decide)]
 refine aD (oP P.L _) (aD (T.new _) (aa rfl (aa rfl ?_)))
 rw [T.big,ah,if_neg (by decide),Mt,ae,ah,if_neg (by decide),cS,ae,ah,if_neg (by simp; omega),iz,ae,ah,if_neg (by simp; omega)]
 refine aD (qY hB hL (by omega) _) (aa rfl (aa rfl ?_))
 refine Gt hW (by omega) cp ls c1 c2 fun G M H1 tg1 h1 i1 g1 n1 t1=>?_
 refine aa rfl (aa rfl ?_)
 refine ug ⟨by omega,hW.2⟩ (by omega) nl c3 c4 fun r H2 g2 n2=>?_
 refine aa rfl (aa rfl (uC ?_))
 rw [gn,ae]
 have f2:Fx (fun _=>False) H1 tg1 H2 (fun j=>if j<H1.n then tg1 j else .fr):=⟨n2,fun j hj=>if_pos hj,fun j hj _=>g2 j hj⟩
 exact hK G M H2 _ r (h1.keep f2) i1 (fun j hj=>by rw [g2 j (by omega),g1 j hj]) (by omega) fun j hj=>by rw [f2.old j (by omega)]; exact t1 j hj
abbrev fX:AV:=.lit (.slice none 0 0)
theorem tY (H:Hp):aq Tryz.prog σ eh [fX] H (Bo false) H:=by
 refine dh (fun K hK=>bQ.run ?_) rfl rfl H
 refine aa rfl (aa rfl ?_)
 rw [ah,if_neg (by decide)]
 refine bQ.L0_step (aa rfl (aa rfl ?_))
 rw [ah,if_neg (by decide)]
 refine bQ.L1_step (aa rfl (aa rfl ?_))
 rw [ah,if_neg (by decide)]
 exact aa rfl (hK _)
theorem rU (H:Hp):aq Tryz.prog σ dE [fX] H fX H:=by
 refine dh (fun K hK=>aJ.run ?_) rfl rfl H
 refine aJ.L0_step (aa rfl (aa rfl ?_))
 rw [ah,if_neg (by decide)]
 exact hK _
end Go.Proofs.YtegioimlblnajaaGreat.Ev
namespace Go.Proofs.YtegioimlblnajaaGreat.Ev
set_option linter.unusedVariables false
set_option linter.unusedSimpArgs false
set_option maxRecDepth 100000
variable {σ:Sig}
theorem pK (H:Hp):aq Tryz.prog σ eH [fX] H fX H:=by
 refine dh (fun K hK=>c9.run ?_) rfl rfl H
 refine cZ.run (aa rfl ?_)
 rw [ah,if_pos (show (none:Option Addr).isNone=true from rfl)]
 refine aa rfl (c9.L0_step ?_)
 refine aa rfl ?_
 rw [ah,if_neg (by decide)]
 exact hK _
theorem tw (H:Hp):aq Tryz.prog σ fj [fX] H fX H:=by
 refine dh (fun K hK=>dn.run ?_) rfl rfl H
 refine aa rfl (dn.L0_step (aa rfl ?_))
 rw [ah,if_neg (by decide)]
 exact hK _
def z16:AV:=.agg (List.replicate 16 (I 0))
theorem Qh {H:Hp} {a:Nat} (h:H.get a=some (.cells (List.replicate 16 (I 0)) true)):stA 16 H (.ptr a 0) z16=some (H.set a (some (.cells (List.replicate 16 (I 0)) true))):=by
 unfold z16
 rw [uU,if_pos (by simp),h,kY,if_pos ⟨by simp,by rfl⟩,b9 (by simp)]
theorem Qp (H:Hp) (a:Nat):ldA true 16 (H.set a (some (.cells (List.replicate 16 (I 0)) true))) (.ptr a 0)=some z16:=by
 rw [b_,cb,if_pos rfl]; rfl
theorem sX (L:List Nd) (d:List Nat) (e:Int) (H:Hp):aq Tryz.prog σ dI [gJ L d,I e,fX] H z16 H:=by
 refine dh (fun K hK=>bU.run ?_) (by simp [bE,cW,jE]) rfl H
 rw [cP]
 refine aa rfl (bU.L0_step (aa rfl ?_))
 rw [ah,if_neg (by decide)]
 refine fU.run ?_
 have hd:(gJ L d).cells=[gJ L d]∧(gJ L d).isAny=false:=⟨rfl,rfl⟩
 rw [jx hd.2 hd.1,jx rfl rfl,jx rfl rfl,jx rfl rfl,jx rfl rfl]
 refine cU.run ?_
 rw [cP,cP,cP,cP]
 intro js
 rw [qX]
 refine ak.run ?_
 refine aa (x:=fX) (by kernel_rfl) ?_
 refine aa (x:=I 0) rfl ?_
 refine ak.L0_step ?_
 refine aa (x:=Bo false) rfl ?_
 rw [ah,if_neg (by decide)]
 rw [cx,if_pos rfl,pJ]
 refine aa (x:=z16) (by kernel_rfl) ?_
 refine aa (Qh (by kernel_rfl)) (aa (Qp _ _) ?_)
 refine aa (Qh (by kernel_rfl)) (aa (Qp _ _) (hK _))
def ko:List Int:=[0,16000,0,2,-1,0,1000,1099511627776]
theorem O1 (H:Hp):aq Tryz.prog σ cM [.lit (.pointer none),z16] H (.agg (ko.map I)) H:=by
 cases he:evF (CZ σ) fnT.get JS 1000 60 cM [.lit (.pointer none),z16] Hp.empty with
 | none =>
  exfalso
  have:(evF (CZ σ) fnT.get JS 1000 60 cM [.lit (.pointer none),z16] Hp.empty).isSome=true:=by kernel_rfl
  rw [he] at this; cases this
 | some p =>
  obtain ⟨r,H'⟩:=p
  have hg:=zZ (CZ σ) vt JT uD 1000 60 cM [.lit (.pointer none),z16] Hp.empty r H' he
  have hr:(evF (CZ σ) fnT.get JS 1000 60 cM [.lit (.pointer none),z16] Hp.empty).map (·.1)=some (.agg (ko.map I)):=by kernel_rfl
  rw [he] at hr
  cases hr
  exact hg.frzR rfl (.refl rfl) H
end Go.Proofs.YtegioimlblnajaaGreat.Ev
namespace Go.Proofs.YtegioimlblnajaaGreat.Ev
set_option linter.unusedVariables false
set_option linter.unusedSimpArgs false
structure Oq where
 x:Int
 t:Int
 b:Int
 ok:Bool
 g:Nat
structure Al (s:S) (w:Nat) (pl:List Int) (T B:Int) (q:Option Oq):Prop where
 pl:s.pl=pl
 top:s.top=T
 bot:s.bot=B
 no:∀ v,v≠w→s.op v=none
 op:match q with
  | none=>s.op w=none
  | some q=>∃ id,s.op w=some ⟨id,q.x,q.t,q.b,q.ok,.fn q.g []⟩
theorem Al.other {s:S} {w w':Nat} {pl:List Int} {T B:Int} (h:Al s w pl T B none):Al s w' pl T B none :=
 have ha:∀ v,s.op v=none:=fun v=>by
  by_cases e:v=w
  ·subst e; exact h.op
  ·exact h.no v e
 ⟨h.pl,h.top,h.bot,fun v _=>ha v,ha w'⟩
theorem Al.beg {s:S} {kind who:Nat} {pl:List Int} {T B:Int} {x:Int} (h:Al s (dby kind who) pl T B none) (hh:Nat):Al (gN s (dby kind who) (dfn kind) x hh) (dby kind who) pl T B (some ⟨x,0,0,false,dfn kind⟩):=by
 have:s.op (dby kind who)=none:=h.op
 unfold gN
 rw [if_neg (by rw [this]; simp)]
 exact ⟨h.pl,h.top,h.bot,fun v hv=>by simp only [put,gp _ _ hv]; exact h.no v hv,hh,by simp only [put,cv]⟩
theorem Al.on {s:S} {kind who:Nat} {pl:List Int} {T B:Int} {q:Oq} {x:Int} (h:Al s (dby kind who) pl T B (some q)) (hh:Nat):gN s (dby kind who) (dfn kind) x hh=s:=by
 obtain ⟨id,ho⟩:=h.op
 unfold gN
 rw [if_pos (by rw [ho]; rfl)]
section
variable {s:S} {w:Nat} {pl:List Int} {T B:Int} {q:Oq}
theorem Al.fn {g:Nat} {s1:S} {o1:O} {pl':List Int} {T' B':Int} {q':Oq} (h:Al s w pl T B (some q)) (hd:∀ id,dph s w ⟨id,q.x,q.t,q.b,q.ok,.fn q.g []⟩ q.g=(s1,{ o1 with id:=id },some g)) (e1:s1.op=s.op) (e2:s1.pl=pl') (e3:s1.top=T') (e4:s1.bot=B') (e5:q'=⟨o1.x,o1.t,o1.b,o1.ok,g⟩) :
  Al (aP s w).1 w pl' T' B' (some q')∧(aP s w).2=(false,0,false):=by
 obtain ⟨id,ho⟩:=h.op
 rw [oJ ho rfl (hd id)]
 subst e5
 exact ⟨⟨e2,e3,e4,fun v hv=>by simp only [put,gp _ _ hv,e1]; exact h.no v hv,id,by simp only [put,cv]⟩,rfl⟩
theorem Al.nil {s1:S} {o1:O} {pl':List Int} {T' B' x:Int} {ok:Bool} (h:Al s w pl T B (some q)) (hd:∀ id,dph s w ⟨id,q.x,q.t,q.b,q.ok,.fn q.g []⟩ q.g=(s1,{ o1 with id:=id },none)) (e2:s1.pl=pl') (e3:s1.top=T') (e4:s1.bot=B') (e5:ok=o1.ok) (e6:x=if o1.ok=true then o1.x else 0) :
  Al (aP s w).1 w pl' T' B' none∧(aP s w).2=(true,x,ok):=by
 obtain ⟨id,ho⟩:=h.op
 rw [nn ho rfl (hd id)]
 subst e5 e6
 exact ⟨⟨e2,e3,e4,fun v hv=>by simp only [gp _ _ hv]; exact h.no v hv,by simp only [cv]⟩,rfl⟩
variable {x t b:Int} {ok:Bool}
theorem vO (h:Al s w pl T B (some ⟨x,t,b,ok,bD⟩)):Al (aP s w).1 w pl T B (some ⟨x,t,B - 1,ok,ct⟩)∧(aP s w).2=(false,0,false) :=
 h.fn (o1:=⟨0,x,t,s.bot - 1,ok,.fn bD []⟩) (fun id=>rfl) rfl h.pl h.top h.bot (by rw [h.bot])
theorem u9 (h:Al s w pl T B (some ⟨x,t,b,ok,ct⟩)):Al (aP s w).1 w pl T b (some ⟨x,t,b,ok,bn⟩)∧(aP s w).2=(false,0,false) :=
 h.fn (s1:={ acc s w (-1001) true with bot:=b }) (o1:=⟨0,x,t,b,ok,.fn ct []⟩) (fun id=>rfl) rfl h.pl h.top rfl rfl
theorem xO (h:Al s w pl T B (some ⟨x,t,b,ok,bn⟩)) (hb:b<T):Al (aP s w).1 w pl T B (some ⟨x,T,b,ok,aL⟩)∧(aP s w).2=(false,0,false) :=
 h.fn (o1:=⟨0,x,s.top,b,ok,.fn bn []⟩) (fun id=>EW (by rw [h.top]; exact hb)) rfl h.pl h.top h.bot (by rw [h.top])
theorem J6 (h:Al s w pl T B (some ⟨x,t,b,ok,bn⟩)) (hb:¬ b<T):Al (aP s w).1 w pl T B (some ⟨x,T,b,ok,bq⟩)∧(aP s w).2=(false,0,false) :=
 h.fn (o1:=⟨0,x,s.top,b,ok,.fn bn []⟩) (fun id=>EF (by rw [h.top]; exact hb)) rfl h.pl h.top h.bot (by rw [h.top])
theorem Kk (h:Al s w pl T B (some ⟨x,t,b,ok,bq⟩)) (hb:¬ t<b):Al (aP s w).1 w pl T B (some ⟨pv pl b,t,b,ok,bx⟩)∧(aP s w).2=(false,0,false) :=
 h.fn (s1:=acc s w (-1002 - atI s b) false) (o1:=⟨0,s.pl.getD (b.tmod s.pl.length).toNat 0,t,b,ok,.fn bq []⟩) (fun id=>zF hb) rfl h.pl h.top h.bot (by rw [h.pl]; rfl)
theorem KY (h:Al s w pl T B (some ⟨x,T,b,ok,bx⟩)):Al (aP s w).1 w pl (T+1) B (some ⟨x,T,b,true,aL⟩)∧(aP s w).2=(false,0,false) :=
 h.fn (s1:={ acc s w (-1000) true with top:=T+1 }) (o1:=⟨0,x,T,b,true,.fn bx []⟩) (fun id=>ML h.top) rfl h.pl rfl h.bot rfl
theorem sv (h:Al s w pl T B (some ⟨x,t,b,ok,aL⟩)):Al (aP s w).1 w pl T (b+1) none∧(aP s w).2=(true,if ok=true then x else 0,ok) :=
 h.nil (s1:={ acc s w (-1001) true with bot:=b+1 }) (o1:=⟨0,x,t,b,ok,.fn aL []⟩) (fun id=>rfl) h.pl h.top rfl rfl rfl
theorem wA (h:Al s w pl T B (some ⟨x,t,b,ok,aY⟩)):Al (aP s w).1 w pl T B (some ⟨x,T,b,ok,bu⟩)∧(aP s w).2=(false,0,false) :=
 h.fn (o1:=⟨0,x,s.top,b,ok,.fn aY []⟩) (fun id=>rfl) rfl h.pl h.top h.bot (by rw [h.top])
theorem ww (h:Al s w pl T B (some ⟨x,t,b,ok,bu⟩)) (hb:¬ B≤t):Al (aP s w).1 w pl T B (some ⟨x,t,B,ok,br⟩)∧(aP s w).2=(false,0,false) :=
 h.fn (o1:=⟨0,x,t,s.bot,ok,.fn bu []⟩) (fun id=>GE (by rw [h.bot]; exact hb)) rfl h.pl h.top h.bot (by rw [h.bot])
theorem wS (h:Al s w pl T B (some ⟨x,t,b,ok,br⟩)):Al (aP s w).1 w pl T B (some ⟨pv pl t,t,b,ok,bi⟩)∧(aP s w).2=(false,0,false) :=
 h.fn (s1:=acc s w (-1002 - atI s t) false) (o1:=⟨0,s.pl.getD (t.tmod s.pl.length).toNat 0,t,b,ok,.fn br []⟩) (fun id=>rfl) rfl h.pl h.top h.bot (by rw [h.pl]; rfl)
theorem w6 (h:Al s w pl T B (some ⟨x,T,b,ok,bi⟩)):Al (aP s w).1 w pl (T+1) B none∧(aP s w).2=(true,x,true) :=
 h.nil (s1:={ acc s w (-1000) true with top:=T+1 }) (o1:=⟨0,x,T,b,true,.fn bi []⟩) (fun id=>MI h.top) h.pl rfl h.bot rfl rfl
end
end Go.Proofs.YtegioimlblnajaaGreat.Ev
namespace Go.Proofs.YtegioimlblnajaaGreat.Ev
set_option linter.unusedVariables false
set_option linter.unusedSimpArgs false
variable {σ:Sig} {P:Pm} {rl sl:AV} {G:MG} {M M':MS} {H H':Hp} {tg tg':Nat→Tg} {K:AV→Hp→Prop}
def EO (M:MS) (e:Int):List Int × Int:=if r_ M e=true then (lz M (ofI M e),if 0<cnt M (ofI M e) then 0 else 6) else (z8,6)
theorem wg (h:Ok P rl sl G M H tg) (hl:M.of.length=M.pub.length) (e:Int) (hK:∀ H' tg',Fx (fun _=>False) H tg H' tg'→K (.tup [.agg ((EO M e).1.map I),I (EO M e).2]) H'):ai Tryz.prog σ dK [.ptr G.m 0,I e] H K:=by
 refine fV.run ?_
 rw [cP]
 have f0:Fx (fun _=>False) H tg (H.new (.cells [I 0,I 0,I 0,I 0,I 0,I 0,I 0,I 0] true)) (up tg H.n .fr):=.new _ _
 have g0:(H.new (.cells [I 0,I 0,I 0,I 0,I 0,I 0,I 0,I 0] true)).get H.n=some (.cells [I 0,I 0,I 0,I 0,I 0,I 0,I 0,I 0] true):=by simp
 have l0:H.n<(H.new (.cells [I 0,I 0,I 0,I 0,I 0,I 0,I 0,I 0] true)).n:=by simp
 have h0:=h.keep f0
 generalize H.new (.cells [I 0,I 0,I 0,I 0,I 0,I 0,I 0,I 0] true)=H0 at f0 h0 g0 l0 ⊢
 have hfr:up tg H.n .fr H.n=Tg.fr:=by simp
 generalize up tg H.n .fr=tg0 at f0 h0 hfr
 have fin:∀ (s:List Int) (x:Int) (H1:Hp) (tg1:Nat→Tg),s.length=8→Fx (fun _=>False) H0 tg0 H1 tg1→K (.tup [.agg (s.map I),I x]) (H1.set H.n (some (.cells (s.map I) true)))→bnd (stA 8 H1 (.ptr H.n 0) (.agg (s.map I))) fun H20=>bnd (ldA true 8 H20 (.ptr H.n 0)) fun r21=>K (.tup [r21,I x]) H20:=by
  intro s x H1 tg1 h8 f1 hk
  have g1:H1.get H.n=some (.cells [I 0,I 0,I 0,I 0,I 0,I 0,I 0,I 0] true):=by rw [f1.get _ l0 fun h=>h]; exact g0
  have e1:stA 8 H1 (.ptr H.n 0) (.agg (s.map I))=some (H1.set H.n (some (.cells (s.map I) true))):=by
   rw [uU,if_pos (by simpa using h8),g1,kY,if_pos ⟨by simp [h8],by rw [List.all_map]; exact List.all_eq_true.2 fun _ _=>rfl⟩,b9 (by simp [h8])]
  refine aa e1 (aa (x:=.agg (s.map I)) ?_ hk)
  rw [b_,cb,if_pos rfl,jB,List.drop_zero]
  exact eu (by simpa using h8)
 have fend:∀ (b:Option Blk) (H1:Hp) (tg1:Nat→Tg),Fx (fun _=>False) H0 tg0 H1 tg1→Fx (fun _=>False) H tg (H1.set H.n b) tg1:=fun b H1 tg1 f1=>by
  have f01:=f0.trans f1
  refine ⟨f01.n,f01.old,fun j hj hn=>?_⟩
  rw [cb,if_neg (by omega)]
  exact f01.get j hj hn
 refine Aq h0 e ?_
 rw [fF,ae,ah]
 unfold EO at hK
 cases hp:r_ M e with
 | false =>
  rw [if_pos (show (!false)=true from rfl)]
  simp only [hp,Bool.false_eq_true,if_false] at hK
  refine aa (x:=z8.map I) rfl ?_
  exact fin z8 6 H0 tg0 rfl .refl (hK _ _ (fend _ _ _ .refl))
 | true =>
  rw [if_neg (show ¬ (!true)=true by decide)]
  simp only [hp,if_true] at hK
  unfold r_ at hp
  simp only [Bool.and_eq_true,decide_eq_true_eq] at hp
  obtain ⟨n,rfl⟩:∃ k:Nat,e=k:=⟨e.toNat,by omega⟩
  obtain ⟨of,id,off,e1,_,e2,e3,_⟩:=mf h0 (e:=n) (by omega)
  refine aa rfl (aa rfl (aa rfl (aa rfl (aa e1 (aa e2 (aa e3 ?_))))))
  refine vJ h0 _ fun H1 tg1 f1=>?_
  refine aa rfl (aa rfl ?_)
  exact fin _ _ H1 tg1 (qC h _) f1 (hK _ _ (fend _ _ _ f1))
theorem Ow.none' {T B E:Int} {pl:List Int} {pu fl:Option Int} (h:Ow T B pl pu E fl none):pu=none∧E=B∧fl=none:=by cases h; exact ⟨rfl,rfl,rfl⟩
theorem FN {c:Int} {s:S} {E:Int} {L:List Int} (h:Iv c s E L none none) (no:∀ w,s.op w=none) (w:Nat):Al s w s.pl s.top (s.top+L.length) none:=by
 have how:=h.ow
 rw [no 0] at how
 have hb:s.bot=s.top+L.length:=by
  have:=h.lL
  have:=how.none'.2.1
  omega
 exact ⟨rfl,rfl,hb,fun v _=>no v,no w⟩
theorem Mu {c:Int} {s:S} {E v:Int} {L:List Int} {pu fl:Option Int} (h:Iv c s E (v::L) fl pu):pv s.pl s.top=v:=by
 have:=h.lv 0 (by simp)
 simpa using this
theorem uJ {s:S} {kind who:Nat} {pl:List Int} {T B x:Int} {q:Option Oq} (h:Al s (dby kind who) pl T B q) (hp:pl.length=16) (hT:0≤T∧T≤100000) (hB:-1≤B∧B≤100000) (hg:∀ o,q=some o→o.g ∈ phs∧sm o.b∧(o.g ∈ phZ→0≤o.b)∧(o.g ∈ phT→0≤o.t)):DOk s kind who x:=by
 intro hh
 have key:∀ (s':S) (o:Oq),Al s' (dby kind who) pl T B (some o)→(o.g ∈ phs∧sm o.b∧(o.g ∈ phZ→0≤o.b)∧(o.g ∈ phT→0≤o.t))→∃ o g,s'.op (dby kind who)=some o∧Sf s' o g:=by
  intro s' o ha hgo
  obtain ⟨id,ho⟩:=ha.op
  refine ⟨_,o.g,ho,rfl,hgo.1,by rw [ha.pl]; omega,by rw [ha.pl]; omega,by rw [ha.top]; unfold sm; omega,by rw [ha.bot]; unfold sm; omega,fun _=>hgo.2.1,hgo.2.2.1,hgo.2.2.2⟩
 have hl:s.pl.length≤1000:=by rw [h.pl]; omega
 cases q with
 | none =>
  obtain ⟨o,g,h1,h2⟩:=key _ _ (h.beg (x:=x) hh) (by
   have:dfn kind=aY∨dfn kind=bD∨dfn kind=aO:=by
    unfold dfn; split
    ·exact .inl rfl
    ·split
     ·exact .inr (.inl rfl)
     ·exact .inr (.inr rfl)
   show dfn kind ∈ phs∧sm 0∧(dfn kind ∈ phZ→(0:Int)≤0)∧(dfn kind ∈ phT→(0:Int)≤0)
   refine ⟨?_,by unfold sm; omega,fun _=>Int.le_refl _,fun _=>Int.le_refl _⟩
   rcases this with h | h | h<;>rw [h]<;>decide)
  exact ⟨o,g,h1,h2,hl⟩
 | some o =>
  obtain ⟨o',g,h1,h2⟩:=key s o h (hg o rfl)
  exact ⟨o',g,by rw [h.on]; exact h1,by rw [h.on]; exact h2,hl⟩
end Go.Proofs.YtegioimlblnajaaGreat.Ev
namespace Go.Proofs.YtegioimlblnajaaGreat.Ev
set_option linter.unusedVariables false
set_option linter.unusedSimpArgs false
variable {P:Pm} {M:MS} {who v:Nat} {h:Nat} {x:Int}
def gD (M:MS) (who owner kind:Nat) (x:Int) (h:Nat):MS:=(mdq M who owner kind x h).1
theorem cI (M:MS) (who owner kind:Nat) (x:Int) (h:Nat) (i:Nat):(gD M who owner kind x h).ws i=if i=owner then { M.ws owner with dq:=(dnx (M.ws owner).dq kind who x h).1 } else M.ws i:=rfl
theorem sa (hr:(dnx (M.ws who).dq 2 who 0 h).2=(false,0,false)):mQ P M who h=gD M who who 2 0 h:=by
 have:(mdq M who who 2 0 h).2=(false,0,false):=hr
 unfold mQ
 simp only [this]
 rfl
theorem ri (hr:(dnx (M.ws who).dq 2 who 0 h).2=(true,0,false)):mQ P M who h=(gD M who who 2 0 h).w who fun w=>{ w with mode:=1 }:=by
 have:(mdq M who who 2 0 h).2=(true,0,false):=hr
 unfold mQ
 simp only [this]
 rfl
theorem xb (hr:(dnx (M.ws who).dq 2 who 0 h).2=(true,x,true)):mQ P M who h=(gD M who who 2 0 h).begin who x:=by
 have:(mdq M who who 2 0 h).2=(true,x,true):=hr
 unfold mQ
 simp only [this]
 rfl
theorem sT (hr:(dnx (M.ws v).dq 3 who 0 h).2=(false,0,false)):g8 M who v h=gD M who v 3 0 h:=by
 have:(mdq M who v 3 0 h).2=(false,0,false):=hr
 unfold g8
 simp only [this]
 rfl
theorem u6 (hr:(dnx (M.ws v).dq 3 who 0 h).2=(true,0,false)):g8 M who v h=(gD M who v 3 0 h).w who fun w=>{ w with victim:=-1,mode:=0 }:=by
 have:(mdq M who v 3 0 h).2=(true,0,false):=hr
 unfold g8
 simp only [this]
 rfl
theorem ut (hr:(dnx (M.ws v).dq 3 who 0 h).2=(true,x,true)):g8 M who v h=((gD M who v 3 0 h).w who fun w=>{ w with victim:=-1,mode:=0 }).begin who x:=by
 have:(mdq M who v 3 0 h).2=(true,x,true):=hr
 unfold g8
 simp only [this]
 rfl
structure Sme (M M':MS):Prop where
 left:M'.left=M.left
 of:M'.of=M.of
 pub:M'.pub=M.pub
 st:M'.st=M.st
theorem Sme.refl (M:MS):Sme M M:=⟨rfl,rfl,rfl,rfl⟩
theorem Sme.trans {M M' M'':MS} (h:Sme M M') (h':Sme M' M''):Sme M M'':=⟨h'.1.trans h.1,h'.2.trans h.2,h'.3.trans h.3,h'.4.trans h.4⟩
end Go.Proofs.YtegioimlblnajaaGreat.Ev
namespace Go.Proofs.YtegioimlblnajaaGreat.Ev
set_option linter.unusedVariables false
set_option linter.unusedSimpArgs false
set_option maxRecDepth 100000
variable {σ:Sig}
def alL:List Nd:=[⟨-1,⟨#[97]⟩,⟨#[]⟩,[],[]⟩]
theorem alB:dj alL alL.length [0]:=dj.first (by decide) rfl
theorem alW:∀ n ∈ alL,kI n:=by
 intro n hn
 rw [List.mem_singleton.1 hn]
 exact ⟨by unfold i64; decide,by decide,by decide,by decide,by intro p hp; cases hp⟩
def pN (W:Nat) (L:List Nd) (d:List Nat):Pm:=⟨W,L,d,fun _ _=>false,fun _ _=>ko⟩
theorem vK {W:Nat} {L:List Nd} {d:List Nat} {e:Nat} (hp:par L e<0):tu σ (pN W L d) fX e :=
 ⟨z16,fun H=>sX L d e H,rfl,fun _ H=>O1 H,fun h=>absurd hp (by show ¬ par L e<0; have:0≤par L e:=h; omega)⟩
theorem enN {W:Nat} {L:List Nd} {d:List Nat} (hW:W≤64) (hT:oM L d):En (pN W L d):=⟨fun _ _=>rfl,by have:=hT.len; show L.length≤4096; omega,hW,hT.hB⟩
structure A0 (M:MS) (mode:Nat) (q:Option Oq) (pl:List Int) (T B:Int):Prop where
 left:M.left=1
 of:M.of=[-1]
 pub:M.pub=[false]
 st:M.st=[]
 mode:(M.ws 0).mode=mode
 stk:(M.ws 0).stk=[]
 ca:(M.ws 0).ca=[]
 dq:Al (M.ws 0).dq 0 pl T B q
theorem A0.step {M:MS} {q q':Option Oq} {pl pl':List Int} {T B T' B':Int} (h:A0 M 0 q pl T B) (hh:Nat) (hs:Al (dnx (M.ws 0).dq 2 0 0 hh).1 0 pl' T' B' q'∧(dnx (M.ws 0).dq 2 0 0 hh).2=(false,0,false)):A0 (bv (pN 1 alL [0]) M 0 0 hh) 0 q' pl' T' B':=by
 have e:bv (pN 1 alL [0]) M 0 0 hh=gD { M with last:=[] } 0 0 2 0 hh:=by
  unfold bv
  rw [if_pos h.mode]
  exact sa hs.2
 rw [e]
 have ew:(gD { M with last:=[] } 0 0 2 0 hh).ws 0={ M.ws 0 with dq:=(dnx (M.ws 0).dq 2 0 0 hh).1 }:=by rw [cI,if_pos rfl]
 exact ⟨h.left,h.of,h.pub,h.st,by rw [ew]; exact h.mode,by rw [ew]; exact h.stk,by rw [ew]; exact h.ca,by rw [ew]; exact hs.1⟩
section
attribute [local irreducible] bC.L0
variable {G:MG} {M:MS} {H:Hp} {tg:Nat→Tg} {K:AV→Hp→Prop}
theorem alE:En (pN 1 alL [0]):=⟨fun _ _=>rfl,by decide,by decide,alB⟩
theorem tE {i:Nat} (hi:i<9) (h:Ok (pN 1 alL [0]) fX fX G M H tg) (S:Sp (pN 1 alL [0]) M 0 0) (T:(M.ws 0).mode=2→(M.ws 0).ca=[]) (hl:M.left≠0) (hM:∀ hh,(bv (pN 1 alL [0]) M 0 0 hh).left=if i=8 then 0 else 1)
  (hn:∀ hh H' tg',Ok (pN 1 alL [0]) fX fX G (bv (pN 1 alL [0]) M 0 0 hh) H' tg'→bC.L0 σ K (.ptr G.m 0) (I ((i+1:Nat):Int)) H'):bC.L0 σ K (.ptr G.m 0) (I (i:Int)) H:=by
 refine bC.L0_step ?_
 rw [cS,ae,ah,if_pos (by simp; omega)]
 refine aa (x:=[I 0,I 0]) rfl ?_
 refine rX (a:=0) (b:=0) alE h (fun _ _ _=>S) (fun a0' aW' e m2 he hel=>?_) fun hh H1 tg1 h1 f1=>?_
 ·have m2:(M.ws 0).mode=2:=m2
  have e0:e=0:=by have:e<1:=hel; omega
  subst e0
  refine ⟨fun c hc=>?_,vK (by decide)⟩
  have hc:(c:Int) ∈ dV (M.ws 0).ca:=hc
  rw [T m2] at hc
  simp [dV] at hc
 ·have es:jz (pN 1 alL [0]) M 0 0 hh=(bv (pN 1 alL [0]) M 0 0 hh,true):=by
   unfold jz
   rw [if_neg]
   ·rfl
   ·rintro (h | h | h)
    ·exact hl h
    ·omega
    ·have:((1:Nat):Int)≤0:=h; omega
  rw [es] at h1 ⊢
  rw [fF,ae,ah,if_neg (show ¬ (!true)=true by decide)]
  refine Lx h1 ?_
  rw [hM hh,gn,ae]
  have ed:(decide ((if i=8 then (0:Int) else 1)=0))=decide ((i:Int)=8):=by
   by_cases e:i=8
   ·subst e; rfl
   ·rw [if_neg e]
    have:¬ (i:Int)=8:=by omega
    simp [this]
  rw [ed,Kx,ae,ah,if_neg (by simp),fJ,ae,iC (by omega)]
  exact hn hh H1 tg1 h1
theorem Hl {q:Option Oq} {pl:List Int} {T B:Int} (h:A0 M 0 q pl T B) (hp:pl.length=16) (hT:0≤T∧T≤100000) (hB:-1≤B∧B≤100000) (hg:∀ o,q=some o→o.g ∈ phs∧sm o.b∧(o.g ∈ phZ→0≤o.b)∧(o.g ∈ phT→0≤o.t)):Sp (pN 1 alL [0]) M 0 0 :=
 ⟨by rw [h.mode]; decide,fun _=>uJ (kind:=2) (who:=0) h.dq hp hT hB hg,(fun e=>by rw [h.mode] at e; cases e),(fun e=>by rw [h.mode] at e; cases e),(fun e=>by rw [h.mode] at e; cases e),(fun e=>by rw [h.mode] at e; cases e)⟩
theorem gk {x t b:Int} {ok:Bool} {g:Nat} {o:Oq} (e:some (⟨x,t,b,ok,g⟩:Oq)=some o) (h1:g ∈ phs) (h2:sm b) (h3:g ∈ phZ→0≤b) (h4:g ∈ phT→0≤t):o.g ∈ phs∧sm o.b∧(o.g ∈ phZ→0≤o.b)∧(o.g ∈ phT→0≤o.t):=by cases e; exact ⟨h1,h2,h3,h4⟩
theorem tS {i:Nat} (hi:i<8) {q q':Option Oq} {pl pl':List Int} {T B T' B':Int} (h:Ok (pN 1 alL [0]) fX fX G M H tg) (a:A0 M 0 q pl T B) (hp:pl.length=16) (hT:0≤T∧T≤100000) (hB:-1≤B∧B≤100000) (hg:∀ o,q=some o→o.g ∈ phs∧sm o.b∧(o.g ∈ phZ→0≤o.b)∧(o.g ∈ phT→0≤o.t))
  (hs:∀ hh,Al (dnx (M.ws 0).dq 2 0 0 hh).1 0 pl' T' B' q'∧(dnx (M.ws 0).dq 2 0 0 hh).2=(false,0,false)) (hn:∀ M' H' tg',Ok (pN 1 alL [0]) fX fX G M' H' tg'→A0 M' 0 q' pl' T' B'→bC.L0 σ K (.ptr G.m 0) (I ((i+1:Nat):Int)) H'):bC.L0 σ K (.ptr G.m 0) (I (i:Int)) H :=
 tE (by omega) h (Hl a hp hT hB hg) (fun e=>by rw [a.mode] at e; cases e) (by rw [a.left]; decide) (fun hh=>by rw [if_neg (by omega)]; exact (a.step hh (hs hh)).left) fun hh H' tg' h'=>hn _ H' tg' h' (a.step hh (hs hh))
theorem nz {s:S} {pl:List Int} {T B:Int} {q:Oq} (h:Al s 0 pl T B (some q)) (hh:Nat):dnx s 2 0 0 hh=aP s 0:=by
 have:gN s 0 bD 0 hh=s:=h.on (kind:=2) (who:=0) hh
 show aP (gN s 0 bD 0 hh) 0=_
 rw [this]
theorem kQ {x:Int} (h:-1≤x∧x≤100000):sm x:=by unfold sm; omega
theorem NV {pl:List Int} {T:Int} (h:Ok (pN 1 alL [0]) fX fX G M H tg) (a:A0 M 0 none pl T (T+1)) (hp:pl.length=16) (hT:0≤T∧T≤1000) (hv:pv pl T=0)
  (hn:∀ M' H' tg',Ok (pN 1 alL [0]) fX fX G M' H' tg'→A0 M' 2 none pl (T+1) (T+1)→(M'.ws 0).e=0→bC.L0 σ K (.ptr G.m 0) (I 6) H'):bC.L0 σ K (.ptr G.m 0) (I 0) H:=by
 refine tS (i:=0) (by decide) h a hp (by omega) (by omega) (fun o ho=>by cases ho) (fun hh=>vO (a.dq.beg (kind:=2) (who:=0) (x:=0) hh)) fun M1 H1 tg1 h1 a1=>?_
 rw [show T+1 - 1=T by omega] at a1
 refine tS (i:=1) (by decide) h1 a1 hp (by omega) (by omega) (fun o ho=>gk ho (by decide) (kQ (by omega)) (fun h=>absurd h (by decide)) fun h=>absurd h (by decide)) (fun hh=>by rw [nz a1.dq]; exact u9 a1.dq) fun M2 H2 tg2 h2 a2=>?_
 refine tS (i:=2) (by decide) h2 a2 hp (by omega) (by omega) (fun o ho=>gk ho (by decide) (kQ (by omega)) (fun h=>absurd h (by decide)) fun h=>absurd h (by decide)) (fun hh=>by rw [nz a2.dq]; exact J6 a2.dq (by omega)) fun M3 H3 tg3 h3 a3=>?_
 refine tS (i:=3) (by decide) h3 a3 hp (by omega) (by omega) (fun o ho=>gk ho (by decide) (kQ (by omega)) (fun _=>by omega) fun h=>absurd h (by decide)) (fun hh=>by rw [nz a3.dq]; exact Kk a3.dq (by omega)) fun M4 H4 tg4 h4 a4=>?_
 refine tS (i:=4) (by decide) h4 a4 hp (by omega) (by omega) (fun o ho=>gk ho (by decide) (kQ (by omega)) (fun h=>absurd h (by decide)) fun h=>absurd h (by decide)) (fun hh=>by rw [nz a4.dq]; exact KY a4.dq) fun M5 H5 tg5 h5 a5=>?_
 have e6:∀ hh,bv (pN 1 alL [0]) M5 0 0 hh=(gD { M5 with last:=[] } 0 0 2 0 hh).begin 0 0:=fun hh=>by
  unfold bv
  rw [if_pos a5.mode]
  refine xb ?_
  show (dnx (M5.ws 0).dq 2 0 0 hh).2=(true,0,true)
  rw [nz a5.dq,(sv a5.dq).2,if_pos rfl,hv]
 have a6:∀ hh,A0 (bv (pN 1 alL [0]) M5 0 0 hh) 2 none pl (T+1) (T+1)∧((bv (pN 1 alL [0]) M5 0 0 hh).ws 0).e=0:=fun hh=>by
  rw [e6 hh]
  have ew:((gD { M5 with last:=[] } 0 0 2 0 hh).begin 0 0).ws 0={ M5.ws 0 with dq:=(dnx (M5.ws 0).dq 2 0 0 hh).1,e:=0,mode:=2 }:=by
   unfold MS.begin MS.w
   simp only [az,cI,if_true]
  exact ⟨⟨a5.left,a5.of,a5.pub,a5.st,by rw [ew],by rw [ew]; exact a5.stk,by rw [ew]; exact a5.ca,by rw [ew]; show Al (dnx (M5.ws 0).dq 2 0 0 hh).1 0 pl (T+1) (T+1) none; rw [nz a5.dq]; exact (sv a5.dq).1⟩,by rw [ew]⟩
 exact tE (i:=5) (by decide) h5 (Hl a5 hp (by omega) (by omega) (fun o ho=>gk ho (by decide) (kQ (by omega)) (fun h=>absurd h (by decide)) fun h=>absurd h (by decide))) (fun e=>by rw [a5.mode] at e; cases e) (by rw [a5.left]; decide) (fun hh=>by rw [if_neg (by decide)]; exact (a6 hh).1.left) fun hh H' tg' h'=>hn _ H' tg' h' (a6 hh).1 (a6 hh).2
structure A7 (M:MS) (mode:Nat) (pub:Bool) (left:Int):Prop where
 left:M.left=left
 of:M.of=[0]
 pub:M.pub=[pub]
 st:M.st=[(ko,1)]
 mode:(M.ws 0).mode=mode
 ee:(M.ws 0).e=0
 stk:(M.ws 0).stk=[]
theorem oU (H:Hp):aq Tryz.prog σ hI [] H (Bo true) H:=by
 refine dh (fun K hK=>bC.run ?_) rfl rfl H
 refine aa rfl (aa rfl ?_)
 refine aD (aq.drop (fun H=>qY alB alW (by decide) H) (.cons (vo PH _ _ (by kernel_rfl)) .nil)) ?_
 simp only [QF,List.getElem?_cons_zero,List.getElem?_cons_succ,ae]
 refine Gt (P:=pN 1 alL [0]) (rl:=fX) (sl:=fX) ⟨by decide,by decide⟩ (by decide) pK tw ⟨rfl,rfl,rfl⟩ ⟨rfl,rfl,rfl⟩ fun G M0 H0 tg0 h0 i0 _ _ _=>?_
 refine aa rfl (aa rfl (uC ?_))
 rw [Mt,ae,ah,if_neg (by decide)]
 refine aa rfl ?_
 rw [ah,if_neg (by decide)]
 obtain ⟨⟨E,iv⟩,no⟩:=i0.dq 0 (by decide)
 have iv:Iv 100 (M0.ws 0).dq E [0] none none:=iv
 obtain ⟨w1,w2,w3,w4⟩:=i0.ws 0 (by decide)
 have hl:=iv.hl
 have ht:=iv.t0
 have hlL:=iv.lL
 have hen:=iv.en
 simp only [List.length_singleton] at hlL
 refine NV h0 ⟨i0.left,i0.of,i0.pub,i0.st,w1,w3,w4,FN iv no 0⟩ hl (by omega) (Mu iv) fun M6 H6 tg6 h6 a6 e6=>?_
 have m7:∀ hh,A7 (bv (pN 1 alL [0]) M6 0 0 hh) 3 false 1:=fun hh=>by
  have e:bv (pN 1 alL [0]) M6 0 0 hh=jL (pN 1 alL [0]) { M6 with last:=[] } 0:=by
   unfold bv
   rw [if_neg (by show ¬ (M6.ws 0).mode=0; rw [a6.mode]; decide),if_neg (by show ¬ (M6.ws 0).mode=1; rw [a6.mode]; decide),if_pos a6.mode]
  rw [e]
  have et:qA (pN 1 alL [0]) (M6.ws 0)=none:=by unfold qA; rw [a6.ca]; rfl
  have ep:sr (pN 1 alL [0]) (M6.ws 0).e=-1:=by rw [e6]; rfl
  have em:rm (pN 1 alL [0]) { M6 with last:=[] } 0={ M6 with last:=[] }:=by unfold rm; rw [if_neg (by show ¬ 0≤sr (pN 1 alL [0]) (M6.ws 0).e; rw [ep]; decide)]
  have es:jL (pN 1 alL [0]) { M6 with last:=[] } 0=((kj (pN 1 alL [0]) { M6 with last:=[] } 0).did ⟨0,3*(M6.ws 0).e,true,false⟩).w 0 fun w=>{ w with mode:=3 }:=by
   unfold jL
   rw [em]
   simp only [et]
   rfl
  rw [es]
  refine ⟨a6.left,?_,a6.pub,?_,by simp [MS.w],?_,?_⟩
  ·show M6.of.set (M6.ws 0).e.toNat (M6.st.length:Int)=[0]
   rw [a6.of,a6.st,e6]; rfl
  ·show M6.st++[(ko,1)]=_
   rw [a6.st]; rfl
  ·simp only [MS.w,MS.did,kj,az]; exact e6
  ·simp only [MS.w,MS.did,kj,az]; exact a6.stk
 refine tE (i:=6) (by decide) h6 ⟨by rw [a6.mode]; decide,(fun e=>by rw [a6.mode] at e; cases e),(fun e=>by rw [a6.mode] at e; cases e),fun _=>⟨0,Nat.zero_le _,⟨by show M6.st.length≤_; rw [a6.st]; decide,fun p hp=>by have hp:p ∈ M6.st:=hp; rw [a6.st] at hp; cases hp⟩,⟨by show M6.of.length=_; rw [a6.of]; rfl,fun x hx=>by have hx:x ∈ M6.of:=hx; rw [a6.of] at hx; rw [List.mem_singleton.1 hx]; decide⟩,e6,by decide,⟨by show (M6.ws 0).ca.length≤8; rw [a6.ca]; decide,fun p hp=>by have hp:p ∈ (M6.ws 0).ca:=hp; rw [a6.ca] at hp; cases hp⟩⟩,(fun e=>by rw [a6.mode] at e; cases e),(fun e=>by rw [a6.mode] at e; cases e)⟩ (fun _=>a6.ca) (by rw [a6.left]; decide) (fun hh=>by rw [if_neg (by decide)]; exact (m7 hh).left) fun hh H7 tg7 h7=>?_
 have a7:=m7 hh
 generalize bv (pN 1 alL [0]) M6 0 0 hh=M7 at h7 a7
 have m8:∀ hh,A7 (bv (pN 1 alL [0]) M7 0 0 hh) 4 true 1∧((bv (pN 1 alL [0]) M7 0 0 hh).ws 0).child=0:=fun hh=>by
  have e:bv (pN 1 alL [0]) M7 0 0 hh=og { M7 with last:=[] } 0:=by
   unfold bv
   rw [if_neg (by show ¬ (M7.ws 0).mode=0; rw [a7.mode]; decide),if_neg (by show ¬ (M7.ws 0).mode=1; rw [a7.mode]; decide),if_neg (by show ¬ (M7.ws 0).mode=2; rw [a7.mode]; decide),if_pos a7.mode]
  rw [e]
  refine ⟨⟨a7.left,a7.of,?_,a7.st,by simp [og,MS.w],by simp only [og,MS.w,MS.did,az]; exact a7.ee,by simp only [og,MS.w,MS.did,az]; exact a7.stk⟩,by simp [og,MS.w]⟩
  show M7.pub.set (M7.ws 0).e.toNat true=[true]
  rw [a7.pub,a7.ee]; rfl
 refine tE (i:=7) (by decide) h7 ⟨by rw [a7.mode]; decide,(fun e=>by rw [a7.mode] at e; cases e),(fun e=>by rw [a7.mode] at e; cases e),(fun e=>by rw [a7.mode] at e; cases e),fun _=>⟨0,a7.ee,by rw [a7.pub]; decide,by rw [a7.pub]; decide⟩,(fun e=>by rw [a7.mode] at e; cases e)⟩ (fun e=>by rw [a7.mode] at e; cases e) (by rw [a7.left]; decide) (fun hh=>by rw [if_neg (by decide)]; exact (m8 hh).1.left) fun hh H8 tg8 h8=>?_
 obtain ⟨a8,c8⟩:=m8 hh
 generalize bv (pN 1 alL [0]) M7 0 0 hh=M8 at h8 a8 c8
 have k8:oe (pN 1 alL [0]) (M8.ws 0)=-1:=by unfold oe; rw [a8.ee,c8]; rfl
 have m9:∀ hh,A7 (bv (pN 1 alL [0]) M8 0 0 hh) 0 true 0:=fun hh=>by
  have e:bv (pN 1 alL [0]) M8 0 0 hh=C7 { M8 with last:=[] } 0:=by
   unfold bv
   rw [if_neg (by show ¬ (M8.ws 0).mode=0; rw [a8.mode]; decide),if_neg (by show ¬ (M8.ws 0).mode=1; rw [a8.mode]; decide),if_neg (by show ¬ (M8.ws 0).mode=2; rw [a8.mode]; decide),if_neg (by show ¬ (M8.ws 0).mode=3; rw [a8.mode]; decide)]
   unfold vr
   simp only [k8]
   rw [if_neg (by decide)]
  rw [e]
  have em:C7 { M8 with last:=[] } 0=(({ M8 with last:=[],left:=M8.left - 1 }:MS).did ⟨0,-1,true,true⟩).w 0 fun w=>{ w with mode:=0 }:=by
   unfold C7
   have:(({ M8 with last:=[] }:MS).ws 0).stk.getLast?=none:=by show (M8.ws 0).stk.getLast?=none; rw [a8.stk]; rfl
   simp only [this]
   rfl
  rw [em]
  exact ⟨by show M8.left - 1=0; rw [a8.left]; rfl,a8.of,a8.pub,a8.st,by simp [MS.w],by simp only [MS.w,MS.did,az]; exact a8.ee,by simp only [MS.w,MS.did,az]; exact a8.stk⟩
 refine tE (i:=8) (by decide) h8 ⟨by rw [a8.mode]; decide,(fun e=>by rw [a8.mode] at e; cases e),(fun e=>by rw [a8.mode] at e; cases e),(fun e=>by rw [a8.mode] at e; cases e),(fun e=>by rw [a8.mode] at e; cases e),fun _=>⟨0,Nat.zero_le _,a8.ee,by decide,by show (M8.ws 0).child≤_; rw [c8]; decide,by show (M8.ws 0).stk.length≤_; rw [a8.stk]; decide,by show -1000000≤M8.left∧M8.left≤1000000; rw [a8.left]; decide,fun hk=>by have hk:0≤oe (pN 1 alL [0]) (M8.ws 0):=hk; rw [k8] at hk; exact absurd hk (by decide)⟩⟩ (fun e=>by rw [a8.mode] at e; cases e) (by rw [a8.left]; decide) (fun hh=>by rw [if_pos rfl]; exact (m9 hh).left) fun hh H9 tg9 h9=>?_
 have a9:=m9 hh
 generalize bv (pN 1 alL [0]) M8 0 0 hh=M9 at h9 a9
 refine bC.L0_step ?_
 rw [cS,ae,ah,if_neg (by decide)]
 refine wg h9 (by rw [a9.of,a9.pub]; rfl) 0 fun Ha tga fa=>?_
 have hsty:EO M9 0=(ko,0):=by
  have h1:r_ M9 0=true:=by unfold r_; rw [a9.pub]; rfl
  have h2:ofI M9 0=0:=by unfold ofI; rw [a9.of]; rfl
  have h3:cnt M9 0=1:=by unfold cnt; rw [a9.st]; rfl
  unfold EO
  rw [if_pos h1,h2,h3]
  unfold lz
  rw [h3,a9.st]; rfl
 rw [hsty]
 refine aa rfl (aa rfl ?_)
 rw [cP]
 refine aa (jO (ys:=ko.map I) rfl rfl rfl) ?_
 have fb:Fx (fun _=>False) Ha tga ((Ha.new (.cells [I 0,I 0,I 0,I 0,I 0,I 0,I 0,I 0] true)).set Ha.n (some (.cells (ko.map I) true))) (up tga Ha.n .fr):=.newset
 have gb:((Ha.new (.cells [I 0,I 0,I 0,I 0,I 0,I 0,I 0,I 0] true)).set Ha.n (some (.cells (ko.map I) true))).get Ha.n=some (.cells (ko.map I) true):=by simp
 generalize (Ha.new (.cells [I 0,I 0,I 0,I 0,I 0,I 0,I 0,I 0] true)).set Ha.n (some (.cells (ko.map I) true))=Hb at fb gb ⊢
 refine uC ?_
 rw [gn,ae,ah,if_pos (by decide)]
 have lb:ldA false 1 Hb (.ptr Ha.n (0+1*1))=some (I 16000):=by rw [b_,gb]; rfl
 refine aa rfl (aa lb ?_)
 rw [gn,ae,ah,if_pos (by decide)]
 refine aa (x:=[I 0,I 0]) rfl ?_
 refine rX (a:=0) (b:=0) alE ((h9.keep fa).keep fb) (fun hne=>absurd a9.left hne) (fun a0' aW' e m2 he hel=>?_) fun hh H1 tg1 h1 f1=>?_
 ·have m2:(M9.ws 0).mode=2:=m2
  rw [a9.mode] at m2; cases m2
 ·have:jz (pN 1 alL [0]) M9 0 0 hh=({ M9 with last:=[] },false):=by unfold jz; rw [if_pos (.inl a9.left)]
  rw [this]
  refine aa rfl (hK _)
end
end Go.Proofs.YtegioimlblnajaaGreat.Ev
namespace Go.Proofs.YtegioimlblnajaaGreat.Ev
open Go.RowKit
set_option linter.unusedVariables false
set_option linter.unusedSimpArgs false
set_option maxRecDepth 100000
variable {σ:Sig}
theorem Ns {c E:Int} {s:S} {L:List Int} {fl pu:Option Int} (h:Iv c s E L fl pu) (hc:c≤900000) (kind who:Nat) (x:Int):DOk s kind who x:=by
 intro hh
 have hl:=h.hl
 cases ho:s.op (dby kind who) with
 | some o =>
  have e:gN s (dby kind who) (dfn kind) x hh=s:=by unfold gN; rw [if_pos (by rw [ho]; rfl)]
  rw [e]
  obtain ⟨g,sf⟩:=h.sf hc ho
  exact ⟨o,g,ho,sf,by omega⟩
 | none =>
  have e:gN s (dby kind who) (dfn kind) x hh=put s (dby kind who) ⟨hh,x,0,0,false,.fn (dfn kind) []⟩:=by unfold gN; rw [if_neg (by rw [ho]; simp)]
  rw [e]
  have hop:(put s (dby kind who) ⟨hh,x,0,0,false,.fn (dfn kind) []⟩).op (dby kind who)=some ⟨hh,x,0,0,false,.fn (dfn kind) []⟩:=by simp [put]
  obtain ⟨g,sf⟩:=(h.beg kind who x hh ho).sf hc hop
  exact ⟨_,g,hop,sf,by omega⟩
theorem O0 {c E:Int} {s:S} {L:List Int} {fl:Option Int} (h:Iv c s E L fl none) {kind:Nat} (hk:kind=2∨kind=3) (who:Nat) (hh:Nat):Iv c (gN s (dby kind who) (dfn kind) 0 hh) E L fl none∧∃ o,(gN s (dby kind who) (dfn kind) 0 hh).op (dby kind who)=some o:=by
 cases ho:s.op (dby kind who) with
 | some o =>
  have e:gN s (dby kind who) (dfn kind) 0 hh=s:=by unfold gN; rw [if_pos (by rw [ho]; rfl)]
  rw [e]
  exact ⟨h,o,ho⟩
 | none =>
  have e:gN s (dby kind who) (dfn kind) 0 hh=put s (dby kind who) ⟨hh,0,0,0,false,.fn (dfn kind) []⟩:=by unfold gN; rw [if_neg (by rw [ho]; simp)]
  rw [e]
  have:=h.beg kind who 0 hh ho
  have hp:(if kind=3 then (none:Option Int) else if kind=2 then none else some 0)=none:=by rcases hk with rfl | rfl<;>rfl
  rw [hp] at this
  have hop:(put s (dby kind who) ⟨hh,0,0,0,false,.fn (dfn kind) []⟩).op (dby kind who)=some ⟨hh,0,0,0,false,.fn (dfn kind) []⟩:=by simp [put]
  exact ⟨this,_,hop⟩
theorem dry {c E:Int} {s:S} (h:Iv c s E [] none none) {kind:Nat} (hk:kind=2∨kind=3) (who hh:Nat):(∃ E',Iv (c+1) (dnx s kind who 0 hh).1 E' [] none none)∧((dnx s kind who 0 hh).2=(false,0,false)∨(dnx s kind who 0 hh).2=(true,0,false)):=by
 obtain ⟨iv,o,ho⟩:=O0 h hk who hh
 unfold dnx
 generalize gN s (dby kind who) (dfn kind) 0 hh=s' at iv ho
 obtain ⟨E',L',fl',pu',iv',oc,_,_⟩:=iv.step ho
 generalize (aP s' (dby kind who)).2=q at oc
 generalize hall:L'++fl'.toList=all' at oc
 generalize hal:[]++(none:Option Int).toList=all at oc
 have hal:all=[]:=hal.symm
 have nil:all'=[]→L'=[]∧fl'=none:=fun e=>by
  rw [e] at hall
  obtain ⟨a,b⟩:=List.append_eq_nil_iff.1 hall
  exact ⟨a,by cases fl' with
   | none=>rfl
   | some _=>cases b⟩
 generalize hpu:(none:Option Int)=pu0 at oc
 cases oc with
 | go hpm =>
  rw [hal] at hpm
  obtain ⟨rfl,rfl⟩:=nil hpm.eq_nil
  subst hpu
  exact ⟨⟨E',iv'⟩,.inl rfl⟩
 | full hw hp h16=>rw [← hpu] at hp; cases hp
 | push hw hp hpm=>rw [← hpu] at hp; cases hp
 | none hp2 =>
  obtain ⟨rfl,rfl⟩:=nil hal
  subst hpu
  exact ⟨⟨E',iv'⟩,.inr rfl⟩
 | take hp2 hpm =>
  rw [hal] at hpm
  exact absurd hpm.symm.eq_nil (by simp)
theorem oF {v:Int} {W:Nat} (h0:0≤v) (h1:v<W):ki v W=v:=by
 unfold ki
 rw [Int.tmod_eq_emod_of_nonneg h0,Int.emod_eq_of_lt h0 h1,Int.tmod_eq_emod_of_nonneg (by omega),Int.add_emod_right,Int.emod_eq_of_lt h0 h1]
structure Idl (W who:Nat) (vic:Nat) (n:Nat) (c:Int) (M:MS):Prop where
 left:M.left=n
 st:M.st=[]
 d0:∃ E,Iv 100 (M.ws 0).dq E [0] none none
 n0:∀ w,(M.ws 0).dq.op w=none
 s0:(M.ws 0).stk=[]
 di:∀ i,1≤i→i<W→∃ E,Iv c (M.ws i).dq E [] none none
 mode:(M.ws who).mode≤1
 vc:(M.ws who).victim=-1∨(M.ws who).victim=vic
section
variable {P:Pm} {who vic n:Nat} {c:Int} {M M':MS}
theorem Idl.upd (h:Idl P.W who vic n c M) (hw:1≤who) (v:Nat) (hv:1≤v) (d:S) (hd:∃ E,Iv (c+1) d E [] none none) (h1:M'.left=M.left) (h2:M'.st=M.st) (h0:(M'.ws 0).dq=(M.ws 0).dq∧(M'.ws 0).stk=(M.ws 0).stk) (hq:∀ i,(M'.ws i).dq=if i=v then d else (M.ws i).dq) (hm:(M'.ws who).mode≤1) (hc:(M'.ws who).victim=-1∨(M'.ws who).victim=vic):Idl P.W who vic n (c+1) M' :=
 ⟨by rw [h1]; exact h.left,by rw [h2]; exact h.st,by rw [h0.1]; exact h.d0,by rw [h0.1]; exact h.n0,by rw [h0.2]; exact h.s0,fun i a b=>by
  rw [hq]
  split
  ·exact hd
  ·obtain ⟨E,iv⟩:=h.di i a b
   exact ⟨E,iv.mono (by omega)⟩,hm,hc⟩
theorem Idl.step (h:Idl P.W who vic n c M) (hw:1≤who∧who<P.W) (hv:1≤vic∧vic<P.W) (hn:0<n) (hh:Nat):(jz P M who vic hh).2=true∧Idl P.W who vic n (c+1) (jz P M who vic hh).1:=by
 have hl:=h.left
 have es:jz P M who vic hh=(bv P M who vic hh,true):=by
  unfold jz
  rw [if_neg (by omega)]
  simp
 rw [es]
 refine ⟨rfl,?_⟩
 show Idl P.W who vic n (c+1) (bv P M who vic hh)
 unfold bv
 have hm:=h.mode
 have hne:∀ {α:Type} (f:Nat→α) (x:α),up f who x 0=f 0:=fun f x=>cF f x (by omega)
 by_cases m0:(M.ws who).mode=0
 ·rw [if_pos m0]
  obtain ⟨E,iv⟩:=h.di who hw.1 hw.2
  obtain ⟨hd,hr⟩:=dry iv (.inl rfl) who hh
  rcases hr with hr | hr
  ·rw [sa (M:={ M with last:=[] }) hr]
   have e0:(gD { M with last:=[] } who who 2 0 hh).ws 0=M.ws 0:=by rw [cI,if_neg (by omega)]
   exact h.upd hw.1 who hw.1 _ hd rfl rfl ⟨by rw [e0],by rw [e0]⟩ (fun i=>by rw [cI]; split<;>rfl) (by rw [cI,if_pos rfl]; exact hm) (by rw [cI,if_pos rfl]; exact h.vc)
  ·rw [ri (M:={ M with last:=[] }) hr]
   have e0:((gD { M with last:=[] } who who 2 0 hh).w who fun w=>{ w with mode:=1 }).ws 0=M.ws 0:=by
    show up _ who _ 0=_
    rw [hne,cI,if_neg (by omega)]
   have ew:((gD { M with last:=[] } who who 2 0 hh).w who fun w=>{ w with mode:=1 }).ws who={ M.ws who with dq:=(dnx (M.ws who).dq 2 who 0 hh).1,mode:=1 }:=by
    show up _ who _ who=_
    rw [az,cI,if_pos rfl]
   refine h.upd hw.1 who hw.1 _ hd rfl rfl ⟨by rw [e0],by rw [e0]⟩ (fun i=>?_) (by rw [ew]; exact Nat.le_refl 1) (by rw [ew]; exact h.vc)
   by_cases e:i=who
   ·subst e; rw [ew,if_pos rfl]
   ·rw [if_neg e]; show (up (α:=Wkr) _ who _ i).dq=_; rw [cF _ _ e,cI,if_neg e]
 ·have m1:(M.ws who).mode=1:=by omega
  rw [if_neg (show ¬ (M.ws who).mode=0 from m0),if_pos m1]
  have thief:∀ M1:MS,Idl P.W who vic n c M1→(M1.ws who).mode=1→(M1.ws who).victim=vic→Idl P.W who vic n (c+1) (g8 M1 who vic hh):=by
   intro M1 h1 mm vv
   obtain ⟨E,iv⟩:=h1.di vic hv.1 hv.2
   obtain ⟨hd,hr⟩:=dry iv (.inr rfl) who hh
   rcases hr with hr | hr
   ·rw [sT hr]
    have e0:(gD M1 who vic 3 0 hh).ws 0=M1.ws 0:=by rw [cI,if_neg (by omega)]
    refine h1.upd hw.1 vic hv.1 _ hd rfl rfl ⟨by rw [e0],by rw [e0]⟩ (fun i=>by rw [cI]; split<;>rfl) ?_ ?_
    ·rw [cI]
     split
     ·rename_i e; rw [← e]; show (M1.ws who).mode≤1; omega
     ·omega
    ·rw [cI]
     split
     ·rename_i e; rw [← e]; exact .inr (vv.trans (by rw [e]))
     ·exact .inr vv
   ·rw [u6 hr]
    have e0:((gD M1 who vic 3 0 hh).w who fun w=>{ w with victim:=-1,mode:=0 }).ws 0=M1.ws 0:=by
     show up _ who _ 0=_
     rw [hne,cI,if_neg (by omega)]
    have ew:((gD M1 who vic 3 0 hh).w who fun w=>{ w with victim:=-1,mode:=0 }).ws who={ (gD M1 who vic 3 0 hh).ws who with victim:=-1,mode:=0 }:=az _ _ _
    refine h1.upd hw.1 vic hv.1 _ hd rfl rfl ⟨by rw [e0],by rw [e0]⟩ (fun i=>?_) (by rw [ew]; exact Nat.zero_le _) (by rw [ew]; exact .inl rfl)
    by_cases e:i=who
    ·subst e
     rw [ew]
     show ((gD M1 i vic 3 0 hh).ws i).dq=_
     rw [cI]; split<;>rfl
    ·show (up (α:=Wkr) _ who _ i).dq=_
     rw [cF _ _ e,cI]; split<;>rfl
  unfold nI
  have hvm:ki (vic:Int) P.W=vic:=oF (by omega) (by omega)
  rw [hvm]
  rcases h.vc with e | e
  ·rw [if_pos e]
   by_cases hs:(vic:Int)=who
   ·rw [if_pos hs]
    obtain ⟨E,iv⟩:=h.di who hw.1 hw.2
    refine h.upd hw.1 who hw.1 (M.ws who).dq ⟨E,iv.mono (by omega)⟩ rfl rfl ⟨?_,?_⟩ (fun i=>?_) ?_ ?_
    ·show (up M.ws who _ 0).dq=_; rw [hne]
    ·show (up M.ws who _ 0).stk=_; rw [hne]
    ·show (up M.ws who _ i).dq=_
     by_cases e:i=who
     ·subst e; rw [az,if_pos rfl]
     ·rw [cF _ _ e,if_neg e]
    ·show (up M.ws who _ who).mode≤1; rw [az]; exact Nat.zero_le _
    ·show (up M.ws who _ who).victim=-1∨_; rw [az]; exact .inl rfl
   ·rw [if_neg hs,Int.toNat_natCast]
    refine thief _ ⟨h.left,h.st,?_,?_,?_,fun i a b=>?_,?_,?_⟩ ?_ ?_
    ·show ∃ E,Iv 100 (up M.ws who _ 0).dq E [0] none none; rw [hne]; exact h.d0
    ·show ∀ w,(up M.ws who _ 0).dq.op w=none; rw [hne]; exact h.n0
    ·show (up M.ws who _ 0).stk=[]; rw [hne]; exact h.s0
    ·have:(up M.ws who { M.ws who with victim:=(vic:Int) } i).dq=(M.ws i).dq:=by
      by_cases e:i=who
      ·subst e; rw [az]
      ·rw [cF _ _ e]
     show ∃ E,Iv c (up M.ws who _ i).dq E [] none none
     rw [this]; exact h.di i a b
    ·show (up M.ws who _ who).mode≤1; rw [az]; exact hm
    ·show (up M.ws who _ who).victim=-1∨(up M.ws who _ who).victim=vic; rw [az]; exact .inr rfl
    ·show (up M.ws who _ who).mode=1; rw [az]; exact m1
    ·show (up M.ws who _ who).victim=vic; rw [az]
  ·rw [if_neg (by show ¬ (M.ws who).victim=-1; omega)]
   have e2:(({ M with last:=[] }:MS).ws who).victim.toNat=vic:=by show (M.ws who).victim.toNat=vic; omega
   rw [e2]
   exact thief _ ⟨h.left,h.st,h.d0,h.n0,h.s0,h.di,h.mode,h.vc⟩ m1 e
theorem Idl.sp (h:Idl P.W who vic n c M) (hc:c≤900000) (hw:1≤who∧who<P.W) (hv:1≤vic∧vic<P.W):Sp P M who vic:=by
 have hm:=h.mode
 have dok:∀ i,1≤i→i<P.W→∀ k,DOk (M.ws i).dq k who 0:=fun i a b k=>by
  obtain ⟨E,iv⟩:=h.di i a b
  exact Ns iv hc k who 0
 refine ⟨by omega,fun _=>dok who hw.1 hw.2 2,fun _=>⟨fun _ _=>?_,fun hne=>?_⟩,fun e=>by omega,fun e=>by omega,fun e=>by omega⟩
 ·rw [oF (by omega) (by omega),Int.toNat_natCast]; exact dok vic hv.1 hv.2 3
 ·rcases h.vc with e | e
  ·exact absurd e hne
  ·exact ⟨vic,e,hv.2,dok vic hv.1 hv.2 3⟩
end
section
end
end Go.Proofs.YtegioimlblnajaaGreat.Ev
namespace Go.Proofs.YtegioimlblnajaaGreat.Ev
open Go.RowKit
set_option linter.unusedVariables false
set_option linter.unusedSimpArgs false
set_option maxRecDepth 100000
variable {σ:Sig}
theorem nL {s:S} {kind who:Nat} {pl:List Int} {T B x:Int} {q:Oq} (h:Al s (dby kind who) pl T B (some q)) (hh:Nat):dnx s kind who x hh=aP s (dby kind who):=by
 unfold dnx
 rw [h.on hh]
structure Sg (who k:Nat) (M:MS) (mode:Nat) (vic:Int) (pl:List Int) (T B:Int) (q:Option Oq) (pl0:List Int) (T0 B0:Int) (q0:Option Oq):Prop where
 left:M.left=(k+1:Nat)
 of:M.of=List.replicate (k+1) (-1)
 pub:M.pub=List.replicate (k+1) false
 st:M.st=[]
 mode:(M.ws who).mode=mode
 vic:(M.ws who).victim=vic
 ca:(M.ws who).ca=[]
 s0:(M.ws 0).stk=[]
 d:Al (M.ws who).dq 0 pl T B q
 d0:Al (M.ws 0).dq (who+1) pl0 T0 B0 q0
def Qk (q:Option Oq):Prop:=∀ o,q=some o→o.g ∈ phs∧sm o.b∧(o.g ∈ phZ→0≤o.b)∧(o.g ∈ phT→0≤o.t)
def Bk3 (pl:List Int) (T B:Int):Prop:=pl.length=16∧(0≤T∧T≤100000)∧(-1≤B∧B≤100000)
section
variable {P:Pm} {who k:Nat} {M:MS} {mode:Nat} {vic:Int} {pl pl0 pl' pl0':List Int} {T B T0 B0 T' B' T0' B0':Int} {q q0 q' q0':Option Oq}
theorem Sg.sp (h:Sg who k M mode vic pl T B q pl0 T0 B0 q0) (hP:0<P.W) (hm:mode=0∨mode=1∧(vic=-1∨vic=0)) (hd:Bk3 pl T B∧Qk q) (hd0:Bk3 pl0 T0 B0∧Qk q0):Sp P M who 0:=by
 have k0:DOk (M.ws 0).dq 3 who 0:=uJ (kind:=3) (who:=who) h.d0 hd0.1.1 hd0.1.2.1 hd0.1.2.2 hd0.2
 refine ⟨by rw [h.mode]; rcases hm with rfl | ⟨rfl,_⟩<;>decide,fun _=>uJ (kind:=2) (who:=who) h.d hd.1.1 hd.1.2.1 hd.1.2.2 hd.2,fun e=>⟨fun _ _=>?_,fun hne=>?_⟩,fun e=>?_,fun e=>?_,fun e=>?_⟩
 ·rw [oF (by omega) (by omega)]; exact k0
 ·rw [h.mode] at e
  rcases hm with rfl | ⟨_,hv⟩
  ·cases e
  ·rcases hv with rfl | rfl
   ·exact absurd h.vic hne
   ·exact ⟨0,h.vic,hP,k0⟩
 all_goals
  rw [h.mode] at e
  rcases hm with rfl | ⟨rfl,_⟩<;>cases e
theorem Sg.look (h:Sg who k M 0 vic pl T B q pl0 T0 B0 q0) (hw:1≤who) (hh:Nat) (hs:Al (dnx (M.ws who).dq 2 who 0 hh).1 0 pl' T' B' q'∧(dnx (M.ws who).dq 2 who 0 hh).2=(false,0,false)):Sg who k (bv P M who 0 hh) 0 vic pl' T' B' q' pl0 T0 B0 q0:=by
 have e:bv P M who 0 hh=gD { M with last:=[] } who who 2 0 hh:=by
  unfold bv
  rw [if_pos h.mode]
  exact sa hs.2
 rw [e]
 have ew:(gD { M with last:=[] } who who 2 0 hh).ws who={ M.ws who with dq:=(dnx (M.ws who).dq 2 who 0 hh).1 }:=by rw [cI,if_pos rfl]
 have e0:(gD { M with last:=[] } who who 2 0 hh).ws 0=M.ws 0:=by rw [cI,if_neg (by omega)]
 exact ⟨h.left,h.of,h.pub,h.st,by rw [ew]; exact h.mode,by rw [ew]; exact h.vic,by rw [ew]; exact h.ca,by rw [e0]; exact h.s0,by rw [ew]; exact hs.1,by rw [e0]; exact h.d0⟩
theorem Sg.none' (h:Sg who k M 0 vic pl T B q pl0 T0 B0 q0) (hw:1≤who) (hh:Nat) (hs:Al (dnx (M.ws who).dq 2 who 0 hh).1 0 pl' T' B' q'∧(dnx (M.ws who).dq 2 who 0 hh).2=(true,0,false)):Sg who k (bv P M who 0 hh) 1 vic pl' T' B' q' pl0 T0 B0 q0:=by
 have e:bv P M who 0 hh=(gD { M with last:=[] } who who 2 0 hh).w who fun w=>{ w with mode:=1 }:=by
  unfold bv
  rw [if_pos h.mode]
  exact ri hs.2
 rw [e]
 have ew:((gD { M with last:=[] } who who 2 0 hh).w who fun w=>{ w with mode:=1 }).ws who={ M.ws who with dq:=(dnx (M.ws who).dq 2 who 0 hh).1,mode:=1 }:=by
  show up _ who _ who=_
  rw [az,cI,if_pos rfl]
 have e0:((gD { M with last:=[] } who who 2 0 hh).w who fun w=>{ w with mode:=1 }).ws 0=M.ws 0:=by
  show up _ who _ 0=_
  rw [cF _ _ (by omega),cI,if_neg (by omega)]
 exact ⟨h.left,h.of,h.pub,h.st,by rw [ew],by rw [ew]; exact h.vic,by rw [ew]; exact h.ca,by rw [e0]; exact h.s0,by rw [ew]; exact hs.1,by rw [e0]; exact h.d0⟩
theorem Sg.vict (h:Sg who k M 1 vic pl T B q pl0 T0 B0 q0) (hw:1≤who) (hv:vic=-1∨vic=0) (hP:0<P.W) (hh:Nat):∃ M1:MS,bv P M who 0 hh=g8 M1 who 0 hh∧Sg who k M1 1 0 pl T B q pl0 T0 B0 q0:=by
 have em:bv P M who 0 hh=nI P { M with last:=[] } who 0 hh:=by
  unfold bv
  rw [if_neg (show ¬ (M.ws who).mode=0 by rw [h.mode]; decide),if_pos (show (M.ws who).mode=1 from h.mode)]
 rw [em]
 unfold nI
 rw [oF (by omega) (by omega)]
 rcases hv with rfl | rfl
 ·rw [if_pos (show (M.ws who).victim=-1 from h.vic),if_neg (by omega)]
  refine ⟨_,rfl,h.left,h.of,h.pub,h.st,?_,?_,?_,?_,?_,?_⟩
  ·show (up M.ws who _ who).mode=1; rw [az]; exact h.mode
  ·show (up M.ws who _ who).victim=0; rw [az]
  ·show (up M.ws who _ who).ca=[]; rw [az]; exact h.ca
  ·show (up (α:=Wkr) M.ws who _ 0).stk=[]; rw [cF _ _ (by omega)]; exact h.s0
  ·show Al (up M.ws who _ who).dq 0 _ _ _ _; rw [az]; exact h.d
  ·show Al (up (α:=Wkr) M.ws who _ 0).dq _ _ _ _ _; rw [cF _ _ (by omega)]; exact h.d0
 ·rw [if_neg (show ¬ (M.ws who).victim=-1 by rw [h.vic]; decide)]
  have:(M.ws who).victim.toNat=0:=by rw [h.vic]; rfl
  refine ⟨{ M with last:=[] },?_,h.left,h.of,h.pub,h.st,h.mode,h.vic,h.ca,h.s0,h.d,h.d0⟩
  show g8 _ who (M.ws who).victim.toNat hh=_
  rw [this]
theorem Sg.go (h:Sg who k M 1 vic pl T B q pl0 T0 B0 q0) (hw:1≤who) (hv:vic=-1∨vic=0) (hP:0<P.W) (hh:Nat)
  (hs:∀ s,Al s (who+1) pl0 T0 B0 q0→Al (dnx s 3 who 0 hh).1 (who+1) pl0' T0' B0' q0'∧(dnx s 3 who 0 hh).2=(false,0,false)):Sg who k (bv P M who 0 hh) 1 0 pl T B q pl0' T0' B0' q0':=by
 obtain ⟨M1,e,h1⟩:=h.vict (P:=P) hw hv hP hh
 have hs:=hs _ h1.d0
 rw [e,sT hs.2]
 have ew:(gD M1 who 0 3 0 hh).ws who=M1.ws who:=by rw [cI,if_neg (by omega)]
 have e0:(gD M1 who 0 3 0 hh).ws 0={ M1.ws 0 with dq:=(dnx (M1.ws 0).dq 3 who 0 hh).1 }:=by rw [cI,if_pos rfl]
 exact ⟨h1.left,h1.of,h1.pub,h1.st,by rw [ew]; exact h1.mode,by rw [ew]; exact h1.vic,by rw [ew]; exact h1.ca,by rw [e0]; exact h1.s0,by rw [ew]; exact h1.d,by rw [e0]; exact hs.1⟩
theorem Sg.got (h:Sg who k M 1 vic pl T B q pl0 T0 B0 q0) (hw:1≤who) (hv:vic=-1∨vic=0) (hP:0<P.W) (hh:Nat)
  (hs:∀ s,Al s (who+1) pl0 T0 B0 q0→Al (dnx s 3 who 0 hh).1 (who+1) pl0' T0' B0' q0'∧(dnx s 3 who 0 hh).2=(true,0,true)):Sg who k (bv P M who 0 hh) 2 (-1) pl T B q pl0' T0' B0' q0'∧((bv P M who 0 hh).ws who).e=0:=by
 obtain ⟨M1,e,h1⟩:=h.vict (P:=P) hw hv hP hh
 have hs:=hs _ h1.d0
 rw [e,ut hs.2]
 have ew:(((gD M1 who 0 3 0 hh).w who fun w=>{ w with victim:=-1,mode:=0 }).begin who 0).ws who={ M1.ws who with victim:=-1,mode:=2,e:=0 }:=by
  unfold MS.begin MS.w
  simp only [az]
  rw [cI,if_neg (by omega)]
 have e0:(((gD M1 who 0 3 0 hh).w who fun w=>{ w with victim:=-1,mode:=0 }).begin who 0).ws 0={ M1.ws 0 with dq:=(dnx (M1.ws 0).dq 3 who 0 hh).1 }:=by
  unfold MS.begin MS.w
  simp only
  rw [cF _ _ (by omega),cF _ _ (by omega),cI,if_pos rfl]
 exact ⟨⟨h1.left,h1.of,h1.pub,h1.st,by rw [ew],by rw [ew],by rw [ew]; exact h1.ca,by rw [e0]; exact h1.s0,by rw [ew]; exact h1.d,by rw [e0]; exact hs.1⟩,by rw [ew]⟩
end
structure Sq (who k:Nat) (M:MS) (mode:Nat) (pub:Bool):Prop where
 of:M.of=0::List.replicate k (-1)
 pub:M.pub=pub::List.replicate k false
 st:M.st.length=1
 left:M.left=(k+1:Nat)
 mode:(M.ws who).mode=mode
 ee:(M.ws who).e=0
 ca:dV (M.ws who).ca=[0]
theorem Sg.style {W k who:Nat} {L:List Nd} {d:List Nat} {M:MS} {vic T B T0 B0:Int} {pl pl0:List Int} {q q0:Option Oq} (h:Sg who k M 2 vic pl T B q pl0 T0 B0 q0) (he:(M.ws who).e=0) (hp:par L 0<0) (hh:Nat):Sq who k (bv (pN W L d) M who 0 hh) 3 false:=by
 have e:bv (pN W L d) M who 0 hh=jL (pN W L d) { M with last:=[] } who:=by
  unfold bv
  rw [if_neg (show ¬ (M.ws who).mode=0 by rw [h.mode]; decide),if_neg (show ¬ (M.ws who).mode=1 by rw [h.mode]; decide),if_pos (show (M.ws who).mode=2 from h.mode)]
 have et:qA (pN W L d) (M.ws who)=none:=by unfold qA; rw [h.ca]; rfl
 have ep:¬ 0≤sr (pN W L d) (M.ws who).e:=by rw [he]; show ¬ 0≤par L 0; omega
 have em:rm (pN W L d) { M with last:=[] } who={ M with last:=[] }:=by unfold rm; rw [if_neg ep]
 have es:jL (pN W L d) { M with last:=[] } who=((kj (pN W L d) { M with last:=[] } who).did ⟨who,3*(M.ws who).e,true,false⟩).w who fun w=>{ w with mode:=3 }:=by
  unfold jL
  rw [em]
  simp only [et]
 rw [e,es]
 refine ⟨?_,h.pub,?_,h.left,by simp [MS.w],?_,?_⟩
 ·show M.of.set (M.ws who).e.toNat (M.st.length:Int)=_
  rw [h.of,h.st,he]; rfl
 ·show (M.st++[_]).length=1
  rw [h.st]; rfl
 ·simp only [MS.w,MS.did,kj,az]; exact he
 ·simp only [MS.w,MS.did,kj,az]
  show dV (Bz (M.ws who).ca ((M.ws who).e,_))=[0]
  rw [h.ca,he]; rfl
theorem Sq.put {P:Pm} {who k:Nat} {M:MS} (h:Sq who k M 3 false) (hh:Nat):Sq who k (bv P M who 0 hh) 4 true:=by
 have e:bv P M who 0 hh=og { M with last:=[] } who:=by
  unfold bv
  rw [if_neg (show ¬ (M.ws who).mode=0 by rw [h.mode]; decide),if_neg (show ¬ (M.ws who).mode=1 by rw [h.mode]; decide),if_neg (show ¬ (M.ws who).mode=2 by rw [h.mode]; decide),if_pos (show (M.ws who).mode=3 from h.mode)]
 rw [e]
 refine ⟨h.of,?_,h.st,h.left,by simp [og,MS.w],by simp only [og,MS.w,MS.did,az]; exact h.ee,by simp only [og,MS.w,MS.did,az]; exact h.ca⟩
 show M.pub.set (M.ws who).e.toNat true=_
 rw [h.pub,h.ee]; rfl
theorem wK {H:Hp} {K:AV→Hp→Prop} {r:AV} (hr:r=.imm 1 [[I 0]]) (hK:∀ H,K (Bo true) H):ai Tryz.prog σ fN [r,.sl H.n 0 1 1 (some 1)] (H.new (.cells [I 0] true)) K:=by
 subst hr
 refine ck.run (aa rfl (aa rfl (aa rfl ?_)))
 rw [ah,if_neg (by decide)]
 have g0:(H.new (.cells [I 0] true)).get H.n=some (.cells [I 0] true):=by simp
 have l1:ldA false 1 (H.new (.cells [I 0] true)) (.ptr H.n 0)=some (I 0):=by rw [b_,g0]; rfl
 refine ck.L0_step (aa rfl (aa rfl ?_))
 rw [ah,if_pos (by decide)]
 refine aa rfl (aa rfl (aa rfl (aa l1 (aa rfl ?_))))
 rw [ah,if_neg (by decide)]
 refine aa rfl (ck.L0_step (aa rfl (aa rfl ?_)))
 rw [ah,if_neg (by decide)]
 exact hK _
section
attribute [local irreducible] aV.L0
variable {L:List Nd} {d:List Nat} {W who k:Nat} {G:MG} {K:AV→Hp→Prop} {M:MS} {H:Hp} {tg:Nat→Tg} {mode:Nat} {vic:Int} {pl pl0:List Int} {T B T0 B0:Int} {q q0:Option Oq}
theorem AS {P:Pm} {rl sl:AV} (E:En P) (h:Ok P rl sl G M H tg) (hw:who<P.W) (S:Sp P M who 0) (T:(M.ws who).mode=2→(M.ws who).e=0∧(M.ws who).ca=[]∧tu σ P rl 0) (hl:M.left≠0) (hn:∀ hh H' tg',Ok P rl sl G (bv P M who 0 hh) H' tg'→K (Bo true) H') :
  ai Tryz.prog σ bj [.ptr G.m 0,.agg [I who,I 0]] H K:=by
 refine rX (a:=who) (b:=0) E h (fun _ _ _=>by rw [Int.toNat_natCast]; exact S) (fun _ _ e m2 he hel=>?_) fun hh H1 tg1 h1 f1=>?_
 ·rw [Int.toNat_natCast] at m2 he ⊢
  obtain ⟨e0,ca,win⟩:=T m2
  have:e=0:=by omega
  subst this
  exact ⟨fun c hc=>by rw [ca] at hc; simp [dV] at hc,win⟩
 ·have es:jz P M who 0 hh=(bv P M who 0 hh,true):=by
   unfold jz
   rw [if_neg (by omega),Int.toNat_natCast]
  rw [es] at h1 ⊢
  exact hn hh H1 tg1 h1
theorem nS {i:Nat} (hi:i<8) (hT:oM L d) (hW:W≤64) (hw:1≤who∧who<W) (h:Ok (pN W L d) fX fX G M H tg) (a:Sg who k M mode vic pl T B q pl0 T0 B0 q0) (hm:mode=0∨mode=1∧(vic=-1∨vic=0)) (hd:Bk3 pl T B∧Qk q) (hd0:Bk3 pl0 T0 B0∧Qk q0)
  (hn:∀ hh H' tg',Ok (pN W L d) fX fX G (bv (pN W L d) M who 0 hh) H' tg'→aV.L0 σ K (I who) (.ptr G.m 0) (I ((i+1:Nat):Int)) H'):aV.L0 σ K (I who) (.ptr G.m 0) (I (i:Int)) H:=by
 refine aV.L0_step ?_
 rw [cS,ae,ah,if_pos (by simp; omega)]
 refine vW h who ?_
 rw [if_pos ⟨by omega,by show (who:Int)<W; omega⟩,Int.toNat_natCast,a.mode,gn,ae,ah,if_neg (by rcases hm with rfl | ⟨rfl,_⟩<;>decide)]
 refine aa (x:=[I who,I 0]) rfl ?_
 refine AS (enN hW hT) h hw.2 (a.sp (P:=pN W L d) (by show 0<W; omega) hm hd hd0) (fun e=>?_) (by rw [a.left]; omega) fun hh H1 tg1 h1=>?_
 ·rw [a.mode] at e
  rcases hm with rfl | ⟨rfl,_⟩<;>cases e
 ·rw [fJ,ae,iC (by omega)]
  exact hn hh H1 tg1 h1
theorem Fb (hT:oM L d) (hW:W≤64) (hw:1≤who∧who<W) (hk:L.length=k+1) (h:Ok (pN W L d) fX fX G M H tg) (a:Sg who k M 0 (-1) pl T T none pl0 T0 (T0+1) none) (hp:pl.length=16∧0≤T∧T≤1000) (hp0:pl0.length=16∧0≤T0∧T0≤1000) (hv:pv pl0 T0=0) (hs0:(M.ws 0).stk=[]) (hK:∀ H,K (Bo true) H):aV.L0 σ K (I who) (.ptr G.m 0) (I 0) H:=by
 have q00:Bk3 pl0 T0 (T0+1)∧Qk none:=⟨⟨hp0.1,by omega,by omega⟩,fun o ho=>by cases ho⟩
 have qT:Bk3 pl T T:=⟨hp.1,by omega,by omega⟩
 have par0:par L 0<0:=by rw [(hT.hB.root (by omega)).1]; decide
 refine nS (i:=0) (by decide) hT hW hw h a (.inl rfl) ⟨qT,fun o ho=>by cases ho⟩ q00 fun hh1 H1 tg1 h1=>?_
 have a1:=a.look (P:=pN W L d) hw.1 hh1 (vO (a.d.beg (kind:=2) (who:=who) (x:=0) hh1))
 generalize bv (pN W L d) M who 0 hh1=M1 at h1 a1
 refine nS (i:=1) (by decide) hT hW hw h1 a1 (.inl rfl) ⟨qT,fun o ho=>gk ho (by decide) (kQ (by omega)) (fun h=>absurd h (by decide)) fun h=>absurd h (by decide)⟩ q00 fun hh2 H2 tg2 h2=>?_
 have a2:=a1.look (P:=pN W L d) hw.1 hh2 (by rw [nL (kind:=2) (who:=who) a1.d]; exact u9 a1.d)
 generalize bv (pN W L d) M1 who 0 hh2=M2 at h2 a2
 refine nS (i:=2) (by decide) hT hW hw h2 a2 (.inl rfl) ⟨⟨hp.1,by omega,by omega⟩,fun o ho=>gk ho (by decide) (kQ (by omega)) (fun h=>absurd h (by decide)) fun h=>absurd h (by decide)⟩ q00 fun hh3 H3 tg3 h3=>?_
 have a3:=a2.look (P:=pN W L d) hw.1 hh3 (by rw [nL (kind:=2) (who:=who) a2.d]; exact xO a2.d (by omega))
 generalize bv (pN W L d) M2 who 0 hh3=M3 at h3 a3
 refine nS (i:=3) (by decide) hT hW hw h3 a3 (.inl rfl) ⟨⟨hp.1,by omega,by omega⟩,fun o ho=>gk ho (by decide) (kQ (by omega)) (fun h=>absurd h (by decide)) fun h=>absurd h (by decide)⟩ q00 fun hh4 H4 tg4 h4=>?_
 have a4:=a3.none' (P:=pN W L d) hw.1 hh4 (by rw [nL (kind:=2) (who:=who) a3.d]; exact sv a3.d)
 generalize bv (pN W L d) M3 who 0 hh4=M4 at h4 a4
 have q4:Bk3 pl T (T - 1+1)∧Qk none:=⟨⟨hp.1,by omega,by omega⟩,fun o ho=>by cases ho⟩
 refine nS (i:=4) (by decide) hT hW hw h4 a4 (.inr ⟨rfl,.inl rfl⟩) q4 q00 fun hh5 H5 tg5 h5=>?_
 have a5:=a4.go (P:=pN W L d) hw.1 (.inl rfl) (by show 0<W; omega) hh5 fun s hs=>wA (Al.beg (kind:=3) (who:=who) (x:=0) hs hh5)
 generalize bv (pN W L d) M4 who 0 hh5=M5 at h5 a5
 refine nS (i:=5) (by decide) hT hW hw h5 a5 (.inr ⟨rfl,.inr rfl⟩) q4 ⟨q00.1,fun o ho=>gk ho (by decide) (kQ (by omega)) (fun h=>by omega) fun h=>by omega⟩ fun hh6 H6 tg6 h6=>?_
 have a6:=a5.go (P:=pN W L d) hw.1 (.inr rfl) (by show 0<W; omega) hh6 fun s hs=>by rw [nL (kind:=3) (who:=who) hs]; exact ww hs (by omega)
 generalize bv (pN W L d) M5 who 0 hh6=M6 at h6 a6
 refine nS (i:=6) (by decide) hT hW hw h6 a6 (.inr ⟨rfl,.inr rfl⟩) q4 ⟨q00.1,fun o ho=>gk ho (by decide) (kQ (by omega)) (fun h=>by omega) fun h=>by omega⟩ fun hh7 H7 tg7 h7=>?_
 have a7:=a6.go (P:=pN W L d) hw.1 (.inr rfl) (by show 0<W; omega) hh7 fun s hs=>by rw [nL (kind:=3) (who:=who) hs]; exact wS hs
 generalize bv (pN W L d) M6 who 0 hh7=M7 at h7 a7
 refine nS (i:=7) (by decide) hT hW hw h7 a7 (.inr ⟨rfl,.inr rfl⟩) q4 ⟨q00.1,fun o ho=>gk ho (by decide) (kQ (by omega)) (fun h=>by omega) fun h=>by omega⟩ fun hh8 H8 tg8 h8=>?_
 obtain ⟨a8,e8⟩:=a7.got (P:=pN W L d) hw.1 (.inr rfl) (by show 0<W; omega) hh8 fun s hs=>by
  rw [nL (kind:=3) (who:=who) hs,show (0:Int)=pv pl0 T0 from hv.symm]; exact w6 hs
 generalize bv (pN W L d) M7 who 0 hh8=M8 at h8 a8 e8
 refine aV.L0_step ?_
 rw [cS,ae,ah,if_neg (by decide)]
 refine vW h8 who ?_
 rw [if_pos ⟨by omega,by show (who:Int)<W; omega⟩,Int.toNat_natCast,a8.mode,gn,ae,ah,if_pos (by decide)]
 refine uK h8 0 (fun j hj hjW=>?_) ?_
 ·have:j=0:=by omega
  subst this
  rw [a8.d0.top,a8.d0.bot,a8.s0]
  exact ⟨by unfold sm; omega,by unfold sm; omega,by decide⟩
 have hwt:vz (pN W L d) M8 0=0:=by
  unfold vz
  rw [if_pos ⟨by decide,by show (0:Int)<W; omega⟩]
  show Hq (M8.ws 0).dq+((M8.ws 0).stk.length:Int)=0
  unfold Hq
  rw [a8.s0,a8.d0.top,a8.d0.bot,if_neg (by omega)]
  rfl
 rw [hwt,gn,ae]
 refine aa (x:=[I who,I 0]) rfl ?_
 have sd:Sd (pN W L d) { M8 with last:=[] } who 0:=⟨Nat.zero_le _,⟨by show M8.st.length≤_; rw [a8.st]; decide,fun p hp=>by have hp:p ∈ M8.st:=hp; rw [a8.st] at hp; cases hp⟩,⟨by show M8.of.length=L.length; rw [a8.of,hk]; simp,fun x hx=>by have hx:x ∈ M8.of:=hx; rw [a8.of] at hx; rw [List.eq_of_mem_replicate hx]; decide⟩,e8,by show 0<L.length; omega,⟨by show (M8.ws who).ca.length≤8; rw [a8.ca]; decide,fun p hp=>by have hp:p ∈ (M8.ws who).ca:=hp; rw [a8.ca] at hp; cases hp⟩⟩
 refine AS (enN hW hT) h8 hw.2 ⟨by rw [a8.mode]; decide,(fun e=>by rw [a8.mode] at e; cases e),(fun e=>by rw [a8.mode] at e; cases e),fun _=>⟨0,sd⟩,(fun e=>by rw [a8.mode] at e; cases e),(fun e=>by rw [a8.mode] at e; cases e)⟩ (fun _=>⟨e8,a8.ca,vK par0⟩) (by rw [a8.left]; omega) fun hh9 H9 tg9 h9=>?_
 have a9:=a8.style (W:=W) (d:=d) e8 par0 hh9
 generalize bv (pN W L d) M8 who 0 hh9=M9 at h9 a9
 refine aa (x:=[I who,I 0]) rfl ?_
 refine AS (enN hW hT) h9 hw.2 ⟨by rw [a9.mode]; decide,(fun e=>by rw [a9.mode] at e; cases e),(fun e=>by rw [a9.mode] at e; cases e),(fun e=>by rw [a9.mode] at e; cases e),fun _=>⟨0,a9.ee,by rw [a9.pub]; simp,by rw [a9.pub]; have:=hT.len; simp; omega⟩,(fun e=>by rw [a9.mode] at e; cases e)⟩ (fun e=>by rw [a9.mode] at e; cases e) (by rw [a9.left]; omega) fun hhA HA tgA hA=>?_
 have aA:=a9.put (P:=pN W L d) hhA
 generalize bv (pN W L d) M9 who 0 hhA=MA at hA aA
 rw [ah,if_pos (by decide)]
 refine Aq hA 0 ?_
 have e1:r_ MA 0=true:=by unfold r_; rw [aA.pub]; simp
 rw [e1,ah,if_pos rfl]
 refine wM hA 0 ?_
 have e2:oq MA 0=0:=by unfold oq ofI; rw [aA.of,if_pos (by simp)]; rfl
 rw [e2,gn,ae,ah,if_pos (by decide)]
 refine Lh hA ?_
 rw [aA.st,gn,ae,ah,if_pos (by decide)]
 refine wV hA who ?_
 rw [if_pos ⟨by omega,by show (who:Int)<W; omega⟩,Int.toNat_natCast,aA.ca]
 refine aa (x:=(.sl HA.n 0 1 1 (some 1),HA.new (.cells [I 0] true))) rfl ?_
 exact wK rfl hK
end
theorem pP {L:List Nd} (hW:∀ n ∈ L,kI n) (w a:Int):∃ Hf,aq Tryz.prog σ eO [nds L,I w,I a] Hp.empty (Bo true) Hf:=by
 refine ⟨Hp.empty,dh (fun K hK=>aV.run ?_) (by simp [bE,cW]) rfl _⟩
 refine aD (oU _) ?_
 rcases NX (σ:=σ) hW (a:=fX) rfl tY w with hm | ⟨_,h1,h64,⟨d,T⟩,hm⟩
 ·refine aD (hm _) ?_
  rw [fF,ae,ah,if_neg (by decide),fF,ae,ah,if_pos (by decide)]
  exact hK _
 refine aD (hm _) ?_
 rw [fF,ae,ah,if_neg (by decide),ae,ah,if_neg (by decide)]
 have ln:aM (nds L)=some (I L.length):=by simp [nds]
 rw [ln,ae,gn,ae,ah]
 by_cases c1:L.length=0
 ·rw [if_pos (by simp [c1])]; exact hK _
 rw [if_neg (by simp; exact fun h=>c1 (by simp [h])),cS,ae,ah]
 by_cases c2:a<1
 ·rw [if_pos (by simpa using c2)]; exact hK _
 rw [if_neg (by simpa using c2),jA,ae,ah]
 by_cases c3:w≤a
 ·rw [if_pos (by simpa using c3)]; exact hK _
 rw [if_neg (by simpa using c3)]
 obtain ⟨W,rfl⟩:∃ k:Nat,w=k:=⟨w.toNat,by omega⟩
 obtain ⟨who,rfl⟩:∃ k:Nat,a=k:=⟨a.toNat,by omega⟩
 obtain ⟨k,hk⟩:∃ k:Nat,L.length=k+1:=⟨L.length - 1,by omega⟩
 refine J9 (P:=pN W L d) ⟨by show 1≤W; omega,by show W≤64; omega⟩ hW T tY pK tw rU ⟨rfl,rfl,rfl⟩ ⟨rfl,rfl,rfl⟩ ⟨rfl,rfl⟩ ⟨rfl,rfl⟩ fun G M H tg q h i0 _ _ _=>?_
 refine aa rfl (aa rfl (aa rfl ?_))
 rw [fF,ae,ah,if_neg (by decide)]
 have hn:0<L.length:=by omega
 obtain ⟨⟨E0,iv0⟩,no0⟩:=i0.dq 0 (by show 0<W; omega)
 rw [if_pos ⟨rfl,hn⟩] at iv0
 obtain ⟨⟨E1,iv1⟩,no1⟩:=i0.dq who (by show who<W; omega)
 rw [if_neg (by omega)] at iv1
 obtain ⟨w1,w2,w3,w4⟩:=i0.ws who (by show who<W; omega)
 have l0:=iv0.lL
 have l1:=iv1.lL
 have n0:=iv0.en
 have n1:=iv1.en
 have t0:=iv0.t0
 have t1:=iv1.t0
 simp only [List.length_singleton,List.length_nil] at l0 l1
 have hl:M.left=(k+1:Nat):=by rw [i0.left]; show (L.length:Int)=_; rw [hk]
 have ho:M.of=List.replicate (k+1) (-1):=by rw [i0.of]; show List.replicate L.length _=_; rw [hk]
 have hp:M.pub=List.replicate (k+1) false:=by rw [i0.pub]; show List.replicate L.length _=_; rw [hk]
 have d1:=FN iv1 no1 0
 simp only [List.length_nil,Int.natCast_zero,Int.add_zero] at d1
 have d0:=FN iv0 no0 (who+1)
 simp only [List.length_singleton,Int.natCast_one] at d0
 exact Fb T.t (by omega) ⟨by omega,by omega⟩ hk h ⟨hl,ho,hp,i0.st,w1,w2,w4,(i0.ws 0 (by show 0<W; omega)).2.2.1,d1,d0⟩ ⟨iv1.hl,by omega,by omega⟩ ⟨iv0.hl,by omega,by omega⟩ (Mu iv0) (i0.ws 0 (by show 0<W; omega)).2.2.1 hK
theorem WorkSteal_walk {H:Type} {enc:TypeId × Value→H} (W:World) (_:W.ShapedOpen Tryz.prog) {v0 v1 v2:Value} {r:Reach} {b0 base:Nat} {spare:Nat→Bool} {held:Bool} {d0 d1 d2:DataW H} {p0 p1 p2:List MemPlace}
  (e0:Value.okWide Tryz.prog W r b0 c7 v0) (h0:DataW.Trod enc Tryz.prog W base spare held c7 v0 d0 p0) (w0:∀ n ∈ d0.weights Tryz.prog c7,n≤reachBytes)
  (e1:Value.okWide Tryz.prog W r b0 jf v1) (h1:DataW.Trod enc Tryz.prog W base spare held jf v1 d1 p1) (w1:∀ n ∈ d1.weights Tryz.prog jf,n≤reachBytes)
  (e2:Value.okWide Tryz.prog W r b0 jf v2) (h2:DataW.Trod enc Tryz.prog W base spare held jf v2 d2 p2) (w2:∀ n ∈ d2.weights Tryz.prog jf,n≤reachBytes) :
  Calls Tryz.prog eO #[v0,v1,v2] W fun e W'=>e=.returned (.bool true)∧Below W.heap.size W W':=by
 obtain ⟨σ,hσ⟩:∃ σ:Sig,σ.g=none:=⟨⟨fun _=>0,fun _=>false,fun _=>⟨#[]⟩,none⟩,rfl⟩
 obtain ⟨x0,r0,s0⟩:=pp (P:=Tryz.prog) (ti:=tiT.get) (S:=vb) (t:=c7) (σ:=σ) ry jJ (jZ (by kernel_rfl)) e0 h0 w0
 obtain ⟨x1,r1,s1⟩:=pp (P:=Tryz.prog) (ti:=tiT.get) (S:=vb) (t:=jf) (σ:=σ) ry jJ (jZ (by kernel_rfl)) e1 h1 w1
 obtain ⟨x2,r2,s2⟩:=pp (P:=Tryz.prog) (ti:=tiT.get) (S:=vb) (t:=jf) (σ:=σ) ry jJ (jZ (by kernel_rfl)) e2 h2 w2
 obtain ⟨L,rfl,hL,_⟩:=Km s0
 obtain ⟨w,rfl,_⟩:=MK s1
 obtain ⟨a,rfl,_⟩:=MK s2
 obtain ⟨Hf,hg⟩:=pP (σ:=σ) hL w a
 exact sD (Qs r0 r1 r2) hg fun g h=>by rw [hσ] at h; cases h
end Go.Proofs.YtegioimlblnajaaGreat.Ev

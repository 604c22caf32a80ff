/- The walks, part 8: the evaluator, the functions, the laws. Conditions: none. -/
import Derived.Test.YthdcghnjndhecaaGreatZ7
namespace Go.Proofs.YthdcghnjndhecaaGreat.Ev
set_option linter.unusedVariables false
set_option linter.unusedSimpArgs false
variable {σ:Sig}
def encZ1 (n:Int):List AV:=[I n]
def intz (l:List Int):AV:=.imm 1 (l.map encZ1)
@[simp] theorem noId_intz (l:List Int):noId (intz l)=true:=by unfold intz; simp only [noId]; exact noIds_map _ (fun _=>rfl) l
@[simp] theorem len_intz (l:List Int):lenSl (intz l)=some (.lit (.int .i64 l.length)):=by simp [intz]
def ruleF (L:List Nd) (e:Int) (ask:Sl→Bool) (s:Wn) (r:RL):Wn:=if (bestW L e (r.sels.filter ask) (0,false)).2 then r.sets.foldl (setW (bestW L e (r.sels.filter ask) (0,false)).1) s else s
def runI (L:List Nd) (e:Int) (ask:Sl→Bool) (l:List RL) (s:Wn) (i:Int):Wn:=if i<0 then s else match l[i.toNat]? with
 | some r=>ruleF L e ask s r
 | none=>s
theorem WsOk.filter {l:List Sl} (h:WsOk l) (p:Sl→Bool):WsOk (l.filter p) :=
 ⟨Nat.le_trans (List.length_filter_le _ _) h.len,fun s hs=>h.ok s (List.mem_filter.1 hs).1,fun s hs=>h.wf s (List.mem_filter.1 hs).1,fun s hs=>h.fit s (List.mem_filter.1 hs).1⟩
theorem bestW_bd {L:List Nd} {e:Int}:∀ {l:List Sl},WsOk l→∀ a:Int × Bool,0≤a.1∧a.1≤16777215→0≤(bestW L e l a).1∧(bestW L e l a).1≤16777215
 | [],_,a,ha=>ha
 | s::r,h,a,ha=>by
  have hs:=ofW_le (h.wf s (by simp)) (h.fit s (by simp))
  have hr:WsOk r:=⟨by have:=h.len; rw [List.length_cons] at this; omega,fun s hs=>h.ok s (by simp [hs]),fun s hs=>h.wf s (by simp [hs]),fun s hs=>h.fit s (by simp [hs])⟩
  unfold bestW
  refine bestW_bd hr _ ?_
  split
  ·simp only
   split<;>omega
  ·exact ha
section
attribute [local irreducible] cascade_candidates_1.L0 cascade_candidates_1.J1 cascade_candidates_1.L2 cascade_candidates_1.J3 cascade_candidates_1.L4
theorem cand_ok {L:List Nd} {d:List Nat} (M:McT σ L d) {l:List RL} (hl:∀ r ∈ l,WsOk r.sels∧r.sets.length≤30) {n:Nat} {e:Int} {ask:Sl→Bool} {a:AV} {js:Nat→AV} {bs:List Cn} {s:Wn} {idx:List Int} {H:Hp}
  (h:RS n (domT L d) (I e) (rls l) (intz idx) a js bs s H) (P:Hp→Prop) (hP:P H) (Pst:∀ H H',P H→H.n≤H'.n→(∀ j,j<n→H'.get j=H.get j)→P H')
  (hask:∀ r ∈ l,∀ q ∈ r.sels,∀ (H:Hp) (K:AV→Hp→Prop),P H→n+10≤H.n→(∀ H',H.n≤H'.n→(∀ j,j<H.n→H'.get j=H.get j)→K (Bo (ask q)) H')→callV Tryz.prog σ a [.agg (encSl q)] H K) (hidx:idx.length≤1000000)
  {K:AV→Hp→Prop} (hK:∀ H' bs',RS n (domT L d) (I e) (rls l) (intz idx) a js bs' (idx.foldl (runI L e ask l) s) H'→(∀ j,j<n→H'.get j=H.get j)→K (.tup []) H') :
  callK Tryz.prog σ n_cascade_candidates_1 [.yl (n+9),.ptr (n+3) 0,.ptr (n+2) 0,.ptr (n+4) 0,.ptr n 0,.ptr (n+1) 0] H K:=by
 refine cascade_candidates_1.run ?_
 have ldx:∀ {bs s H},RS n (domT L d) (I e) (rls l) (intz idx) a js bs s H→ldA false 1 H (.ptr (n+3) 0)=some (intz idx):=fun h=>by rw [ld_ptr,h.gx]; rfl
 have ldl:∀ {bs s H},RS n (domT L d) (I e) (rls l) (intz idx) a js bs s H→ldA false 1 H (.ptr (n+2) 0)=some (rls l):=fun h=>by rw [ld_ptr,h.gl]; rfl
 have lda:∀ {bs s H},RS n (domT L d) (I e) (rls l) (intz idx) a js bs s H→ldA false 1 H (.ptr (n+4) 0)=some a:=fun h=>by rw [ld_ptr,h.ga]; simp
 have ldt:∀ {bs s H},RS n (domT L d) (I e) (rls l) (intz idx) a js bs s H→ldA false 1 H (.ptr n 0)=some (domT L d):=fun h=>by rw [ld_ptr,h.gt]; simp
 have lde:∀ {bs s H},RS n (domT L d) (I e) (rls l) (intz idx) a js bs s H→ldA false 1 H (.ptr (n+1) 0)=some (I e):=fun h=>by rw [ld_ptr,h.ge]; rfl
 simp only [ldx h,bnd_some,len_intz]
 obtain ⟨F,hF⟩:∃ F:Nat→Wn,∀ k,F k=(idx.take k).foldl (runI L e ask l) s:=⟨_,fun _=>rfl⟩
 obtain ⟨lw,hlw⟩:∃ lw:Hp→Prop,∀ H',lw H' ↔ ∀ j,j<n→H'.get j=H.get j:=⟨_,fun _=>Iff.rfl⟩
 have L0:∀ (f k:Nat) (H1:Hp) (bs:List Cn) (y8 y9 y12 y13 y34 y35 y36 y59 y60 y61:AV),idx.length - k=f→k≤idx.length→RS n (domT L d) (I e) (rls l) (intz idx) a js bs (F k) H1→P H1→lw H1 →
   cascade_candidates_1.L0 σ K (.yl (n+9)) (.ptr (n+2) 0) (.ptr (n+4) 0) (.ptr n 0) (.ptr (n+1) 0) y8 y9 y12 y13 (intz idx) (I idx.length) (I (k:Int)) y34 y35 y36 y59 y60 y61 H1:=by
  intro f
  induction f with
  | zero =>
   intro k H1 bs y8 y9 y12 y13 y34 y35 y36 y59 y60 y61 hf hk hI hP1 hlo
   have:k=idx.length:=by omega
   subst this
   refine cascade_candidates_1.L0_step ?_
   simp only [b_lss,bnd_some,Int.lt_irrefl,decide_false,ifB_lit,Bool.false_eq_true,if_false]
   rw [hF,List.take_length] at hI
   exact hK H1 bs hI ((hlw H1).1 hlo)
  | succ f ih =>
   intro k H1 bs y8 y9 y12 y13 y34 y35 y36 y59 y60 y61 hf hk hI hP1 hlo
   have hkl:k<idx.length:=by omega
   have hkl':(k:Int)<idx.length:=by omega
   obtain ⟨i,hi⟩:=get_lt hkl
   have hix:ixaSl 1 (intz idx) (I (k:Int))=some (.ip (encZ1 i)):=ix_map hi
   have lz:∀ H:Hp,ldA false 1 H (.ip (encZ1 i))=some (I i):=fun _=>rfl
   have eF:F (k+1)=runI L e ask l (F k) i:=by rw [hF,hF,List.take_add_one,hi]; simp
   have J1:∀ (H1:Hp) (bs:List Cn) (y8 y9 y12 y13 y34 y35 y36 y59 y60 y61:AV),RS n (domT L d) (I e) (rls l) (intz idx) a js bs (F (k+1)) H1→P H1→lw H1 →
     cascade_candidates_1.J1 σ K (.yl (n+9)) (.ptr (n+2) 0) (.ptr (n+4) 0) (.ptr n 0) (.ptr (n+1) 0) y8 y9 y12 y13 (intz idx) (I idx.length) (I (k:Int)) y34 y35 y36 y59 y60 y61 H1:=by
    intro H1 bs y8 y9 y12 y13 y34 y35 y36 y59 y60 y61 hI hP1 hlo
    refine cascade_candidates_1.J1_step ?_
    simp only [b_add,bnd_some,wr_succ (show k<9000000000000000000 by omega)]
    exact ih (k+1) H1 bs _ _ _ _ _ _ _ _ _ _ (by omega) (by omega) hI hP1 hlo
   refine cascade_candidates_1.L0_step ?_
   simp only [b_lss,bnd_some,hkl',decide_true,ifB_lit,if_true,hix,lz,decide_eq_true_eq]
   by_cases h0:i<0
   ·rw [if_pos h0]
    exact J1 H1 bs _ _ _ _ _ _ _ _ _ _ (by rw [eF]; unfold runI; rw [if_pos h0]; exact hI) hP1 hlo
   rw [if_neg h0]
   simp only [ldl hI,bnd_some,len_rls,b_geq,ifB_lit,decide_eq_true_eq]
   by_cases h1:(l.length:Int)≤i
   ·rw [if_pos h1]
    exact J1 H1 bs _ _ _ _ _ _ _ _ _ _ (by rw [eF]; unfold runI; rw [if_neg h0,List.getElem?_eq_none (by omega)]; exact hI) hP1 hlo
   rw [if_neg h1]
   obtain ⟨m0,hm0⟩:∃ m:Nat,i=m:=⟨i.toNat,by omega⟩
   obtain ⟨r,hr⟩:=get_lt (show m0<l.length by omega)
   have hrm:=List.mem_of_getElem? hr
   have hrl:ixaSl 2 (rls l) (I i)=some (.ip (encRL r)):=by rw [hm0]; exact ix_map hr
   have lr0:∀ H:Hp,ldA false 1 H (.ip ((encRL r).drop 0))=some (sls r.sels):=fun _=>rfl
   have lr1:∀ H:Hp,ldA false 1 H (.ip ((encRL r).drop 1))=some (.imm 4 (r.sets.map encST)):=fun _=>rfl
   have eF2:F (k+1)=ruleF L e ask (F k) r:=by rw [eF]; unfold runI; rw [if_neg h0,hm0,Int.toNat_natCast,hr]
   obtain ⟨hws,hsets⟩:=hl r hrm
   have hwl:=hws.len
   simp only [hrl,bnd_some,sh_ip,lr0,len_sls]
   have L2:∀ (g m:Nat) (H1:Hp) (bs:List Cn) (y9 y12 y13 y59 y60 y61:AV),r.sels.length - m=g→m≤r.sels.length→RS n (domT L d) (I e) (rls l) (intz idx) a js bs (F k) H1→P H1→lw H1→Gs 1 H1 y9 (((r.sels.take m).filter ask).map encSl)→(∀ j,own y9 j→n+10≤j) →
     cascade_candidates_1.L2 σ K (.yl (n+9)) (.ptr (n+2) 0) (.ptr (n+4) 0) (.ptr n 0) (.ptr (n+1) 0) (I i) y9 y12 y13 (intz idx) (I idx.length) (I (k:Int)) (sls r.sels) (I r.sels.length) (I (m:Int)) y59 y60 y61 H1:=by
    intro g
    induction g with
    | zero =>
     intro m H1 bs y9 y12 y13 y59 y60 y61 hg hm hI hP1 hlo hgs how
     have:m=r.sels.length:=by omega
     subst this
     rw [List.take_length] at hgs
     refine cascade_candidates_1.L2_step ?_
     simp only [b_lss,bnd_some,Int.lt_irrefl,decide_false,ifB_lit,Bool.false_eq_true,if_false,ldt hI,lde hI]
     have hwf:=hws.filter ask
     have hbd:=bestW_bd (L:=L) (e:=e) hwf (0,false) (by omega)
     refine callK_of ((Best_ok M hwf e Hp.empty).frzA (.cons (.refl (noId_domT _ _)) (.cons (.refl rfl) (.cons (hgs.fz (noIds_map _ noId_Sl _)) .nil))) rfl) ?_
     have ex:∀ x y:AV,exR (.tup [x,y]) 0=some x∧exR (.tup [x,y]) 1=some y:=fun _ _=>⟨rfl,rfl⟩
     simp only [(ex _ _).1,(ex _ _).2,bnd_some,ldl hI,hrl,sh_ip,lr1,len_imm,List.length_map]
     generalize hb:bestW L e (r.sels.filter ask) (0,false)=bw at hbd
     have L4:∀ (u z:Nat) (H1:Hp) (bs:List Cn),r.sets.length - z=u→z≤r.sets.length→RS n (domT L d) (I e) (rls l) (intz idx) a js bs (if bw.2 then (r.sets.take z).foldl (setW bw.1) (F k) else F k) H1→P H1→lw H1 →
       cascade_candidates_1.L4 σ K (.yl (n+9)) (.ptr (n+2) 0) (.ptr (n+4) 0) (.ptr n 0) (.ptr (n+1) 0) (I i) y9 (I bw.1) (Bo bw.2) (intz idx) (I idx.length) (I (k:Int)) (sls r.sels) (I r.sels.length) (I (r.sels.length:Int)) (.imm 4 (r.sets.map encST)) (I r.sets.length) (I (z:Int)) H1:=by
      intro u
      induction u with
      | zero =>
       intro z H1 bs hu hz hI hP1 hlo
       have:z=r.sets.length:=by omega
       subst this
       rw [List.take_length] at hI
       refine cascade_candidates_1.L4_step ?_
       simp only [b_lss,bnd_some,Int.lt_irrefl,decide_false,ifB_lit,Bool.false_eq_true,if_false]
       refine J1 H1 bs _ _ _ _ _ _ _ _ _ _ ?_ hP1 hlo
       rw [eF2]
       unfold ruleF
       rw [hb]
       exact hI
      | succ u ihu =>
       intro z H1 bs hu hz hI hP1 hlo
       have hzl:z<r.sets.length:=by omega
       have hzl':(z:Int)<r.sets.length:=by omega
       obtain ⟨q,hq⟩:=get_lt hzl
       have hiq:ixaSl 4 (.imm 4 (r.sets.map encST)) (I (z:Int))=some (.ip (encST q)):=ix_map hq
       have lq:∀ H:Hp,ldA true 4 H (.ip (encST q))=some (.agg (encST q)):=fun _=>rfl
       refine cascade_candidates_1.L4_step ?_
       simp only [b_lss,bnd_some,hzl',decide_true,ifB_lit,if_true,hiq,lq,allocK_eq]
       obtain ⟨H3,hH3⟩:∃ H3,H3=(H1.new (.cells [I 0,I 0,I 0,.lit (.bool false)] true)).set H1.n (some (.cells (encST q) true)):=⟨_,rfl⟩
       have st:stA 4 (H1.new (.cells [I 0,I 0,I 0,.lit (.bool false)] true)) (.ptr H1.n 0) (.agg (encST q))=some H3:=by
        rw [st_agg,hH3]; simp [encST]; rfl
       have n3:H3.n=H1.n+1:=by rw [hH3]; rfl
       have g3:∀ j,j<H1.n→H3.get j=H1.get j:=by
        intro j hj
        have:j≠H1.n:=by omega
        rw [hH3]; simp [this]
       have gb3:H3.get H1.n=some (.cells (encST q) true):=by rw [hH3]; simp
       clear hH3
       have hup:=hI.up
       have hI3:RS n (domT L d) (I e) (rls l) (intz idx) a js bs (if bw.2 then (r.sets.take z).foldl (setW bw.1) (F k) else F k) H3:=hI.keep (fun j h1 h2=>g3 j (by omega)) (by omega)
       have hP3:P H3:=Pst H1 H3 hP1 (by omega) fun j hj=>g3 j (by omega)
       have hlo3:lw H3:=(hlw H3).2 fun j hj=>by rw [g3 j (by omega)]; exact (hlw H1).1 hlo j hj
       simp only [st,bnd_some]
       have nxt:∀ (H4:Hp) (bs':List Cn),RS n (domT L d) (I e) (rls l) (intz idx) a js bs' (if bw.2 then (r.sets.take (z+1)).foldl (setW bw.1) (F k) else F k) H4→P H4→lw H4 →
         bnd (binR .add (I (z:Int)) (I 1)) fun x13=>cascade_candidates_1.L4 σ K (.yl (n+9)) (.ptr (n+2) 0) (.ptr (n+4) 0) (.ptr n 0) (.ptr (n+1) 0) (I i) y9 (I bw.1) (Bo bw.2) (intz idx) (I idx.length) (I (k:Int)) (sls r.sels) (I r.sels.length) (I (r.sels.length:Int)) (.imm 4 (r.sets.map encST)) (I r.sets.length) x13 H4:=by
        intro H4 bs' h1 h2 h3
        simp only [b_add,bnd_some,wr_succ (show z<9000000000000000000 by omega)]
        exact ihu (z+1) H4 bs' (by omega) (by omega) h1 h2 h3
       cases hbw:bw.2 with
       | false =>
        rw [hbw] at hI3 nxt
        simp only [Bool.false_eq_true,if_false] at hI3 nxt ⊢
        exact nxt H3 bs hI3 hP3 hlo3
       | true =>
        rw [hbw] at hI3 nxt
        simp only [if_true] at hI3 nxt ⊢
        have lb:ldA true 4 H3 (.ptr H1.n 0)=some (.agg (encST q)):=by rw [ld_ptr,gb3]; rfl
        have hbl:bldR [I 0,I 0,I 0,.lit (.bool false),I 0] [(0,4,.agg (encST q)),(4,1,I bw.1)]=some [I q.prop,I q.kind,I q.n,Bo q.imp,I bw.1]:=rfl
        simp only [lb,bnd_some,hbl]
        refine yield_ok hI3 hbd fun H4 bs' h4 u4 k4=>?_
        simp only [u_not,bnd_some,ifB_lit,Bool.not_true,Bool.false_eq_true,if_false]
        refine nxt H4 bs' ?_ (Pst H3 H4 hP3 u4 fun j hj=>k4 j (by omega) (.inl hj)) ((hlw H4).2 fun j hj=>by rw [k4 j (by omega) (.inl hj)]; exact (hlw H3).1 hlo3 j hj)
        rw [List.take_add_one,hq]
        simpa using h4
     exact L4 _ 0 H1 bs rfl (Nat.zero_le _) (by simpa using hI) hP1 hlo
    | succ g ihg =>
     intro m H1 bs y9 y12 y13 y59 y60 y61 hg hm hI hP1 hlo hgs how
     have hml:m<r.sels.length:=by omega
     have hml':(m:Int)<r.sels.length:=by omega
     obtain ⟨q,hq⟩:=get_lt hml
     have hqm:=List.mem_of_getElem? hq
     have hiq:ixaSl 1 (sls r.sels) (I (m:Int))=some (.ip (encSl q)):=ix_map hq
     refine cascade_candidates_1.L2_step ?_
     simp only [b_lss,bnd_some,hml',decide_true,ifB_lit,if_true,hiq,ld_ip,ldL_sl,allocK_eq]
     obtain ⟨H3,hH3⟩:∃ H3,H3=(H1.new (.cells [.lit (.slice none 0 0)] true)).set H1.n (some (.cells (encSl q) true)):=⟨_,rfl⟩
     have st:stA 1 (H1.new (.cells [.lit (.slice none 0 0)] true)) (.ptr H1.n 0) (.agg (encSl q))=some H3:=by
      rw [st_agg,hH3]; simp [encSl]
     have n3:H3.n=H1.n+1:=by rw [hH3]; rfl
     have g3:∀ j,j<H1.n→H3.get j=H1.get j:=by
      intro j hj
      have:j≠H1.n:=by omega
      rw [hH3]; simp [this]
     have gb3:H3.get H1.n=some (.cells (encSl q) true):=by rw [hH3]; simp
     clear hH3
     have hup:=hI.up
     have hI3:RS n (domT L d) (I e) (rls l) (intz idx) a js bs (F k) H3:=hI.keep (fun j h1 h2=>g3 j (by omega)) (by omega)
     have hP3:P H3:=Pst H1 H3 hP1 (by omega) fun j hj=>g3 j (by omega)
     have hlo3:lw H3:=(hlw H3).2 fun j hj=>by rw [g3 j (by omega)]; exact (hlw H1).1 hlo j hj
     have hgs3:Gs 1 H3 y9 (((r.sels.take m).filter ask).map encSl):=hgs.keep (fun j hj=>g3 j (hgs.lt hj)) (by omega)
     have lb:∀ H4:Hp,H4.get H1.n=some (.cells (encSl q) true)→ldA true 1 H4 (.ptr H1.n 0)=some (.agg (encSl q)):=fun H4 h=>by rw [ld_ptr,h]; rfl
     simp only [st,bnd_some,lda hI3,lb H3 gb3]
     refine hask r hrm q hqm H3 _ hP3 (by omega) fun H5 u5 k5=>?_
     have hI5:=hI3.keep (H':=H5) (fun j h1 h2=>k5 j (by omega)) u5
     have hP5:P H5:=Pst H3 H5 hP3 u5 fun j hj=>k5 j (by omega)
     have hlo5:lw H5:=(hlw H5).2 fun j hj=>by rw [k5 j (by omega)]; exact (hlw H3).1 hlo3 j hj
     have hgs5:Gs 1 H5 y9 (((r.sels.take m).filter ask).map encSl):=hgs3.keep (fun j hj=>k5 j (hgs3.lt hj)) u5
     have gb5:H5.get H1.n=some (.cells (encSl q) true):=by rw [k5 _ (by omega)]; exact gb3
     have J3:∀ (H6:Hp) (y9:AV),RS n (domT L d) (I e) (rls l) (intz idx) a js bs (F k) H6→P H6→lw H6→Gs 1 H6 y9 (((r.sels.take (m+1)).filter ask).map encSl)→(∀ j,own y9 j→n+10≤j) →
       cascade_candidates_1.J3 σ K (.yl (n+9)) (.ptr (n+2) 0) (.ptr (n+4) 0) (.ptr n 0) (.ptr (n+1) 0) (I i) y9 y12 y13 (intz idx) (I idx.length) (I (k:Int)) (sls r.sels) (I r.sels.length) (I (m:Int)) y59 y60 y61 H6:=by
      intro H6 y9 h1 h2 h3 h4 h5
      refine cascade_candidates_1.J3_step ?_
      simp only [b_add,bnd_some,wr_succ (show m<9000000000000000000 by omega)]
      exact ihg (m+1) H6 bs y9 _ _ _ _ _ (by omega) (by omega) h1 h2 h3 h4 h5
     have htk:(r.sels.take (m+1)).filter ask=(r.sels.take m).filter ask++(if ask q then [q] else []):=by
      rw [List.take_add_one,hq,List.filter_append]
      congr 1
      cases ha:ask q<;>simp [ha]
     cases ha:ask q with
     | false =>
      simp only [ifB_lit,Bool.false_eq_true,if_false]
      refine J3 H5 y9 hI5 hP5 hlo5 ?_ how
      rw [htk,ha]
      simpa using hgs5
     | true =>
      simp only [ifB_lit,if_true,lb H5 gb5,bnd_some]
      have hfl:((r.sels.take m).filter ask).length≤2000000:=Nat.le_trans (List.length_filter_le _ _) (by rw [List.length_take]; omega)
      refine bnd_app1 (y:=.agg (encSl q)) hgs5 rfl rfl rfl (by rw [List.length_map]; omega) (by rw [List.length_map]; omega) fun x' H' g' fr=>?_
      have hup5:=fr.grow
      have e9:∀ j,j<n+10→H'.get j=H5.get j:=fun j hj=>fr.same j (by omega) fun ho=>by have:=how j ho; omega
      refine J3 H' x' (hI5.keep (fun j h1 h2=>e9 j h2) hup5) (Pst H5 H' hP5 hup5 fun j hj=>e9 j (by omega)) ((hlw H').2 fun j hj=>by rw [e9 j (by omega)]; exact (hlw H5).1 hlo5 j hj) ?_ fun j hj=>?_
      ·rw [htk,ha,if_pos rfl,List.map_append]
       exact g'
      ·rcases fr.mine j hj with h | h
       ·exact how j h
       ·omega
   exact L2 _ 0 H1 bs _ _ _ _ _ _ rfl (Nat.zero_le _) hI hP1 hlo (by simpa using Gs.nil) (fun j hj=>hj.elim)
 exact L0 _ 0 H bs _ _ _ _ _ _ _ _ _ _ rfl (Nat.zero_le _) (by rw [hF]; simpa using h) hP ((hlw H).2 fun _ _=>rfl)
end
end Go.Proofs.YthdcghnjndhecaaGreat.Ev
namespace Go.Proofs.YthdcghnjndhecaaGreat.Ev
set_option linter.unusedVariables false
set_option linter.unusedSimpArgs false
variable {σ:Sig}
theorem callK_gs {P:Program} {f sz:Nat} {xs ys:List AV} {H:Hp} {K:AV→Hp→Prop} {x:AV} {rows:List (List AV)} (g:Gs sz H x rows) (hn:noIdss rows=true) (hT:∀ Hd,Fz Hd x (.imm sz rows)→FzT Hd ys xs)
  (h:∀ H2,H2.n=H.n→(∀ j,¬ own x j→H2.get j=H.get j)→(∀ j,H.get j=none→H2.get j=none)→callK P σ f xs H2 K):callK P σ f ys H K:=by
 cases g with
 | nil =>
  obtain ⟨r,H1,hg,hk⟩:=h H rfl (fun _ _=>rfl) fun _ h=>h
  exact ⟨r,H1,Good.conv (Wk.frz (H2:=H) (Hd:=Hp.bare H.n) rfl rfl (fun id k hk=>by simp at hk) (fun id k2 hk=>⟨k2,hk,.refl _ _⟩) (hT _ .nil)) hg,hk⟩
 | sl hlt hg hsz =>
  rename_i id ex
  obtain ⟨r,H1,hgood,hk⟩:=h (H.set id none) (by simp) (fun j hj=>by
   have:j≠id:=fun e=>hj e.symm
   simp [this]) (fun j hj=>by
   rw [hp_get_set]
   split
   ·rfl
   ·exact hj)
  have hd0:∀ j,((Hp.bare H.n).set id (some (.cells rows.flatten ex))).get j=if j=id then some (.cells rows.flatten ex) else none:=fun j=>by
   rw [hp_get_set]
   split
   ·rfl
   ·simp
  refine ⟨r,H1,Good.conv (Wk.frz (Hd:=(Hp.bare H.n).set id (some (.cells rows.flatten ex))) (by simp) (by simp) (fun j k hk=>?_) (fun j k2 hk=>?_) (hT _ ?_)) hgood,hk⟩
  ·rw [hd0] at hk
   split at hk
   ·rename_i e
    subst e
    exact ⟨by rw [hg]; exact hk,by simp⟩
   ·cases hk
  ·rw [hp_get_set] at hk
   split at hk
   ·cases hk
   ·exact ⟨k2,hk,.refl _ _⟩
  ·exact .rows (cs:=rows.flatten) (ex:=ex) (by rw [hd0,if_pos rfl]) hsz (by rw [List.drop_zero]; exact List.take_of_length_le (by rw [flatten_len hsz]; exact Nat.le_refl _)) hn
theorem wn0_ok:wn0.Ok:=⟨by simp [wn0],by simp [wn0],by simp [wn0]⟩
theorem cwinners_sp {L:List Nd} {d:List Nat} (M:McT σ L d) {l:List RL} (hl:∀ r ∈ l,WsOk r.sels∧r.sets.length≤30) {e:Int} {ask:Sl→Bool} {a:AV} {idx:List Int} {H:Hp} (ha1:a.cells=[a]) (ha2:a.isAny=false)
  (P:Hp→Prop) (hP:P H) (Pst:∀ H' H'',P H'→H'.n≤H''.n→(∀ j,j<H.n→H''.get j=H'.get j)→P H'')
  (hask:∀ r ∈ l,∀ q ∈ r.sels,∀ (H':Hp) (K:AV→Hp→Prop),P H'→H.n+10≤H'.n→(∀ H'',H'.n≤H''.n→(∀ j,j<H'.n→H''.get j=H'.get j)→K (Bo (ask q)) H'')→callV Tryz.prog σ a [.agg (encSl q)] H' K) (hidx:idx.length≤1000000)
  {K:AV→Hp→Prop} (hK:∀ H',(∀ j,j<H.n→H'.get j=H.get j)→K (.agg ((idx.foldl (runI L e ask l) wn0).o.map I)) H') :
  callK Tryz.prog σ n_cascade_candidates [domT L d,I e,rls l,intz idx,a] H fun x5 H6=>callK Tryz.prog σ n_cascade_winners [x5] H6 K:=by
 refine cascade_candidates.run ?_
 have b1:(domT L d).cells=[domT L d]∧(domT L d).isAny=false:=⟨rfl,rfl⟩
 have b2:(rls l).cells=[rls l]∧(rls l).isAny=false:=⟨rfl,rfl⟩
 have b3:(intz idx).cells=[intz idx]∧(intz idx).isAny=false:=⟨rfl,rfl⟩
 have bx:∀ (x:AV) (H:Hp) (K:AV→Hp→Prop),x.cells=[x]→x.isAny=false→boxK x H K=K (.ptr H.n 0) (H.new (.cells [x] true)):=by
  intro x H K h1 h2
  unfold boxK
  rw [h2,h1]; rfl
 rw [bx _ _ _ b1.1 b1.2,bx _ _ _ rfl rfl,bx _ _ _ b2.1 b2.2,bx _ _ _ b3.1 b3.2,bx _ _ _ ha1 ha2]
 refine cascade_winners.run ?_
 simp only [allocK_eq,rangeK_fn]
 intro js
 obtain ⟨n,hn⟩:∃ n,n=H.n:=⟨_,rfl⟩
 simp only [Hp.n_new,← hn]
 obtain ⟨H8,hH8⟩:∃ H8,H8=((((((((H.new (.cells [domT L d] true)).new (.cells [I e] true)).new (.cells [rls l] true)).new (.cells [intz idx] true)).new (.cells [a] true)).new (.cells (List.replicate 16 (I 0)) true)).new (.cells (List.replicate 16 (I 0)) true)).new (.cells [I 0,I 0,I 0,.lit (.bool false),I 0,I 0,I 0,I 0,.lit (.bool false),I 0,I 0,I 0,I 0,.lit (.bool false),I 0,I 0,I 0,I 0,.lit (.bool false),I 0,I 0,I 0,I 0,.lit (.bool false),I 0,I 0,I 0,I 0,.lit (.bool false),I 0,I 0,I 0,I 0,.lit (.bool false),I 0,I 0,I 0,I 0,.lit (.bool false),I 0] true)).new (.cells [.lit (.bool false),.lit (.bool false),.lit (.bool false),.lit (.bool false),.lit (.bool false),.lit (.bool false),.lit (.bool false),.lit (.bool false)] true):=⟨_,rfl⟩
 have n8:H8.n=n+9:=by rw [hH8,hn]; rfl
 have g8:∀ j,H8.get j=if j=n+8 then some (.cells (List.replicate 8 (Bo false)) true) else if j=n+7 then some (.cells ((List.replicate 8 cn0).map encCn).flatten true) else if j=n+6 then some (.cells (List.replicate 16 (I 0)) true) else if j=n+5 then some (.cells (List.replicate 16 (I 0)) true) else if j=n+4 then some (.cells [a] true) else if j=n+3 then some (.cells [intz idx] true) else if j=n+2 then some (.cells [rls l] true) else if j=n+1 then some (.cells [I e] true) else if j=n then some (.cells [domT L d] true) else H.get j:=by
  intro j
  rw [hH8]
  simp only [hp_get_new,Hp.n_new,← hn]
  rfl
 rw [show n+1+1=n+2 from rfl,show n+2+1=n+3 from rfl,show n+3+1=n+4 from rfl,show n+4+1=n+5 from rfl,show n+5+1=n+6 from rfl,show n+6+1=n+7 from rfl,show n+7+1=n+8 from rfl,show n+8+1=n+9 from rfl]
 rw [← hH8]
 clear hH8
 have lo8:∀ j,j<n→H8.get j=H.get j:=fun j hj=>by
  rw [g8,if_neg (by omega),if_neg (by omega),if_neg (by omega),if_neg (by omega),if_neg (by omega),if_neg (by omega),if_neg (by omega),if_neg (by omega),if_neg (by omega)]
 obtain ⟨H9,hH9⟩:∃ H9,H9=H8.new (.loop (cascade_winners.R0 js (.ptr (n+6) 0) (.ptr (n+7) 0) (.ptr (n+8) 0)) .ready none):=⟨_,rfl⟩
 have n9:H9.n=n+10:=by rw [hH9,Hp.n_new,n8]
 have g9:∀ j,j<n+9→H9.get j=H8.get j:=fun j hj=>by rw [hH9,hp_get_new,if_neg (by omega)]
 have gl9:H9.get (n+9)=some (.loop (cascade_winners.R0 js (.ptr (n+6) 0) (.ptr (n+7) 0) (.ptr (n+8) 0)) .ready none):=by rw [hH9,hp_get_new,if_pos n8.symm]
 rw [← hH9]
 clear hH9
 have hI:RS n (domT L d) (I e) (rls l) (intz idx) a js (List.replicate 8 cn0) wn0 H9:=by
  refine ⟨?_,?_,?_,?_,?_,?_,?_,?_,?_,gl9,by omega,wn0_ok,by simp,fun p hp ht=>?_⟩
  ·rw [g9 _ (by omega),g8]; simp
  ·rw [g9 _ (by omega),g8]; simp
  ·rw [g9 _ (by omega),g8]; simp
  ·rw [g9 _ (by omega),g8]; simp
  ·rw [g9 _ (by omega),g8]; simp
  ·rw [g9 _ (by omega),g8,if_neg (by omega),if_neg (by omega),if_neg (by omega),if_pos rfl]
  ·rw [g9 _ (by omega),g8,if_neg (by omega),if_neg (by omega),if_pos rfl]; rfl
  ·rw [g9 _ (by omega),g8,if_neg (by omega),if_pos rfl]
  ·rw [g9 _ (by omega),g8,if_pos rfl]; rfl
  ·exfalso
   have:wn0.t.getD p false=false:=by
    simp only [wn0,List.getD_eq_getElem?_getD,List.getElem?_replicate]
    rw [if_pos hp]; rfl
   rw [this] at ht; cases ht
 have hP9:P H9:=Pst H H9 hP (by omega) fun j hj=>by rw [g9 _ (by omega),lo8 j (by omega)]
 refine cand_ok M hl hI P hP9 (fun H' H'' h1 h2 h3=>Pst H' H'' h1 h2 fun j hj=>h3 j (by omega)) (fun r hr q hq H' K h1 h2 h3=>hask r hr q hq H' K h1 (by omega) h3) hidx fun H' bs' h' lo'=>?_
 rw [h'.lp,endK_ready]
 have gx:∀ j,j≠n+9→(H'.set (n+9) none).get j=H'.get j:=fun j hj=>by rw [hp_get_set,if_neg hj]
 obtain ⟨s',hs'⟩:∃ s',s'=idx.foldl (runI L e ask l) wn0:=⟨_,rfl⟩
 rw [← hs'] at h' hK
 have hol:(s'.o.map I).length=16:=by rw [List.length_map]; exact h'.ok.o
 have l1:ldA true 16 (H'.set (n+9) none) (.ptr (n+6) 0)=some (.agg (s'.o.map I)):=by
  rw [ld_ptr,gx _ (by omega),h'.go,ldO_cells,List.drop_zero,ldL_all hol]
 have s1:stA 16 (H'.set (n+9) none) (.ptr (n+5) 0) (.agg (s'.o.map I))=some ((H'.set (n+9) none).set (n+5) (some (.cells (s'.o.map I) true))):=by
  rw [st_agg,gx _ (by omega),h'.gr,if_pos hol,stO_cells,if_pos ⟨by rw [hol]; simp,by rw [List.all_eq_true]; intro x hx; obtain ⟨v,_,rfl⟩:=List.mem_map.1 hx; rfl⟩,overlay_all (by rw [hol]; simp)]
 have l2:ldA true 16 ((H'.set (n+9) none).set (n+5) (some (.cells (s'.o.map I) true))) (.ptr (n+5) 0)=some (.agg (s'.o.map I)):=by
  rw [ld_ptr,hp_get_set,if_pos rfl,ldO_cells,List.drop_zero,ldL_all hol]
 simp only [l1,bnd_some,s1,l2]
 refine hK _ fun j hj=>?_
 rw [hp_get_set,if_neg (by omega),gx _ (by omega),lo' j (by omega),g9 _ (by omega),lo8 j (by omega)]
def natsI (k:Nat):List Int:=(List.range k).map fun (i:Nat)=>(i:Int)
theorem natsI_len (k:Nat):(natsI k).length=k:=by simp [natsI]
theorem natsI_succ (k:Nat):natsI (k+1)=natsI k++[(k:Int)]:=by simp [natsI,List.range_succ]
theorem fold_range {L:List Nd} {e:Int} {l:List RL}:∀ (k:Nat),k≤l.length→((natsI k).foldl (runI L e (fun _=>true) l) wn0)=(l.take k).foldl (ruleW L e) wn0:=by
 intro k
 induction k with
 | zero=>intro _; rfl
 | succ k ih =>
  intro hk
  have hkl:k<l.length:=by omega
  obtain ⟨r,hr⟩:=get_lt hkl
  rw [natsI_succ,List.foldl_append,ih (by omega),List.take_add_one,hr,List.foldl_append]
  show runI L e (fun _=>true) l _ (k:Int)=ruleW L e _ r
  unfold runI
  rw [if_neg (by omega),Int.toNat_natCast,hr]
  generalize List.foldl (ruleW L e) wn0 (List.take k l)=s
  show ruleF L e (fun _=>true) s r=ruleW L e s r
  have ef:r.sels.filter (fun _=>true)=r.sels:=List.filter_eq_self.2 fun _ _=>rfl
  unfold ruleF ruleW
  rw [ef]
section
attribute [local irreducible] cascade_Winners.L0
theorem CWinners_ok {L:List Nd} {d:List Nat} (M:McT σ L d) {l:List RL} (hl:∀ r ∈ l,WsOk r.sels∧r.sets.length≤30) (hlen:l.length≤60) (e:Int) (H:Hp) :
  Good Tryz.prog σ n_cascade_Winners [domT L d,I e,rls l] H (.agg ((winW L e l).o.map I)) H:=by
 have hno:noId (.agg ((winW L e l).o.map I))=true:=by
  simp only [noId]
  generalize (winW L e l).o=o
  induction o with
  | nil=>rfl
  | cons a r ih=>simp only [List.map_cons,noIds,noId,Bool.true_and]; exact ih
 refine good_byI (fun K hK=>cascade_Winners.run ?_) (by simp [noIds,noId,noId_domT]) hno H
 simp only [allocK_eq,len_rls,bnd_some]
 have e0:Hp.empty.n=0:=rfl
 rw [e0]
 have L0:∀ (f k:Nat) (H1:Hp) (y7:AV),l.length - k=f→k≤l.length→H1.get 0=some (.cells (List.replicate 16 (I 0)) true)→1≤H1.n→Gs 1 H1 y7 ((natsI k).map encZ1)→(∀ j,own y7 j→1≤j) →
   cascade_Winners.L0 σ K (domT L d) (I e) (rls l) (.ptr 0 0) y7 (I l.length) (I (k:Int)) H1:=by
  intro f
  induction f with
  | zero =>
   intro k H1 y7 hf hk h0 hn hgs how
   have:k=l.length:=by omega
   subst this
   refine cascade_Winners.L0_step ?_
   simp only [b_lss,bnd_some,Int.lt_irrefl,decide_false,ifB_lit,Bool.false_eq_true,if_false]
   refine callK_gs (xs:=[domT L d,I e,rls l,intz (natsI l.length),.fn n_cascade_Winners_1 []]) hgs (noIds_map _ (fun _=>rfl) _) (fun Hd hz=>.same (.same (.same (.fz hz (.same .nil))))) fun H2 n2 g2 k2=>?_
   refine cwinners_sp M hl (ask:=fun _=>true) rfl rfl (fun _=>True) trivial (fun _ _ _ _ _=>trivial) (fun r hr q hq H' K _ _ hk=>?_) (by rw [natsI_len]; omega) fun H3 lo3=>?_
   ·rw [callV_fn',List.append_nil]
    refine cascade_Winners_1.run ?_
    simp only [boxK_agg]
    refine hk _ (by simp) fun j hj=>?_
    have:j≠H'.n:=by omega
    simp [this]
   ·rw [fold_range _ (Nat.le_refl _),List.take_length]
    have h20:H2.get 0=some (.cells (List.replicate 16 (I 0)) true):=by rw [g2 0 fun ho=>by have:=how 0 ho; omega]; exact h0
    have h30:H3.get 0=some (.cells (List.replicate 16 (I 0)) true):=by rw [lo3 0 (by omega)]; exact h20
    have hwo:(winW L e l).o.length=16:=by
     have:∀ (l:List RL) (s:Wn),s.Ok→(l.foldl (ruleW L e) s).Ok:=by
      intro l
      induction l with
      | nil=>intro s h; exact h
      | cons r l ih =>
       intro s h
       refine ih _ ?_
       unfold ruleW
       split
       ·generalize (bestW L e r.sels (0,false)).1=w
        generalize r.sets=qs
        revert h
        revert s
        induction qs with
        | nil=>intro s h; exact h
        | cons q qs ihq=>intro s h; exact ihq _ (setW_ok h)
       ·exact h
     exact (this l wn0 wn0_ok).o
    have hol:(List.map I (winW L e l).o).length=16:=by rw [List.length_map]; exact hwo
    have s1:stA 16 H3 (.ptr 0 0) (.agg (List.map I (winW L e l).o))=some (H3.set 0 (some (.cells (List.map I (winW L e l).o) true))):=by
     rw [st_agg,h30,if_pos hol,stO_cells,if_pos ⟨by rw [hol]; simp,by rw [List.all_eq_true]; intro x hx; obtain ⟨v,_,rfl⟩:=List.mem_map.1 hx; rfl⟩,overlay_all (by rw [hol]; simp)]
    have l2:ldA true 16 (H3.set 0 (some (.cells (List.map I (winW L e l).o) true))) (.ptr 0 0)=some (.agg (List.map I (winW L e l).o)):=by
     rw [ld_ptr,hp_get_set,if_pos rfl,ldO_cells,List.drop_zero,ldL_all hol]
    show bnd (stA 16 H3 (.ptr 0 0) (.agg (List.map I (winW L e l).o))) _
    simp only [s1,bnd_some,l2]
    exact hK _
  | succ f ih =>
   intro k H1 y7 hf hk h0 hn hgs how
   have hkl':(k:Int)<l.length:=by omega
   refine cascade_Winners.L0_step ?_
   simp only [b_lss,bnd_some,hkl',decide_true,ifB_lit,if_true]
   refine bnd_app1 (y:=I (k:Int)) hgs rfl rfl rfl (by rw [List.length_map,natsI_len]; omega) (by rw [List.length_map,natsI_len]; omega) fun x' H' g' fr=>?_
   simp only [b_add,bnd_some,wr_succ (show k<9000000000000000000 by omega)]
   have hup:=fr.grow
   refine ih (k+1) H' x' (by omega) (by omega) (by rw [fr.same 0 (by omega) fun ho=>by have:=how 0 ho; omega]; exact h0) (by omega) ?_ fun j hj=>?_
   ·rw [natsI_succ,List.map_append]
    exact g'
   ·rcases fr.mine j hj with h | h
    ·exact how j h
    ·omega
 refine L0 _ 0 _ _ rfl (Nat.zero_le _) (by simp [Hp.empty]) (by simp) (by simpa [natsI] using Gs.nil) fun j hj=>hj.elim
end
end Go.Proofs.YthdcghnjndhecaaGreat.Ev

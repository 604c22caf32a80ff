/- The walks, part 1: the evaluator, the functions, the laws. Conditions: none. -/
import Derived.KernelRfl
import Derived.Laws.StructEq
import Derived.ProofKit
import Derived.OpenShut
import Derived.ShutString
import Derived.ChangeOld
import Derived.SizedLaws
import Derived.MapKept
import Derived.Test.YtegioimlblnajaaGreatZ0
namespace Go.Proofs.YtegioimlblnajaaGreat.Ev
open Go.RowKit (Below)
set_option linter.unusedVariables false
set_option linter.unusedSimpArgs false
set_option linter.unusedSectionVars false
section
variable {P:Program} (C:Ctx P)
structure mH (B:Nat) (F F':Nat→Option Obj) (ms:List Deferred):Prop where
 sub:∀ b o,F b=some o→F' b=some o
 each:∀ m ∈ ms,∃ d,m=⟨.collected d,#[]⟩∧B≤d∧F d=none∧F' d=some (.deferred (some []))
 nd:ms.Nodup
def fk.withF (w0:fk) (F:Nat→Option Obj):fk:={ w0 with F:=F }
theorem mH.none {B:Nat} {F:Nat→Option Obj}:mH B F F []:=⟨fun _ _ h=>h,fun m h=>(by cases h),List.nodup_nil⟩
theorem mH.trans {B:Nat} {F F1 F2:Nat→Option Obj} {ms ms2:List Deferred} (h:mH B F F1 ms) (h2:mH B F1 F2 ms2):mH B F F2 (ms2++ms):=by
 refine ⟨fun b o k=>h2.sub b o (h.sub b o k),fun m hm=>?_,?_⟩
 ·rcases List.mem_append.1 hm with hm | hm
  ·obtain ⟨d,e1,e2,e3,e4⟩:=h2.each m hm
   refine ⟨d,e1,e2,?_,e4⟩
   cases hf:F d with
   | none=>rfl
   | some x=>rw [h.sub d x hf] at e3; cases e3
  ·obtain ⟨d,e1,e2,e3,e4⟩:=h.each m hm
   exact ⟨d,e1,e2,e3,h2.sub _ _ e4⟩
 ·refine List.nodup_append.2 ⟨h2.nd,h.nd,fun a ha b hb e=>?_⟩
  subst e
  obtain ⟨d,e1,_,e3,_⟩:=h2.each a ha
  obtain ⟨d',f1,_,_,f4⟩:=h.each a hb
  rw [e1] at f1
  cases f1
  rw [f4] at e3
  cases e3
def Nxt (B:Nat) (w0:fk) (E:Env) (a:Act) (T':List AV) (H':Hp) (a':Act) (w':World):Prop :=
 ∃ E' F' ms,E.Ext E'∧mH B w0.F F' ms∧St B (w0.withF F') E' H' w'∧bh E' T' a'.tmps∧a'.defers=ms++a.defers
theorem Nxt.plain {B:Nat} {w0:fk} {E E':Env} {a a':Act} {T':List AV} {H':Hp} {w':World} (e1:E.Ext E') (e2:St B w0 E' H' w') (e3:bh E' T' a'.tmps) (e4:a'.defers=a.defers):Nxt B w0 E a T' H' a' w' :=
 ⟨E',w0.F,[],e1,.none,e2,e3,e4⟩
theorem Nxt.trans {B:Nat} {w0:fk} {E E1:Env} {a a1 a2:Act} {F1:Nat→Option Obj} {ms:List Deferred} {T2:List AV} {H2:Hp} {w2:World} (e1:E.Ext E1) (e2:mH B w0.F F1 ms) (e5:a1.defers=ms++a.defers) (h:Nxt B (w0.withF F1) E1 a1 T2 H2 a2 w2):Nxt B w0 E a T2 H2 a2 w2:=by
 obtain ⟨E2,F2,ms2,f1,f2,f3,f4,f5⟩:=h
 exact ⟨E2,F2,ms2++ms,e1.trans f1,e2.trans f2,f3,f4,by rw [f5,e5,List.append_assoc]⟩
def kE (σ:Sig) (ops:Array Oper) (T:List AV) (H:Hp) (T':List AV) (H':Hp):Prop :=
 ∀ (B:Nat) (w0:fk) (E:Env) (a:Act) (w:World),w0.σ=σ→St B w0 E H w→bh E T a.tmps→∀ (Q:Exit→Act→World→Prop),
  (∀ E' a' w',E.Ext E'→St B w0 E' H' w'→bh E' T' a'.tmps→a'.defers=a.defers→Q .normal a' w')→∀ ro id,(Code.region id ops true).wpIn (FW ro) 0 P Q a w
def aI (id:Nat):Exit→Exit
 | .exit i=>if i=id then .normal else .exit i
 | e=>e
def Wk (σ:Sig) (T:List AV) (H:Hp) (T':List AV) (H':Hp):Prop :=
 ∀ ⦃B:Nat⦄ ⦃w0:fk⦄ ⦃E:Env⦄ ⦃tmps:Array Value⦄ ⦃w:World⦄,w0.σ=σ→St B w0 E H w→bh E T tmps→∃ E',E.Ext E'∧St B w0 E' H' w∧bh E' T' tmps
def eB:Code→Bool
 | .rangeFunc _ _ _ _=>false
 | .seq a b=>eB a&&eB b
 | .cond _ a b=>eB a&&eB b
 | .block _ c=>eB c
 | .loop c=>eB c
 | .scope c=>eB c
 | _=>true
inductive Ex:Code→List AV→Hp→Exit→List AV→Hp→Prop where
 | skip {T:List AV} {H:Hp}:Ex .skip T H .normal T H
 | exit {T:List AV} {H:Hp} {id:Nat}:Ex (.exit id) T H (.exit id) T H
 | ret {T:List AV} {H:Hp}:Ex .ret T H .ret T H
 | region {T T':List AV} {H H':Hp} {id:Nat} {ops:Array Oper} (h:qu C ops (List.range ops.size) T H T' H'):Ex (.region id ops false) T H .normal T' H'
 | draw {T T':List AV} {H H':Hp} {id:Nat} {ops:Array Oper} (h:kE (P:=P) C.σ ops T H T' H'):Ex (.region id ops true) T H .normal T' H'
 | seq {T T1 T2:List AV} {H H1 H2:Hp} {x y:Code} {e:Exit} (h1:Ex x T H .normal T1 H1) (h2:Ex y T1 H1 e T2 H2):Ex (.seq x y) T H e T2 H2
 | seqX {T T1:List AV} {H H1:Hp} {x y:Code} {e:Exit} (h1:Ex x T H e T1 H1) (he:e≠.normal):Ex (.seq x y) T H e T1 H1
 | cond {T T1:List AV} {H H1:Hp} {c:Operand} {x y:Code} {e:Exit} {t:Bool} (hc:evO T c=.lit (.bool t)) (h:Ex (if t then x else y) T H e T1 H1):Ex (.cond c x y) T H e T1 H1
 | condS {T T1:List AV} {H H1:Hp} {c:Operand} {x y:Code} {e:Exit} {b:bW} {t:Bool} (hc:evO T c=.sb b) (hb:look C.as b=some t) (h:Ex (if t then x else y) T H e T1 H1):Ex (.cond c x y) T H e T1 H1
 | conv {T0 T T1:List AV} {H0 H H1:Hp} {c:Code} {e:Exit} (k:Wk C.σ T0 H0 T H) (h:Ex c T H e T1 H1):Ex c T0 H0 e T1 H1
 | block {T T1:List AV} {H H1:Hp} {id:Nat} {c:Code} {e:Exit} (h:Ex c T H e T1 H1):Ex (.block id c) T H (aI id e) T1 H1
 | loop {T T1 T2:List AV} {H H1 H2:Hp} {c:Code} {e:Exit} (h1:Ex c T H .normal T1 H1) (h2:Ex (.loop c) T1 H1 e T2 H2):Ex (.loop c) T H e T2 H2
 | loopX {T T1:List AV} {H H1:Hp} {c:Code} {e:Exit} (h1:Ex c T H e T1 H1) (he:e≠.normal):Ex (.loop c) T H e T1 H1
 | rangeN {T:List AV} {H H2:Hp} {f:Operand} {ps:Array Tmp} {assign body:Code} {g:Nat} {caps:List AV} {v:AV} {rec:li} {st:LoopState} (hf:evO T f=.fn g caps)
   (hg:aq P C.σ g (.yl H.n::caps) (H.new (.loop ⟨T,ps,assign,body⟩ .ready none)) v H2) (hl:H2.get H.n=some (.loop rec st none)) (hb:st≠.busy):Ex (.rangeFunc f ps assign body) T H .normal T (H2.set H.n none)
 | rangeX {T T':List AV} {H H2 H':Hp} {e:Exit} {f:Operand} {ps:Array Tmp} {assign body c:Code} {g:Nat} {caps:List AV} {v:AV} {rec:li} {st:LoopState} (hf:evO T f=.fn g caps)
   (hg:aq P C.σ g (.yl H.n::caps) (H.new (.loop ⟨T,ps,assign,body⟩ .ready none)) v H2) (hl:H2.get H.n=some (.loop rec st (some c))) (hb:st≠.busy) (h:Ex c T (H2.set H.n none) e T' H'):Ex (.rangeFunc f ps assign body) T H e T' H'
def iR (ro:Option Nat) (P:Program) (c:Code) (Q:Exit→Act→World→Prop) (a:Act) (w:World):Prop :=
 ∀ (b:Frame) (k:List Item) (cs:List Frame),b.roundOf=(FW ro).round→(FW ro).fn b.fn→(FW ro).room (cs.length+1+0) →
  ∃ e a' w',Q e a' w'∧ArrivesIn (Machine.fenced P (FW ro)) P (lone (b.atR a (.code c::.inLoop c::k)) cs w) b k cs e a' w'
theorem iR.wp {ro:Option Nat} {c:Code} {Q:Exit→Act→World→Prop} {a:Act} {w:World} (h:iR ro P c Q a w):(Code.loop c).wpIn (FW ro) 0 P Q a w :=
 fun b k cs hro hb hr=>let ⟨e,a',w',hq,hh⟩:=h b k cs hro hb hr; ⟨e,a',w',hq,.of_steps (.one (fenced_calm hb hr rfl) stepR_loop) hh⟩
theorem iR.round {ro:Option Nat} {c:Code} {Q:Exit→Act→World→Prop} {a:Act} {w:World} (h:c.wpIn (FW ro) 0 P (Exit.then (iR ro P c Q) Q) a w):iR ro P c Q a w:=by
 intro b k cs hro hb hr
 obtain ⟨e,a₁,w₁,hq,harr⟩:=h b (.inLoop c::k) cs hro hb hr
 cases e with
 | normal =>
  obtain ⟨e₂,a₂,w₂,hq₂,harr₂⟩:=hq b k cs hro hb hr
  exact ⟨e₂,a₂,w₂,hq₂,.of_steps (StepsIn.trans harr (.one (fenced_calm (fr:=b.atR a₁ (.inLoop c::k)) hb hr rfl) stepR_inLoop)) harr₂⟩
 | exit id=>exact ⟨_,a₁,w₁,hq,.pass (x:=.inLoop c) rfl (fun _ _=>.inl (by simp)) harr⟩
 | goto l=>exact ⟨_,a₁,w₁,hq,.pass (x:=.inLoop c) rfl (fun _ _=>.inl (by simp)) harr⟩
 | ret=>exact ⟨_,a₁,w₁,hq,.pass (x:=.inLoop c) rfl (fun _ _=>.inl (by simp)) harr⟩
 | panic ch=>exact ⟨_,a₁,w₁,hq,.pass (x:=.inLoop c) rfl (fun _ _=>.inl (by simp)) harr⟩
 | outgrown=>exact ⟨_,a₁,w₁,hq,.pass (x:=.inLoop c) rfl (fun _ _=>.inl (by simp)) harr⟩
def Ent (ro:Option Nat) (P:Program) (c:Code) (Q:Exit→Act→World→Prop) (a:Act) (w:World):Prop :=
 match c with
 | .loop c=>iR ro P c Q a w
 | c=>c.wpIn (FW ro) 0 P Q a w
theorem Ent.wp {ro:Option Nat} {c:Code} {Q:Exit→Act→World→Prop} {a:Act} {w:World} (h:Ent ro P c Q a w):c.wpIn (FW ro) 0 P Q a w:=by
 cases c<;>first | exact h | exact iR.wp h
theorem jR {next:Act→World→Prop} {Q:Exit→Act→World→Prop} {e:Exit} {a:Act} {w:World} (he:e≠.normal) (h:Q e a w):Exit.then next Q e a w:=by
 cases e<;>first | exact absurd rfl he | exact h
theorem tK {B:Nat} {w0:fk} {E:Env} {a:Act} {w:World} {T:List AV} {H H2:Hp} {f:Operand} {ps:Array Tmp} {assign body:Code} {g:Nat} {caps:List AV} {v:AV} {rec:li} {st:LoopState} {pend:Option Code} {Q:Exit→Act→World→Prop}
  (hσ:w0.σ=C.σ) (hst:St B w0 E H w) (hT:bh E T a.tmps) (hf:evO T f=.fn g caps)
  (hg:aq P C.σ g (.yl H.n::caps) (H.new (.loop ⟨T,ps,assign,body⟩ .ready none)) v H2) (hl:H2.get H.n=some (.loop rec st pend)) (hb:st≠.busy)
  (hQ:∀ a' w',Nxt B w0 E a T (H2.set H.n none) a' w'→match pend with
   | none=>Q .normal a' w'
   | some c=>c.wpIn (FW none) 0 P Q a' w'):(Code.rangeFunc f ps assign body).wpIn (FW none) 0 P Q a w:=by
 refine wpIn_rangeFunc fun fn _=>?_
 have hfv:=bJ hT f
 rw [hf] at hfv
 generalize hv:a.eval f=u at hfv
 cases hfv with
 | fn hlen hr =>
 rename_i us
 have st1:=hst.newF (.deferred (some []))
 obtain ⟨F1,hF1⟩:∃ F1:Nat→Option Obj,F1=fun b=>if b=w.heap.size then some (.deferred (some [])) else w0.F b:=⟨_,rfl⟩
 have hFD:F1 w.heap.size=some (.deferred (some [])):=by rw [hF1]; simp
 have hF0:w0.F w.heap.size=none:=by
  cases hf0:w0.F w.heap.size with
  | none=>rfl
  | some x=>have:=(Array.getElem?_eq_some_iff.1 (hst.fr _ _ hf0).1).1; omega
 have hsub:∀ b o,w0.F b=some o→F1 b=some o:=by
  intro b o hb'
  rw [hF1]
  show (if b=w.heap.size then some (Obj.deferred (some [])) else w0.F b)=some o
  split
  ·rename_i e; subst e; rw [hF0] at hb'; cases hb'
  ·exact hb'
 rw [← hF1] at st1
 have st1:St B (w0.withF F1) E H { w with heap:=w.heap.push (.deferred (some [])) }:=st1
 have hnone:=st1.dom H.n (Nat.le_refl _)
 have hext0:E.Ext (E.put H.n (w.heap.size+1,0,0)):=Env.ext_put (hst.dom _ (Nat.le_refl _))
 have hsz1:(w.heap.push (.deferred (some []))).size=w.heap.size+1:=by simp
 obtain ⟨e1,st2⟩:=st1.new (.loop ⟨.ready,none,fn,a.tmps,ps,assign,body,w.heap.size⟩) 0 0 (.loop ⟨T,ps,assign,body⟩ .ready none)
  ⟨fn,a.tmps,w.heap.size,Array.getElem?_push_size,(hT.ext (Env.ext_put (hst.dom _ (Nat.le_refl _))))⟩
 simp only [hsz1] at e1 st2
 have hcall:=hg.2 B (w0.withF F1) _ _ (#[.func (.yield (w.heap.size+1)) #[] #[]]++us) hσ st2 ⟨by simp [hlen]; omega,fun i x y hx hy=>by
  cases i with
  | zero =>
   rw [Array.getElem?_append_left (by simp)] at hy
   simp at hx hy
   subst hx; subst hy
   exact .yl (n:=0) (o:=0) (by simp [Env.put])
  | succ i =>
   have hy':us[i]?=some y:=by
    rw [Array.getElem?_append_right (by simp)] at hy
    simpa using hy
   exact (hr i x y (by simpa using hx) hy').ext e1⟩
 obtain ⟨W1,hW1⟩:∃ W1,W1=(w.alloc (.deferred (some []))).alloc (.loop ⟨.ready,none,fn,a.tmps,ps,assign,body,w.heap.size⟩):=⟨_,rfl⟩
 have hcall:Calls P g (#[.func (.yield (w.heap.size+1)) #[] #[]]++us) W1 (fun e w'=>∃ E' v_1,e=Ending.returned v_1∧(E.put H.n (w.heap.size+1,0,0)).Ext E'∧St B (w0.withF F1) E' H2 w'∧Rel E' v v_1):=by rw [hW1]; exact hcall
 refine ⟨w.heap.size+1,[{ target:=.collected w.heap.size,args:=#[] }],W1,{ target:=.fn (.func g) us,args:=#[.func (.yield (w.heap.size+1)) #[] #[]] },W1,g,
  #[.func (.yield (w.heap.size+1)) #[] #[]]++us,W1,by rw [hW1]; exact run_enterLoop_outer _ _ _ _ _,?_,fun _ _=>trivial,?_,fun h=>(by cases h),?_⟩
 ·simp only [resolve,hv,Deferred.ofValue,Sem.run_pure]
  simp [Act.eval]
 ·simp only [invoke]
  exact mW hg.1 _ _
 ·refine CallsIn.mono (callsIn_wide.2 hcall) fun e w' hh=>?_
  obtain ⟨E',r,rfl,h1,h2,h3⟩:=hh
  obtain ⟨b',o',n',p1,p2,p3,fn',tmps',D',p4,p5⟩:=h2.live _ _ hl
  have hρ:E'.ρ H.n=some (w.heap.size+1,0,0):=h1.ρ _ _ (by simp [Env.put])
  rw [hρ] at p1
  cases p1
  refine ⟨pend,w'.putObj (w.heap.size+1) (.loop { state:=.exhausted,pending:=pend,fn:=fn',tmps:=tmps',params:=rec.ps,assign:=rec.assign,body:=rec.body,defers:=D' }),?_,?_⟩
  ·exact run_endLoop p4 (by simpa using hb)
  ·have nxt:Nxt B w0 E a T (H2.set H.n none) { a with defers:=[{ target:=.collected w.heap.size,args:=#[] }]++a.defers } (w'.putObj (w.heap.size+1) (.loop { state:=.exhausted,pending:=pend,fn:=fn',tmps:=tmps',params:=rec.ps,assign:=rec.assign,body:=rec.body,defers:=D' })):=by
    refine ⟨E',F1,[{ target:=.collected w.heap.size,args:=#[] }],e1.trans h1,⟨hsub,fun m hm=>?_,by simp⟩,?_,hT.ext (e1.trans h1),rfl⟩
    ·rw [List.mem_singleton] at hm
     exact ⟨_,hm,hst.size,hF0,hFD⟩
    ·exact h2.killWrite hl hρ (fun c hc=>World.putObj_heap_other hc) (by simp) rfl rfl rfl
   have:=hQ _ _ nxt
   cases pend with
   | none=>exact this
   | some c=>exact this
theorem Ex.ent {c : Code} {T T' : List AV} {H H' : Hp} {e : Exit} (h : Ex C c T H e T' H') : ∀ {ro : Option Nat}, (ro = none ∨ eB c = true) → ∀ {B : Nat} {w0 : fk} {E : Env} {a : Act} {w : World}, w0.σ = C.σ → St B w0 E H w → bh E T a.tmps → ∀ {Q : Exit → Act → World → Prop},
    (∀ a' w',Nxt B w0 E a T' H' a' w'→Q e a' w')→Ent ro P c Q a w:=by
  induction h with
  | skip=>intro ro _ B w0 E a w hσ hst hT Q hQ; exact wpIn_skip (hQ a w (.plain (.refl E) hst hT rfl))
  | exit=>intro ro _ B w0 E a w hσ hst hT Q hQ; exact wpIn_exit (hQ a w (.plain (.refl E) hst hT rfl))
  | ret=>intro ro _ B w0 E a w hσ hst hT Q hQ; exact wpIn_ret (hQ a w (.plain (.refl E) hst hT rfl))
  | region h=>intro ro _ B w0 E a w hσ hst hT Q hQ; exact wpIn_region (h.wp C hσ hst hT fun E' a' w' e1 e2 e3 e4=>hQ a' w' (.plain e1 e2 e3 e4))
  | draw h=>intro ro _ B w0 E a w hσ hst hT Q hQ; exact h _ _ _ _ _ hσ hst hT _ (fun E' a' w' e1 e2 e3 e4=>hQ a' w' (.plain e1 e2 e3 e4)) _ _
  | seq h1 h2 ih1 ih2 =>
    intro ro hp B w0 E a w hσ hst hT Q hQ
    simp only [eB,Bool.and_eq_true] at hp
    refine wpIn_seq (Ent.wp (ih1 (hp.imp id (·.1)) hσ hst hT (fun a' w' hn=>?_)))
    obtain ⟨E',F',ms,e1,e2,e3,e4,e5⟩:=hn
    exact Ent.wp (ih2 (hp.imp id (·.2)) (w0:=w0.withF F') hσ e3 e4 (fun a2 w2 hn2=>hQ a2 w2 (.trans e1 e2 e5 hn2)))
  | seqX h1 he ih =>
    intro ro hp B w0 E a w hσ hst hT Q hQ
    simp only [eB,Bool.and_eq_true] at hp
    exact wpIn_seq (Ent.wp (ih (hp.imp id (·.1)) hσ hst hT (fun a' w' hn=>jR he (hQ a' w' hn))))
  | cond hc h ih =>
    intro ro hp B w0 E a w hσ hst hT Q hQ
    rename_i c x y e t
    have hv:=bJ hT c
    rw [hc] at hv
    generalize hve:a.eval c=v at hv
    cases hv
    simp only [eB,Bool.and_eq_true] at hp
    exact wpIn_cond hve (Ent.wp (ih (hp.imp id fun hh=>by cases t; exact hh.2; exact hh.1) hσ hst hT hQ))
  | condS hc hb h ih =>
    intro ro hp B w0 E a w hσ hst hT Q hQ
    rename_i c x y e b t
    have hv:=bJ hT c
    rw [hc] at hv
    generalize hve:a.eval c=v at hv
    simp only [eB,Bool.and_eq_true] at hp
    cases hv with
    | sb hq =>
      have:=rI (jC C hσ hst) hb
      rw [hq] at this
      subst this
      exact wpIn_cond hve (Ent.wp (ih (hp.imp id fun hh=>by split; exact hh.1; exact hh.2) hσ hst hT hQ))
  | conv k h ih =>
    intro ro hp B w0 E a w hσ hst hT Q hQ
    obtain ⟨E2,f1,f2,f3⟩:=k hσ hst hT
    refine ih hp hσ f2 f3 fun a1 w1 hn=>?_
    obtain ⟨E1,F',ms,e1,e2,e3,e4,e5⟩:=hn
    exact hQ a1 w1 ⟨E1,F',ms,f1.trans e1,e2,e3,e4,e5⟩
  | block h ih =>
    intro ro hp B w0 E a w hσ hst hT Q hQ
    refine wpIn_block (Ent.wp (ih hp hσ hst hT (fun a' w' hn=>?_)))
    rename_i id c e
    have:=hQ a' w' hn
    cases e<;>first
      | exact this
      | (simp only [aI] at this
         simp only [Exit.inBlock]
         split at this
         · rename_i hh; rw [if_pos hh]; exact this
         · rename_i hh; rw [if_neg hh]; exact this)
  | loop h1 h2 ih1 ih2 =>
    intro ro hp B w0 E a w hσ hst hT Q hQ
    refine iR.round (Ent.wp (ih1 hp hσ hst hT (fun a' w' hn=>?_)))
    obtain ⟨E',F',ms,e1,e2,e3,e4,e5⟩:=hn
    exact ih2 hp (w0:=w0.withF F') hσ e3 e4 (fun a2 w2 hn2=>hQ a2 w2 (.trans e1 e2 e5 hn2))
  | loopX h1 he ih =>
    intro ro hp B w0 E a w hσ hst hT Q hQ
    exact iR.round (Ent.wp (ih hp hσ hst hT (fun a' w' hn=>jR he (hQ a' w' hn))))
  | rangeN hf hg hl hb =>
    intro ro hp B w0 E a w hσ hst hT Q hQ
    rcases hp with rfl | hp
    · exact tK C hσ hst hT hf hg hl hb fun a' w' hn=>hQ a' w' hn
    · cases hp
  | rangeX hf hg hl hb h ih =>
    intro ro hp B w0 E a w hσ hst hT Q hQ
    rcases hp with rfl | hp
    · refine tK C hσ hst hT hf hg hl hb fun a' w' hn=>?_
      obtain ⟨E',F',ms,e1,e2,e3,e4,e5⟩:=hn
      exact Ent.wp (ih (.inl rfl) (w0:=w0.withF F') hσ e3 e4 (fun a2 w2 hn2=>hQ a2 w2 (.trans e1 e2 e5 hn2)))
    · cases hp
def tV:List AV→List Tmp→List AV→List AV
 | T,p::ps,x::xs=>tV (T.set p x) ps xs
 | T,_,_=>T
theorem tm {E:Env}:∀ (ps:List Tmp) (xs:List AV) (vs:List Value) {T:List AV} {tmps:Array Value},bh E T tmps→vs.length=xs.length→(∀ (i:Nat) (x:AV) (v:Value),xs[i]?=some x→vs[i]?=some v→Rel E x v) →
  bh E (tV T ps xs) ((ps.zip vs).foldl (fun t (p:Tmp × Value)=>t.setIfInBounds p.1 p.2) tmps)
 | [],xs,vs,T,tmps,h,_,_=>by cases xs<;>exact h
 | p::ps,[],vs,T,tmps,h,hl,_=>by
  have:vs=[]:=List.eq_nil_of_length_eq_zero hl
  subst this
  exact h
 | p::ps,x::xs,[],T,tmps,h,hl,_=>by simp at hl
 | p::ps,x::xs,v::vs,T,tmps,h,hl,hr=>by
  refine tm ps xs vs ?_ (by simpa using hl) (fun i x v a b=>hr (i+1) x v (by simpa using a) (by simpa using b))
  exact ku (a:=⟨tmps,[]⟩) h (hr 0 x v rfl rfl) (some p)
def N1:Exit→Option (Option Code)
 | .normal=>some none
 | .ret=>some (some .ret)
 | .exit id=>some (some (.exit id))
 | _=>none
theorem uG {id:Nat} {T xs T1 T2:List AV} {ps:Array Tmp} {assign body:Code} {H H1 H2:Hp} {e:Exit} {j:Option Code} (hl:H.get id=some (.loop ⟨T,ps,assign,body⟩ .ready none)) (hn:xs.length=ps.size)
  (hpa:eB assign=true) (ha:Ex C assign (tV T ps.toList xs) H .normal T1 H1) (hl1:H1.get id=some (.loop ⟨T,ps,assign,body⟩ .ready none))
  (hpb:eB body=true) (hb:Ex C body T1 (H1.set id (some (.loop ⟨T,ps,assign,body⟩ .busy none))) e T2 H2) (hl2:H2.get id=some (.loop ⟨T,ps,assign,body⟩ .busy none)) (hj:N1 e=some j) :
  IM P C.σ id xs H (.lit (.bool j.isNone)) (H2.set id (some (.loop ⟨T,ps,assign,body⟩ (if j.isNone then .ready else .done) j))):=by
 intro B w0 E w vs b o n hσ hst hρ hxs
 obtain ⟨b',o',n',p1,p2,p3,fn,tmps,D,p4,p5⟩:=hst.live _ _ hl
 rw [hρ] at p1
 cases p1
 have hvs:vs.size=ps.size:=by rw [hxs.len,hn]
 refine ⟨fn,_,assign,body,run_yield p4 hvs,?_⟩
 have hrel:bh E (tV T ps.toList xs) ((ps.zip vs).foldl (fun t (p:Tmp × Value)=>t.setIfInBounds p.1 p.2) tmps):=by
  have:=tm (E:=E) ps.toList xs vs.toList p5 (by simpa using hxs.len) (fun i x v a c=>hxs.at_ i x v a (by simpa using c))
  have e:(ps.zip vs).foldl (fun t (p:Tmp × Value)=>t.setIfInBounds p.1 p.2) tmps=(ps.toList.zip vs.toList).foldl (fun t (p:Tmp × Value)=>t.setIfInBounds p.1 p.2) tmps:=by
   rw [← Array.foldl_toList,Array.toList_zip]
  rw [e]; exact this
 refine roundIn_of_wpIn (F:=Fence.wide) trivial ?_
 refine Ent.wp (ro:=some b) (ha.ent C (.inr hpa) hσ hst hrel fun a1 w1 hn1=>?_)
 obtain ⟨E1,F1,ms1,e1,e2,e3,e4,e5⟩:=hn1
 have hρ1:=e1.ρ _ _ hρ
 obtain ⟨b',o',n',q1,q2,q3,fn1,tmps1,D1,q4,q5⟩:=e3.live _ _ hl1
 rw [hρ1] at q1
 cases q1
 refine ⟨_,run_beginRound q4 rfl,?_⟩
 have hlt1:=(Array.getElem?_eq_some_iff.1 q4).1
 have st2:=e3.write hl1 hρ1 (w':=w1.putObj b (.loop ⟨.busy,none,fn1,tmps1,ps,assign,body,D1⟩)) (k':=.loop ⟨T,ps,assign,body⟩ .busy none) (fun c hc=>World.putObj_heap_other hc) (by simp) rfl rfl rfl
  ⟨fn1,tmps1,D1,World.putObj_heap_same hlt1,q5⟩
 refine Ent.wp (ro:=some b) (hb.ent C (.inr hpb) (w0:=w0.withF F1) hσ st2 e4 fun a2 w2 hn2=>?_)
 obtain ⟨E2,F2,ms2,f1,f2,f3,f4,f5⟩:=hn2
 have hρ2:=f1.ρ _ _ hρ1
 obtain ⟨b',o',n',r1,r2,r3,fn2,tmps2,D2,r4,r5⟩:=f3.live _ _ hl2
 rw [hρ2] at r1
 cases r1
 have hlt2:=(Array.getElem?_eq_some_iff.1 r4).1
 have fin:∃ v w',(Instr.endRound b j).run P w2=.ok v w'∧∃ E' u,Ending.returned v=.returned u∧E.Ext E'∧St B w0 E' (H2.set id (some (.loop ⟨T,ps,assign,body⟩ (if j.isNone then .ready else .done) j))) w'∧Rel E' (.lit (.bool j.isNone)) u:=by
  refine ⟨_,_,run_endRound j r4,E2,_,rfl,e1.trans f1,?_,.lit _⟩
  have:=f3.write hl2 hρ2 (w':=w2.putObj b (.loop ⟨if j.isNone then .ready else .done,j,fn2,tmps2,ps,assign,body,D2⟩)) (k':=.loop ⟨T,ps,assign,body⟩ (if j.isNone then .ready else .done) j) (fun c hc=>World.putObj_heap_other hc) (by simp) rfl rfl rfl
   ⟨fn2,tmps2,D2,World.putObj_heap_same hlt2,r5⟩
  exact this.lessF (F0:=w0.F) fun c o h=>f2.sub c o (e2.sub c o h)
 cases e with
 | normal=>cases hj; exact fin
 | ret=>cases hj; exact fin
 | exit i=>cases hj; exact fin
 | _=>cases hj
theorem mP {fn:Func} {tmps:Array Value} {R:Ending→World→Prop} {B:Nat} {w0:fk} {E:Env} {H:Hp} (hfin:∀ w,St B w0 E H w→∃ v,(results fn tmps).run P w=.ok v w∧R (.returned v) w) :
  ∀ (ms:List Deferred) (F:Nat→Option Obj) (w:World),St B (w0.withF F) E H w→mH B w0.F F ms→LeavesInM Fence.wide 0 P fn tmps R ms .returning w
 | [],F,w,hst,hm=>hfin w (hst.lessF (F0:=w0.F) hm.sub)
 | m::ms,F,w,hst,hm=>by
  refine ⟨by simp,.inl ?_⟩
  obtain ⟨d,e1,e2,e3,e4⟩:=hm.each m (by simp)
  obtain ⟨h1,h2⟩:=hst.fr d _ e4
  refine ⟨d,w.putObj d (.deferred none),by rw [e1],run_takeDeferred h1,?_⟩
  have hsub:∀ c o,(if c=d then none else F c)=some o→F c=some o:=by
   intro c o h
   split at h
   ·cases h
   ·exact h
  refine mP hfin ms (fun c=>if c=d then none else F c) _ (hst.wild hsub e2 h2 (by simp) (fun i k hi p hp hpd=>?_) (fun c hc=>World.putObj_heap_other hc) (by simp) rfl rfl rfl) ⟨fun b o hb=>?_,fun m' hm'=>?_,(List.nodup_cons.1 hm.nd).2⟩
  ·have:=hst.frl i k hi p hp
   rw [hpd] at this
   have e4:(w0.withF F).F d=some (.deferred (some [])):=e4
   rw [e4] at this
   cases this
  ·show (if b=d then none else F b)=some o
   split
   ·rename_i e; subst e; rw [e3] at hb; cases hb
   ·exact hm.sub b o hb
  ·obtain ⟨d',f1,f2,f3,f4⟩:=hm.each m' (by simp [hm'])
   refine ⟨d',f1,f2,f3,?_⟩
   show (if d'=d then none else F d')=_
   split
   ·rename_i e
    subst e
    rw [← e1] at f1
    subst f1
    exact absurd hm' (List.nodup_cons.1 hm.nd).1
   ·exact f4
def uV (ti:Nat→Option TI) (T:List AV) (H:Hp):ResultVar→Option AV
 | .tmp t=>some (T.getD t (.lit undef))
 | .cell a t=>kM ti H t (T.getD a (.lit undef))
def lJ (ti:Nat→Option TI) (T:List AV) (H:Hp):List ResultVar→Option (List AV)
 | []=>some []
 | r::rs=>match uV ti T H r,lJ ti T H rs with
  | some x,some xs=>some (x::xs)
  | _,_=>none
def j5 (ti:Nat→Option TI) (T:List AV) (H:Hp) (rs:List ResultVar):Option AV :=
 match lJ ti T H rs with
 | some [x]=>some x
 | some xs=>some (.tup xs)
 | none=>none
theorem Oi {B:Nat} {w0:fk} {E:Env} {H:Hp} {w:World} (h:St B w0 E H w) {T:List AV} {tmps:Array Value} (hT:bh E T tmps) {r:ResultVar} {x:AV} (hr:uV C.ti T H r=some x) :
  ∃ v,((match r with | .tmp t=>pure (tmps.getD t undef) | .cell a t=>do loadVar t (← asAddr (tmps.getD a undef)):Sem Value)).run P w=.ok v w∧Rel E x v:=by
 have hget:∀ t,Rel E (T.getD t (.lit undef)) (tmps.getD t undef):=fun t=>bJ (a:=⟨tmps,[]⟩) hT (.tmp t)
 cases r with
 | tmp t=>simp only [uV,Option.some.injEq] at hr; subst hr; exact ⟨_,rfl,hget t⟩
 | cell a t =>
  simp only [uV] at hr
  obtain ⟨u,h1,h2⟩:=sG (P:=P) C.hti h (hget a) hr
  refine ⟨u,?_,h2⟩
  have hv:=hget a
  unfold kM at hr
  generalize hval:tmps.getD a undef=v at h1 hv
  unfold Instr.loadAt Instr.sureAddr at h1
  cases v<;>simp only [Sem.run_bind,run_stuck,Result.andThen] at h1<;>try (cases h1; done)
  rename_i o
  cases o with
  | none=>simp at h1
  | some ad =>
   simp only [Sem.run_bind,Sem.run_pure,Result.andThen] at h1
   have:(asAddr (tmps.getD a undef)).run P w=.ok ad w:=by rw [hval]; rfl
   simp only [Sem.run_bind,this,Result.andThen]
   exact h1
theorem rD {B:Nat} {w0:fk} {E:Env} {H:Hp} {w:World} (h:St B w0 E H w) {T:List AV} {tmps:Array Value} (hT:bh E T tmps):∀ (rs:List ResultVar) {xs:List AV},lJ C.ti T H rs=some xs →
  ∃ vs:List Value,(rs.mapM (fun r=>(match r with | .tmp t=>pure (tmps.getD t undef) | .cell a t=>do loadVar t (← asAddr (tmps.getD a undef)):Sem Value))).run P w=.ok vs w∧bh E xs vs.toArray
 | [],xs,hr=>by simp [lJ] at hr; subst hr; exact ⟨[],rfl,⟨rfl,fun i x v hx=>by simp at hx⟩⟩
 | r::rs,xs,hr=>by
  simp only [lJ] at hr
  cases h1:uV C.ti T H r with
  | none=>simp [h1] at hr
  | some x =>
   cases h2:lJ C.ti T H rs with
   | none=>simp [h1,h2] at hr
   | some ys =>
    simp [h1,h2] at hr
    subst hr
    obtain ⟨v,p1,p2⟩:=Oi C h hT h1
    obtain ⟨vs,q1,q2⟩:=rD h hT rs h2
    refine ⟨v::vs,?_,⟨by have:=q2.len; simp at this ⊢; exact this,fun i z u hz hu=>?_⟩⟩
    ·simp only [List.mapM_cons,Sem.run_bind,p1,Result.andThen,q1,Sem.run_pure]
    ·cases i with
     | zero=>simp at hz hu; subst hz; subst hu; exact p2
     | succ i=>exact q2.at_ i z u (by simpa using hz) (by simpa using hu)
def yd (tmps:Array Value) (r:ResultVar):Sem Value :=
 match r with
 | .tmp t=>pure (tmps.getD t undef)
 | .cell a t=>do loadVar t (← asAddr (tmps.getD a undef))
theorem n4 (fn:Func) (tmps:Array Value) (w:World) {vs:List Value} (h:(fn.results.toList.mapM (yd tmps)).run P w=.ok vs w) :
  (results fn tmps).run P w=.ok (if h:vs.toArray.size=1 then vs.toArray[0] else .tuple vs.toArray) w:=by
 have:(results fn tmps).run P w=((fn.results.toList.mapM (yd tmps)).run P w).andThen fun l w'=>.ok (if h:l.toArray.size=1 then l.toArray[0] else .tuple l.toArray) w':=by
  simp only [results,Array.mapM_eq_mapM_toList,Sem.run_bind,Sem.run_map]
  have e:(fn.results.toList.mapM (fun | .tmp t=>pure (tmps.getD t undef) | .cell a t=>do loadVar t (← asAddr (tmps.getD a undef)):ResultVar→Sem Value))=fn.results.toList.mapM (yd tmps):=rfl
  change (((fn.results.toList.mapM (yd tmps)).run P w).andThen _).andThen _=_
  cases (fn.results.toList.mapM (yd tmps)).run P w<;>rfl
 rw [this,h]
 rfl
theorem nR {σ : Sig} {f : Nat} {fn : Func} {c : Code} {xs : List AV} {H H' : Hp} {T' : List AV} {r : AV} (hti : ∀ t i, C.ti t = some i → af P t = some i) (hf : P.funcs[f]? = some fn) (hb : fn.body = some c) (hn : (fn.name == "runtime.NumGoroutine") = false)
  (h:∀ {B:Nat} {w0:fk} {E:Env} {a:Act} {w:World},w0.σ=σ→St B w0 E H w→bh E (xs++List.replicate (fn.ntmps - xs.length) (.lit undef)) a.tmps→∀ {Q:Exit→Act→World→Prop},(∀ e a' w',e=.normal∨e=.ret→Nxt B w0 E a T' H' a' w'→Q e a' w')→Ent none P c Q a w)
  (hr:j5 C.ti T' H' fn.results.toList=some r):aq P σ f xs H r H':=by
 refine ⟨⟨fn,hf,hn,by rw [hb]; rfl⟩,fun B w0 E w vs hσ hst hxs=>?_⟩
 refine callsIn_wide.1 (callsIn_of_wp_marks (F:=Fence.wide) (n:=0) hf hb trivial ?_)
 have hT:bh E (xs++List.replicate (fn.ntmps - xs.length) (.lit undef)) (vs++Array.replicate (fn.ntmps - vs.size) undef):=by
  have hl:=hxs.len
  refine ⟨by simp [hl],fun i x v hx hv=>?_⟩
  by_cases hi:i<xs.length
  ·rw [List.getElem?_append_left hi] at hx
   rw [Array.getElem?_append_left (by omega)] at hv
   exact hxs.at_ i x v hx hv
  ·rw [List.getElem?_append_right (by omega),List.getElem?_replicate] at hx
   rw [Array.getElem?_append_right (by omega),Array.getElem?_replicate] at hv
   split at hx
   ·cases hx
    split at hv
    ·cases hv; exact .lit _
    ·cases hv
   ·cases hx
 refine Ent.wp (ro:=none) (h (a:=⟨_,[]⟩) hσ hst hT (fun e a' w' he hn=>?_))
 obtain ⟨E',F',ms,e1,e2,e3,e4,e5⟩:=hn
 have e5:a'.defers=ms:=by rw [e5]; exact List.append_nil ms
 have main:∀ w2,St B w0 E' H' w2→∃ v,(results fn a'.tmps).run P w2=.ok v w2∧Rel E' r v:=by
  intro w2 e2
  unfold j5 at hr
  split at hr
  ·rename_i x hx
   cases hr
   obtain ⟨vs,p1,p2⟩:=rD C e2 e4 _ hx
   have hl:vs.length=1:=by have:=p2.len; simpa using this
   match vs,hl with
   | [v],_ =>
    exact ⟨v,n4 fn a'.tmps w2 p1,p2.at_ 0 _ v rfl (by simp)⟩
  ·rename_i xs' hne hx
   cases hr
   obtain ⟨vs,p1,p2⟩:=rD C e2 e4 _ hx
   have hl:vs.length=xs'.length:=by have:=p2.len; simpa using this
   refine ⟨.tuple vs.toArray,?_,.tup p2.len p2.at_⟩
   have hn1:¬ vs.toArray.size=1:=by
    intro h1
    have h1:xs'.length=1:=by rw [← hl]; simpa using h1
    match xs',h1 with
    | [x],_=>exact hne x rfl
   have:=n4 fn a'.tmps w2 p1
   rwa [dif_neg hn1] at this
  ·cases hr
 have fin:=mP (R:=fun e w'=>∃ E' v,e=Ending.returned v∧E.Ext E'∧St B w0 E' H' w'∧Rel E' r v) (fun w2 h2=>let ⟨v,p1,p2⟩:=main w2 h2; ⟨v,p1,E',v,rfl,e1,h2,p2⟩) ms F' w' e3 e2
 rw [← e5] at fin
 rcases he with rfl | rfl
 ·exact fin
 ·exact fin
theorem mJ {f : Nat} {fn : Func} {c : Code} {xs : List AV} {H H' : Hp} {T' : List AV} {e : Exit} {r : AV} (hf : P.funcs[f]? = some fn) (hb : fn.body = some c) (hn : (fn.name == "runtime.NumGoroutine") = false)
  (h:Ex C c (xs++List.replicate (fn.ntmps - xs.length) (.lit undef)) H e T' H') (he:e=.normal∨e=.ret) (hr:j5 C.ti T' H' fn.results.toList=some r):aq P C.σ f xs H r H' :=
 nR C C.hti hf hb hn (fun hσ hst hT Q hQ=>h.ent C (.inl rfl) hσ hst hT fun a' w' hn=>hQ _ a' w' he hn) hr
end
end Go.Proofs.YtegioimlblnajaaGreat.Ev
namespace Go.Proofs.YtegioimlblnajaaGreat.Ev
open Go.RowKit (Below)
set_option linter.unusedVariables false
set_option linter.unusedSimpArgs false
set_option linter.unusedSectionVars false
def LeH (M H:Hp):Prop:=∀ id k,M.get id=some k→H.get id=some k
theorem LeH.refl (H:Hp):LeH H H:=fun _ _ h=>h
def dx (o:Op):Bool :=
 match o with
 | .move _=>true
 | .assign _=>true
 | .pick _ _ _=>true
 | .build _ _=>true
 | .load _ _=>true
 | .nilCheck _=>true
 | .binOp _ _ _ _ _=>true
 | .unOp _ _ _=>true
 | .makeFunc _ _ _=>true
 | .slice _ _ _ _ _=>true
 | .fieldAddr _ _ _=>true
 | .field _ _ _=>true
 | .indexAddr _ _ _=>true
 | .index _ _ _=>true
 | .extract _ _=>true
 | .call ⟨.builtin .len,_,_⟩=>true
 | .call ⟨.builtin .min,_,_⟩=>true
 | .call ⟨.builtin .max,_,_⟩=>true
 | _=>false
section
variable {P:Program} (C:Ctx P)
theorem r9 {M H:Hp} (h:LeH M H) {x:AV} {n:Nat} {l:List AV} (hc:b8 M x n=some l):b8 H x n=some l:=by
 cases x<;>simp only [b8] at hc ⊢<;>try exact hc
 rename_i id off
 cases hg:M.get id with
 | none=>simp [hg] at hc
 | some k=>rw [h _ _ hg]; rw [hg] at hc; exact hc
theorem qf {ti:Nat→Option TI} {M H:Hp} (h:LeH M H) {n e:Nat} {x y:AV} {lo hi mx:Option Int} (hc:ge ti M n e x lo hi mx=some y):ge ti H n e x lo hi mx=some y:=by
 unfold ge at hc ⊢
 cases hj:ti e with
 | none=>simp only [hj] at hc; cases hc
 | some j =>
  simp only [hj] at hc ⊢
  cases x<;>simp only at hc ⊢<;>try (cases hc; done)
  rename_i id off
  cases hg:M.get id with
  | none=>simp only [hg] at hc; cases hc
  | some k=>rw [hg] at hc; rw [h _ _ hg]; exact hc
theorem tT {ti:Nat→Option TI} {M H:Hp} (h:LeH M H) {t:Nat} {x y:AV} {lo hi mx:Option Int} (hc:gI ti M t x lo hi mx=some y):gI ti H t x lo hi mx=some y:=by
 unfold gI at hc ⊢
 cases ht:ti t with
 | none=>rw [ht] at hc; exact hc
 | some i =>
  rw [ht] at hc
  obtain ⟨d,a,b,z⟩:=i
  cases d<;>first | exact hc | exact qf h hc
theorem dm {M M' H:Hp} {f:Option AV} {x:AV} (h:f.map (fun y=>(y,M))=some (x,M')):f.map (fun y=>(y,H))=some (x,H):=by
 cases f with
 | none=>cases h
 | some z=>cases h; rfl
theorem k9 {M M' H:Hp} {f g:Option AV} {x:AV} (hfg:∀ z,f=some z→g=some z) (h:f.map (fun y=>(y,M))=some (x,M')):g.map (fun y=>(y,H))=some (x,H):=by
 cases f with
 | none=>cases h
 | some z=>rw [hfg z rfl]; cases h; rfl
theorem uR {ti:Nat→Option TI} {M H:Hp} (h:LeH M H) {t:Nat} {x y:AV} (hc:kM ti M t x=some y):kM ti H t x=some y:=by
 unfold kM at hc ⊢
 cases hi:ti t with
 | none=>rw [hi] at hc; cases hc
 | some i =>
  simp only [hi] at hc ⊢
  cases hl:b8 M x i.size with
  | none=>rw [hl] at hc; cases hc
  | some l=>rw [hl] at hc; rw [r9 h hl]; exact hc
theorem nM {T:List AV} {M H:Hp} (h:LeH M H) {o:Oper} (hq:dx o.op=true) {x:AV} {M':Hp} (he:bT C.ti C.keys C.as T M o=some (x,M')):bT C.ti C.keys C.as T H o=some (x,H):=by
 obtain ⟨dst,op,type,pos,after,guard⟩:=o
 cases op with
 | move y=>cases he; rfl
 | assign y=>cases he; rfl
 | pick c p q =>
  change (match evO T c with | .lit (.bool t)=>some (mo t (evO T p) (evO T q),M) | .sb e=>(match look C.as e with | some t=>some (mo t (evO T p) (evO T q),M) | none=>none) | _=>none)=_ at he
  change (match evO T c with | .lit (.bool t)=>some (mo t (evO T p) (evO T q),H) | .sb e=>(match look C.as e with | some t=>some (mo t (evO T p) (evO T q),H) | none=>none) | _=>none)=_
  generalize evO T c=z at he ⊢
  cases z with
  | lit v=>cases v<;>first | (cases he; rfl) | (cases he; done)
  | sb e =>
   simp only at he ⊢
   generalize look C.as e=l at he ⊢
   cases l<;>first | (cases he; rfl) | (cases he; done)
  | _=>cases he
 | build t ps=>exact dm he
 | load t y=>exact k9 (fun z hz=>uR h hz) he
 | nilCheck y =>
  change (match evO T y with | .ptr id o=>some (AV.ptr id o,M) | .ip cs=>some (AV.ip cs,M) | .fn f cs=>some (AV.fn f cs,M) | _=>none)=_ at he
  change (match evO T y with | .ptr id o=>some (AV.ptr id o,H) | .ip cs=>some (AV.ip cs,H) | .fn f cs=>some (AV.fn f cs,H) | _=>none)=_
  generalize evO T y=z at he ⊢
  cases z<;>first | (cases he; rfl) | (cases he; done)
 | binOp op t y z yt=>exact dm he
 | unOp op t y =>
  change (match evO T y with | .lit v=>(sun op v).map fun u=>(AV.lit u,M) | .sb e=>(match (generalizing:=false) op with | .not=>some (AV.sb (.not e),M) | _=>none) | .sy k e=>(match (generalizing:=false) op with | .neg=>some (AV.sy k (.bin .sub k (.num 0) e),M) | _=>none) | _=>none)=_ at he
  change (match evO T y with | .lit v=>(sun op v).map fun u=>(AV.lit u,H) | .sb e=>(match (generalizing:=false) op with | .not=>some (AV.sb (.not e),H) | _=>none) | .sy k e=>(match (generalizing:=false) op with | .neg=>some (AV.sy k (.bin .sub k (.num 0) e),H) | _=>none) | _=>none)=_
  generalize evO T y=z at he ⊢
  cases z with
  | lit v =>
   simp only at he ⊢
   generalize sun op v=u at he ⊢
   cases u with
   | none=>cases he
   | some u=>cases he; rfl
  | sb e=>cases op<;>first | (cases he; rfl) | (cases he; done)
  | sy k e=>cases op<;>first | (cases he; rfl) | (cases he; done)
  | _=>cases he
 | makeFunc fn first caps =>
  obtain ⟨first⟩:=first
  cases fn<;>cases first<;>first | (cases he; rfl) | (cases he; done)
 | slice t y lo hi mx =>
  change (match dv T lo,dv T hi,dv T mx with | some lo,some hi,some mx=>(gI C.ti M t (evO T y) lo hi mx).map fun y=>(y,M) | _,_,_=>none)=_ at he
  change (match dv T lo,dv T hi,dv T mx with | some lo,some hi,some mx=>(gI C.ti H t (evO T y) lo hi mx).map fun y=>(y,H) | _,_,_=>none)=_
  generalize dv T lo=a at he ⊢
  generalize dv T hi=b at he ⊢
  generalize dv T mx=c at he ⊢
  cases a<;>cases b<;>cases c<;>first | (cases he; done) | exact k9 (fun z hz=>tT h hz) he
 | fieldAddr t y f=>exact dm he
 | field t y f=>exact dm he
 | indexAddr t y i=>exact dm he
 | index t y i=>exact dm he
 | extract y i =>
  change (match evO T y with | .tup vs=>(vs[i]?).map fun y=>(y,M) | _=>none)=_ at he
  change (match evO T y with | .tup vs=>(vs[i]?).map fun y=>(y,H) | _=>none)=_
  generalize evO T y=z at he ⊢
  cases z<;>first | exact dm he | (cases he; done)
 | call c =>
  obtain ⟨callee,args,ts⟩:=c
  cases callee with
  | builtin b =>
   change dW C.ti M b ts (args.toList.map (evO T))=_ at he
   change dW C.ti H b ts (args.toList.map (evO T))=_
   generalize args.toList.map (evO T)=xs at he ⊢
   cases b with
   | len =>
    change (match ts[0]?,xs with | some t,[x]=>(rZ C.ti t x).map fun y=>(y,M) | _,_=>none)=_ at he
    change (match ts[0]?,xs with | some t,[x]=>(rZ C.ti t x).map fun y=>(y,H) | _,_=>none)=_
    generalize ts[0]?=t at he ⊢
    cases t with
    | none=>cases he
    | some t =>
     match xs,he with
     | [x],he=>exact dm he
     | [],he=>cases he
     | _::_::_,he=>cases he
   | min=>exact dm he
   | max=>exact dm he
   | _=>cases hq
  | _=>cases hq
 | _=>cases hq
def jj (acc:List Nat) (es:List Edge) (s:Nat):Nat:=es.foldl (fun s e=>bif Region.binds .any e then s ||| (2 ^ e.on ||| acc.getD e.on 0) else s) s
def cV:List Oper→List Nat→List Nat
 | [],acc=>acc
 | o::os,acc=>cV os (acc++[jj acc o.after.toList 0])
theorem nZ (acc:List Nat) (j:Nat):∀ (es:List Edge) (s:Nat),(jj acc es s).testBit j=true→s.testBit j=true∨∃ e ∈ es,Region.binds .any e=true∧(e.on=j∨(acc.getD e.on 0).testBit j=true)
 | [],s,h=>.inl h
 | e::es,s,h=>by
  simp only [jj,List.foldl_cons] at h
  rcases nZ acc j es _ h with h | ⟨e',he,h1,h2⟩
  ·cases hb:Region.binds .any e with
   | false=>rw [hb,cond_false] at h; exact .inl h
   | true =>
    rw [hb,cond_true,Nat.testBit_or,Nat.testBit_or,Nat.testBit_two_pow] at h
    simp only [Bool.or_eq_true,decide_eq_true_eq] at h
    rcases h with h | h | h
    ·exact .inl h
    ·exact .inr ⟨e,by simp,hb,.inl h⟩
    ·exact .inr ⟨e,by simp,hb,.inr h⟩
  ·exact .inr ⟨e',by simp [he],h1,h2⟩
theorem ju:∀ (os:List Oper) (acc:List Nat),∃ r,cV os acc=acc++r∧r.length=os.length
 | [],acc=>⟨[],by simp [cV],rfl⟩
 | o::os,acc=>by
  obtain ⟨r,h1,h2⟩:=ju os (acc++[jj acc o.after.toList 0])
  exact ⟨jj acc o.after.toList 0::r,by rw [cV,h1]; simp,by simp [h2]⟩
theorem qF:∀ (os:List Oper) (acc:List Nat) (i:Nat) (o:Oper),os[i]?=some o→(cV os acc).getD (acc.length+i) 0=jj ((cV os acc).take (acc.length+i)) o.after.toList 0
 | [],_,_,_,h=>by simp at h
 | o::os,acc,0,o',h=>by
  simp only [List.getElem?_cons_zero,Option.some.injEq] at h
  subst h
  obtain ⟨r,h1,_⟩:=ju os (acc++[jj acc o.after.toList 0])
  simp only [cV,h1,Nat.add_zero]
  simp
 | o::os,acc,i+1,o',h=>by
  have:=qF os (acc++[jj acc o.after.toList 0]) i o' (by simpa using h)
  simp only [cV]
  simp only [List.length_append,List.length_singleton] at this
  rw [show acc.length+(i+1)=acc.length+1+i by omega]
  exact this
def bV (ops:Array Oper) (i j:Nat):Bool:=((cV ops.toList []).getD i 0).testBit j
def g9 (ops:Array Oper):Bool:=ops.toList.zipIdx.all fun p=>p.1.after.toList.all fun e=>bif Region.binds .any e then Nat.blt e.on p.2 else true
theorem j9 {ops:Array Oper} (hok:g9 ops=true) {i j:Nat} (h:bV ops i j=true):∃ o,ops[i]?=some o∧∃ e ∈ o.after.toList,Region.binds .any e=true∧e.on<i∧(e.on=j∨bV ops e.on j=true):=by
 unfold bV at h
 obtain ⟨r,h1,h2⟩:=ju ops.toList []
 cases ho:ops.toList[i]? with
 | none =>
  have:(cV ops.toList [])[i]?=none:=by
   rw [List.getElem?_eq_none_iff] at ho ⊢
   rw [h1]; simp [h2] at *; omega
  rw [List.getD_eq_getElem?_getD,this] at h
  simp at h
 | some o =>
  have hat:=qF ops.toList [] i o ho
  simp only [List.length_nil,Nat.zero_add] at hat
  rw [hat] at h
  rcases nZ _ _ _ _ h with h | ⟨e,he,hb,hj⟩
  ·simp at h
  ·refine ⟨o,by rw [← Array.getElem?_toList]; exact ho,e,he,hb,?_⟩
   have hlt:e.on<i:=by
    unfold g9 at hok
    have hm:(o,i) ∈ ops.toList.zipIdx:=by
     rw [List.mem_zipIdx_iff_getElem?]
     exact ho
    have:=List.all_eq_true.1 hok _ hm
    have:=List.all_eq_true.1 this e he
    simp only [hb,cond_true] at this
    simpa [Nat.blt_eq] using this
   refine ⟨hlt,?_⟩
   rcases hj with hj | hj
   ·exact .inl hj
   ·right
    unfold bV
    rw [List.getD_eq_getElem?_getD,List.getElem?_take,if_pos hlt,← List.getD_eq_getElem?_getD] at hj
    exact hj
theorem jy {ops:Array Oper} (hok:g9 ops=true):∀ (i:Nat) {j:Nat},bV ops i j=true→j<i:=by
 intro i
 induction i using Nat.strongRecOn with
 | _ i ih =>
  intro j h
  obtain ⟨o,ho,e,he,hb,hlt,hj⟩:=j9 hok h
  rcases hj with rfl | hj
  ·exact hlt
  ·have:=ih _ hlt hj
   omega
theorem pq {ops:Array Oper} (hok:g9 ops=true) {S:Nat→Prop} (hS:∀ i o,S i→ops[i]?=some o→∀ e ∈ o.after.toList,Region.binds .any e=true→S e.on) :
  ∀ (i:Nat) {j:Nat},S i→bV ops i j=true→S j:=by
 intro i
 induction i using Nat.strongRecOn with
 | _ i ih =>
  intro j hi h
  obtain ⟨o,ho,e,he,hb,hlt,hj⟩:=j9 hok h
  have hse:=hS i o hi ho e he hb
  rcases hj with rfl | hj
  ·exact hse
  ·exact ih _ hlt hse hj
end
end Go.Proofs.YtegioimlblnajaaGreat.Ev
namespace Go.Proofs.YtegioimlblnajaaGreat.Ev
open Go.RowKit (Below)
set_option linter.unusedVariables false
set_option linter.unusedSimpArgs false
set_option linter.unusedSectionVars false
section
variable {P:Program} (C:Ctx P)
theorem qS {T T':List AV} {x:Operand} (h:∀ t,x=.tmp t→T[t]?=T'[t]?):evO T x=evO T' x:=by
 cases x with
 | tmp t=>simp only [evO,List.getD_eq_getElem?_getD,h t rfl]
 | _=>rfl
theorem kD {T T':List AV}:∀ (ps:List (Nat × Operand)),(∀ p ∈ ps,evO T p.2=evO T' p.2)→(ps.map fun p=>(p.1,evO T p.2))=ps.map fun p=>(p.1,evO T' p.2)
 | [],_=>rfl
 | p::ps,h=>by simp only [List.map_cons]; rw [h p (by simp),kD ps (fun q hq=>h q (by simp [hq]))]
theorem j4 {T T':List AV} {o:Option Operand} (h:∀ x,o=some x→evO T x=evO T' x):dv T o=dv T' o:=by
 cases o with
 | none=>rfl
 | some x=>simp only [dv,h x rfl]
theorem iS {T T':List AV} (xs:Array Operand) (h:∀ x ∈ xs,evO T x=evO T' x):xs.toList.map (evO T)=xs.toList.map (evO T') :=
 List.map_congr_left fun x hx=>h x (by simpa using hx)
theorem ul {T T':List AV} {H:Hp} {o:Oper} (h:∀ x ∈ o.op.operands,evO T x=evO T' x):bT C.ti C.keys C.as T H o=bT C.ti C.keys C.as T' H o:=by
 obtain ⟨dst,op,type,pos,after,guard⟩:=o
 cases op with
 | move y=>exact congrArg (fun z=>some (z,H)) (h y (by simp [Op.operands]))
 | assign y=>exact congrArg (fun z=>some (z,H)) (h y (by simp [Op.operands]))
 | pick c p q =>
  have e1:=h c (by simp [Op.operands]); have e2:=h p (by simp [Op.operands]); have e3:=h q (by simp [Op.operands])
  simp only [bT,e1,e2,e3]
 | box t y=>have e:=h y (by simp [Op.operands]); simp only [bT,e]
 | build t ps=>have e:=kD ps.toList (fun p hp=>h p.2 (by simp [Op.operands]; exact ⟨p.1,by simpa using hp⟩)); simp only [bT,e]
 | buildSlice t n ps=>have e:=kD ps.toList (fun p hp=>h p.2 (by simp [Op.operands]; exact ⟨p.1,by simpa using hp⟩)); simp only [bT,e]
 | load t y=>have e:=h y (by simp [Op.operands]); simp only [bT,e]
 | store t p y=>have e1:=h p (by simp [Op.operands]); have e2:=h y (by simp [Op.operands]); simp only [bT,e1,e2]
 | nilCheck y=>have e:=h y (by simp [Op.operands]); simp only [bT,e]
 | binOp op t p q yt=>have e1:=h p (by simp [Op.operands]); have e2:=h q (by simp [Op.operands]); simp only [bT,e1,e2]
 | unOp op t y=>have e:=h y (by simp [Op.operands]); simp only [bT,e]
 | convert s d y=>have e:=h y (by simp [Op.operands]); simp only [bT,e]
 | makeFunc fn first caps=>have e:=iS caps (fun x hx=>h x (by simp [Op.operands]; exact .inr hx)); simp only [bT,e]
 | makeSlice t l c=>have e1:=h l (by simp [Op.operands]); have e2:=h c (by simp [Op.operands]); simp only [bT,e1,e2]
 | slice t y lo hi mx =>
  have e:=h y (by simp [Op.operands])
  have e1:=j4 (T:=T) (T':=T') (o:=lo) (fun x hx=>h x (by simp [Op.operands,hx]))
  have e2:=j4 (T:=T) (T':=T') (o:=hi) (fun x hx=>h x (by simp [Op.operands,hx]))
  have e3:=j4 (T:=T) (T':=T') (o:=mx) (fun x hx=>h x (by simp [Op.operands,hx]))
  simp only [bT,e,e1,e2,e3]
 | fieldAddr t y f=>have e:=h y (by simp [Op.operands]); simp only [bT,e]
 | field t y f=>have e:=h y (by simp [Op.operands]); simp only [bT,e]
 | indexAddr t y i=>have e1:=h y (by simp [Op.operands]); have e2:=h i (by simp [Op.operands]); simp only [bT,e1,e2]
 | index t y i=>have e1:=h y (by simp [Op.operands]); have e2:=h i (by simp [Op.operands]); simp only [bT,e1,e2]
 | extract y i=>have e:=h y (by simp [Op.operands]); simp only [bT,e]
 | call c =>
  obtain ⟨callee,args,ts⟩:=c
  have e:=iS args (fun x hx=>h x (by simp [Op.operands,Call.operands]; exact .inr hx))
  cases callee with
  | builtin b=>simp only [bT,e]
  | _=>rfl
 | _=>rfl
theorem Op1.congr {T T':List AV} {H H':Hp} {o:Oper} {x:AV} (h:∀ x ∈ o.op.operands,evO T x=evO T' x) (h1:Op1 C T H o x H'):Op1 C T' H o x H':=by
 cases h1 with
 | op he=>exact .op (by rw [← ul C h]; exact he)
 | sem hd hs =>
  have e:=iS o.op.operands h
  exact .sem hd (by rw [← e]; exact hs)
 | yield ho hf hg =>
  rename_i f args ts id
  rw [ho] at h
  have e:=iS args (fun x hx=>h x (by simp [Op.operands,Call.operands,hx]))
  refine .yield ho (by rw [← h f (by simp [Op.operands,Call.operands])]; exact hf) ?_
  rw [← e]; exact hg
 | call ho hf hg =>
  rename_i f args ts g caps
  rw [ho] at h
  have e:=iS args (fun x hx=>h x (by simp [Op.operands,Call.operands,hx]))
  refine .call ho (by rw [← h f (by simp [Op.operands,Call.operands])]; exact hf) ?_
  rw [← e]; exact hg
theorem qQ {ops:Array Oper} {o:Oper} {t:Nat} (h:Operand.tmp t ∈ o.op.operands):t ∈ o.looksAt ops:=by
 unfold Oper.looksAt
 refine List.mem_append.2 (.inl ?_)
 rw [List.mem_filterMap]
 exact ⟨.tmp t,by simpa using h,rfl⟩
theorem gL {as:List (bW × Bool)} {ops:Array Oper} {o:Oper} {T T':List AV} (h:∀ t ∈ o.looksAt ops,T[t]?=T'[t]?):c5 as ops T o=c5 as ops T' o:=by
 unfold c5
 cases hg:o.guard with
 | none=>rfl
 | some p =>
  obtain ⟨g,want⟩:=p
  simp only
  cases hd:(ops[g]?).bind (·.dst) with
  | none=>rfl
  | some d =>
   have hm:d ∈ o.looksAt ops:=by
    unfold Oper.looksAt
    refine List.mem_append.2 (.inr ?_)
    simp [hg,hd]
   simp only [Option.bind_some,h d hm]
def aN (ops:Array Oper) (i:Nat):Option Tmp:=(ops[i]?).bind (·.dst)
def TS (ops:Array Oper) (xs:Nat→AV) (S:Nat→Bool) (l:List Nat) (T:List AV):List AV:=l.foldl (fun T i=>bif S i then c_ T (aN ops i) (xs i) else T) T
theorem pr (ops:Array Oper) (xs:Nat→AV) (S:Nat→Bool):∀ (l:List Nat) (T:List AV),(TS ops xs S l T).length=T.length
 | [],_=>rfl
 | i::l,T=>by
  show (TS ops xs S l (bif S i then c_ T (aN ops i) (xs i) else T)).length=_
  rw [pr ops xs S l]
  cases S i
  ·rfl
  ·rw [cond_true]; unfold c_; split<;>simp
theorem iw {ops:Array Oper} (hinj:∀ i j d,aN ops i=some d→aN ops j=some d→i=j) (xs:Nat→AV) (S:Nat→Bool) (t:Nat):∀ (l:List Nat) (T:List AV),
  (∀ j ∈ l,S j=true→aN ops j=some t→(TS ops xs S l T)[t]?=if t<T.length then some (xs j) else none) ∧
  ((∀ j ∈ l,S j=true→aN ops j≠some t)→(TS ops xs S l T)[t]?=T[t]?)
 | [],T=>⟨fun j hj=>by simp at hj,fun _=>rfl⟩
 | i::l,T=>by
  obtain ⟨h1,h2⟩:=iw hinj xs S t l (bif S i then c_ T (aN ops i) (xs i) else T)
  have hlen:(bif S i then c_ T (aN ops i) (xs i) else T).length=T.length:=by
   cases S i
   ·rfl
   ·rw [cond_true]; unfold c_; split<;>simp
  have hcons:TS ops xs S (i::l) T=TS ops xs S l (bif S i then c_ T (aN ops i) (xs i) else T):=rfl
  rw [hcons]
  by_cases hl:∃ j ∈ l,S j=true∧aN ops j=some t
  ·obtain ⟨j,hj,hSj,hdj⟩:=hl
   have:=h1 j hj hSj hdj
   rw [hlen] at this
   refine ⟨fun k hk hSk hdk=>?_,fun hno=>absurd hdj (hno j (by simp [hj]) hSj)⟩
   have:k=j:=hinj k j t hdk hdj
   subst this
   assumption
  ·have hno:∀ j ∈ l,S j=true→aN ops j≠some t:=fun j hj hS hd=>hl ⟨j,hj,hS,hd⟩
   have e:=h2 hno
   refine ⟨fun k hk hSk hdk=>?_,fun hno'=>?_⟩
   ·rcases List.mem_cons.1 hk with rfl | hk
    ·rw [e,hSk,cond_true,hdk]
     simp only [c_,List.getElem?_set,if_true]
    ·exact absurd hdk (hno k hk hSk)
   ·rw [e]
    cases hS:S i with
    | false=>rfl
    | true =>
     rw [cond_true]
     have hne:=hno' i (by simp) hS
     cases hd:aN ops i with
     | none=>rfl
     | some d =>
      have:d≠t:=fun e=>hne (by rw [hd,e])
      simp only [c_,List.getElem?_set,if_neg this]
def TT (ops:Array Oper) (xs:Nat→AV) (T:List AV) (i:Nat):List AV:=TS ops xs (fun _=>true) (List.range i) T
theorem g_ (ops:Array Oper) (xs:Nat→AV) (T:List AV) (i:Nat):TT ops xs T (i+1)=c_ (TT ops xs T i) (aN ops i) (xs i):=by
 unfold TT TS
 rw [List.range_succ,List.foldl_append]
 rfl
structure yi (ops:Array Oper):Prop where
 edges:g9 ops=true
 dst:∀ i j d,aN ops i=some d→aN ops j=some d→i=j
 rd:∀ i o,ops[i]?=some o→∀ t,t ∈ o.looksAt ops→∀ j,aN ops j=some t→j=i∨bV ops i j=true∨bV ops j i=true
structure Dyn (ops:Array Oper) (T0:List AV) (H0:Hp) (xs:Nat→AV) (hs:Nat→Hp) (louds:List Nat):Prop where
 h0:hs 0=H0
 each:∀ i o,ops[i]?=some o →
  (c5 C.as ops (TT ops xs T0 i) o=some false∧xs i=.lit undef∧i ∉ louds) ∨
  (c5 C.as ops (TT ops xs T0 i) o=some true∧i ∉ louds∧∃ lo hi,lo≤louds.length∧(∀ k,lo≤k→k≤hi→Op1 C (TT ops xs T0 i) (hs k) o (xs i) (hs k)) ∧
   ∀ m l,louds[m]?=some l→(m<lo→bV ops i l=true)∧(hi≤m→bV ops l i=true)) ∨
  (c5 C.as ops (TT ops xs T0 i) o=some true∧∃ m,louds[m]?=some i∧Op1 C (TT ops xs T0 i) (hs m) o (xs i) (hs (m+1)))
 ord:∀ m l l',louds[m]?=some l→louds[m+1]?=some l'→bV ops l' l=true
 lt:∀ l ∈ louds,l<ops.size
theorem lY {p q:Nat→Bool}:∀ (l:List Nat),(∀ x ∈ l,q x=true→p x=true)→∀ i,i ∈ l→p i=true→q i=false→(l.filter q).length<(l.filter p).length
 | [],_,i,hi,_,_=>by simp at hi
 | x::l,h,i,hi,hp,hq=>by
  have hle:(l.filter q).length≤(l.filter p).length:=by
   clear hi hp hq
   induction l with
   | nil=>simp
   | cons y l ih =>
    have:=ih (fun z hz=>h z (by simp at hz ⊢; rcases hz with h | h<;>simp [h]))
    have hy:=h y (by simp)
    simp only [List.filter_cons]
    cases hqy:q y
    ·cases hpy:p y<;>simp<;>omega
    ·rw [hy hqy]; simp; omega
  simp only [List.filter_cons]
  by_cases hx:i=x
  ·subst hx
   rw [hp,hq]
   simp; omega
  ·have hil:i ∈ l:=by simpa [hx] using hi
   have:=lY l (fun z hz=>h z (by simp [hz])) i hil hp hq
   have hxx:=h x (by simp)
   cases hqx:q x
   ·cases hpx:p x<;>simp<;>omega
   ·rw [hxx hqx]; simp; omega
theorem lf {ops:Array Oper} (hok:g9 ops=true) {louds:List Nat} (ord:∀ m l l',louds[m]?=some l→louds[m+1]?=some l'→bV ops l' l=true) {S:Nat→Prop}
  (hS:∀ i j,S i→bV ops i j=true→S j):∀ (d m l l':Nat),louds[m]?=some l→louds[m+d]?=some l'→S l'→S l
 | 0,m,l,l',h1,h2,hs=>by rw [Nat.add_zero,h1] at h2; cases h2; exact hs
 | d+1,m,l,l',h1,h2,hs=>by
  have hlt:=(List.getElem?_eq_some_iff.1 h2).1
  have hmid:louds[m+d]?=some louds[m+d]:=List.getElem?_eq_getElem (by omega)
  have:=ord (m+d) _ _ hmid (by rw [show m+d+1=m+(d+1) by omega]; exact h2)
  exact lf hok ord hS d m l _ h1 hmid (hS _ _ hs this)
theorem vq (hm:P.follows .mixedOrders=true) {ops:Array Oper} (hst:yi ops) {T0:List AV} {H0:Hp} {xs:Nat→AV} {hs:Nat→Hp} {louds:List Nat} (hd:Dyn C ops T0 H0 xs hs louds) :
  kE (P:=P) C.σ ops T0 H0 (TT ops xs T0 ops.size) (hs louds.length):=by
 intro B w0 E a w hσ hw hT Q hQ ro id
 refine wpIn_region_any hm ?_
 have key:∀ (fuel:Nat) (listed:Array Bool) (a':Act) (w':World),listed.size=ops.size →
   ((List.range ops.size).filter fun i=>!listed.getD i false).length≤fuel →
   (∀ i o,listed.getD i false=true→ops[i]?=some o→∀ e ∈ o.after.toList,Region.binds .any e=true→listed.getD e.on false=true) →
   (∃ E' k,E.Ext E'∧k≤louds.length∧(∀ m l,louds[m]?=some l→(listed.getD l false=true ↔ m<k))∧St B w0 E' (hs k) w'∧bh E' (TS ops xs (fun i=>listed.getD i false) (List.range ops.size) T0) a'.tmps∧a'.defers=a.defers) →
   wpAnyIn (FW ro) 0 P .any ops Q fuel listed a' w':=by
  intro fuel
  have fin:∀ (listed:Array Bool) (a':Act) (w':World),listed.size=ops.size →
    (∀ i o,listed.getD i false=true→ops[i]?=some o→∀ e ∈ o.after.toList,Region.binds .any e=true→listed.getD e.on false=true) →
    (∃ E' k,E.Ext E'∧k≤louds.length∧(∀ m l,louds[m]?=some l→(listed.getD l false=true ↔ m<k))∧St B w0 E' (hs k) w'∧bh E' (TS ops xs (fun i=>listed.getD i false) (List.range ops.size) T0) a'.tmps∧a'.defers=a.defers) →
    Region.ready .any ops listed=[]→Q .normal a' w':=by
   intro listed a' w' hsz hcl hinv hrd
   have hall:∀ i,i<ops.size→listed.getD i false=true:=by
    intro i
    induction i using Nat.strongRecOn with
    | _ i ih =>
     intro hi
     cases hli:listed.getD i false with
     | true=>rfl
     | false =>
      exfalso
      have hmem:i ∈ Region.ready .any ops listed:=by
       unfold Region.ready
       rw [List.mem_filter]
       refine ⟨List.mem_range.2 hi,?_⟩
       have hli':listed.getD i true=false:=by
        rw [Array.getD_eq_getD_getElem?] at hli ⊢
        rw [Array.getElem?_eq_getElem (by omega)] at hli ⊢
        exact hli
       have hoi:ops[i]?=some ops[i]:=Array.getElem?_eq_getElem hi
       rw [hli',hoi]
       simp only [Bool.not_false,Bool.true_and,Option.map_some,Option.getD_some,Array.all_eq_true']
       intro e he
       cases hb:Region.binds .any e with
       | false=>rfl
       | true =>
        have hlt:e.on<i:=by
         have hok:=hst.edges
         unfold g9 at hok
         have hm:(ops[i],i) ∈ ops.toList.zipIdx:=by
          rw [List.mem_zipIdx_iff_getElem?]
          simp
         have:=List.all_eq_true.1 hok _ hm
         have:=List.all_eq_true.1 this e (by simpa using he)
         simp only [hb,cond_true] at this
         simpa [Nat.blt_eq] using this
        simp [ih _ hlt (by omega)]
      rw [hrd] at hmem
      cases hmem
   obtain ⟨E',k,hE,hk,hlk,hS,hR,hdef⟩:=hinv
   have hkk:k=louds.length:=by
    rcases Nat.lt_or_ge k louds.length with h | h
    ·have:=(hlk k louds[k] (List.getElem?_eq_getElem h)).1 (hall _ (hd.lt _ (List.getElem_mem h)))
     omega
    ·omega
   subst hkk
   refine hQ E' a' w' hE hS ?_ hdef
   have:TS ops xs (fun i=>listed.getD i false) (List.range ops.size) T0=TT ops xs T0 ops.size:=by
    unfold TT TS
    have:∀ (l:List Nat),(∀ i ∈ l,i<ops.size)→∀ T,l.foldl (fun T i=>bif listed.getD i false then c_ T (aN ops i) (xs i) else T) T=l.foldl (fun T i=>bif true then c_ T (aN ops i) (xs i) else T) T:=by
     intro l
     induction l with
     | nil=>intro _ T; rfl
     | cons i l ih =>
      intro h T
      simp only [List.foldl_cons]
      rw [hall i (h i (by simp))]
      exact ih (fun j hj=>h j (by simp [hj])) _
    exact this _ (fun i hi=>List.mem_range.1 hi) T0
   rw [← this]
   exact hR
  induction fuel with
  | zero =>
   intro listed a' w' hsz hun hcl hinv
   have hrd:Region.ready .any ops listed=[]:=by
    unfold Region.ready
    rw [List.filter_eq_nil_iff]
    intro i hi
    have:¬ (!listed.getD i false)=true:=by
     have hnil:((List.range ops.size).filter fun i=>!listed.getD i false)=[]:=List.eq_nil_of_length_eq_zero (by omega)
     exact (List.filter_eq_nil_iff.1 hnil) i hi
    have hlt:=List.mem_range.1 hi
    have h2:listed.getD i true=true:=by
     rw [Array.getD_eq_getD_getElem?] at this ⊢
     rw [Array.getElem?_eq_getElem (by omega)] at this ⊢
     simpa using this
    simp [h2]
   exact ⟨hrd,fin listed a' w' hsz hcl hinv hrd⟩
  | succ fuel ih =>
   intro listed a' w' hsz hun hcl hinv
   refine ⟨fin listed a' w' hsz hcl hinv,fun i hi=>?_⟩
   unfold Region.ready at hi
   rw [List.mem_filter] at hi
   obtain ⟨hir,hic⟩:=hi
   have hin:=List.mem_range.1 hir
   have hoi:ops[i]?=some ops[i]:=Array.getElem?_eq_getElem hin
   rw [hoi] at hic
   simp only [Option.map_some,Option.getD_some,Bool.and_eq_true,Array.all_eq_true'] at hic
   obtain ⟨hnl,hpre⟩:=hic
   have hnl:listed.getD i false=false:=by
    rw [Array.getD_eq_getD_getElem?] at hnl ⊢
    rw [Array.getElem?_eq_getElem (by omega)] at hnl ⊢
    simp at hnl ⊢
    exact hnl
   have hpre:∀ e ∈ ops[i].after.toList,Region.binds .any e=true→listed.getD e.on false=true:=by
    intro e he hb
    have:=hpre e (by simpa using he)
    simpa [hb] using this
   have hclp:∀ i j,listed.getD i false=true→bV ops i j=true→listed.getD j false=true:=fun i j h1 h2=>pq hst.edges (S:=fun i=>listed.getD i false=true) hcl i h1 h2
   have hprei:∀ j,bV ops i j=true→listed.getD j false=true:=by
    intro j hj
    obtain ⟨o,ho,e,he,hb,hlt,hjj⟩:=j9 hst.edges hj
    rw [hoi] at ho
    cases ho
    have:=hpre e he hb
    rcases hjj with rfl | hjj
    ·exact this
    ·exact hclp _ _ this hjj
   obtain ⟨E',k,hE,hk,hlk,hS,hR,hdef⟩:=hinv
   have hlook:∀ t ∈ (ops[i]).looksAt ops,(TT ops xs T0 i)[t]?=(TS ops xs (fun i=>listed.getD i false) (List.range ops.size) T0)[t]?:=by
    intro t ht
    obtain ⟨g1,g2⟩:=iw hst.dst xs (fun _=>true) t (List.range i) T0
    obtain ⟨s1,s2⟩:=iw hst.dst xs (fun i=>listed.getD i false) t (List.range ops.size) T0
    by_cases hj:∃ j,aN ops j=some t∧bV ops i j=true
    ·obtain ⟨j,hdj,hpj⟩:=hj
     have hlt:=jy hst.edges i hpj
     unfold TT
     rw [g1 j (List.mem_range.2 hlt) rfl hdj,s1 j (List.mem_range.2 (by omega)) (hprei j hpj) hdj]
    ·have hno:∀ j,aN ops j=some t→j=i∨bV ops j i=true:=by
      intro j hdj
      rcases hst.rd i _ hoi t ht j hdj with h | h | h
      ·exact .inl h
      ·exact absurd ⟨j,hdj,h⟩ hj
      ·exact .inr h
     unfold TT
     have q1:=g2 (fun j hj' _ hdj=>by
      rcases hno j hdj with rfl | h
      ·have:=List.mem_range.1 hj'; omega
      ·have:=jy hst.edges j h; have:=List.mem_range.1 hj'; omega)
     have q2:=s2 (fun j hj' hSj hdj=>by
      rcases hno j hdj with rfl | h
      ·rw [hnl] at hSj; cases hSj
      ·have:=hclp _ _ hSj h; rw [hnl] at this; cases this)
     rw [q1,q2]
   have hops:∀ x ∈ (ops[i]).op.operands,evO (TT ops xs T0 i) x=evO (TS ops xs (fun i=>listed.getD i false) (List.range ops.size) T0) x:=fun x hx=>qS fun t ht=>by
    subst ht
    exact hlook t (qQ hx)
   have hwant:=gL (as:=C.as) hlook
   have hset:∀ j,(listed.setIfInBounds i true).getD j false=if j=i then true else listed.getD j false:=by
    intro j
    rw [Array.getD_eq_getD_getElem?,Array.getD_eq_getD_getElem?,Array.getElem?_setIfInBounds]
    by_cases hji:i=j
    ·subst hji; simp [hsz,hin]
    ·rw [if_neg hji,if_neg (fun e=>hji e.symm)]
   have hnext:∀ (E2:Env) (k2:Nat) (a2:Act) (w2:World) (v:Value),E'.Ext E2→k2≤louds.length→(∀ m l,louds[m]?=some l→((if l=i then true else listed.getD l false)=true ↔ m<k2))→St B w0 E2 (hs k2) w2→Rel E2 (xs i) v →
     a2=a'.put ops[i].dst v→wpAnyIn (FW ro) 0 P .any ops Q fuel (listed.setIfInBounds i true) a2 w2:=by
    intro E2 k2 a2 w2 v hE2 hk2 hlk2 hS2 hrel ha2
    refine ih _ a2 w2 (by simp [hsz]) ?_ ?_ ⟨E2,k2,hE.trans hE2,hk2,fun m l hl=>by rw [hset]; exact hlk2 m l hl,hS2,?_,by rw [ha2,iP]; exact hdef⟩
    ·have:=lY (p:=fun i=>!listed.getD i false) (q:=fun j=>!(listed.setIfInBounds i true).getD j false) (List.range ops.size) (fun x _ hx=>by
      simp only [hset] at hx
      split at hx
      ·cases hx
      ·exact hx) i (List.mem_range.2 hin) (by simp only [hnl,Bool.not_false]) (by simp only [hset,if_true,Bool.not_true])
     omega
    ·intro j o hj ho e he hb
     rw [hset] at hj ⊢
     split
     ·rfl
     ·rename_i hne
      split at hj
      ·rename_i hji
       subst hji
       rw [hoi] at ho
       cases ho
       exact hpre e he hb
      ·exact hcl j o hj ho e he hb
    ·-- the slots
     have hput:bh E2 (c_ (TS ops xs (fun i=>listed.getD i false) (List.range ops.size) T0) (aN ops i) (xs i)) a2.tmps:=by
      rw [ha2]
      have:aN ops i=ops[i].dst:=by simp [aN,hoi]
      rw [this]
      exact ku (hR.ext hE2) hrel _
     have heq:TS ops xs (fun j=>(listed.setIfInBounds i true).getD j false) (List.range ops.size) T0=c_ (TS ops xs (fun i=>listed.getD i false) (List.range ops.size) T0) (aN ops i) (xs i):=by
      apply List.ext_getElem?
      intro t
      obtain ⟨s1,s2⟩:=iw hst.dst xs (fun i=>listed.getD i false) t (List.range ops.size) T0
      obtain ⟨n1,n2⟩:=iw hst.dst xs (fun j=>(listed.setIfInBounds i true).getD j false) t (List.range ops.size) T0
      by_cases hdi:aN ops i=some t
      ·rw [n1 i hir (by simp only [hset,if_true]) hdi,hdi]
       simp only [c_,List.getElem?_set,if_true,pr]
      ·have hright:(c_ (TS ops xs (fun i=>listed.getD i false) (List.range ops.size) T0) (aN ops i) (xs i))[t]?=(TS ops xs (fun i=>listed.getD i false) (List.range ops.size) T0)[t]?:=by
        cases hd':aN ops i with
        | none=>rfl
        | some d =>
         have:d≠t:=fun e=>hdi (by rw [hd',e])
         simp only [c_,List.getElem?_set,if_neg this]
       rw [hright]
       by_cases hj:∃ j ∈ List.range ops.size,listed.getD j false=true∧aN ops j=some t
       ·obtain ⟨j,hjr,hSj,hdj⟩:=hj
        rw [s1 j hjr hSj hdj,n1 j hjr (by simp only [hset]; split; rfl; exact hSj) hdj]
       ·rw [s2 (fun j hjr hSj hdj=>hj ⟨j,hjr,hSj,hdj⟩),n2 (fun j hjr hSj hdj=>?_)]
        simp only [hset] at hSj
        split at hSj
        ·rename_i e; subst e; exact hdi hdj
        ·exact hj ⟨j,hjr,hSj,hdj⟩
     rw [heq]
     exact hput
   have hsame:i ∉ louds→∀ m l,louds[m]?=some l→((if l=i then true else listed.getD l false)=true ↔ m<k):=by
    intro hni m l hl
    rw [if_neg (fun e=>hni (by rw [← e]; exact List.mem_of_getElem? hl))]
    exact hlk m l hl
   unfold wpOpIn
   simp only [hoi]
   rcases hd.each i _ hoi with ⟨hwf,hx,hni⟩ | ⟨hwt,hni,lo,hi',hlol,hev,hlh⟩ | ⟨hwt,m,hlm,hop⟩
   ·rw [if_neg (by rw [fi hR (jC C hσ hS) (hwant ▸ hwf)]; simp)]
    refine ⟨fun f _=>trivial,?_⟩
    exact hnext E' k _ w' undef (.refl E') hk (hsame hni) hS (by rw [hx]; exact .lit _) rfl
   ·rw [if_pos (fi hR (jC C hσ hS) (hwant ▸ hwt))]
    have hlok:lo≤k:=by
     rcases Nat.lt_or_ge k lo with h | h
     ·exfalso
      rcases Nat.lt_or_ge k louds.length with h2 | h2
      ·have hlk':louds[k]?=some louds[k]:=List.getElem?_eq_getElem h2
       have:=(hlk k _ hlk').1 (hprei _ ((hlh k _ hlk').1 h))
       omega
      ·omega
     ·exact h
    have hkhi:k≤hi':=by
     rcases Nat.lt_or_ge hi' k with h | h
     ·exfalso
      have h2:hi'<louds.length:=by omega
      have hlk':louds[hi']?=some louds[hi']:=List.getElem?_eq_getElem h2
      have h3:=(hlk hi' _ hlk').2 h
      have h4:=(hlh hi' _ hlk').2 (Nat.le_refl _)
      have:=hclp _ _ h3 h4
      rw [hnl] at this
      cases this
     ·exact h
    have hop:Op1 C (TS ops xs (fun i=>listed.getD i false) (List.range ops.size) T0) (hs k) ops[i] (xs i) (hs k):=(hev k hlok hkhi).congr C hops
    exact hop.wp C hσ hS hR (fun E2 v w2 e1 e2 e3=>hnext E2 k _ w2 v e1 hk (hsame hni) e2 e3 rfl)
   ·rw [if_pos (fi hR (jC C hσ hS) (hwant ▸ hwt))]
    have hmk:m=k:=by
     have h1:¬ m<k:=fun h=>by have:=(hlk m i hlm).2 h; rw [hnl] at this; cases this
     rcases Nat.lt_or_ge k m with h | h
     ·exfalso
      have hml:=(List.getElem?_eq_some_iff.1 hlm).1
      obtain ⟨lk,hlk'⟩:∃ l,louds[k]?=some l:=⟨_,List.getElem?_eq_getElem (by omega)⟩
      obtain ⟨lm,hp⟩:∃ l,louds[m - 1]?=some l:=⟨_,List.getElem?_eq_getElem (by omega)⟩
      have ho:=hd.ord (m - 1) _ _ hp (by rw [show m - 1+1=m by omega]; exact hlm)
      have hl1:=hprei _ ho
      have:=lf hst.edges hd.ord (S:=fun i=>listed.getD i false=true) hclp (m - 1 - k) k _ _ hlk' (by rw [show k+(m - 1 - k)=m - 1 by omega]; exact hp) hl1
      have:=(hlk k _ hlk').1 this
      omega
     ·omega
    subst hmk
    have hml:=(List.getElem?_eq_some_iff.1 hlm).1
    have hop':=hop.congr C hops
    refine hop'.wp C hσ hS hR (fun E2 v w2 e1 e2 e3=>hnext E2 (m+1) _ w2 v e1 (by omega) (fun q l hl=>?_) e2 e3 rfl)
    by_cases hli:l=i
    ·subst hli
     simp only [if_true,true_iff]
     rcases Nat.lt_or_ge q (m+1) with h | h
     ·exact h
     ·exfalso
      obtain ⟨lq,hp⟩:∃ l,louds[q - 1]?=some l:=⟨_,List.getElem?_eq_getElem (by have:=(List.getElem?_eq_some_iff.1 hl).1; omega)⟩
      have ho:=hd.ord (q - 1) _ _ hp (by rw [show q - 1+1=q by omega]; exact hl)
      have hl1:=hprei _ ho
      have:=lf hst.edges hd.ord (S:=fun i=>listed.getD i false=true) hclp (q - 1 - m) m _ _ hlm (by rw [show m+(q - 1 - m)=q - 1 by omega]; exact hp) hl1
      rw [hnl] at this
      cases this
    ·rw [if_neg hli]
     rw [hlk q l hl]
     constructor
     ·intro h; omega
     ·intro h
      rcases Nat.lt_or_ge q m with h2 | h2
      ·exact h2
      ·have:q=m:=by omega
       subst this
       rw [hlm] at hl
       cases hl
       exact absurd rfl hli
 refine key ops.size _ a _ (by simp) ?_ ?_ ?_
 ·refine Nat.le_trans (List.length_filter_le _ _) (by simp)
 ·intro i o hi
  exfalso
  rw [Array.getD_eq_getD_getElem?,Array.getElem?_replicate] at hi
  split at hi<;>simp at hi
 ·have hzero:∀ i,(Array.replicate ops.size false).getD i false=false:=by
   intro i
   rw [Array.getD_eq_getD_getElem?,Array.getElem?_replicate]
   split<;>rfl
  refine ⟨E,0,.refl E,Nat.zero_le _,fun m l hl=>by rw [hzero]; simp,by rw [hd.h0]; exact hw.drew _,?_,rfl⟩
  have:∀ (l:List Nat) (T:List AV),TS ops xs (fun i=>(Array.replicate ops.size false).getD i false) l T=T:=by
   intro l
   induction l with
   | nil=>intro T; rfl
   | cons i l ih =>
    intro T
    show TS ops xs _ l (bif (Array.replicate ops.size false).getD i false then _ else T)=T
    rw [hzero,cond_false]
    exact ih T
  rw [this]
  exact hT
end
end Go.Proofs.YtegioimlblnajaaGreat.Ev
namespace Go.Proofs.YtegioimlblnajaaGreat.Ev
open Go.RowKit (Below)
set_option linter.unusedVariables false
set_option linter.unusedSimpArgs false
set_option linter.unusedSectionVars false
def OV:Value→Value→Bool
 | .bool a,.bool b=>a == b
 | .int k a,.int k' b=>decide (k=k')&&decide (a=b)
 | .string a,.string b=>jv a b
 | .pointer none,.pointer none=>true
 | .slice none a b,.slice none c d=>Nat.beq a c&&Nat.beq b d
 | .map none,.map none=>true
 | .nilFunc,.nilFunc=>true
 | .nilIface,.nilIface=>true
 | _,_=>false
theorem bytes_eq {a b:ByteArray} (h:jv a b=true):a=b:=by
 unfold jv at h
 have h:=eq_of_beq h
 cases a; cases b
 simp only at h
 congr 1
 exact Array.ext' h
theorem KG {a b:Value} (h:OV a b=true):a=b:=by
 unfold OV at h
 split at h<;>simp_all
 ·exact bytes_eq h
mutual
def AV.beq:AV→AV→Bool
 | .lit a,.lit b=>OV a b
 | .ptr a b,.ptr c d=>Nat.beq a c&&Nat.beq b d
 | .sl a b c d e,.sl a' b' c' d' e'=>Nat.beq a a'&&(Nat.beq b b'&&(Nat.beq c c'&&(Nat.beq d d'&&decide (e=e'))))
 | .imm s xs,.imm t ys=>Nat.beq s t&&AV.beqLL xs ys
 | .emp,.emp=>true
 | .se a b c,.se d e f=>Nat.beq a d&&(Nat.beq b e&&Nat.beq c f)
 | .ip xs,.ip ys=>AV.beqL xs ys
 | .agg xs,.agg ys=>AV.beqL xs ys
 | .tup xs,.tup ys=>AV.beqL xs ys
 | .fn f xs,.fn g ys=>Nat.beq f g&&AV.beqL xs ys
 | .mp a,.mp b=>Nat.beq a b
 | .yl a,.yl b=>Nat.beq a b
 | .sy k e,.sy k' e'=>decide (k=k')&&c6.beq e e'
 | .sb e,.sb e'=>bW.beq e e'
 | .ss i,.ss j=>Nat.beq i j
 | _,_=>false
def AV.beqL:List AV→List AV→Bool
 | [],[]=>true
 | x::xs,y::ys=>AV.beq x y&&AV.beqL xs ys
 | _,_=>false
def AV.beqLL:List (List AV)→List (List AV)→Bool
 | [],[]=>true
 | x::xs,y::ys=>AV.beqL x y&&AV.beqLL xs ys
 | _,_=>false
end
theorem lg {a b:Nat} (h:Nat.beq a b=true):a=b:=Nat.eq_of_beq_eq_true h
mutual
theorem AV.beq_eq:∀ {x y:AV},AV.beq x y=true→x=y:=by
 intro x y h
 cases x<;>cases y<;>simp only [AV.beq,Bool.and_eq_true,decide_eq_true_eq,Bool.false_eq_true] at h
 ·rw [KG h]
 ·rw [lg h.1,lg h.2]
 ·obtain ⟨h1,h2,h3,h4,h5⟩:=h; rw [lg h1,lg h2,lg h3,lg h4,h5]
 ·rw [lg h.1,AV.beqLL_eq h.2]
 ·rfl
 ·rw [lg h.1,lg h.2.1,lg h.2.2]
 ·rw [AV.beqL_eq h]
 ·rw [AV.beqL_eq h]
 ·rw [AV.beqL_eq h]
 ·rw [lg h.1,AV.beqL_eq h.2]
 ·rw [lg h]
 ·rw [lg h]
 ·rw [h.1,c6.beq_eq h.2]
 ·rw [bW.beq_eq h]
 ·rw [lg h]
theorem AV.beqL_eq:∀ {x y:List AV},AV.beqL x y=true→x=y:=by
 intro x y h
 cases x<;>cases y<;>simp only [AV.beqL,Bool.and_eq_true,Bool.false_eq_true] at h
 ·rfl
 ·rw [AV.beq_eq h.1,AV.beqL_eq h.2]
theorem AV.beqLL_eq:∀ {x y:List (List AV)},AV.beqLL x y=true→x=y:=by
 intro x y h
 cases x<;>cases y<;>simp only [AV.beqLL,Bool.and_eq_true,Bool.false_eq_true] at h
 ·rfl
 ·rw [AV.beqL_eq h.1,AV.beqLL_eq h.2]
end
def K5:Option Tmp→Option Tmp→Bool
 | some a,some b=>Nat.beq a b
 | _,_=>false
def nb (ops:Array Oper):Bool :=
 let l:=ops.toList.zipIdx
 let ms:=cV ops.toList []
 g9 ops &&
 (l.all fun p=>l.all fun q=>!(K5 p.1.dst q.1.dst)||Nat.beq p.2 q.2) &&
 (l.all fun p=>(p.1.looksAt ops).all fun t=>l.all fun q=>!(K5 q.1.dst (some t))||(Nat.beq q.2 p.2||((ms.getD p.2 0).testBit q.2||(ms.getD q.2 0).testBit p.2)))
section
variable {P:Program} (C:Ctx P)
variable (call:Nat→List AV→Hp→Option (AV × Hp))
def ev1 (T:List AV) (H:Hp) (o:Oper):Option (AV × Hp) :=
 match o.op with
 | .call ⟨.value f,args,_⟩=>match evO T f with
  | .fn g caps=>call g (args.toList.map (evO T)++caps) H
  | _=>none
 | _=>bT C.ti C.keys C.as T H o
def vZ (ops:Array Oper):List Oper→List AV→Hp→Option (List AV × Hp)
 | [],T,H=>some (T,H)
 | o::r,T,H=>match c5 C.as ops T o with
  | some true=>match ev1 C call T H o with
   | some (x,H1)=>vZ ops r (c_ T o.dst x) H1
   | none=>none
  | some false=>vZ ops r (c_ T o.dst (.lit undef)) H
  | none=>none
def pQ (ops:Array Oper):List Oper→Nat→List AV→Hp→Option (List AV × List Hp × List Nat × List AV × Hp)
 | [],i,T,H=>some ([],[],[],T,H)
 | o::r,i,T,H=>match c5 C.as ops T o with
  | some true=>match dx o.op with
   | true=>match bT C.ti C.keys C.as T H o with
    | some (x,_)=>match pQ ops r (i+1) (c_ T o.dst x) H with
     | some (xs,hs,ls,T',H')=>some (x::xs,hs,ls,T',H')
     | none=>none
    | none=>none
   | false=>match ev1 C call T H o with
    | some (x,H1)=>match pQ ops r (i+1) (c_ T o.dst x) H1 with
     | some (xs,hs,ls,T',H')=>some (x::xs,H1::hs,i::ls,T',H')
     | none=>none
    | none=>none
  | some false=>match pQ ops r (i+1) (c_ T o.dst (.lit undef)) H with
   | some (xs,hs,ls,T',H')=>some (.lit undef::xs,hs,ls,T',H')
   | none=>none
  | none=>none
def vh (pre:Nat→Nat→Bool) (i:Nat) (ls:List Nat):Nat:=(ls.takeWhile (pre i)).length
def pO (pre:Nat→Nat→Bool) (i:Nat) (ls:List Nat):Nat:=ls.length - (ls.reverse.takeWhile (fun l=>pre l i)).length
def ou (hs:List Hp) (T:List AV) (o:Oper) (x:AV):Nat→Nat→Bool
 | _,0=>true
 | k,n+1=>(match hs[k]? with
  | some H=>(match bT C.ti C.keys C.as T H o with
   | some (y,_)=>AV.beq y x
   | none=>false)
  | none=>false)&&ou hs T o x (k+1) n
def qG (ops:Array Oper) (pre:Nat→Nat→Bool) (hs:List Hp) (ls:List Nat):List Oper→List AV→Nat→List AV→Bool
  | o::r,x::xs,i,T =>
    (match c5 C.as ops T o with
     | some true=>match dx o.op with
       | true=>ou C hs T o x (vh pre i ls) (pO pre i ls+1 - vh pre i ls)
       | false=>true
     | _=>true)&&qG ops pre hs ls r xs (i+1) (c_ T o.dst x)
  | [],[],_,_=>true
  | _,_,_,_=>false
def qP (pre:Nat→Nat→Bool):List Nat→Bool
 | []=>true
 | [_]=>true
 | a::b::r=>pre b a&&qP pre (b::r)
def He (ops:Array Oper) (T:List AV) (H:Hp):Option (List AV × Hp) :=
  match nb ops with
  | false=>none
  | true=>match pQ C call ops ops.toList 0 T H with
    | none=>none
    | some (xs,hs,ls,T',H')=>match ls with
      | []=>some (T',H')
      | _ => let ms := cV ops.toList []
             let pre:=fun i j=>(ms.getD i 0).testBit j
             bif qP pre ls&&qG C ops pre (H::hs) ls ops.toList xs 0 T then some (T',H') else none
def sZ (body:List AV→Hp→Option (Exit × List AV × Hp)):Nat→List AV→Hp→Option (Exit × List AV × Hp)
 | 0,_,_=>none
 | n+1,T,H=>match body T H with
  | some (.normal,T1,H1)=>sZ body n T1 H1
  | r=>r
def evC (L:Nat):Code→List AV→Hp→Option (Exit × List AV × Hp)
 | .skip,T,H=>some (.normal,T,H)
 | .exit id,T,H=>some (.exit id,T,H)
 | .ret,T,H=>some (.ret,T,H)
 | .region _ ops d,T,H=>match d with
  | false=>(vZ C call ops ops.toList T H).map fun p=>(.normal,p.1,p.2)
  | true=>(He C call ops T H).map fun p=>(.normal,p.1,p.2)
 | .seq a b,T,H=>match evC L a T H with
  | some (.normal,T1,H1)=>evC L b T1 H1
  | r=>r
 | .cond c a b,T,H=>match evO T c with
  | .lit (.bool t)=>match t with
   | true=>evC L a T H
   | false=>evC L b T H
  | .sb e=>match look C.as e with
   | some true=>evC L a T H
   | some false=>evC L b T H
   | none=>none
  | _=>none
 | .block id c,T,H=>match evC L c T H with
  | some (e,T1,H1)=>some (aI id e,T1,H1)
  | none=>none
 | .loop c,T,H=>sZ (evC L c) L T H
 | _,_,_=>none
end
def ux {P:Program} (C:Ctx P) (call:Nat→List AV→Hp→Option (AV × Hp)) (L:Nat) (fn:Func) (xs:List AV) (H:Hp):Option (AV × Hp) :=
 match fn.body with
 | some c=>match evC C call L c (xs++List.replicate (fn.ntmps - xs.length) (.lit undef)) H with
  | some (e,T',H')=>match e with
   | .normal=>(j5 C.ti T' H' fn.results.toList).map fun r=>(r,H')
   | .ret=>(j5 C.ti T' H' fn.results.toList).map fun r=>(r,H')
   | _=>none
  | none=>none
 | none=>none
def evF {P:Program} (C:Ctx P) (funs:Nat→Option Func) (ov:Nat→List AV→Hp→Option (AV × Hp)) (L:Nat):Nat→Nat→List AV→Hp→Option (AV × Hp)
 | 0,_,_,_=>none
 | d+1,f,xs,H=>match ov f xs H with
  | some p=>some p
  | none=>match funs f with
   | some fn=>ux C (evF C funs ov L d) L fn xs H
   | none=>none
section
variable {P:Program} (C:Ctx P)
variable {call:Nat→List AV→Hp→Option (AV × Hp)} (hcall:∀ g xs H r H',call g xs H=some (r,H')→aq P C.σ g xs H r H')
include hcall in
theorem Ju {T:List AV} {H:Hp} {o:Oper} {x:AV} {H':Hp} (h:ev1 C call T H o=some (x,H')):Op1 C T H o x H':=by
 unfold ev1 at h
 split at h
 ·rename_i f args ts hop
  split at h
  ·rename_i g caps hf
   exact .call hop hf (hcall _ _ _ _ _ h)
  ·cases h
 ·exact .op h
include hcall in
theorem ru {ops:Array Oper}:∀ (l:List Oper) (i:Nat) {T T':List AV} {H H':Hp},ops.toList.drop i=l→vZ C call ops l T H=some (T',H')→qu C ops (List.range' i l.length) T H T' H'
 | [],i,T,T',H,H',hl,h=>by
  simp only [vZ,Option.some.injEq,Prod.mk.injEq] at h
  obtain ⟨rfl,rfl⟩:=h
  exact .nil
 | o::r,i,T,T',H,H',hl,h=>by
  have ho:ops[i]?=some o:=by
   have:(ops.toList.drop i)[0]?=some o:=by rw [hl]; rfl
   rw [List.getElem?_drop] at this
   simpa using this
  have hr:ops.toList.drop (i+1)=r:=by
   rw [← List.drop_drop,hl]; rfl
  simp only [vZ] at h
  split at h
  ·rename_i hw
   split at h
   ·rename_i x H1 h1
    exact .step ho hw (Ju C hcall h1) (ru r (i+1) hr h)
   ·cases h
  ·rename_i hw
   exact .skip ho hw (ru r (i+1) hr h)
  ·cases h
theorem vn {a b:Option Tmp} (h:K5 a b=false) {d:Tmp} (ha:a=some d) (hb:b=some d):False:=by
 subst ha hb
 simp [K5] at h
theorem m_ {ops:Array Oper} (h:nb ops=true):yi ops:=by
 unfold nb at h
 simp only [Bool.and_eq_true] at h
 obtain ⟨⟨h1,h2⟩,h3⟩:=h
 have mem:∀ {i:Nat} {o:Oper},ops[i]?=some o→(o,i) ∈ ops.toList.zipIdx:=fun {i o} ho=>by
  rw [List.mem_zipIdx_iff_getElem?]
  simpa using ho
 have dat:∀ {i d},aN ops i=some d→∃ o,ops[i]?=some o∧o.dst=some d:=fun {i d} hd=>by
  unfold aN at hd
  cases ho:ops[i]? with
  | none=>simp [ho] at hd
  | some o=>exact ⟨o,rfl,by simpa [ho] using hd⟩
 refine ⟨h1,?_,?_⟩
 ·intro i j d hi hj
  obtain ⟨oi,a1,a2⟩:=dat hi
  obtain ⟨oj,b1,b2⟩:=dat hj
  have:=List.all_eq_true.1 (List.all_eq_true.1 h2 _ (mem a1)) _ (mem b1)
  simp only [Bool.or_eq_true,Bool.not_eq_true'] at this
  rcases this with h | h
  ·exact (vn h a2 b2).elim
  ·exact lg h
 ·intro i o ho t ht j hj
  obtain ⟨oj,b1,b2⟩:=dat hj
  have:=List.all_eq_true.1 (List.all_eq_true.1 (List.all_eq_true.1 h3 _ (mem ho)) _ ht) _ (mem b1)
  simp only [Bool.or_eq_true,Bool.not_eq_true'] at this
  rcases this with h | h | h | h
  ·exact (vn h b2 rfl).elim
  ·exact .inl (lg h)
  ·exact .inr (.inl h)
  ·exact .inr (.inr h)
theorem th {pre:Nat→Nat→Bool}:∀ (ls:List Nat),qP pre ls=true→∀ m l l',ls[m]?=some l→ls[m+1]?=some l'→pre l' l=true
 | [],_,m,l,l',h,_=>by simp at h
 | [_],_,m,l,l',_,h=>by simp at h
 | a::b::r,h,0,l,l',h1,h2=>by
  simp only [qP,Bool.and_eq_true] at h
  simp at h1 h2
  subst h1 h2
  exact h.1
 | a::b::r,h,m+1,l,l',h1,h2=>by
  simp only [qP,Bool.and_eq_true] at h
  exact th (b::r) h.2 m l l' (by simpa using h1) (by simpa using h2)
theorem jt {p:Nat→Bool}:∀ (ls:List Nat) (m l:Nat),ls[m]?=some l→m<(ls.takeWhile p).length→p l=true
 | [],m,l,h,_=>by simp at h
 | a::r,0,l,h,hm=>by
  simp at h; subst h
  rw [List.takeWhile_cons] at hm
  split at hm
  ·assumption
  ·simp at hm
 | a::r,m+1,l,h,hm=>by
  rw [List.takeWhile_cons] at hm
  split at hm
  ·exact jt r m l (by simpa using h) (by simpa using hm)
  ·simp at hm
theorem E8 {pre:Nat→Nat→Bool} {i:Nat} (ls:List Nat) {m l:Nat} (h:ls[m]?=some l) (hm:pO pre i ls≤m):pre l i=true:=by
 have hlt:=(List.getElem?_eq_some_iff.1 h).1
 have:ls.reverse[ls.length - 1 - m]?=some l:=by
  rw [List.getElem?_reverse (by omega)]
  rw [show ls.length - 1 - (ls.length - 1 - m)=m by omega]
  exact h
 refine jt (p:=fun l=>pre l i) ls.reverse _ l this ?_
 unfold pO at hm
 have:=(List.takeWhile_prefix (fun l=>pre l i) (l:=ls.reverse)).length_le
 simp at this
 omega
theorem pW {hs:List Hp} {T:List AV} {o:Oper} {x:AV}:∀ (n k:Nat),ou C hs T o x k n=true→∀ j,k≤j→j<k+n→∃ H M,hs[j]?=some H∧bT C.ti C.keys C.as T H o=some (x,M)
 | 0,k,_,j,h1,h2=>by omega
 | n+1,k,h,j,h1,h2=>by
  simp only [ou,Bool.and_eq_true] at h
  by_cases hj:j=k
  ·subst hj
   have h:=h.1
   split at h
   ·rename_i H hH
    split at h
    ·rename_i y M hy
     have:=AV.beq_eq h
     subst this
     exact ⟨H,M,hH,hy⟩
    ·cases h
   ·cases h
  ·exact pW n (k+1) h.2 j (by omega) (by omega)
theorem tA {ops:Array Oper} {pre:Nat→Nat→Bool} {hs:List Hp} {ls:List Nat} {X:Nat→AV} {T0:List AV}:∀ (l:List Oper) (xs:List AV) (i:Nat) (T:List AV),ops.toList.drop i=l →
  (∀ j x,xs[j]?=some x→X (i+j)=x)→T=TT ops X T0 i→qG C ops pre hs ls l xs i T=true→∀ j o,i≤j→ops[j]?=some o→c5 C.as ops (TT ops X T0 j) o=some true→dx o.op=true →
   ∀ k,vh pre j ls≤k→k≤pO pre j ls→∃ H M,hs[k]?=some H∧bT C.ti C.keys C.as (TT ops X T0 j) H o=some (X j,M)
 | [],xs,i,T,hl,hX,hT,h,j,o,hij,hoj,_,_=>by
  have hlt:=(Array.getElem?_eq_some_iff.1 hoj).1
  have:ops.toList.length≤i:=by
   have:=congrArg List.length hl
   simp at this ⊢; omega
  simp at this
  omega
 | o'::r,[],i,T,hl,hX,hT,h,_,_,_,_,_,_=>by simp [qG] at h
 | o'::r,x::xs,i,T,hl,hX,hT,h,j,o,hij,hoj,hw,hq=>by
  have ho:ops[i]?=some o':=by
   have:(ops.toList.drop i)[0]?=some o':=by rw [hl]; rfl
   rw [List.getElem?_drop] at this
   simpa using this
  have hr:ops.toList.drop (i+1)=r:=by rw [← List.drop_drop,hl]; rfl
  simp only [qG,Bool.and_eq_true] at h
  have hx:X i=x:=hX 0 x rfl
  by_cases hj:j=i
  ·subst hj
   rw [ho] at hoj
   cases hoj
   intro k hk1 hk2
   have h:=h.1
   rw [hT,hw,hq] at h
   obtain ⟨H,M,e1,e2⟩:=pW C _ _ h k hk1 (by omega)
   exact ⟨H,M,e1,by rw [hx]; exact e2⟩
  ·refine tA r xs (i+1) _ hr (fun j x hj=>by rw [show i+1+j=i+(j+1) by omega]; exact hX (j+1) x (by simpa using hj)) ?_ h.2 j o (by omega) hoj hw hq
   rw [g_,hx,hT]
   have:aN ops i=o'.dst:=by simp [aN,ho]
   rw [this]
include hcall in
theorem mt {ops:Array Oper} {X:Nat→AV} {HS:Nat→Hp} {LS:List Nat} {T0:List AV}:∀ (l:List Oper) (i m:Nat) {T T':List AV} {H H':Hp} {xs:List AV} {hs:List Hp} {ls:List Nat},ops.toList.drop i=l →
  pQ C call ops l i T H=some (xs,hs,ls,T',H')→(∀ j x,xs[j]?=some x→X (i+j)=x)→HS m=H→(∀ j h,hs[j]?=some h→HS (m+1+j)=h)→LS.drop m=ls→(∀ q ∈ LS.take m,q<i)→m≤LS.length→T=TT ops X T0 i →
   xs.length=l.length∧hs.length=ls.length∧T'=TT ops X T0 ops.size∧H'=HS LS.length∧(∀ q ∈ ls,i≤q∧q<ops.size) ∧
   ∀ j o,i≤j→ops[j]?=some o →
    (c5 C.as ops (TT ops X T0 j) o=some false∧X j=.lit undef∧j ∉ LS) ∨
    (c5 C.as ops (TT ops X T0 j) o=some true∧j ∉ LS∧dx o.op=true∧∃ k M,k≤LS.length∧bT C.ti C.keys C.as (TT ops X T0 j) (HS k) o=some (X j,M)) ∨
    (c5 C.as ops (TT ops X T0 j) o=some true∧∃ k,LS[k]?=some j∧Op1 C (TT ops X T0 j) (HS k) o (X j) (HS (k+1)))
 | [],i,m,T,T',H,H',xs,hs,ls,hl,h,hX,hH,hHs,hL,hlt,hml,hT=>by
  simp only [pQ,Option.some.injEq,Prod.mk.injEq] at h
  obtain ⟨rfl,rfl,rfl,rfl,rfl⟩:=h
  have hmm:m=LS.length:=by
   have:=congrArg List.length hL
   simp at this; omega
  have hi:ops.size≤i:=by
   have:=congrArg List.length hl
   simp at this; omega
  refine ⟨rfl,rfl,?_,by rw [← hH,hmm],fun q hq=>(by cases hq),fun j o hij hoj=>?_⟩
  ·rw [hT]
   unfold TT
   have:∀ d,TS ops X (fun _=>true) (List.range (ops.size+d)) T0=TS ops X (fun _=>true) (List.range ops.size) T0:=by
    intro d
    induction d with
    | zero=>rfl
    | succ d ih =>
     have:=g_ ops X T0 (ops.size+d)
     unfold TT at this
     rw [show ops.size+(d+1)=ops.size+d+1 by omega,this,ih]
     have:aN ops (ops.size+d)=none:=by
      unfold aN
      rw [Array.getElem?_eq_none (by omega)]
      rfl
     rw [this]
     rfl
   have e:=this (i - ops.size)
   rw [show ops.size+(i - ops.size)=i by omega] at e
   exact e
  ·have:=(Array.getElem?_eq_some_iff.1 hoj).1
   omega
 | o::r,i,m,T,T',H,H',xs,hs,ls,hl,h,hX,hH,hHs,hL,hlt,hml,hT=>by
  have ho:ops[i]?=some o:=by
   have:(ops.toList.drop i)[0]?=some o:=by rw [hl]; rfl
   rw [List.getElem?_drop] at this
   simpa using this
  have hin:=(Array.getElem?_eq_some_iff.1 ho).1
  have hr:ops.toList.drop (i+1)=r:=by rw [← List.drop_drop,hl]; rfl
  have hdst:aN ops i=o.dst:=by simp [aN,ho]
  simp only [pQ] at h
  split at h
  ·rename_i hw
   split at h
   ·rename_i hq
    split at h
    ·rename_i x M hx
     split at h
     ·rename_i xs' hs' ls' T2 H2 hrec
      simp only [Option.some.injEq,Prod.mk.injEq] at h
      obtain ⟨rfl,rfl,rfl,rfl,rfl⟩:=h
      have hXi:X i=x:=hX 0 x rfl
      obtain ⟨q1,q2,q3,q4,q5,q6⟩:=mt r (i+1) m hr hrec (fun j x hj=>by rw [show i+1+j=i+(j+1) by omega]; exact hX (j+1) x (by simpa using hj)) hH hHs hL (fun q hq=>Nat.lt_succ_of_lt (hlt q hq)) hml (by rw [g_,hXi,hT,hdst])
      refine ⟨by simp [q1],q2,q3,q4,fun q hq=>⟨by have:=(q5 q hq).1; omega,(q5 q hq).2⟩,fun j o' hij hoj=>?_⟩
      by_cases hj:j=i
      ·subst hj
       rw [ho] at hoj
       cases hoj
       have hni:j ∉ LS:=by
        intro hmem
        rw [← List.take_append_drop m LS,List.mem_append] at hmem
        rcases hmem with hm | hm
        ·have:=hlt j hm; omega
        ·rw [hL] at hm; have:=(q5 j hm).1; omega
       exact .inr (.inl ⟨by rw [← hT]; exact hw,hni,hq,m,M,hml,by rw [← hT,hH,hXi]; exact hx⟩)
      ·exact q6 j o' (by omega) hoj
     ·cases h
    ·cases h
   ·rename_i hq
    split at h
    ·rename_i x H1 hx
     split at h
     ·rename_i xs' hs' ls' T2 H2 hrec
      simp only [Option.some.injEq,Prod.mk.injEq] at h
      obtain ⟨rfl,rfl,rfl,rfl,rfl⟩:=h
      have hXi:X i=x:=hX 0 x rfl
      have hm1:m<LS.length:=by
       have:=congrArg List.length hL
       simp at this; omega
      have hLm:LS[m]?=some i:=by
       have:(LS.drop m)[0]?=some i:=by rw [hL]; rfl
       rw [List.getElem?_drop] at this
       simpa using this
      have hH1:HS (m+1)=H1:=hHs 0 H1 rfl
      obtain ⟨q1,q2,q3,q4,q5,q6⟩:=mt r (i+1) (m+1) hr hrec (fun j x hj=>by rw [show i+1+j=i+(j+1) by omega]; exact hX (j+1) x (by simpa using hj)) hH1
       (fun j h hj=>by rw [show m+1+1+j=m+1+(j+1) by omega]; exact hHs (j+1) h (by simpa using hj)) (by rw [← List.drop_drop,hL]; rfl)
       (fun q hq=>by
        rw [List.take_add_one,hLm] at hq
        simp at hq
        rcases hq with hq | hq
        ·exact Nat.lt_succ_of_lt (hlt q hq)
        ·omega) (by omega) (by rw [g_,hXi,hT,hdst])
      refine ⟨by simp [q1],by simp [q2],q3,q4,fun q hq=>?_,fun j o' hij hoj=>?_⟩
      ·rcases List.mem_cons.1 hq with rfl | hq
       ·exact ⟨Nat.le_refl _,hin⟩
       ·exact ⟨by have:=(q5 q hq).1; omega,(q5 q hq).2⟩
      ·by_cases hj:j=i
       ·subst hj
        rw [ho] at hoj
        cases hoj
        refine .inr (.inr ⟨by rw [← hT]; exact hw,m,hLm,?_⟩)
        rw [← hT,hH,hH1,hXi]
        exact Ju C hcall hx
       ·exact q6 j o' (by omega) hoj
     ·cases h
    ·cases h
  ·rename_i hw
   split at h
   ·rename_i xs' hs' ls' T2 H2 hrec
    simp only [Option.some.injEq,Prod.mk.injEq] at h
    obtain ⟨rfl,rfl,rfl,rfl,rfl⟩:=h
    have hXi:X i=.lit undef:=hX 0 _ rfl
    obtain ⟨q1,q2,q3,q4,q5,q6⟩:=mt r (i+1) m hr hrec (fun j x hj=>by rw [show i+1+j=i+(j+1) by omega]; exact hX (j+1) x (by simpa using hj)) hH hHs hL (fun q hq=>Nat.lt_succ_of_lt (hlt q hq)) hml (by rw [g_,hXi,hT,hdst])
    refine ⟨by simp [q1],q2,q3,q4,fun q hq=>⟨by have:=(q5 q hq).1; omega,(q5 q hq).2⟩,fun j o' hij hoj=>?_⟩
    by_cases hj:j=i
    ·subst hj
     rw [ho] at hoj
     cases hoj
     have hni:j ∉ LS:=by
      intro hmem
      rw [← List.take_append_drop m LS,List.mem_append] at hmem
      rcases hmem with hm | hm
      ·have:=hlt j hm; omega
      ·rw [hL] at hm; have:=(q5 j hm).1; omega
     exact .inl ⟨by rw [← hT]; exact hw,hXi,hni⟩
    ·exact q6 j o' (by omega) hoj
   ·cases h
  ·cases h
include hcall in
theorem Ez (hm:P.follows .mixedOrders=true) {ops:Array Oper} {T T':List AV} {H H':Hp} (h:He C call ops T H=some (T',H')):kE (P:=P) C.σ ops T H T' H':=by
 unfold He at h
 split at h
 ·cases h
 rename_i hs0
 have hst:=m_ hs0
 split at h
 ·cases h
 rename_i xs hs ls T1 H1 hp
 let X:Nat→AV:=fun j=>xs.getD j (.lit undef)
 let HS:Nat→Hp:=fun k=>(H::hs).getD k H
 obtain ⟨q1,q2,q3,q4,q5,q6⟩:=mt C hcall (ops:=ops) (X:=X) (HS:=HS) (LS:=ls) (T0:=T) ops.toList 0 0 (by simp) hp
  (fun j x hj=>by simp [X,hj]) rfl (fun j h hj=>by
   show (H::hs).getD (0+1+j) H=h
   rw [show 0+1+j=j+1 by omega]
   simp [hj]) (by simp) (by simp) (Nat.zero_le _) rfl
 have fin:(∀ j o,ops[j]?=some o→c5 C.as ops (TT ops X T j) o=some true→dx o.op=true→j ∉ ls →
   ∃ lo hi,lo≤ls.length∧(∀ k,lo≤k→k≤hi→∃ M,bT C.ti C.keys C.as (TT ops X T j) (HS k) o=some (X j,M))∧∀ m l,ls[m]?=some l→(m<lo→bV ops j l=true)∧(hi≤m→bV ops l j=true)) →
   (∀ m l l',ls[m]?=some l→ls[m+1]?=some l'→bV ops l' l=true)→T1=T'→H1=H'→kE (P:=P) C.σ ops T H T' H':=by
  intro hq hord e1 e2
  rw [← e1,← e2,q3,q4]
  refine vq C hm hst ⟨rfl,fun i o ho=>?_,hord,fun l hl=>(q5 l hl).2⟩
  rcases q6 i o (Nat.zero_le _) ho with h | ⟨h1,h2,h3,_⟩ | h
  ·exact .inl h
  ·obtain ⟨lo,hi,a,b,c⟩:=hq i o ho h1 h3 h2
   exact .inr (.inl ⟨h1,h2,lo,hi,a,fun k k1 k2=>(by obtain ⟨M,e⟩:=b k k1 k2; exact .op (nM C (LeH.refl _) h3 e)),c⟩)
  ·exact .inr (.inr h)
 split at h
 ·simp only [Option.some.injEq,Prod.mk.injEq] at h
  refine fin (fun j o ho hw hqt hni=>?_) (fun m l l' hl=>by simp at hl) h.1 h.2
  rcases q6 j o (Nat.zero_le _) ho with ⟨h1,_⟩ | ⟨_,_,_,k,M,hk,hev⟩ | ⟨_,k,hk,_⟩
  ·rw [hw] at h1; cases h1
  ·simp at hk
   subst hk
   exact ⟨0,0,Nat.zero_le _,fun k h1 h2=>by
    have:k=0:=by omega
    subst this
    exact ⟨M,hev⟩,fun m l hl=>by simp at hl⟩
  ·simp at hk
 ·simp only at h
  cases hb:(qP (fun i j=>((cV ops.toList []).getD i 0).testBit j) ls&&qG C ops (fun i j=>((cV ops.toList []).getD i 0).testBit j) (H::hs) ls ops.toList xs 0 T) with
  | false=>simp only [hb,cond_false] at h; cases h
  | true =>
   simp only [hb,cond_true,Option.some.injEq,Prod.mk.injEq] at h
   simp only [Bool.and_eq_true] at hb
   refine fin (fun j o ho hw hqt hni=>?_) (th ls hb.1) h.1 h.2
   have:=tA C (X:=X) (T0:=T) ops.toList xs 0 T (by simp) (fun j x hj=>by simp [X,hj]) rfl hb.2 j o (Nat.zero_le _) ho hw hqt
   refine ⟨vh (bV ops) j ls,pO (bV ops) j ls,(List.takeWhile_prefix _).length_le,fun k h1 h2=>?_,fun m l hl=>⟨fun hm=>jt ls m l hl hm,fun hm=>E8 ls hl hm⟩⟩
   obtain ⟨H2,M,e1,e2⟩:=this k h1 h2
   refine ⟨M,?_⟩
   have:HS k=H2:=by
    show (H::hs).getD k H=H2
    rw [List.getD_eq_getElem?_getD,e1]
    rfl
   rw [this]
   exact e2
include hcall in
theorem ze (hm:P.follows .mixedOrders=true) (L:Nat):∀ (c:Code) {T T':List AV} {H H':Hp} {e:Exit},evC C call L c T H=some (e,T',H')→Ex C c T H e T' H':=by
 have hloop:∀ (c:Code),(∀ {T T':List AV} {H H':Hp} {e:Exit},evC C call L c T H=some (e,T',H')→Ex C c T H e T' H') →
   ∀ (n:Nat) {T T':List AV} {H H':Hp} {e:Exit},sZ (evC C call L c) n T H=some (e,T',H')→Ex C (.loop c) T H e T' H':=by
  intro c ih n
  induction n with
  | zero=>intro T T' H H' e h; simp [sZ] at h
  | succ n ihn =>
   intro T T' H H' e h
   simp only [sZ] at h
   split at h
   ·rename_i T1 H1 h1
    exact .loop (ih h1) (ihn h)
   ·rename_i hne
    refine .loopX (ih h) (fun he=>?_)
    subst he
    exact hne _ _ h
 intro c
 induction c with
 | skip=>intro T T' H H' e h; simp only [evC,Option.some.injEq,Prod.mk.injEq] at h; obtain ⟨rfl,rfl,rfl⟩:=h; exact .skip
 | exit id=>intro T T' H H' e h; simp only [evC,Option.some.injEq,Prod.mk.injEq] at h; obtain ⟨rfl,rfl,rfl⟩:=h; exact .exit
 | ret=>intro T T' H H' e h; simp only [evC,Option.some.injEq,Prod.mk.injEq] at h; obtain ⟨rfl,rfl,rfl⟩:=h; exact .ret
 | region id ops d =>
  intro T T' H H' e h
  cases d with
  | false =>
   simp only [evC,Option.map_eq_some_iff,Prod.mk.injEq] at h
   obtain ⟨⟨T1,H1⟩,h1,rfl,rfl,rfl⟩:=h
   have:=ru C hcall (ops:=ops) ops.toList 0 (by simp) h1
   refine .region ?_
   rw [List.range_eq_range']
   simpa using this
  | true =>
   simp only [evC,Option.map_eq_some_iff,Prod.mk.injEq] at h
   obtain ⟨⟨T1,H1⟩,h1,rfl,rfl,rfl⟩:=h
   exact .draw (Ez C hcall hm h1)
 | seq a b iha ihb =>
  intro T T' H H' e h
  simp only [evC] at h
  split at h
  ·rename_i T1 H1 h1
   exact .seq (iha h1) (ihb h)
  ·rename_i hne
   refine .seqX (iha h) (fun he=>?_)
   subst he
   exact hne _ _ h
 | cond c a b iha ihb =>
  intro T T' H H' e h
  simp only [evC] at h
  split at h
  ·rename_i t ht
   cases t with
   | true=>exact .cond ht (iha h)
   | false=>exact .cond ht (ihb h)
  ·rename_i b ht
   split at h
   ·rename_i hl; exact .condS ht hl (iha h)
   ·rename_i hl; exact .condS ht hl (ihb h)
   ·cases h
  ·cases h
 | block id c ih =>
  intro T T' H H' e h
  simp only [evC] at h
  split at h
  ·rename_i e1 T1 H1 h1
   simp only [Option.some.injEq,Prod.mk.injEq] at h
   obtain ⟨rfl,rfl,rfl⟩:=h
   exact .block (ih h1)
  ·cases h
 | loop c ih =>
  intro T T' H H' e h
  exact hloop c ih L h
 | _=>intro T T' H H' e h; simp [evC] at h
include hcall in
theorem wB (hm : P.follows .mixedOrders = true) {L : Nat} {f : Nat} {fn : Func} {xs : List AV} {H H' : Hp} {r : AV} (hf : P.funcs[f]? = some fn) (hn : (fn.name == "runtime.NumGoroutine") = false)
  (h:ux C call L fn xs H=some (r,H')):aq P C.σ f xs H r H':=by
 unfold ux at h
 split at h
 ·rename_i c hc
  split at h
  ·rename_i e T1 H1 he
   split at h
   ·simp only [Option.map_eq_some_iff,Prod.mk.injEq] at h
    obtain ⟨z,hz,rfl,rfl⟩:=h
    exact mJ C hf hc hn (ze C hcall hm L c he) (.inl rfl) hz
   ·simp only [Option.map_eq_some_iff,Prod.mk.injEq] at h
    obtain ⟨z,hz,rfl,rfl⟩:=h
    exact mJ C hf hc hn (ze C hcall hm L c he) (.inr rfl) hz
   ·cases h
  ·cases h
 ·cases h
end
theorem zZ {P : Program} (C : Ctx P) (hm : P.follows .mixedOrders = true) {funs : Nat → Option Func} {ov : Nat → List AV → Hp → Option (AV × Hp)} (hov : ∀ f xs H r H', ov f xs H = some (r, H') → aq P C.σ f xs H r H') (hfuns : ∀ f fn, funs f = some fn → P.funcs[f]? = some fn ∧ (fn.name == "runtime.NumGoroutine") = false) (L : Nat) :
  ∀ (d:Nat) (f:Nat) (xs:List AV) (H:Hp) (r:AV) (H':Hp),evF C funs ov L d f xs H=some (r,H')→aq P C.σ f xs H r H'
 | 0,_,_,_,_,_,h=>by simp [evF] at h
 | d+1,f,xs,H,r,H',h=>by
  simp only [evF] at h
  split at h
  ·rename_i p hp
   cases h
   exact hov _ _ _ _ _ hp
  ·split at h
   ·rename_i fn hfn
    obtain ⟨h1,h2⟩:=hfuns f fn hfn
    exact wB C (zZ C hm hov hfuns L d) hm h1 h2 h
   ·cases h
def JS:Nat→List AV→Hp→Option (AV × Hp):=fun _ _ _=>none
theorem JT {P:Program} {σ:Sig}:∀ f xs H r H',JS f xs H=some (r,H')→aq P σ f xs H r H':=fun _ _ _ _ _ h=>by cases h
end Go.Proofs.YtegioimlblnajaaGreat.Ev
namespace Go.Proofs.YtegioimlblnajaaGreat.Ev
set_option linter.unusedVariables false
set_option linter.unusedSimpArgs false
namespace Tr
variable {α:Type}
def toL:Tr α→List (Nat × α)
 | .leaf=>[]
 | .node v l r=>(match v with | some x=>[(0,x)] | none=>[])++(l.toL.map fun p=>(2*p.1+1,p.2))++r.toL.map fun p=>(2*p.1+2,p.2)
inductive All (p:Nat→α→Prop):List (Nat × α)→Prop where
 | nil:All p []
 | cons {k:Nat} {x:α} {l:List (Nat × α)} (h:p k x) (hs:All p l):All p ((k,x)::l)
theorem All.mem {p:Nat→α→Prop} {l:List (Nat × α)} (h:All p l) {k:Nat} {x:α} (hm:(k,x) ∈ l):p k x:=by
 induction h with
 | nil=>cases hm
 | cons h hs ih =>
  rcases List.mem_cons.1 hm with e | hm
  ·cases e; exact h
  ·exact ih hm
theorem rQ:∀ (t:Tr α) {k:Nat} {x:α},t.get k=some x→(k,x) ∈ t.toL
 | .leaf,k,x,h=>by simp [get] at h
 | .node v l r,k,x,h=>by
  rw [lM] at h
  simp only [toL,List.mem_append,List.mem_map]
  by_cases hk:k=0
  ·subst hk
   simp [top] at h
   subst h
   exact .inl (.inl (by simp))
  ·rw [if_neg hk] at h
   split at h
   ·exact .inl (.inr ⟨((k - 1) / 2,x),rQ l h,by simp; omega⟩)
   ·exact .inr ⟨((k - 1) / 2,x),rQ r h,by simp; omega⟩
theorem all_get {p:Nat→α→Prop} {t:Tr α} (h:All p t.toL):∀ k x,t.get k=some x→p k x:=fun k x hk=>h.mem (rQ t hk)
end Tr
end Go.Proofs.YtegioimlblnajaaGreat.Ev
namespace Go.Proofs.YtegioimlblnajaaGreat.Ev
set_option linter.unusedVariables false
set_option linter.unusedSimpArgs false
theorem cz:∀ {ks:List KK} {vs:List Value},cC ks vs→vs.length=ks.length
 | [],[],_=>rfl
 | k::ks,v::vs,h=>by
  have:cC ks vs:=by unfold cC at h; split at h<;>simp_all
  simp [cz this]
 | [],_::_,h=>h.elim
 | k::_,[],h=>by cases k<;>exact h.elim
theorem nT:∀ {ks ls:List KK} {vs us:List Value},vs.length=ks.length→(cC (ks++ls) (vs++us) ↔ cC ks vs∧cC ls us)
 | [],ls,[],us,_=>by simp [cC]
 | k::ks,ls,v::vs,us,h=>by
  have ih:=nT (ks:=ks) (ls:=ls) (vs:=vs) (us:=us) (by simpa using h)
  cases k<;>cases v<;>simp [cC,ih,and_assoc]
 | [],_,_::_,_,h=>by simp at h
 | _::_,_,[],_,h=>by simp at h
section
variable {P:Program}
structure EqK (P:Program) (dd:Nat) (t:TypeId) (ks:List KK):Prop where
 size:P.cellsOf t=ks.length
 info:∃ i,P.info? t=some i
 part:∀ (w:World) (xs:Array Value) (off:Nat),cC ks ((xs.toList.drop off).take ks.length)→∃ a,(part t xs off).run P w=.ok a w∧a.formed P t=true∧a.cells.toList=(xs.toList.drop off).take ks.length
 eq:∀ (w:World) (a b:Value),a.formed P t=true→b.formed P t=true→cC ks a.cells.toList→cC ks b.cells.toList→∃ r:Bool,(Op.equalIn dd t a b).run P w=.ok r w∧(r=true ↔ a.cells.toList=b.cells.toList)
 chk:∀ (em:Bool) (w:World) (a:Value),a.formed P t=true→cC ks a.cells.toList→(Instr.checkKey em dd t a).run P w=.ok () w
theorem wm {xs:List Value} {off:Nat} (h:((xs.drop off).take 1).length=1):∃ v,xs[off]?=some v∧(xs.drop off).take 1=[v]:=by
 match hl:(xs.drop off).take 1,h with
 | [v],_ =>
  refine ⟨v,?_,rfl⟩
  have:=congrArg (·[0]?) hl
  simpa using this
theorem np {dd:Nat} {t:TypeId} {k:KK} {d:TypeDesc} (hp:P.plainKey t=true) (hu:P.underlying t=some d) (hs:P.cellsOf t=1)
  (h:∀ v:Value,cC [k] [v]→v.formed P t=true∧v.cells=#[v])
  (he:∀ w a b,cC [k] [a]→cC [k] [b]→∃ r:Bool,(Op.equalIn dd t a b).run P w=.ok r w∧(r=true ↔ a=b))
  (hf:∀ v:Value,v.formed P t=true→v.cells=#[v]) (hc:∀ em w v,cC [k] [v]→(Instr.checkKey em dd t v).run P w=.ok () w):EqK P dd t [k]:=by
 refine ⟨hs,info_of_underlying hu,fun w xs off hk=>?_,fun w a b fa fb ka kb=>?_,fun em w a fa ka=>hc em w a (by rw [hf a fa] at ka; exact ka)⟩
 ·obtain ⟨v,h1,h2⟩:=wm (cz hk)
  simp only [List.length_cons,List.length_nil] at hk ⊢
  rw [h2] at hk ⊢
  obtain ⟨h3,h4⟩:=h v hk
  exact ⟨v,run_part_plain w hp (by simpa using h1),h3,by rw [h4]⟩
 ·rw [hf a fa] at ka ⊢
  rw [hf b fb] at kb ⊢
  obtain ⟨r,h1,h2⟩:=he w a b ka kb
  exact ⟨r,h1,by simpa using h2⟩
theorem Mn {t:TypeId} {k:IntKind} (d:Nat) (hu:P.underlying t=some (.int k)) (hs:P.cellsOf t=1):EqK P (d+1) t [.int k]:=by
 refine np (by simp [Program.plainKey,hu]) hu hs (fun v h=>?_) (fun w a b ha hb=>?_) (fun v h=>?_) (fun em w v h=>by cases v<;>simp [cC] at h<;>simp [Instr.checkKey,run_underlying hu])
 ·cases v<;>simp [cC] at h
  simp [Value.formed,hu,Value.cells]
 ·cases a<;>simp [cC] at ha
  cases b<;>simp [cC] at hb
  subst ha; subst hb
  rename_i x y
  exact ⟨x == y,by simp [Op.equalIn,run_underlying hu],by simp⟩
 ·cases v<;>first | rfl | simp [Value.formed,hu] at h
theorem Fp {t:TypeId} (d:Nat) (hu:P.underlying t=some .bool) (hs:P.cellsOf t=1):EqK P (d+1) t [.bool]:=by
 refine np (by simp [Program.plainKey,hu]) hu hs (fun v h=>?_) (fun w a b ha hb=>?_) (fun v h=>?_) (fun em w v h=>by cases v<;>simp [cC] at h<;>simp [Instr.checkKey,run_underlying hu])
 ·cases v<;>simp [cC] at h
  simp [Value.formed,hu,Value.cells]
 ·cases a<;>simp [cC] at ha
  cases b<;>simp [cC] at hb
  rename_i x y
  exact ⟨x == y,by simp [Op.equalIn,run_underlying hu],by simp⟩
 ·cases v<;>first | rfl | simp [Value.formed,hu] at h
theorem uB {t:TypeId} (d:Nat) (hu:P.underlying t=some .string) (hs:P.cellsOf t=1):EqK P (d+1) t [.string]:=by
 refine np (by simp [Program.plainKey,hu]) hu hs (fun v h=>?_) (fun w a b ha hb=>?_) (fun v h=>?_) (fun em w v h=>by cases v<;>simp [cC] at h<;>simp [Instr.checkKey,run_underlying hu])
 ·cases v<;>simp [cC] at h
  simp [Value.formed,hu,Value.cells]
 ·cases a<;>simp [cC] at ha
  cases b<;>simp [cC] at hb
  rename_i x y
  refine ⟨x.toList == y.toList,run_equalIn_string w d t x y hu,?_⟩
  rw [beq_iff_eq,ByteArray.toList_eq,ByteArray.toList_eq,Value.string.injEq]
  constructor
  ·intro h
   cases x; cases y
   simp only at h
   congr 1
   exact Array.ext' h
  ·rintro rfl; rfl
 ·cases v<;>first | rfl | simp [Value.formed,hu] at h
theorem EqK.step {dd:Nat} {t:TypeId} {ks:List KK} (h:EqK P dd t ks) (w:World) {xs ys:Array Value} {off:Nat} (hx:cC ks ((xs.toList.drop off).take ks.length)) (hy:cC ks ((ys.toList.drop off).take ks.length)) :
  ∃ a b r,(Go.part t xs off).run P w=.ok a w∧(Go.part t ys off).run P w=.ok b w∧(Op.equalIn dd t a b).run P w=.ok r w∧(r=true ↔ (xs.toList.drop off).take ks.length=(ys.toList.drop off).take ks.length):=by
 obtain ⟨a,p1,f1,c1⟩:=h.part w xs off hx
 obtain ⟨b,p2,f2,c2⟩:=h.part w ys off hy
 obtain ⟨r,hr,hiff⟩:=h.eq w a b f1 f2 (by rw [c1]; exact hx) (by rw [c2]; exact hy)
 exact ⟨a,b,r,p1,p2,hr,by rw [hiff,c1,c2]⟩
theorem lP {xs:List Value} (o n:Nat):xs.drop o=(xs.drop o).take n++xs.drop (o+n):=by
 conv=>lhs; rw [← List.take_append_drop n (xs.drop o)]
 rw [List.drop_drop]
theorem gX {ks ls:List KK} {xs:List Value} {o:Nat} (h:cC (ks++ls) (xs.drop o)):cC ks ((xs.drop o).take ks.length)∧cC ls (xs.drop (o+ks.length)):=by
 have hl:=cz h
 simp at hl
 rw [lP o ks.length] at h
 exact (nT (by simp; omega)).1 h
theorem nY {xs ys:List Value} {o n:Nat} (hx:n≤xs.length - o) (hy:n≤ys.length - o):xs.drop o=ys.drop o ↔ (xs.drop o).take n=(ys.drop o).take n∧xs.drop (o+n)=ys.drop (o+n):=by
 constructor
 ·intro h
  rw [← List.drop_drop,← List.drop_drop,h]
  exact ⟨rfl,rfl⟩
 ·intro ⟨h1,h2⟩
  rw [lP (xs:=xs) o n,lP (xs:=ys) o n,h1,h2]
theorem pG {dd:Nat} {e:TypeId} {ks:List KK} (h:EqK P dd e ks) (w:World) (xs ys:Array Value) (n:Nat):∀ k i,i+k=n→cC (List.replicate k ks).flatten (xs.toList.drop (i*ks.length))→cC (List.replicate k ks).flatten (ys.toList.drop (i*ks.length)) →
  ∃ r:Bool,(Op.eqItems dd e (P.cellsOf e) xs ys (List.range' i k)).run P w=.ok r w∧(r=true ↔ xs.toList.drop (i*ks.length)=ys.toList.drop (i*ks.length))
 | 0,i,_,hx,hy=>by
  simp only [List.replicate_zero,List.flatten_nil] at hx hy
  have h1:=cz hx
  have h2:=cz hy
  simp only [List.length_nil,List.length_eq_zero_iff] at h1 h2
  exact ⟨true,by simp [Op.eqItems],by simp [h1,h2]⟩
 | k+1,i,hi,hx,hy=>by
  rw [List.replicate_succ,List.flatten_cons] at hx hy
  have lx:=cz hx
  have ly:=cz hy
  simp at lx ly
  obtain ⟨hx1,hx2⟩:=gX hx
  obtain ⟨hy1,hy2⟩:=gX hy
  have e1:i*ks.length+ks.length=(i+1)*ks.length:=by rw [Nat.add_mul,Nat.one_mul]
  rw [e1] at hx2 hy2
  obtain ⟨a,b,r,p1,p2,p3,hiff⟩:=h.step w hx1 hy1
  obtain ⟨r',hr',hiff'⟩:=pG h w xs ys n k (i+1) (by omega) hx2 hy2
  rw [List.range'_succ]
  simp only [Op.eqItems,Sem.run_bind,h.size] at hr' ⊢
  simp only [p1,p2,p3,Result.andThen_ok]
  rw [nY (n:=ks.length) (by simp; omega) (by simp; omega),e1]
  cases r
  ·exact ⟨false,by simp,by simp; intro e; exact absurd (hiff.2 e) (by simp)⟩
  ·refine ⟨r',by simpa using hr',?_⟩
   rw [hiff']
   simp [hiff.1 rfl]
theorem qD {t:TypeId} {ks:List KK} (hagg:(∃ n e,P.underlying t=some (.array n e))∨∃ fs,P.underlying t=some (.struct fs)) (hs:P.cellsOf t=ks.length) (w:World) (xs:Array Value) (off:Nat) (hk:cC ks ((xs.toList.drop off).take ks.length)) :
  ∃ a,(Go.part t xs off).run P w=.ok a w∧a.formed P t=true∧a.cells.toList=(xs.toList.drop off).take ks.length:=by
 have hlen:=cz hk
 have hl:(xs.extract off (off+ks.length)).toList=(xs.toList.drop off).take ks.length:=by
  rw [Array.toList_extract]
  simp [List.extract]
 have hz:(xs.extract off (off+ks.length)).size=ks.length:=by rw [← Array.length_toList,hl,hlen]
 have hi:∃ i,P.info? t=some i:=by rcases hagg with ⟨n,e,h⟩ | ⟨fs,h⟩<;>exact info_of_underlying h
 obtain ⟨i,hi⟩:=hi
 refine ⟨.agg (xs.extract off (off+ks.length)),?_,?_,hl⟩
 ·rcases hagg with ⟨n,e,h⟩ | ⟨fs,h⟩<;>simp [Go.part,isAgg,run_underlying h,run_sizeOf w hi,hs]
 ·rcases hagg with ⟨n,e,h⟩ | ⟨fs,h⟩<;>simp [Value.formed,h,hs]; all_goals (simpa using hz)
theorem gV {t:TypeId} (hagg:(∃ n e,P.underlying t=some (.array n e))∨∃ fs,P.underlying t=some (.struct fs)) {a:Value} (h:a.formed P t=true):∃ xs,a=.agg xs:=by
 rcases hagg with ⟨n,e,hu⟩ | ⟨fs,hu⟩<;>cases a<;>simp [Value.formed,hu] at h<;>exact ⟨_,rfl⟩
theorem lC {em:Bool} {dd:Nat} (w:World) (xs:Array Value):∀ (fs:List Field) (kss:List (List KK)) (o:Nat),fs.length=kss.length →
  (∀ (i : Nat) (f : Field) (ks : List KK), fs[i]? = some f → kss[i]? = some ks → f.name ≠ "_" ∧ EqK P dd f.type ks ∧ f.offset = o + (kss.take i).flatten.length) →
  cC kss.flatten (xs.toList.drop o)→((forIn fs PUnit.unit fun f r=>do
   if f.name ≠ "_" then do
    let a ← Go.part f.type xs f.offset
    Instr.checkKey em dd f.type a
    pure (ForInStep.yield PUnit.unit)
   else pure (ForInStep.yield PUnit.unit):Sem PUnit)).run P w=.ok PUnit.unit w
 | [],[],o,_,_,hx=>by simp
 | f::fs,ks::kss,o,hl,hall,hx=>by
  rw [List.flatten_cons] at hx
  obtain ⟨hx1,hx2⟩:=gX hx
  obtain ⟨hn,h,ho⟩:=hall 0 f ks rfl rfl
  simp at ho
  obtain ⟨a,p1,f1,c1⟩:=h.part w xs o hx1
  have p2:=h.chk em w a f1 (by rw [c1]; exact hx1)
  have ih:=lC (em:=em) w xs fs kss (o+ks.length) (by simpa using hl) (fun i g ls hg hls=>by
   obtain ⟨q1,q2,q3⟩:=hall (i+1) g ls (by simpa using hg) (by simpa using hls)
   exact ⟨q1,q2,by rw [q3]; simp; omega⟩) hx2
  simp only [List.forIn_cons,Sem.run_bind,hn,ne_eq,not_false_eq_true,if_true,ho,Result.andThen_ok,p1,p2,Sem.run_pure]
  exact ih
 | [],_::_,_,h,_,_=>by simp at h
 | _::_,[],_,h,_,_=>by simp at h
theorem mO {em:Bool} {dd:Nat} {e:TypeId} {ks:List KK} (h:EqK P dd e ks) {i0:TypeInfo} (hi0:P.info? e=some i0) (w:World) (xs:Array Value) (n:Nat):∀ k i,i+k=n→cC (List.replicate k ks).flatten (xs.toList.drop (i*ks.length)) →
  ((forIn (List.range' i k) PUnit.unit fun j r=>do
   let s ← sizeOf e
   let a ← Go.part e xs (j*s)
   Instr.checkKey em dd e a
   pure (ForInStep.yield PUnit.unit):Sem PUnit)).run P w=.ok PUnit.unit w
 | 0,i,_,hx=>by simp
 | k+1,i,hi,hx=>by
  rw [List.replicate_succ,List.flatten_cons] at hx
  obtain ⟨hx1,hx2⟩:=gX hx
  have e1:i*ks.length+ks.length=(i+1)*ks.length:=by rw [Nat.add_mul,Nat.one_mul]
  rw [e1] at hx2
  obtain ⟨a,p1,f1,c1⟩:=h.part w xs (i*ks.length) hx1
  have p2:=h.chk em w a f1 (by rw [c1]; exact hx1)
  have ih:=mO (em:=em) h hi0 w xs n k (i+1) (by omega) hx2
  rw [List.range'_succ]
  simp only [List.forIn_cons,Sem.run_bind,run_sizeOf w hi0,h.size,Result.andThen_ok,p1,p2,Sem.run_pure]
  exact ih
theorem wI {dd:Nat} {t e:TypeId} {n:Nat} {ks:List KK} (h:EqK P dd e ks) (hu:P.underlying t=some (.array n e)) (hs:P.cellsOf t=n*ks.length):EqK P (dd+1) t (List.replicate n ks).flatten:=by
 have hl:(List.replicate n ks).flatten.length=n*ks.length:=by simp
 refine ⟨by rw [hs,hl],info_of_underlying hu,fun w xs off hk=>qD (.inl ⟨_,_,hu⟩) (by rw [hs,hl]) w xs off hk,fun w a b fa fb ka kb=>?_,fun em w a fa ka=>?_⟩
 case refine_2 =>
  obtain ⟨xs,rfl⟩:=gV (.inl ⟨_,_,hu⟩) fa
  obtain ⟨i,hi⟩:=h.info
  rw [Instr.checkKey]
  simp only [Sem.run_bind,run_underlying hu,Result.andThen_ok]
  simp only [Std.Legacy.Range.forIn_eq_forIn_range',Std.Legacy.Range.size,Nat.sub_zero,Nat.add_one_sub_one,Nat.div_one]
  have:=mO (em:=em) h hi w xs n n 0 (by omega) (by simpa [Value.cells] using ka)
  rw [this]; rfl
 obtain ⟨xs,rfl⟩:=gV (.inl ⟨_,_,hu⟩) fa
 obtain ⟨ys,rfl⟩:=gV (.inl ⟨_,_,hu⟩) fb
 obtain ⟨i,hi⟩:=h.info
 rw [run_equalIn_array w dd xs ys hu hi,List.range_eq_range']
 have:=pG h w xs ys n n 0 (by omega) (by simpa [Value.cells] using ka) (by simpa [Value.cells] using kb)
 simpa [Value.cells] using this
theorem nQ {dd:Nat} (w:World) (xs ys:Array Value):∀ (fs:List Field) (kss:List (List KK)) (o:Nat),fs.length=kss.length →
  (∀ (i : Nat) (f : Field) (ks : List KK), fs[i]? = some f → kss[i]? = some ks → f.name ≠ "_" ∧ EqK P dd f.type ks ∧ f.offset = o + (kss.take i).flatten.length) →
  cC kss.flatten (xs.toList.drop o)→cC kss.flatten (ys.toList.drop o)→∃ r:Bool,(Op.eqFields dd xs ys fs).run P w=.ok r w∧(r=true ↔ xs.toList.drop o=ys.toList.drop o)
 | [],[],o,_,_,hx,hy=>by
  simp only [List.flatten_nil] at hx hy
  have h1:=cz hx
  have h2:=cz hy
  simp only [List.length_nil,List.length_eq_zero_iff] at h1 h2
  exact ⟨true,by simp [Op.eqFields],by simp [h1,h2]⟩
 | f::fs,ks::kss,o,hl,hall,hx,hy=>by
  rw [List.flatten_cons] at hx hy
  have lx:=cz hx
  have ly:=cz hy
  simp at lx ly
  obtain ⟨hx1,hx2⟩:=gX hx
  obtain ⟨hy1,hy2⟩:=gX hy
  obtain ⟨hn,h,ho⟩:=hall 0 f ks rfl rfl
  simp at ho
  obtain ⟨a,b,r,p1,p2,p3,hiff⟩:=h.step w hx1 hy1
  obtain ⟨r',hr',hiff'⟩:=nQ w xs ys fs kss (o+ks.length) (by simpa using hl) (fun i g ls hg hls=>by
   obtain ⟨q1,q2,q3⟩:=hall (i+1) g ls (by simpa using hg) (by simpa using hls)
   exact ⟨q1,q2,by rw [q3]; simp; omega⟩) hx2 hy2
  simp only [Op.eqFields,hn,ne_eq,not_false_eq_true,if_true,Sem.run_bind,ho,p1,p2,p3,Result.andThen_ok]
  rw [nY (n:=ks.length) (by simp; omega) (by simp; omega)]
  cases r
  ·exact ⟨false,by simp,by simp; intro e; exact absurd (hiff.2 e) (by simp)⟩
  ·refine ⟨r',by simpa using hr',?_⟩
   rw [hiff']
   simp [hiff.1 rfl]
 | [],_::_,_,h,_,_,_=>by simp at h
 | _::_,[],_,h,_,_,_=>by simp at h
theorem t_ {dd:Nat} {t:TypeId} {fs:Array Field} {kss:List (List KK)} (hu:P.underlying t=some (.struct fs)) (hst:P.stoodInHeld t=false) (hs:P.cellsOf t=kss.flatten.length) (hl:fs.toList.length=kss.length)
  (hall : ∀ (i : Nat) (f : Field) (ks : List KK), fs.toList[i]? = some f → kss[i]? = some ks → f.name ≠ "_" ∧ EqK P dd f.type ks ∧ f.offset = (kss.take i).flatten.length) : EqK P (dd + 1) t kss.flatten := by
 refine ⟨hs,info_of_underlying hu,fun w xs off hk=>qD (.inr ⟨_,hu⟩) hs w xs off hk,fun w a b fa fb ka kb=>?_,fun em w a fa ka=>?_⟩
 case refine_2 =>
  obtain ⟨xs,rfl⟩:=gV (.inr ⟨_,hu⟩) fa
  rw [Instr.checkKey]
  simp only [Sem.run_bind,run_underlying hu,Result.andThen_ok]
  rw [← Array.forIn_toList]
  have:=lC (em:=em) w xs fs.toList kss 0 hl (fun i f ks h1 h2=>by
   obtain ⟨q1,q2,q3⟩:=hall i f ks h1 h2
   exact ⟨q1,q2,by rw [q3]; simp⟩) (by simpa [Value.cells] using ka)
  rw [this]; rfl
 obtain ⟨xs,rfl⟩:=gV (.inr ⟨_,hu⟩) fa
 obtain ⟨ys,rfl⟩:=gV (.inr ⟨_,hu⟩) fb
 have hfs:P.fieldsOf t=fs:=by simp [Program.fieldsOf,hu]
 rw [run_equalIn_struct w dd t xs ys (by rw [hfs]; exact hu) hst,hfs]
 have:=nQ w xs ys fs.toList kss 0 hl (fun i f ks h1 h2=>by
  obtain ⟨q1,q2,q3⟩:=hall i f ks h1 h2
  exact ⟨q1,q2,by rw [q3]; simp⟩) (by simpa [Value.cells] using ka) (by simpa [Value.cells] using kb)
 simpa [Value.cells] using this
def kw (P:Program):Nat→TypeId→Option (List KK)
 | 0,_=>none
 | D+1,t=>match P.underlying t with
  | some .bool=>bif Nat.beq (P.cellsOf t) 1 then some [.bool] else none
  | some (.int k)=>bif Nat.beq (P.cellsOf t) 1 then some [.int k] else none
  | some .string=>bif Nat.beq (P.cellsOf t) 1 then some [.string] else none
  | some (.array n e)=>match kw P D e with
   | some ks=>bif Nat.beq (P.cellsOf t) (n*ks.length) then some (List.replicate n ks).flatten else none
   | none=>none
  | some (.struct fs)=>match fieldsK (fun e=>kw P D e) 0 fs.toList with
   | some kss=>bif !(P.stoodInHeld t)&&Nat.beq (P.cellsOf t) kss.flatten.length then some kss.flatten else none
   | none=>none
  | _=>none
where
 fieldsK (k:TypeId→Option (List KK)):Nat→List Field→Option (List (List KK))
 | _,[]=>some []
 | o, f :: fs => bif Nat.beq f.offset o && !(f.name == "_") then
   match k f.type with
   | some ks=>(fieldsK k (o+ks.length) fs).map (ks::·)
   | none=>none
  else none
theorem pm {k:TypeId→Option (List KK)}:∀ (fs:List Field) (o:Nat) (kss:List (List KK)),kw.fieldsK k o fs=some kss→fs.length=kss.length ∧
  ∀ (i : Nat) (f : Field) (ks : List KK), fs[i]? = some f → kss[i]? = some ks → f.name ≠ "_" ∧ k f.type = some ks ∧ f.offset = o + (kss.take i).flatten.length
 | [],o,kss,h=>by simp [kw.fieldsK] at h; subst h; exact ⟨rfl,fun i f ks h=>by simp at h⟩
 | f::fs,o,kss,h=>by
  unfold kw.fieldsK at h
  cases hb : (Nat.beq f.offset o && !(f.name == "_")) with
  | false=>simp only [hb,cond_false] at h; cases h
  | true =>
   simp only [hb,cond_true] at h
   simp only [Bool.and_eq_true,Bool.not_eq_true',beq_eq_false_iff_ne] at hb
   split at h
   case h_2=>cases h
   rename_i ks hks
   simp only [Option.map_eq_some_iff] at h
   obtain ⟨kss',h1,rfl⟩:=h
   obtain ⟨q1,q2⟩:=pm fs _ kss' h1
   refine ⟨by simp [q1],fun i g ls hg hls=>?_⟩
   cases i with
   | zero=>simp at hg hls; subst hg; subst hls; exact ⟨hb.2,hks,by simpa using Nat.eq_of_beq_eq_true hb.1⟩
   | succ i =>
    obtain ⟨r1,r2,r3⟩:=q2 i g ls (by simpa using hg) (by simpa using hls)
    exact ⟨r1,r2,by rw [r3]; simp; omega⟩
theorem sK (d:Nat):∀ (D:Nat) (t:TypeId) (ks:List KK),kw P D t=some ks→EqK P (d+D) t ks
 | 0,t,ks,h=>by simp [kw] at h
 | D+1,t,ks,h=>by
  have ih:=sK d D
  unfold kw at h
  have beq:∀ {a b:Nat} {x:List KK},(bif Nat.beq a b then some x else none)=some ks→a=b∧x=ks:=fun {a b x} h=>by
   cases hb:Nat.beq a b with
   | false=>simp [hb] at h
   | true=>simp [hb] at h; exact ⟨Nat.eq_of_beq_eq_true hb,h⟩
  split at h
  ·rename_i hu; obtain ⟨h1,rfl⟩:=beq h; exact Fp _ hu h1
  ·rename_i hu; obtain ⟨h1,rfl⟩:=beq h; exact Mn _ hu h1
  ·rename_i hu; obtain ⟨h1,rfl⟩:=beq h; exact uB _ hu h1
  ·rename_i hu
   split at h
   case h_2=>cases h
   rename_i ls hls
   obtain ⟨h1,rfl⟩:=beq h
   exact wI (ih _ _ hls) hu h1
  ·rename_i fs hu
   split at h
   case h_2=>cases h
   rename_i kss hkss
   cases hb:(!(P.stoodInHeld t)&&Nat.beq (P.cellsOf t) kss.flatten.length) with
   | false=>simp only [hb,cond_false] at h; cases h
   | true =>
    simp only [hb,cond_true,Option.some.injEq] at h
    subst h
    simp only [Bool.and_eq_true,Bool.not_eq_true'] at hb
    obtain ⟨q1,q2⟩:=pm _ _ _ hkss
    exact t_ hu hb.1 (Nat.eq_of_beq_eq_true hb.2) q1 (fun i f ls h1 h2=>by
     obtain ⟨r1,r2,r3⟩:=q2 i f ls h1 h2
     exact ⟨r1,ih _ _ r2,by simpa using r3⟩)
  ·cases h
def bO (P:Program) (t:TypeId):Option (List KK) :=
 match P.underlying t with
 | some (.array _ _)=>match P.eqGuardType P.depth t with
  | false=>kw P 6 t
  | true=>none
 | some (.struct _)=>match P.eqGuardType P.depth t with
  | false=>kw P 6 t
  | true=>none
 | _=>none
theorem aK {t:TypeId} {ks:List KK} (h:bO P t=some ks):oN P t ks:=by
 have main:((∃ n e,P.underlying t=some (.array n e))∨∃ fs,P.underlying t=some (.struct fs))→P.eqGuardType P.depth t=false→kw P 6 t=some ks→oN P t ks:=by
  intro hagg hg hk
  have K:=sK (P:=P) 9994 6 t ks hk
  refine ⟨hg,fun xs ys hx hy w=>?_,?_⟩
  case refine_2=>exact fun em xs hx w=>K.chk em w (.agg xs) (by
   have:=cz hx
   have hs:=K.size
   rcases hagg with ⟨n,e,hu⟩ | ⟨fs,hu⟩<;>simp [Value.formed,hu,hs]<;>simpa using this) (by simpa [Value.cells] using hx)
  have f:∀ zs:Array Value,cC ks zs.toList→(Value.agg zs).formed P t=true:=by
   intro zs hz
   have:=cz hz
   have hs:=K.size
   rcases hagg with ⟨n,e,hu⟩ | ⟨fs,hu⟩<;>simp [Value.formed,hu,hs]<;>simpa using this
  obtain ⟨r,h1,h2⟩:=K.eq w (.agg xs) (.agg ys) (f xs hx) (f ys hy) (by simpa [Value.cells] using hx) (by simpa [Value.cells] using hy)
  exact ⟨r,h1,h2.trans ⟨fun h=>Array.ext' h,fun h=>by rw [h]⟩⟩
 unfold bO at h
 split at h
 ·rename_i n e hu
  split at h
  ·rename_i hg; exact main (.inl ⟨n,e,hu⟩) hg h
  ·cases h
 ·rename_i fs hu
  split at h
  ·rename_i hg; exact main (.inr ⟨fs,hu⟩) hg h
  ·cases h
 ·cases h
end
end Go.Proofs.YtegioimlblnajaaGreat.Ev
namespace Go.Proofs.YtegioimlblnajaaGreat.Ev
open Go.RowKit Go.ChangeShapes Go.WideShapes Go.ChangeAt
set_option linter.unusedVariables false
set_option linter.unusedSimpArgs false
mutual
def bk:AV→Nat
 | .lit v=>match v with
  | .string s=>s.data.size+1
  | _=>1
 | .imm _ rows=>sC rows+1
 | .ip cs=>bkL cs+1
 | .agg cs=>bkL cs
 | _=>1
def bkL:List AV→Nat
 | []=>0
 | x::r=>bk x+bkL r
def sC:List (List AV)→Nat
 | []=>0
 | x::r=>bkL x+sC r
end
mutual
def eN {H:Type}:DataW H→Nat
 | .lit (.string bytes)=>bytes.length+1
 | .lit _=>1
 | .nil=>1
 | .ptr d=>eN d+1
 | .slice elems spare=>ik elems+ik spare+1
 | .agg parts=>ik parts+1
 | .iface _ d=>eN d+1
 | .map entries=>Ff entries+1
 | .held _=>1
def ik {H:Type}:List (DataW H)→Nat
 | []=>0
 | d::r=>eN d+ik r
def Ff {H:Type}:List (Lit × DataW H)→Nat
 | []=>0
 | x::r=>Nt x+Ff r
def Nt {H:Type}:Lit × DataW H→Nat
 | (.string bytes,d)=>bytes.length+eN d+1
 | (_,d)=>eN d+1
end
theorem sh:∀ (a b:List AV),bkL (a++b)=bkL a+bkL b
 | [],b=>by simp [bkL]
 | x::r,b=>by rw [List.cons_append,bkL,bkL,sh r b]; omega
theorem vV {H:Type}:∀ {rows:List (List AV)} {ds:List (DataW H)},rows.length=ds.length→(∀ (i:Nat) r d,rows[i]?=some r→ds[i]?=some d→bkL r≤eN d)→sC rows≤ik ds
 | [],ds,_,_=>by simp [sC]
 | r::rs,[],h,_=>by simp at h
 | r::rs,d::ds,h,k=>by
  rw [sC,ik]
  have h1:=k 0 r d rfl rfl
  have h2:=vV (rows:=rs) (ds:=ds) (by simpa using h) fun i r' d' hr hd=>k (i+1) r' d' (by simpa using hr) (by simpa using hd)
  omega
theorem ky {H:Type}:∀ {l:List (DataW H)} {i:Nat} {d:DataW H},l[i]?=some d→ik (l.drop i)=eN d+ik (l.drop (i+1))
 | [],i,d,h=>by simp at h
 | y::r,0,d,h=>by simp at h; subst h; rw [List.drop_zero,ik,List.drop_one,List.tail_cons]
 | y::r,i+1,d,h=>by simp only [List.drop_succ_cons]; exact ky (by simpa using h)
inductive Sh (ti:Nat→Option TI):List Nat→List AV→Prop where
 | nil:Sh ti [] []
 | bool {t:Nat} {i:TI} {ts:List Nat} {ys:List AV} {b:Bool} (h:ti t=some i) (hd:i.d=.bool) (hs:Sh ti ts ys):Sh ti (t::ts) (.lit (.bool b)::ys)
 | int {t:Nat} {i:TI} {ts:List Nat} {ys:List AV} {k:IntKind} {n:Int} (h:ti t=some i) (hd:i.d=.int k) (hw:(Lit.int k n).wf=true) (hs:Sh ti ts ys):Sh ti (t::ts) (.lit (.int k n)::ys)
 | str {t:Nat} {i:TI} {ts:List Nat} {ys:List AV} {s:ByteArray} (h:ti t=some i) (hd:i.d=.string) (hw:s.size≤reachBytes) (hs:Sh ti ts ys):Sh ti (t::ts) (.lit (.string s)::ys)
 | ptrN {t:Nat} {i:TI} {ts:List Nat} {ys:List AV} {e:Nat} (h:ti t=some i) (hd:i.d=.ptr e) (hs:Sh ti ts ys):Sh ti (t::ts) (.lit (.pointer none)::ys)
 | ptr {t:Nat} {i:TI} {ts:List Nat} {ys cs:List AV} {e:Nat} (h:ti t=some i) (hd:i.d=.ptr e) (hc:Sh ti [e] cs) (hs:Sh ti ts ys):Sh ti (t::ts) (.ip cs::ys)
 | sl {t:Nat} {i j:TI} {ts:List Nat} {ys:List AV} {rows:List (List AV)} {e:Nat} (h:ti t=some i) (hd:i.d=.slice e) (he:ti e=some j) (hc:∀ row ∈ rows,Sh ti [e] row) (hl:∀ row ∈ rows,row.length=j.size)
   (hm:rows.length≤maxLen) (hb:rows.length*j.bytes≤reachBytes) (hs:Sh ti ts ys):Sh ti (t::ts) (.imm j.size rows::ys)
 | struct {t:Nat} {i:TI} {ts:List Nat} {ys:List AV} {fs:List (Nat × Nat)} (h:ti t=some i) (hd:i.d=.struct fs) (hs:Sh ti (fs.map (·.2)++ts) ys):Sh ti (t::ts) ys
 | array {t:Nat} {i:TI} {ts:List Nat} {ys:List AV} {n e:Nat} (h:ti t=some i) (hd:i.d=.array n e) (hs:Sh ti (List.replicate n e++ts) ys):Sh ti (t::ts) ys
def kN (ti:Nat→Option TI):Nat→List (Nat × Nat)→Option Nat
 | o,[]=>some o
 | o,(f,t)::fs=>match ti t with
  | some i=>bif Nat.beq o f then kN ti (o+i.size) fs else none
  | none=>none
def inB (S:List Nat) (t:Nat):Bool:=S.any (Nat.beq t)
def rv (ti:Nat→Option TI) (S:List Nat) (i:TI):Bool :=
 match i.d with
 | .int _=>true
 | .bool=>true
 | .string=>true
 | .slice e=>inB S e&&(match ti e with | some j=>Nat.blt 0 j.size | none=>false)
 | .ptr e=>inB S e&&(match ti e with | some j=>Nat.blt 0 j.size | none=>false)
 | .array n e=>inB S e&&(match ti e with | some j=>Nat.beq i.size (n*j.size) | none=>false)
 | .struct fs=>(fs.all fun f=>inB S f.2)&&(match kN ti 0 fs with | some n=>Nat.beq n i.size | none=>false)
 | _=>false
def oB (ti:Nat→Option TI) (S:List Nat):Bool :=
 S.all fun t=>match ti t with
  | some i=>rv ti S i
  | none=>false
def rdE (σ:Sig) (W:World):Env:=⟨fun _=>none,fun b=>W.heap[b]?,σ⟩
def rdB (σ:Sig) (W:World):fk:=⟨W,fun b=>b<W.heap.size,fun _=>none,σ⟩
theorem Lj {W:World} {g:Nat} (h:∃ m:Int,W.cell? ⟨g,0,none⟩=some (.int .i64 m)):g<W.heap.size:=by
 obtain ⟨m,h⟩:=h
 unfold World.cell? at h
 split at h
 ·rename_i hh; exact (Array.getElem?_eq_some_iff.1 hh).1
 ·cases h
theorem St.start (σ:Sig) (W:World) (hg:∀ g,σ.g=some g→∃ m:Int,W.cell? ⟨g,0,none⟩=some (.int .i64 m)):St W.heap.size (rdB σ W) (rdE σ W) Hp.empty W :=
 ⟨Below.refl _ _,Nat.le_refl _,fun _ _ h=>h,fun _ _=>rfl,fun _ _=>rfl,fun id k h=>by simp [Hp.empty,Hp.get,Tr.get] at h,
  fun i j k l h=>by simp [Hp.empty,Hp.get,Tr.get] at h,fun b o h=>.inr (Array.getElem?_eq_some_iff.1 h).1,fun b o h=>by simp [rdB] at h,fun i k h=>by simp [Hp.empty,Hp.get,Tr.get] at h,rfl,fun g h=>⟨Lj (hg g h),hg g h⟩⟩
theorem jZ {S:List Nat} {t:Nat} (h:inB S t=true):t ∈ S:=by
 simp only [inB,List.any_eq_true] at h
 obtain ⟨x,hx,he⟩:=h
 rw [Nat.eq_of_beq_eq_true he]
 exact hx
section
variable {P:Program} {ti:Nat→Option TI} (hti:∀ t i,ti t=some i→af P t=some i)
variable {H:Type} {enc:TypeId × Value→H} {W:World} {base:Nat} {spare:Nat→Bool} {held:Bool} {σ:Sig}
theorem i6 {t:Nat} {i:TI} (h:dC P t i):P.cellsOf t=i.size:=by
 simp [Program.cellsOf,h.hi,h.size_eq]
theorem uq {t:Nat} {i:TI} (h:dC P t i):P.bytesOf t=i.bytes:=by
 simp [Program.bytesOf,h.hi,h.bytes_eq]
theorem iO {e:TypeId}:∀ {l:List (DataW H)} {d:DataW H},d ∈ l→∀ n ∈ d.weights P e,n ∈ DataW.weightsAll P e l
 | [],d,h,_,_=>by cases h
 | x::l,d,h,n,hn=>by
  rw [DataW.weightsAll]
  rcases List.mem_cons.1 h with rfl | h
  ·exact List.mem_append_left _ hn
  ·exact List.mem_append_right _ (iO h n hn)
theorem cells?_ro {a:Addr} {n:Nat} {cs:List Value} (h:W.cells? base a n=some cs) (hn:0<n) :
  ∃ b o,a=⟨b,o,none⟩∧cs.length=n∧∀ j v,cs[j]?=some v→(rdE σ W).cell b (o+j)=some v:=by
 unfold World.cells? at h
 split at h
 case isFalse=>cases h
 have hl:=mapM_some_length h
 have hg:=mapM_some_get h
 simp at hl
 obtain ⟨b,o,s⟩:=a
 have hs:s=none:=by
  have h0:=hg 0 0 (by simp [hn])
  have hc:∃ v,cs[0]?=some v:=⟨cs[0],List.getElem?_eq_getElem (by omega)⟩
  obtain ⟨v,hv⟩:=hc
  rw [hv] at h0
  simp only [Addr.add,if_true] at h0
  unfold World.cell? at h0
  split at h0
  ·split at h0
   ·cases h0
   ·rename_i hs; cases s with
    | none=>rfl
    | some _=>simp at hs
  ·cases h0
 subst hs
 refine ⟨b,o,rfl,hl,fun j v hv=>?_⟩
 have hj:j<n:=by have:=(List.getElem?_eq_some_iff.1 hv).1; omega
 have h0:=hg j j (by simp [hj])
 rw [hv,db] at h0
 unfold World.cell? at h0
 unfold Env.cell rdE
 simp only
 split at h0
 ·rename_i c ty fr hh
  simp only at hh
  rw [hh]
  simpa using h0
 ·cases h0
theorem bh.append {E:Env} {xs ys:List AV} {a b:List Value} (h:bh E xs a.toArray) (k:bh E ys b.toArray):bh E (xs++ys) (a++b).toArray:=by
 have h1:=h.len
 have h2:=k.len
 simp at h1 h2
 refine ⟨by simp [h1,h2],fun i x v hx hv=>?_⟩
 simp only [List.getElem?_toArray] at hv
 by_cases hi:i<xs.length
 ·rw [List.getElem?_append_left hi] at hx
  rw [List.getElem?_append_left (by omega)] at hv
  exact h.at_ i x v hx (by simpa using hv)
 ·rw [List.getElem?_append_right (by omega)] at hx
  rw [List.getElem?_append_right (by omega),h1] at hv
  exact k.at_ _ x v hx (by simpa using hv)
theorem bh.one' {E:Env} {x:AV} {v:Value} (h:Rel E x v):bh E [x] [v].toArray:=⟨rfl,fun i y u hy hu=>by
 cases i with
 | zero=>simp at hy hu; subst hy; subst hu; exact h
 | succ i=>simp at hy⟩
include hti in
theorem u_ {S:List Nat} (hS:oB ti S=true):∀ (fuel:Nat) (t:Nat) (cs:List Value) (x:DataW H × List MemPlace),t ∈ S→DataW.trod enc P W base spare held fuel t cs=some x→(∀ n ∈ x.1.weights P t,n≤reachBytes) →
  ∃ xs,bh (rdE σ W) xs cs.toArray∧bkL xs≤eN x.1∧∀ ts ys,Sh ti ts ys→Sh ti (t::ts) (xs++ys)
 | 0,t,cs,x,ht,h,hw=>by simp [DataW.trod] at h
 | fuel+1,t,cs,x,ht,h,hw=>by
  have hc:=List.all_eq_true.1 hS t ht
  have ih:=u_ hS fuel
  split at hc
  case h_2=>cases hc
  rename_i i hi
  obtain ⟨tk⟩:=aG (hti _ _ hi)
  have hu:=tk.hu
  have hd:=tk.d_eq
  have hsz:=i6 tk
  unfold rv at hc
  cases hdd:tk.d<;>rw [hdd] at hu hd<;>simp only [TD.of] at hd<;>rw [hd] at hc<;>simp only [Bool.false_eq_true] at hc
  case int k =>
   obtain ⟨n,rfl,hx,hw⟩:=DataW.trod_int hu h
   exact ⟨[.lit (.int k n)],.one' (.lit _),by rw [hx]; simp [bkL,bk,eN],fun ts ys hs=>.int hi hd hw hs⟩
  case bool =>
   obtain ⟨b,rfl,hx⟩:=DataW.trod_bool hu h
   exact ⟨[.lit (.bool b)],.one' (.lit _),by rw [hx]; simp [bkL,bk,eN],fun ts ys hs=>.bool hi hd hs⟩
  case string =>
   obtain ⟨s,rfl,hx,_⟩:=DataW.trod_string hu h
   have hl:s.data.toList.length=s.data.size:=Array.length_toList
   have hsz:s.size≤reachBytes:=by
    have:=hw s.data.toList.length (by rw [hx,DataW.weights]; simp)
    rw [hl] at this
    exact this
   exact ⟨[.lit (.string s)],.one' (.lit _),by rw [hx]; simp [bkL,bk,eN],fun ts ys hs=>.str hi hd hsz hs⟩
  case pointer e =>
   simp only [Bool.and_eq_true] at hc
   have hm:=jZ hc.1
   have hc:=hc.2
   split at hc
   case h_2=>cases hc
   rename_i j hj
   obtain ⟨tj⟩:=aG (hti _ _ hj)
   have hpos:0<P.cellsOf e:=by rw [i6 tj]; simp only [Nat.blt] at hc; exact Nat.le_of_ble_eq_true hc
   rcases DataW.trod_pointer hu h with ⟨rfl,hx⟩ | ⟨a,cs',y,n,hn,rfl,hx,hcs,hy⟩
   ·exact ⟨[.lit (.pointer none)],.one' (.lit _),by rw [hx]; simp [bkL,bk,eN],fun ts ys hs=>.ptrN hi hd hs⟩
   ·cases hn
    obtain ⟨zs,hz,hbk,hsh⟩:=ih e cs' y hm hy (fun n hn=>hw n (by rw [hx,DataW.weights]; simp only [hu]; exact hn))
    obtain ⟨b,o,rfl,hl,hro⟩:=cells?_ro (σ:=σ) hcs hpos
    have hzl:=hz.len
    simp at hzl
    have hv:∀ j x,zs[j]?=some x→∃ v,cs'[j]?=some v:=fun j x hx=>⟨cs'[j]'(by have:=(List.getElem?_eq_some_iff.1 hx).1; omega),List.getElem?_eq_getElem _⟩
    refine ⟨[.ip zs],.one' (.ip (fun j=>cs'.getD j default) (fun j x hx=>?_) (fun j x hx=>?_)),by rw [hx]; simp only [bkL,bk,eN]; omega,fun ts ys hs=>.ptr hi hd (by simpa using hsh [] [] .nil) hs⟩
    ·obtain ⟨v,hv⟩:=hv j x hx
     rw [hro j v hv]
     simp [hv]
    ·obtain ⟨v,hv⟩:=hv j x hx
     refine hz.at_ j x _ hx ?_
     simp [hv]
  case slice e =>
   simp only [Bool.and_eq_true] at hc
   have hm:=jZ hc.1
   have hc:=hc.2
   split at hc
   case h_2=>cases hc
   rename_i j hj
   obtain ⟨tj⟩:=aG (hti _ _ hj)
   have hej:=i6 tj
   have hpos:0<P.cellsOf e:=by rw [hej]; simp only [Nat.blt] at hc; exact Nat.le_of_ble_eq_true hc
   rcases DataW.trod_slice hu h with ⟨rfl,hx⟩ | ⟨a,len,cap,elems,rest,n,hn,rfl,hx,_,hlc,hcm,hel,hcells,_,_⟩
   ·exact ⟨[.imm j.size []],.one' .immE,by rw [hx]; simp [bkL,bk,sC,eN],fun ts ys hs=>.sl hi hd hj (by simp) (by simp) (by simp) (by simp) hs⟩
   ·cases hn
    have hbytes:len*j.bytes≤reachBytes:=by
     have:=hw ((elems.length+rest.length)*P.bytesOf e) (by rw [hx,DataW.weights]; simp [hu])
     rw [uq tj,hel] at this
     exact Nat.le_trans (Nat.mul_le_mul_right _ (Nat.le_add_right _ _)) this
    have hwe:∀ y ∈ elems,∀ n ∈ y.1.weights P e,n≤reachBytes:=fun y hy n hn=>hw n (by
     rw [hx,DataW.weights]
     simp only [hu]
     exact List.mem_cons_of_mem _ (List.mem_append_left _ (iO (List.mem_map_of_mem hy) n hn)))
    have each:∀ i,i<len→∃ (cs':List Value) (y:DataW H × List MemPlace),W.cells? base (a.add (i*P.cellsOf e)) (P.cellsOf e)=some cs'∧DataW.trod enc P W base spare held fuel e cs'=some y∧elems[i]?=some y:=by
     intro i hi
     have h0:=hcells i hi
     have:elems[i]?=some (elems[i]'(by omega)):=List.getElem?_eq_getElem _
     rw [this] at h0
     exact (Option.bind_eq_some_iff.1 h0).elim fun cs' ⟨h1,h2⟩=>⟨cs',_,h1,h2,this⟩
    by_cases h0:len=0
    ·subst h0
     exact ⟨[.imm j.size []],.one' .immE,by rw [hx]; simp only [bkL,bk,sC,eN]; omega,fun ts ys hs=>.sl hi hd hj (by simp) (by simp) (by simp) (by simp) hs⟩
    ·obtain ⟨b,o,s⟩:=a
     have hs0:s=none:=by
      obtain ⟨cs',y,h1,h2,_⟩:=each 0 (by omega)
      obtain ⟨b',o',he,_⟩:=cells?_ro (σ:=σ) h1 hpos
      simp only [Nat.zero_mul,Addr.add,if_true] at he
      cases he; rfl
     subst hs0
     have rowsEx:∃ rows:List (List AV × List Value),rows.length=len∧∀ i p,rows[i]?=some p→Sh ti [e] p.1∧p.1.length=j.size∧bh (rdE σ W) p.1 p.2.toArray∧(∃ y,elems[i]?=some y∧bkL p.1≤eN y.1)∧∀ j' v,p.2[j']?=some v→(rdE σ W).cell b (o+(i*j.size+j'))=some v:=by
      have one:∀ i,i<len→∃ p:List AV × List Value,Sh ti [e] p.1∧p.1.length=j.size∧bh (rdE σ W) p.1 p.2.toArray∧(∃ y,elems[i]?=some y∧bkL p.1≤eN y.1)∧∀ j' v,p.2[j']?=some v→(rdE σ W).cell b (o+(i*j.size+j'))=some v:=by
       intro i hi
       obtain ⟨cs',y,h1,h2,h3⟩:=each i hi
       obtain ⟨zs,hz,hbk,hsh⟩:=ih e cs' y hm h2 (hwe y (List.mem_of_getElem? h3))
       obtain ⟨b',o',he,hl,hro⟩:=cells?_ro (σ:=σ) h1 hpos
       rw [db,hej] at he
       cases he
       have hzl:=hz.len
       simp at hzl
       refine ⟨(zs,cs'),by simpa using hsh [] [] .nil,by rw [← hzl,hl,hej],hz,⟨y,h3,hbk⟩,fun j' v hv=>?_⟩
       rw [← Nat.add_assoc]
       exact hro j' v hv
      clear hcells each hlc h hx hwe
      have build:∀ m,m≤len→∃ rows:List (List AV × List Value),rows.length=m∧∀ i p,rows[i]?=some p→Sh ti [e] p.1∧p.1.length=j.size∧bh (rdE σ W) p.1 p.2.toArray∧(∃ y,elems[i]?=some y∧bkL p.1≤eN y.1)∧∀ j' v,p.2[j']?=some v→(rdE σ W).cell b (o+(i*j.size+j'))=some v:=by
       intro m
       induction m with
       | zero=>intro _; exact ⟨[],rfl,fun i p hp=>by simp at hp⟩
       | succ m ihm =>
        intro hm'
        obtain ⟨rows,hl,hr⟩:=ihm (by omega)
        obtain ⟨p,hp⟩:=one m (by omega)
        refine ⟨rows++[p],by simp [hl],fun i q hq=>?_⟩
        by_cases hi':i<m
        ·rw [List.getElem?_append_left (by omega)] at hq
         exact hr i q hq
        ·rw [List.getElem?_append_right (by omega)] at hq
         have:i=m:=by
          have:=(List.getElem?_eq_some_iff.1 hq).1
          simp at this; omega
         subst this
         simp [hl] at hq
         subst hq
         exact hp
      exact build len (Nat.le_refl _)
     obtain ⟨rows,hrl,hrows⟩:=rowsEx
     refine ⟨[.imm j.size (rows.map (·.1))],.one' (.imm (fun i k=>(rows.getD i ([],[])).2.getD k default) (by simp [hrl]) hlc (fun i cs hcs=>?_) (fun i cs k x hcs hx=>?_) (fun i cs k x hcs hx=>?_)),?_,fun ts ys hs =>
      .sl hi hd hj (fun row hrow=>?_) (fun row hrow=>?_) (by simp [hrl]; omega) (by simpa [hrl] using hbytes) hs⟩
     ·simp only [List.getElem?_map,Option.map_eq_some_iff] at hcs
      obtain ⟨p,hp,rfl⟩:=hcs
      exact (hrows i p hp).2.1
     ·simp only [List.getElem?_map,Option.map_eq_some_iff] at hcs
      obtain ⟨p,hp,rfl⟩:=hcs
      obtain ⟨h1,h2,h3,_,h4⟩:=hrows i p hp
      have hl3:=h3.len
      simp at hl3
      have hk:p.2[k]?=some (p.2[k]'(by have:=(List.getElem?_eq_some_iff.1 hx).1; omega)):=List.getElem?_eq_getElem _
      rw [h4 k _ hk]
      simp [hp,hk]
     ·simp only [List.getElem?_map,Option.map_eq_some_iff] at hcs
      obtain ⟨p,hp,rfl⟩:=hcs
      obtain ⟨h1,h2,h3,_,h4⟩:=hrows i p hp
      have hl3:=h3.len
      simp at hl3
      have hk:p.2[k]?=some (p.2[k]'(by have:=(List.getElem?_eq_some_iff.1 hx).1; omega)):=List.getElem?_eq_getElem _
      refine h3.at_ k x _ hx ?_
      simp [hp,hk]
     ·have hb:sC (rows.map (·.1))≤ik (elems.map (·.1)):=by
       refine vV (by simp [hrl,hel]) fun i r d hr hd=>?_
       simp only [List.getElem?_map,Option.map_eq_some_iff] at hr hd
       obtain ⟨p,hp,rfl⟩:=hr
       obtain ⟨y,hy,rfl⟩:=hd
       obtain ⟨y',hy',hb⟩:=(hrows i p hp).2.2.2.1
       rw [hy] at hy'
       cases hy'
       exact hb
      rw [hx]
      simp only [bkL,bk,eN]
      omega
     ·obtain ⟨p,hp,rfl⟩:=List.mem_map.1 hrow
      obtain ⟨i',hi'⟩:=List.getElem?_of_mem hp
      exact (hrows i' p hi').1
     ·obtain ⟨p,hp,rfl⟩:=List.mem_map.1 hrow
      obtain ⟨i',hi'⟩:=List.getElem?_of_mem hp
      exact (hrows i' p hi').2.1
  case array n e =>
   simp only [Bool.and_eq_true] at hc
   have hm:=jZ hc.1
   have hc:=hc.2
   split at hc
   case h_2=>cases hc
   rename_i j hj
   obtain ⟨tj⟩:=aG (hti _ _ hj)
   have hej:=i6 tj
   have hsize:=Nat.eq_of_beq_eq_true hc
   obtain ⟨xs,m,hm',hxe,hl,hxl,hx⟩:=DataW.trod_array hu h
   cases hm'
   have main:∀ k,k≤n→∃ zs,bh (rdE σ W) zs (cs.drop ((n - k)*j.size)).toArray∧bkL zs≤ik ((xs.map (·.1)).drop (n - k))∧∀ ts ys,Sh ti ts ys→Sh ti (List.replicate k e++ts) (zs++ys):=by
    intro k
    induction k with
    | zero =>
     intro _
     refine ⟨[],⟨by simp; rw [hl,hsz,hsize]; omega,fun i x v hx=>by simp at hx⟩,by simp [bkL],fun ts ys hs=>hs⟩
    | succ k ihk =>
     intro hk
     obtain ⟨zs,hz,hbz,hsh⟩:=ihk (by omega)
     have hxi:=hx (n - (k+1)) (by omega)
     have:xs[n - (k+1)]?=some (xs[n - (k+1)]'(by omega)):=List.getElem?_eq_getElem _
     rw [this,hej] at hxi
     obtain ⟨us,hus,hbu,hush⟩:=ih e _ _ hm hxi (fun n hn=>hw n (by rw [hxe,DataW.weights]; simp only [hu]; exact iO (List.mem_map_of_mem (List.getElem_mem _)) n hn))
     refine ⟨us++zs,?_,?_,fun ts ys hs=>?_⟩
     rotate_left
     ·have hg:(xs.map (·.1))[n - (k+1)]?=some (xs[n - (k+1)]'(by omega)).1:=by rw [List.getElem?_map,this]; rfl
      rw [ky hg,sh,show n - (k+1)+1=n - k by omega]
      omega
     rotate_right
     ·have e1:cs.drop ((n - (k+1))*j.size)=(cs.drop ((n - (k+1))*j.size)).take j.size++cs.drop ((n - k)*j.size):=by
       conv=>lhs; rw [← List.take_append_drop j.size (cs.drop ((n - (k+1))*j.size))]
       rw [List.drop_drop]
       congr 2
       rw [show n - k=n - (k+1)+1 by omega,Nat.add_mul,Nat.one_mul]
      rw [e1]
      exact hus.append hz
     ·rw [List.replicate_succ,List.append_assoc]
      exact hush _ _ (hsh ts ys hs)
   obtain ⟨zs,hz,hbz,hsh⟩:=main n (Nat.le_refl _)
   refine ⟨zs,by simpa using hz,by rw [hxe]; simp only [eN]; simp only [Nat.sub_self,List.drop_zero] at hbz; omega,fun ts ys hs=>.array hi hd (hsh ts ys hs)⟩
  case struct fs =>
   simp only [Bool.and_eq_true] at hc
   have hall:=List.all_eq_true.1 hc.1
   have hc:=hc.2
   split at hc
   case h_2=>cases hc
   rename_i tot htot
   have hsize:=Nat.eq_of_beq_eq_true hc
   obtain ⟨xs,m,hm',hxe,hl,hxl,hx⟩:=DataW.trod_struct hu h
   cases hm'
   have main:∀ (l:List (Nat × Nat)) (o:Nat),kN ti o l=some tot→∀ (q:Nat),l=(fs.toList.map fun f=>(f.offset,f.type)).drop q→∃ zs,bh (rdE σ W) zs (cs.drop o).toArray∧bkL zs≤ik ((xs.map (·.1)).drop q)∧∀ ts ys,Sh ti ts ys→Sh ti (l.map (·.2)++ts) (zs++ys):=by
    intro l
    induction l with
    | nil =>
     intro o ho q hq
     simp only [kN,Option.some.injEq] at ho
     refine ⟨[],⟨by simp; rw [hl,hsz,ho,hsize]; omega,fun i x v hx=>by simp at hx⟩,by simp [bkL],fun ts ys hs=>hs⟩
    | cons f l ihl =>
     intro o ho q hlq
     obtain ⟨fo,ft⟩:=f
     simp only [kN] at ho
     split at ho
     case h_2=>cases ho
     rename_i j hj
     cases hb:Nat.beq o fo with
     | false=>simp [hb] at ho
     | true =>
      simp only [hb,cond_true] at ho
      have:=Nat.eq_of_beq_eq_true hb
      subst this
      obtain ⟨tj⟩:=aG (hti _ _ hj)
      have hej:=i6 tj
      have hgq:(fs.toList.map fun f=>(f.offset,f.type))[q]?=some (o,ft):=by
       have:((fs.toList.map fun f=>(f.offset,f.type)).drop q)[0]?=some (o,ft):=by rw [← hlq]; rfl
       simpa using this
      obtain ⟨zs,hz,hbz,hsh⟩:=ihl (o+j.size) ho (q+1) (by
       have:((fs.toList.map fun f=>(f.offset,f.type)).drop q).drop 1=l:=by rw [← hlq]; rfl
       rw [← this,List.drop_drop])
      have hf:=List.mem_of_getElem? hgq
      rw [List.getElem?_map,Option.map_eq_some_iff] at hgq
      obtain ⟨fld,hq,hfe⟩:=hgq
      simp only [Prod.mk.injEq] at hfe
      have hxi:=hx q fld (by simpa using hq)
      have hqlt:=(List.getElem?_eq_some_iff.1 hq).1
      simp at hqlt
      have:xs[q]?=some (xs[q]'(by omega)):=List.getElem?_eq_getElem _
      rw [this,hfe.1,hfe.2,hej] at hxi
      have hin:=hall (o,ft) hf
      obtain ⟨us,hus,hbu,hush⟩:=ih ft _ _ (jZ hin) hxi (fun n hn=>hw n (by
       rw [hxe,DataW.weights]; simp only [hu]
       exact DataW.weights_mem_each (j:=q) (by simp [hq,hfe.2]) (by rw [List.getElem?_map,this]; rfl) n hn))
      refine ⟨us++zs,?_,?_,fun ts ys hs=>?_⟩
      rotate_left
      ·have hg:(xs.map (·.1))[q]?=some (xs[q]'(by omega)).1:=by rw [List.getElem?_map,this]; rfl
       rw [ky hg,sh]
       omega
      rotate_right
      ·have e1:cs.drop o=(cs.drop o).take j.size++cs.drop (o+j.size):=by
        conv=>lhs; rw [← List.take_append_drop j.size (cs.drop o)]
        rw [List.drop_drop]
       rw [e1]
       exact hus.append hz
      ·rw [List.map_cons,List.cons_append,List.append_assoc]
       exact hush _ _ (hsh ts ys hs)
   obtain ⟨zs,hz,hbz,hsh⟩:=main _ 0 htot 0 rfl
   exact ⟨zs,by simpa using hz,by rw [hxe]; simp only [eN]; rw [List.drop_zero] at hbz; omega,fun ts ys hs=>.struct hi hd (hsh ts ys hs)⟩
def ShV (ti:Nat→Option TI) (t:Nat) (x:AV):Prop :=
 match ti t with
 | some i=>match i.d.agg with
  | true=>∃ ys,x=.agg ys∧Sh ti [t] ys
  | false=>Sh ti [t] [x]
 | none=>False
include hti in
theorem xd {S:List Nat} (hS:oB ti S=true) {t:Nat} (ht:t ∈ S) {v:Value} {r:Reach} {b0:Nat} (hval:Value.okWide P W r b0 t v) {d:DataW H} {ps:List MemPlace} (h:DataW.Trod enc P W base spare held t v d ps) (hw:∀ n ∈ d.weights P t,n≤reachBytes) :
  ∃ x,Rel (rdE σ W) x v∧ShV ti t x∧bk x≤eN d:=by
 have _:=σ
 obtain ⟨fuel,hf⟩:=h
 obtain ⟨xs,h1,hbk,h2⟩:=u_ (σ:=σ) hti hS fuel t _ _ ht hf hw
 have h2:=h2 [] [] .nil
 rw [List.append_nil] at h2
 have hc:=List.all_eq_true.1 hS t ht
 split at hc
 case h_2=>cases hc
 rename_i i hi
 obtain ⟨tk⟩:=aG (hti _ _ hi)
 have hu:=tk.hu
 have hd:=tk.d_eq
 have one:(∀ cs,v≠.agg cs)→i.d.agg=false→∃ x,Rel (rdE σ W) x v∧ShV ti t x∧bk x≤eN d:=by
  intro hv hag
  have hcells:v.cells=#[v]:=by cases v<;>first | rfl | exact absurd rfl (hv _)
  rw [hcells] at h1
  have hl:=h1.len
  simp at hl
  match xs,hl,h1,h2,hbk with
  | [x],_,h1,h2,hbk=>exact ⟨x,h1.at_ 0 x v rfl (by simp),by simp only [ShV,hi,hag]; exact h2,by simpa [bkL] using hbk⟩
 have ag:(∃ cs,v=.agg cs)→i.d.agg=true→∃ x,Rel (rdE σ W) x v∧ShV ti t x∧bk x≤eN d:=by
  rintro ⟨cs,rfl⟩ hag
  refine ⟨.agg xs,.agg (by have:=h1.len; simpa [Value.cells] using this) (fun j x v hx hv=>h1.at_ j x v hx (by simpa [Value.cells] using hv)),by simp only [ShV,hi,hag]; exact ⟨xs,rfl,h2⟩,by simpa [bk] using hbk⟩
 unfold rv at hc
 cases hdd:tk.d<;>rw [hdd] at hu hd<;>simp only [TD.of] at hd<;>rw [hd] at hc<;>simp only [Bool.false_eq_true] at hc
 case int k=>obtain ⟨n,rfl⟩:=okWide_int hu hval; exact one (fun cs e=>by cases e) (by rw [hd]; rfl)
 case bool=>obtain ⟨n,rfl⟩:=okWide_bool hu hval; exact one (fun cs e=>by cases e) (by rw [hd]; rfl)
 case string=>obtain ⟨n,rfl⟩:=okWide_string hu hval; exact one (fun cs e=>by cases e) (by rw [hd]; rfl)
 case slice e=>obtain ⟨a,l,c,rfl⟩:=okWide_slice hu hval; exact one (fun cs e=>by cases e) (by rw [hd]; rfl)
 case pointer e =>
  refine one (fun cs e=>?_) (by rw [hd]; rfl)
  subst e
  unfold Value.okWide at hval
  rw [hu] at hval
  simp only [Cell.okWide,Cell.ok] at hval
  rw [hu] at hval
  exact hval.elim
 case struct fs =>
  unfold Value.okWide at hval
  rw [hu] at hval
  obtain ⟨cs,e,_⟩:=hval
  exact ag ⟨cs,e⟩ (by rw [hd]; rfl)
 case array n e =>
  unfold Value.okWide at hval
  rw [hu] at hval
  obtain ⟨cs,e,_⟩:=hval
  exact ag ⟨cs,e⟩ (by rw [hd]; rfl)
include hti in
theorem pp {S:List Nat} (hS:oB ti S=true) {t:Nat} (ht:t ∈ S) {v:Value} {r:Reach} {b0:Nat} (hval:Value.okWide P W r b0 t v) {d:DataW H} {ps:List MemPlace} (h:DataW.Trod enc P W base spare held t v d ps) (hw:∀ n ∈ d.weights P t,n≤reachBytes) :
  ∃ x,Rel (rdE σ W) x v∧ShV ti t x:=by
 obtain ⟨x,h1,h2,_⟩:=xd (σ:=σ) hti hS ht hval h hw
 exact ⟨x,h1,h2⟩
theorem sD {f:Nat} {xs:List AV} {vs:Array Value} {Hf:Hp} (hx:bh (rdE σ W) xs vs) (hg:aq P σ f xs Hp.empty (.lit (.bool true)) Hf) (hgl:∀ g,σ.g=some g→∃ m:Int,W.cell? ⟨g,0,none⟩=some (.int .i64 m)) :
  Calls P f vs W fun e W'=>e=.returned (.bool true)∧Below W.heap.size W W':=by
 refine (hg.2 W.heap.size (rdB σ W) (rdE σ W) W vs rfl (St.start σ W hgl) hx).mono fun e W' hh=>?_
 obtain ⟨E',v,rfl,h1,h2,h3⟩:=hh
 cases h3
 exact ⟨rfl,h2.below⟩
end
end Go.Proofs.YtegioimlblnajaaGreat.Ev
namespace Go.Proofs.YtegioimlblnajaaGreat.Ev
open Go.RowKit Go.ChangeShapes Go.WideShapes Go.ChangeAt
set_option linter.unusedVariables false
set_option linter.unusedSimpArgs false
theorem wR {σ:Sig}:po σ []:=fun p hp=>by cases hp
inductive Lt (σ:Sig):AV→AV→Prop where
 | refl (x:AV):Lt σ x x
 | int {k:IntKind} {n:Int} {e:c6} (h:e.eval σ=n):Lt σ (.lit (.int k n)) (.sy k e)
 | bool {b:Bool} {e:bW} (h:e.eval σ=b):Lt σ (.lit (.bool b)) (.sb e)
 | str {s:ByteArray} {i:Nat} (h:σ.s i=s):Lt σ (.lit (.string s)) (.ss i)
 | any (x:AV):Lt σ x .any
inductive LtL (σ:Sig):List AV→List AV→Prop where
 | nil:LtL σ [] []
 | cons {x y:AV} {xs ys:List AV} (h:Lt σ x y) (hs:LtL σ xs ys):LtL σ (x::xs) (y::ys)
theorem Lt.rel {σ:Sig} {E:Env} {x y:AV} (h:Lt σ x y) (hE:E.σ=σ) {v:Value} (hr:Rel E x v):Rel E y v:=by
 cases h with
 | refl=>exact hr
 | int h=>cases hr; exact .sy (by rw [hE]; exact h)
 | bool h=>cases hr; exact .sb (by rw [hE]; exact h)
 | str h=>cases hr; exact .ss (by rw [hE]; exact h)
 | any=>exact .any v
theorem LtL.get {σ:Sig} {xs ys:List AV} (h:LtL σ xs ys):xs.length=ys.length∧∀ (i:Nat) (y:AV),ys[i]?=some y→∃ x,xs[i]?=some x∧Lt σ x y:=by
 induction h with
 | nil=>exact ⟨rfl,fun i y h=>by simp at h⟩
 | cons h hs ih =>
  refine ⟨by simp [ih.1],fun i y hy=>?_⟩
  cases i with
  | zero=>simp at hy; subst hy; exact ⟨_,rfl,h⟩
  | succ i=>simpa using ih.2 i y (by simpa using hy)
theorem Lt.agg {σ:Sig} {E:Env} {xs ys:List AV} (h:LtL σ xs ys) (hE:E.σ=σ) {v:Value} (hr:Rel E (.agg xs) v):Rel E (.agg ys) v:=by
 obtain ⟨hl,hg⟩:=h.get
 cases hr with
 | agg hl' h' =>
  refine .agg (by omega) (fun i y v hy hv=>?_)
  obtain ⟨x,hx,hxy⟩:=hg i y hy
  exact hxy.rel hE (h' i x v hx hv)
theorem bh.nil {E:Env}:bh E [] #[]:=⟨rfl,fun i x v h=>by simp at h⟩
theorem Qs {E:Env} {x y z:AV} {v u t:Value} (h:Rel E x v) (h':Rel E y u) (h'':Rel E z t):bh E [x,y,z] #[v,u,t]:=⟨rfl,fun i a b ha hb=>by
 match i with
 | 0=>simp at ha hb; subst ha; subst hb; exact h
 | 1=>simp at ha hb; subst ha; subst hb; exact h'
 | 2=>simp at ha hb; subst ha; subst hb; exact h''
 | i+3=>simp at ha⟩
section
variable {ti:Nat→Option TI}
theorem Pb {t:Nat} {i:TI} {k:IntKind} (hi:ti t=some i) (hd:i.d=.int k) {ts:List Nat} {zs:List AV} (h:Sh ti (t::ts) zs):∃ n ys,zs=.lit (.int k n)::ys∧(Lit.int k n).wf=true∧Sh ti ts ys:=by
 cases h with
 | bool h' hd' hs=>rw [hi] at h'; cases h'; rw [hd] at hd'; cases hd'
 | int h' hd' hw hs=>rw [hi] at h'; cases h'; rw [hd] at hd'; cases hd'; exact ⟨_,_,rfl,hw,hs⟩
 | str h' hd' hw hs=>rw [hi] at h'; cases h'; rw [hd] at hd'; cases hd'
 | ptrN h' hd' hs=>rw [hi] at h'; cases h'; rw [hd] at hd'; cases hd'
 | ptr h' hd' hc hs=>rw [hi] at h'; cases h'; rw [hd] at hd'; cases hd'
 | sl h' hd' he hc hl hm hb hs=>rw [hi] at h'; cases h'; rw [hd] at hd'; cases hd'
 | struct h' hd' hs=>rw [hi] at h'; cases h'; rw [hd] at hd'; cases hd'
 | array h' hd' hs=>rw [hi] at h'; cases h'; rw [hd] at hd'; cases hd'
theorem yk {t:Nat} {i:TI} (hi:ti t=some i) (hd:i.d=.string) {ts:List Nat} {zs:List AV} (h:Sh ti (t::ts) zs):∃ s ys,zs=.lit (.string s)::ys∧s.size≤reachBytes∧Sh ti ts ys:=by
 cases h with
 | bool h' hd' hs=>rw [hi] at h'; cases h'; rw [hd] at hd'; cases hd'
 | int h' hd' hw hs=>rw [hi] at h'; cases h'; rw [hd] at hd'; cases hd'
 | str h' hd' hw hs=>rw [hi] at h'; cases h'; rw [hd] at hd'; cases hd'; exact ⟨_,_,rfl,hw,hs⟩
 | ptrN h' hd' hs=>rw [hi] at h'; cases h'; rw [hd] at hd'; cases hd'
 | ptr h' hd' hc hs=>rw [hi] at h'; cases h'; rw [hd] at hd'; cases hd'
 | sl h' hd' he hc hl hm hb hs=>rw [hi] at h'; cases h'; rw [hd] at hd'; cases hd'
 | struct h' hd' hs=>rw [hi] at h'; cases h'; rw [hd] at hd'; cases hd'
 | array h' hd' hs=>rw [hi] at h'; cases h'; rw [hd] at hd'; cases hd'
theorem wY {t:Nat} {i:TI} {fs:List (Nat × Nat)} (hi:ti t=some i) (hd:i.d=.struct fs) {ts:List Nat} {zs:List AV} (h:Sh ti (t::ts) zs):Sh ti (fs.map (·.2)++ts) zs:=by
 cases h with
 | bool h' hd' hs=>rw [hi] at h'; cases h'; rw [hd] at hd'; cases hd'
 | int h' hd' hw hs=>rw [hi] at h'; cases h'; rw [hd] at hd'; cases hd'
 | str h' hd' hw hs=>rw [hi] at h'; cases h'; rw [hd] at hd'; cases hd'
 | ptrN h' hd' hs=>rw [hi] at h'; cases h'; rw [hd] at hd'; cases hd'
 | ptr h' hd' hc hs=>rw [hi] at h'; cases h'; rw [hd] at hd'; cases hd'
 | sl h' hd' he hc hl hm hb hs=>rw [hi] at h'; cases h'; rw [hd] at hd'; cases hd'
 | struct h' hd' hs=>rw [hi] at h'; cases h'; rw [hd] at hd'; cases hd'; exact hs
 | array h' hd' hs=>rw [hi] at h'; cases h'; rw [hd] at hd'; cases hd'
theorem FZ {t:Nat} {i:TI} {e:Nat} (hi:ti t=some i) (hd:i.d=.slice e) {ts:List Nat} {zs:List AV} (h:Sh ti (t::ts) zs):(∃ ys,zs=.lit (.slice none 0 0)::ys∧Sh ti ts ys)∨∃ j rows ys,ti e=some j∧zs=.imm j.size rows::ys∧(∀ row ∈ rows,Sh ti [e] row)∧(∀ row ∈ rows,row.length=j.size)∧rows.length≤maxLen∧rows.length*j.bytes≤reachBytes∧Sh ti ts ys:=by
 cases h with
 | bool h' hd' hs=>rw [hi] at h'; cases h'; rw [hd] at hd'; cases hd'
 | int h' hd' hw hs=>rw [hi] at h'; cases h'; rw [hd] at hd'; cases hd'
 | str h' hd' hw hs=>rw [hi] at h'; cases h'; rw [hd] at hd'; cases hd'
 | ptrN h' hd' hs=>rw [hi] at h'; cases h'; rw [hd] at hd'; cases hd'
 | ptr h' hd' hc hs=>rw [hi] at h'; cases h'; rw [hd] at hd'; cases hd'
 | sl h' hd' he hc hl hm hb hs=>rw [hi] at h'; cases h'; rw [hd] at hd'; cases hd'; exact .inr ⟨_,_,_,he,rfl,hc,hl,hm,hb,hs⟩
 | struct h' hd' hs=>rw [hi] at h'; cases h'; rw [hd] at hd'; cases hd'
 | array h' hd' hs=>rw [hi] at h'; cases h'; rw [hd] at hd'; cases hd'
theorem uZ {zs:List AV} (h:Sh ti [] zs):zs=[]:=by cases h; rfl
end
mutual
def cW:AV→Bool
 | .lit _=>true
 | .emp=>true
 | .any=>true
 | .sy _ _=>true
 | .sb _=>true
 | .ss _=>true
 | .agg xs=>bE xs
 | .tup xs=>bE xs
 | .fn _ xs=>bE xs
 | .imm _ xs=>d9 xs
 | .ip xs=>bE xs
 | _=>false
def bE:List AV→Bool
 | []=>true
 | x::xs=>cW x&&bE xs
def d9:List (List AV)→Bool
 | []=>true
 | x::xs=>bE x&&d9 xs
end
theorem eF:∀ {xs:List AV},bE xs=true→∀ (i:Nat) (x:AV),xs[i]?=some x→cW x=true
 | [],_,i,x,h=>by simp at h
 | y::ys,hn,0,x,h=>by simp [bE] at hn; simp at h; subst h; exact hn.1
 | y::ys,hn,i+1,x,h=>by simp [bE] at hn; exact eF hn.2 i x (by simpa using h)
theorem lX:∀ {xs:List (List AV)},d9 xs=true→∀ (i:Nat) (x:List AV),xs[i]?=some x→bE x=true
 | [],_,i,x,h=>by simp at h
 | y::ys,hn,0,x,h=>by simp [d9] at hn; simp at h; subst h; exact hn.1
 | y::ys,hn,i+1,x,h=>by simp [d9] at hn; exact lX hn.2 i x (by simpa using h)
theorem pi {E E':Env} (hro:∀ b o,E.ro b=some o→E'.ro b=some o) (hσ:E'.σ=E.σ) {x:AV} {v:Value} (h:Rel E x v):cW x=true→Rel E' x v:=by
 have hcell:∀ {b o:Nat} {v:Value},E.cell b o=some v→E'.cell b o=some v:=by
  intro b o v k
  unfold Env.cell at *
  cases hb:E.ro b with
  | none=>simp [hb] at k
  | some x=>rw [hb] at k; rw [hro _ _ hb]; exact k
 induction h with
 | lit v=>intro _; exact .lit v
 | ptr h=>intro hn; simp [cW] at hn
 | sl h=>intro hn; simp [cW] at hn
 | emp=>intro _; exact .emp
 | seE=>intro hn; simp [cW] at hn
 | seS=>intro hn; simp [cW] at hn
 | immE=>intro _; exact .immE
 | imm val hn hl hsz hr hrel ih =>
  intro hi
  simp only [cW] at hi
  exact .imm val hn hl hsz (fun i cs j x h1 h2=>hcell (hr i cs j x h1 h2)) (fun i cs j x h1 h2=>ih i cs j x h1 h2 (eF (lX hi i cs h1) j x h2))
 | ip val hr hrel ih =>
  intro hi
  simp only [cW] at hi
  exact .ip val (fun j x h=>hcell (hr j x h)) (fun j x h=>ih j x h (eF hi j x h))
 | agg hl h ih=>intro hi; simp only [cW] at hi; exact .agg hl (fun i x v a b=>ih i x v a b (eF hi i x a))
 | tup hl h ih=>intro hi; simp only [cW] at hi; exact .tup hl (fun i x v a b=>ih i x v a b (eF hi i x a))
 | fn hl h ih=>intro hi; simp only [cW] at hi; exact .fn hl (fun i x v a b=>ih i x v a b (eF hi i x a))
 | mp h=>intro hn; simp [cW] at hn
 | yl h=>intro hn; simp [cW] at hn
 | any v=>intro _; exact .any v
 | sy h=>intro _; exact .sy (by rw [hσ]; exact h)
 | sb h=>intro _; exact .sb (by rw [hσ]; exact h)
 | ss h=>intro _; exact .ss (by rw [hσ]; exact h)
mutual
def fW:AV→Bool
 | .lit _=>true
 | .emp=>true
 | .any=>true
 | .sy _ _=>true
 | .sb _=>true
 | .ss _=>true
 | .agg xs=>iJ xs
 | .tup xs=>iJ xs
 | _=>false
def iJ:List AV→Bool
 | []=>true
 | x::xs=>fW x&&iJ xs
end
theorem kC:∀ {xs:List AV},iJ xs=true→∀ (i:Nat) (x:AV),xs[i]?=some x→fW x=true
 | [],_,i,x,h=>by simp at h
 | y::ys,hn,0,x,h=>by simp [iJ] at hn; simp at h; subst h; exact hn.1
 | y::ys,hn,i+1,x,h=>by simp [iJ] at hn; exact kC hn.2 i x (by simpa using h)
theorem rb {E E':Env} (hσ:E'.σ=E.σ) {x:AV} {v:Value} (h:Rel E x v):fW x=true→Rel E' x v:=by
 induction h with
 | lit v=>intro _; exact .lit v
 | emp=>intro _; exact .emp
 | agg hl h ih=>intro hi; simp only [fW] at hi; exact .agg hl (fun i x v a b=>ih i x v a b (kC hi i x a))
 | tup hl h ih=>intro hi; simp only [fW] at hi; exact .tup hl (fun i x v a b=>ih i x v a b (kC hi i x a))
 | any v=>intro _; exact .any v
 | sy h=>intro _; exact .sy (by rw [hσ]; exact h)
 | sb h=>intro _; exact .sb (by rw [hσ]; exact h)
 | ss h=>intro _; exact .ss (by rw [hσ]; exact h)
 | _=>intro hn; simp [fW] at hn
theorem aq.over {P:Program} {σ:Sig} {f:Nat} {xs:List AV} {r:AV} {H':Hp} (h:aq P σ f xs Hp.empty r H') (hx:bE xs=true) (hr:fW r=true) (H:Hp):aq P σ f xs H r H:=by
 refine ⟨h.1,fun B w0 E w vs hσ hst hxs=>?_⟩
 have hE:E.σ=σ:=by rw [hst.sig,hσ]
 let E1:Env:=⟨fun _=>none,E.ro,E.σ⟩
 have st1:St w.heap.size ⟨w,fun b=>b<w.heap.size,fun _=>none,σ⟩ E1 Hp.empty w :=
  ⟨Below.refl _ _,Nat.le_refl _,hst.ro,fun _ _=>rfl,fun _ _=>rfl,fun id k h=>by simp [Hp.empty,Hp.get,Tr.get] at h,
   fun i j k l h=>by simp [Hp.empty,Hp.get,Tr.get] at h,fun b o h=>.inr (Array.getElem?_eq_some_iff.1 (hst.ro b o h)).1,fun b o h=>by simp at h,
   fun i k h=>by simp [Hp.empty,Hp.get,Tr.get] at h,hE,hσ ▸ hst.glNow⟩
 have rel1:bh E1 xs vs:=⟨hxs.len,fun i x v a b=>pi (E:=E) (E':=E1) (fun _ _ h=>h) rfl (hxs.at_ i x v a b) (eF hx i x a)⟩
 refine (h.2 _ _ _ _ _ rfl st1 rel1).mono fun e w' hh=>?_
 obtain ⟨E',v,rfl,hext,st2,hrel⟩:=hh
 have hb:=st2.below
 have hsame:∀ b,b<w.heap.size→w'.heap[b]?=w.heap[b]?:=fun b hb'=>hb.block b hb'
 refine ⟨E,v,rfl,.refl E,⟨hst.below.trans (hb.mono hst.size),Nat.le_trans hst.size hb.size,fun b o ho=>?_,hst.dom,hst.hdom,fun id k hk=>?_,hst.disj,hst.rob,fun b o ho=>?_,hst.frl,hst.sig,hst.gl⟩,rb (by rw [hext.σ]) hrel hr⟩
 ·have:=hst.ro b o ho
  rw [hsame b (Array.getElem?_eq_some_iff.1 this).1]; exact this
 ·obtain ⟨b,o,n,e,hb',hr',ok⟩:=hst.live id k hk
  exact ⟨b,o,n,e,hb',hr',ok.heap (hsame b ok.lt)⟩
 ·obtain ⟨h1,h2⟩:=hst.fr b o ho
  exact ⟨by rw [hsame b (Array.getElem?_eq_some_iff.1 h1).1]; exact h1,h2⟩
end Go.Proofs.YtegioimlblnajaaGreat.Ev
namespace Go.Proofs.YtegioimlblnajaaGreat.Ev
open Go.RowKit (Below)
set_option linter.unusedVariables false
set_option linter.unusedSimpArgs false
def Sm (P:Program) (σ:Sig) (c:Code) (T:List AV) (H:Hp) (e:Exit) (T':List AV) (H':Hp):Prop :=
 ∀ ⦃ro:Option Nat⦄,(ro=none∨eB c=true)→∀ ⦃B:Nat⦄ ⦃w0:fk⦄ ⦃E:Env⦄ ⦃a:Act⦄ ⦃w:World⦄,w0.σ=σ→St B w0 E H w→bh E T a.tmps→∀ ⦃Q:Exit→Act→World→Prop⦄,
  (∀ a' w',Nxt B w0 E a T' H' a' w'→Q e a' w')→Ent ro P c Q a w
section
variable {P:Program} {σ:Sig}
theorem Sm.of_ex (C:Ctx P) {c:Code} {T T':List AV} {H H':Hp} {e:Exit} (h:Ex C c T H e T' H'):Sm P C.σ c T H e T' H' :=
 fun ro hp B w0 E a w hσ hst hT Q hQ=>h.ent C hp hσ hst hT hQ
theorem Sm.wk {c:Code} {T T1 T2:List AV} {H H1 H2:Hp} {e:Exit} (h:Sm P σ c T H e T1 H1) (k:Wk σ T1 H1 T2 H2):Sm P σ c T H e T2 H2 :=
 fun ro hp B w0 E a w hσ hst hT Q hQ=>h hp hσ hst hT fun a1 w1 hn =>
  let ⟨E1,F',ms,e1,e2,e3,e4,e5⟩:=hn
  let ⟨E2,f1,f2,f3⟩:=k (w0:=w0.withF F') hσ e3 e4
  hQ a1 w1 ⟨E2,F',ms,e1.trans f1,e2,f2,f3,e5⟩
theorem Sm.pre {c:Code} {T0 T T1:List AV} {H0 H H1:Hp} {e:Exit} (k:Wk σ T0 H0 T H) (h:Sm P σ c T H e T1 H1):Sm P σ c T0 H0 e T1 H1 :=
 fun ro hp B w0 E a w hσ hst hT Q hQ =>
  let ⟨E2,f1,f2,f3⟩:=k hσ hst hT
  h hp hσ f2 f3 fun a1 w1 hn =>
   let ⟨E1,F',ms,e1,e2,e3,e4,e5⟩:=hn
   hQ a1 w1 ⟨E1,F',ms,f1.trans e1,e2,e3,e4,e5⟩
theorem Sm.seq {x y:Code} {T T1 T2:List AV} {H H1 H2:Hp} {e:Exit} (h1:Sm P σ x T H .normal T1 H1) (h2:Sm P σ y T1 H1 e T2 H2):Sm P σ (.seq x y) T H e T2 H2 :=
 fun ro hp B w0 E a w hσ hst hT Q hQ=>by
  simp only [eB,Bool.and_eq_true] at hp
  refine wpIn_seq (Ent.wp (h1 (hp.imp id (·.1)) hσ hst hT fun a1 w1 hn=>?_))
  obtain ⟨E',F',ms,e1,e2,e3,e4,e5⟩:=hn
  exact Ent.wp (h2 (hp.imp id (·.2)) (w0:=w0.withF F') hσ e3 e4 fun a2 w2 hn2=>hQ a2 w2 (.trans e1 e2 e5 hn2))
theorem Sm.seqX {x y:Code} {T T1:List AV} {H H1:Hp} {e:Exit} (h1:Sm P σ x T H e T1 H1) (he:e≠.normal):Sm P σ (.seq x y) T H e T1 H1 :=
 fun ro hp B w0 E a w hσ hst hT Q hQ=>by
  simp only [eB,Bool.and_eq_true] at hp
  exact wpIn_seq (Ent.wp (h1 (hp.imp id (·.1)) hσ hst hT fun a1 w1 hn=>jR he (hQ a1 w1 hn)))
theorem Sm.block {id:Nat} {c:Code} {T T1:List AV} {H H1:Hp} {e:Exit} (h:Sm P σ c T H e T1 H1):Sm P σ (.block id c) T H (aI id e) T1 H1 :=
  fun ro hp B w0 E a w hσ hst hT Q hQ=>wpIn_block (Ent.wp (h hp hσ hst hT fun a' w' hn=>by
    have:=hQ a' w' hn
    cases e<;>first
      | exact this
      | (simp only [aI] at this
         simp only [Exit.inBlock]
         split at this
         · rename_i hh; rw [if_pos hh]; exact this
         · rename_i hh; rw [if_neg hh]; exact this)))
theorem Sm.loop {c:Code} {T T1 T2:List AV} {H H1 H2:Hp} {e:Exit} (h1:Sm P σ c T H .normal T1 H1) (h2:Sm P σ (.loop c) T1 H1 e T2 H2):Sm P σ (.loop c) T H e T2 H2 :=
 fun ro hp B w0 E a w hσ hst hT Q hQ=>iR.round (Ent.wp (h1 hp hσ hst hT fun a1 w1 hn=>by
  obtain ⟨E',F',ms,e1,e2,e3,e4,e5⟩:=hn
  exact h2 hp (w0:=w0.withF F') hσ e3 e4 fun a2 w2 hn2=>hQ a2 w2 (.trans e1 e2 e5 hn2)))
theorem Sm.loopX {c:Code} {T T1:List AV} {H H1:Hp} {e:Exit} (h1:Sm P σ c T H e T1 H1) (he:e≠.normal):Sm P σ (.loop c) T H e T1 H1 :=
 fun ro hp B w0 E a w hσ hst hT Q hQ=>iR.round (Ent.wp (h1 hp hσ hst hT fun a1 w1 hn=>jR he (hQ a1 w1 hn)))
theorem ur {f : Nat} {fn : Func} {c : Code} {xs : List AV} {H H' : Hp} {T' : List AV} {e : Exit} {r : AV} (C : Ctx P) (hσ : C.σ = σ) (hf : P.funcs[f]? = some fn) (hb : fn.body = some c) (hn : (fn.name == "runtime.NumGoroutine") = false)
  (h:Sm P σ c (xs++List.replicate (fn.ntmps - xs.length) (.lit undef)) H e T' H') (he:e=.normal∨e=.ret) (hr:j5 C.ti T' H' fn.results.toList=some r):aq P σ f xs H r H' :=
 nR C C.hti hf hb hn (fun hσ hst hT Q hQ=>h (.inl rfl) hσ hst hT fun a' w' hn=>hQ _ a' w' he hn) hr
end
end Go.Proofs.YtegioimlblnajaaGreat.Ev
namespace Go.Proofs.YtegioimlblnajaaGreat.Ev
open Go.RowKit (Below)
set_option linter.unusedVariables false
set_option linter.unusedSimpArgs false
set_option linter.unusedSectionVars false
def oO:Bool→List KK→Value→Prop
 | true,ks,v=>∃ xs,v=.agg xs∧cC ks xs.toList
 | false,ks,v=>cC ks [v]
structure uk (P:Program) (kt:Nat) (ag:Bool) (ks:List KK):Prop where
 check:∀ (em:Bool) (w:World) (v:Value),oO ag ks v→(Instr.checkKey em 10000 kt v).run P w=.ok () w
 find:∀ (w:World) (v:Value) (es:List MapEntry),oO ag ks v→(∀ e ∈ es,oO ag ks e.key) →
  ∃ r,(Instr.findKey kt v es).run P w=.ok r w∧match r with
   | none=>∀ e ∈ es,e.key≠v
   | some (i,u)=>∃ e,es[i]?=some e∧e.key=v∧e.val=u∧∀ (j:Nat) (e':MapEntry),j<i→es[j]?=some e'→e'.key≠v
theorem HG (a:ByteArray):(a == a)=true:=(Go.MapKept.bytes_beq a a).2 rfl
theorem tG {k:KK} {ks:List KK} {v:Value} {vs:List Value} (h:cC (k::ks) (v::vs)):(∀ n,Instr.sameBits (n+1) v v=true)∧cC ks vs:=by
 cases k<;>cases v<;>simp [cC] at h<;>refine ⟨fun n=>?_,?_⟩<;>first
  | exact h
  | exact h.2
  | (simp [Instr.sameBits]; done)
  | (simp only [Instr.sameBits]; exact HG _)
theorem pX:∀ {ks:List KK} {vs:List Value},cC ks vs→∀ n,∀ p ∈ vs.zip vs,Instr.sameBits (n+1) p.1 p.2=true
 | [],[],_,n,p,hp=>by cases hp
 | k::ks,v::vs,h,n,p,hp=>by
  obtain ⟨h1,h2⟩:=tG h
  rw [List.zip_cons_cons] at hp
  rcases List.mem_cons.1 hp with rfl | hp
  ·exact h1 n
  ·exact pX h2 n p hp
 | [],_::_,h,_,_,_=>h.elim
 | k::_,[],h,_,_,hp=>by cases hp
theorem KV {ag:Bool} {ks:List KK} {v:Value} (h:oO ag ks v):Instr.sameBits 10000 v v=true:=by
 cases ag with
 | true =>
  obtain ⟨xs,rfl,hk⟩:=h
  have:=pX hk 9998
  simp only [Instr.sameBits,BEq.rfl,Bool.true_and]
  rw [List.all_eq_true]
  intro p hp
  exact this p hp
 | false =>
  have h:cC ks [v]:=h
  match ks,h with
  | k::r,h=>exact (tG h).1 9999
  | [],h=>cases v<;>exact h.elim
section
variable {P:Program} {kt:Nat}
theorem j7 {d:TypeDesc} {k:KK} (hu:P.underlying kt=some d) (hd:∀ v,cC [k] [v]→Go.MapKept.IsKey d v):uk P kt false [k]:=by
 refine ⟨fun em w v hv=>Go.MapKept.run_checkKey hu (hd v hv) em 9999,fun w v es hv hes=>?_⟩
 have key:∀ (l:List MapEntry) (i:Nat),(∀ e ∈ l,Go.MapKept.IsKey d e.key)→∃ r,Instr.findNow d v l i=some r∧match r with
   | none=>∀ e ∈ l,e.key≠v
   | some (m,u)=>∃ q e,m=i+q∧l[q]?=some e∧e.key=v∧e.val=u∧∀ (j:Nat) (e':MapEntry),j<q→l[j]?=some e'→e'.key≠v:=by
  intro l
  induction l with
  | nil=>intro i _; exact ⟨none,rfl,fun e he=>by cases he⟩
  | cons e es ih =>
   intro i hl
   obtain ⟨r,hr,hiff⟩:=Go.MapKept.sameNow_of_keys (hd v hv) (hl e (by simp))
   unfold Instr.findNow
   rw [hr]
   cases r with
   | true=>exact ⟨_,rfl,0,e,rfl,rfl,(hiff.1 rfl).symm,rfl,fun j e' hj=>by omega⟩
   | false =>
    have hne:e.key≠v:=fun h=>by have:=hiff.2 h.symm; cases this
    obtain ⟨r',h1,h2⟩:=ih (i+1) (fun x hx=>hl x (by simp [hx]))
    refine ⟨r',h1,?_⟩
    cases r' with
    | none=>intro x hx; rcases List.mem_cons.1 hx with rfl | hx; exact hne; exact h2 x hx
    | some p =>
     obtain ⟨m,u⟩:=p
     obtain ⟨q,e2,e3,e4,e5,e6,e7⟩:=h2
     refine ⟨q+1,e2,by omega,by simpa using e4,e5,e6,fun j e' hj he'=>?_⟩
     cases j with
     | zero=>simp at he'; subst he'; exact hne
     | succ j=>exact e7 j e' (by omega) (by simpa using he')
 obtain ⟨r,h1,h2⟩:=key es 0 (fun e he=>hd _ (hes e he))
 refine ⟨r,Go.MapKept.run_findKey hu h1,?_⟩
 cases r with
 | none=>exact h2
 | some p =>
  obtain ⟨m,u⟩:=p
  obtain ⟨q,e2,e3,e4⟩:=h2
  have:m=q:=by omega
  subst this
  exact ⟨e2,e4⟩
theorem qc {ks:List KK} (hu:(∃ n e,P.underlying kt=some (.array n e))∨∃ fs,P.underlying kt=some (.struct fs)) (K:oN P kt ks):uk P kt true ks:=by
 refine ⟨fun em w v hv=>?_,fun w v es hv hes=>?_⟩
 ·obtain ⟨xs,rfl,hk⟩:=hv
  exact K.chk em xs hk w
 ·have hwide:(match P.underlying kt with | some (.array _ _) | some (.struct _)=>true | _=>false)=true:=by rcases hu with ⟨n,e,h⟩ | ⟨fs,h⟩<;>simp only [h]
  have hfa:(Instr.findKey kt v es).run P w=(Instr.findAsking kt v es).run P w:=Go.run_findKey_eq w hwide v es
  obtain ⟨xs,rfl,hk⟩:=hv
  have key:∀ (l:List MapEntry) (i:Nat),(∀ e ∈ l,oO true ks e.key)→∃ r,(Instr.findAsking kt (.agg xs) l i).run P w=.ok r w∧match r with
    | none=>∀ e ∈ l,e.key≠.agg xs
    | some (m,u)=>∃ q e,m=i+q∧l[q]?=some e∧e.key=.agg xs∧e.val=u∧∀ (j:Nat) (e':MapEntry),j<q→l[j]?=some e'→e'.key≠.agg xs:=by
   intro l
   induction l with
   | nil=>intro i _; exact ⟨none,by simp [Instr.findAsking],fun e he=>by cases he⟩
   | cons e es ih =>
    intro i hl
    obtain ⟨ys,hy,hky⟩:=hl e (by simp)
    obtain ⟨r,hr,hiff⟩:=K.eq xs ys hk hky w
    unfold Instr.findAsking
    rw [hy]
    simp only [Sem.run_bind,hr,Result.andThen_ok]
    cases r with
    | true=>exact ⟨some (i,e.val),by simp,0,e,rfl,rfl,by rw [hy,hiff.1 rfl],rfl,fun j e' hj=>by omega⟩
    | false =>
     have hne:e.key≠.agg xs:=fun h=>by
      rw [hy] at h
      cases h
      have:=hiff.2 rfl
      cases this
     obtain ⟨r',h1,h2⟩:=ih (i+1) (fun x hx=>hl x (by simp [hx]))
     refine ⟨r',by simpa using h1,?_⟩
     cases r' with
     | none=>intro x hx; rcases List.mem_cons.1 hx with rfl | hx; exact hne; exact h2 x hx
     | some p =>
      obtain ⟨m,u⟩:=p
      obtain ⟨q,e2,e3,e4,e5,e6,e7⟩:=h2
      refine ⟨q+1,e2,by omega,by simpa using e4,e5,e6,fun j e' hj he'=>?_⟩
      cases j with
      | zero=>simp at he'; subst he'; exact hne
      | succ j=>exact e7 j e' (by omega) (by simpa using he')
  obtain ⟨r,h1,h2⟩:=key es 0 hes
  refine ⟨r,by rw [hfa]; exact h1,?_⟩
  cases r with
  | none=>exact h2
  | some p =>
   obtain ⟨m,u⟩:=p
   obtain ⟨q,e2,e3,e4⟩:=h2
   have:m=q:=by omega
   subst this
   exact ⟨e2,e4⟩
def uM (C:Ctx P) (kt:Nat):Option (Bool × List KK):=match C.ti kt with
 | some i=>match i.d with
  | .int k=>some (false,[.int k])
  | .string=>some (false,[.string])
  | .bool=>some (false,[.bool])
  | .struct _=>(C.keys kt).map fun ks=>(true,ks)
  | .array _ _=>(C.keys kt).map fun ks=>(true,ks)
  | _=>none
 | none=>none
theorem vu (C:Ctx P) {ag:Bool} {ks:List KK} (h:uM C kt=some (ag,ks)):uk P kt ag ks:=by
 unfold uM at h
 split at h
 case h_2=>cases h
 rename_i i hi
 obtain ⟨ht⟩:=aG (C.hti _ _ hi)
 have hu:=ht.hu
 have hd:=ht.d_eq
 split at h
 ·rename_i k hdk
  cases h
  rw [hdk] at hd
  cases hdd:ht.d<;>rw [hdd] at hd hu<;>simp [TD.of] at hd
  subst hd
  exact j7 hu (fun v hv=>by cases v<;>simp [cC] at hv<;>simp [Go.MapKept.IsKey,hv])
 ·rename_i hdk
  cases h
  rw [hdk] at hd
  cases hdd:ht.d<;>rw [hdd] at hd hu<;>simp [TD.of] at hd
  exact j7 hu (fun v hv=>by cases v<;>simp [cC] at hv<;>simp [Go.MapKept.IsKey])
 ·rename_i hdk
  cases h
  rw [hdk] at hd
  cases hdd:ht.d<;>rw [hdd] at hd hu<;>simp [TD.of] at hd
  exact j7 hu (fun v hv=>by cases v<;>simp [cC] at hv<;>simp [Go.MapKept.IsKey])
 ·rename_i fs hdk
  simp only [Option.map_eq_some_iff] at h
  obtain ⟨ks',hks,h⟩:=h
  cases h
  rw [hdk] at hd
  cases hdd:ht.d<;>rw [hdd] at hd hu<;>simp [TD.of] at hd
  exact qc (.inr ⟨_,hu⟩) (C.hkeys _ _ hks)
 ·rename_i n e hdk
  simp only [Option.map_eq_some_iff] at h
  obtain ⟨ks',hks,h⟩:=h
  cases h
  rw [hdk] at hd
  cases hdd:ht.d<;>rw [hdd] at hd hu<;>simp [TD.of] at hd
  exact qc (.inl ⟨_,_,hu⟩) (C.hkeys _ _ hks)
 ·cases h
def lu:List KK→List AV→Bool
 | [],[]=>true
 | .int k::ks,.lit (.int k' _)::xs=>decide (k=k')&&lu ks xs
 | .bool::ks,.lit (.bool _)::xs=>lu ks xs
 | .string::ks,.lit (.string _)::xs=>lu ks xs
 | _,_=>false
def kOk (ag:Bool) (ks:List KK) (x:AV):Bool:=match ag with
 | true=>match x with
  | .agg cs=>lu ks cs
  | _=>false
 | false=>lu ks [x]
theorem ii:∀ {ks:List KK} {xs:List AV},lu ks xs=true→∃ vs:List Value,xs=vs.map .lit∧cC ks vs
 | [],[],_=>⟨[],rfl,trivial⟩
 | .int k::ks,.lit (.int k' n)::xs,h=>by
  simp only [lu,Bool.and_eq_true,decide_eq_true_eq] at h
  obtain ⟨vs,rfl,hv⟩:=ii h.2
  exact ⟨.int k' n::vs,rfl,h.1,hv⟩
 | .bool::ks,.lit (.bool b)::xs,h=>by
  obtain ⟨vs,rfl,hv⟩:=ii (ks:=ks) (xs:=xs) h
  exact ⟨.bool b::vs,rfl,hv⟩
 | .string::ks,.lit (.string s)::xs,h=>by
  obtain ⟨vs,rfl,hv⟩:=ii (ks:=ks) (xs:=xs) h
  exact ⟨.string s::vs,rfl,hv⟩
 | [],_::_,h=>by simp [lu] at h
 | k::_,[],h=>by cases k<;>simp [lu] at h
 | k::ks,x::xs,h=>by
  unfold lu at h
  split at h
  ·rename_i e; cases e
  ·rename_i e1 e2
   cases e1; cases e2
   simp only [Bool.and_eq_true,decide_eq_true_eq] at h
   obtain ⟨vs,rfl,hv⟩:=ii h.2
   exact ⟨.int _ _::vs,rfl,h.1,hv⟩
  ·rename_i e1 e2
   cases e1; cases e2
   obtain ⟨vs,rfl,hv⟩:=ii h
   exact ⟨.bool _::vs,rfl,hv⟩
  ·rename_i e1 e2
   cases e1; cases e2
   obtain ⟨vs,rfl,hv⟩:=ii h
   exact ⟨.string _::vs,rfl,hv⟩
  ·cases h
def tN:Bool→Value→AV
 | true,.agg xs=>.agg (xs.toList.map .lit)
 | _,v=>.lit v
theorem AU {E:Env} {vs:List Value} {us:Array Value} (h:bh E (vs.map .lit) us):us=vs.toArray:=by
 have hl:=h.len
 simp at hl
 apply Array.ext
 ·simpa using hl
 ·intro i h1 h2
  have hv:vs[i]?=some vs[i]:=List.getElem?_eq_getElem (by simpa using h2)
  have:=h.at_ i (.lit vs[i]) us[i] (by rw [List.getElem?_map,hv]; rfl) (Array.getElem?_eq_getElem h1)
  have e:us[i]=vs[i]:=by
   generalize us[i]=x at this ⊢
   cases this
   rfl
  rw [e]
  simp
theorem tZ {ag:Bool} {ks:List KK} {x:AV} (h:kOk ag ks x=true):∃ v,oO ag ks v∧x=tN ag v∧∀ E u,Rel E x u→u=v:=by
 cases ag with
 | true =>
  unfold kOk at h
  simp only at h
  split at h
  ·rename_i cs
   obtain ⟨vs,rfl,hv⟩:=ii h
   refine ⟨.agg vs.toArray,⟨vs.toArray,rfl,by simpa using hv⟩,by simp [tN],fun E u hr=>?_⟩
   cases hr with
   | agg hl hh=>rw [AU ⟨hl,hh⟩]
  ·cases h
 | false =>
  unfold kOk at h
  obtain ⟨vs,he,hv⟩:=ii h
  match vs,he with
  | [v],he =>
   simp at he
   subst he
   exact ⟨v,hv,by cases v<;>rfl,fun E u hr=>by cases hr; rfl⟩
  | [],he=>simp at he
  | _::_::_,he=>simp at he
theorem AX {ag:Bool} {ks:List KK} {v u:Value} (hv:oO ag ks v) (hu:oO ag ks u) (h:tN ag v=tN ag u):v=u:=by
 cases ag with
 | true =>
  obtain ⟨xs,rfl,_⟩:=hv
  obtain ⟨ys,rfl,_⟩:=hu
  simp only [tN,AV.agg.injEq] at h
  have:xs.toList=ys.toList:=by
   have:=congrArg (List.map fun x:AV=>match x with | .lit v=>v | _=>undef) h
   simpa [List.map_map,Function.comp_def] using this
  rw [Array.ext' this]
 | false =>
  have e:∀ v,tN false v=.lit v:=fun v=>by cases v<;>rfl
  rw [e,e] at h
  cases h; rfl
open Classical in
noncomputable def kg (k:AV):List (AV × AV)→Option AV
 | []=>none
 | (a,b)::r=>if a=k then some b else kg k r
open Classical in
noncomputable def od (k v:AV):List (AV × AV)→List (AV × AV)
 | []=>[(k,v)]
 | (a,b)::r=>if a=k then (a,v)::r else (a,b)::od k v r
theorem oX {k:AV}:∀ {es:List (AV × AV)},(∀ p ∈ es,p.1≠k)→kg k es=none
 | [],_=>rfl
 | (a,b)::r,h=>by
  unfold kg
  rw [if_neg (h (a,b) (by simp))]
  exact oX fun p hp=>h p (by simp [hp])
theorem pH {k:AV}:∀ {es:List (AV × AV)} (i:Nat) {v:AV},es[i]?=some (k,v)→(∀ (j:Nat) (p:AV × AV),j<i→es[j]?=some p→p.1≠k)→kg k es=some v
 | [],i,v,h,_=>by simp at h
 | (a,b)::r,0,v,h,_=>by simp at h; obtain ⟨rfl,rfl⟩:=h; simp [kg]
 | (a,b)::r,i+1,v,h,hj=>by
  unfold kg
  rw [if_neg (hj 0 (a,b) (by omega) rfl)]
  exact pH i (by simpa using h) (fun j p hlt hp=>hj (j+1) p (by omega) (by simpa using hp))
theorem nG {k v:AV}:∀ {es:List (AV × AV)},(∀ p ∈ es,p.1≠k)→od k v es=es++[(k,v)]
 | [],_=>rfl
 | (a,b)::r,h=>by
  unfold od
  rw [if_neg (h (a,b) (by simp)),nG fun p hp=>h p (by simp [hp])]
  rfl
theorem rf {k v:AV}:∀ {es:List (AV × AV)} (i:Nat) {u:AV},es[i]?=some (k,u)→(∀ (j:Nat) (p:AV × AV),j<i→es[j]?=some p→p.1≠k)→od k v es=es.set i (k,v)
 | [],i,u,h,_=>by simp at h
 | (a,b)::r,0,u,h,_=>by simp at h; obtain ⟨rfl,rfl⟩:=h; simp [od]
 | (a,b)::r,i+1,u,h,hj=>by
  unfold od
  rw [if_neg (hj 0 (a,b) (by omega) rfl),rf i (by simpa using h) (fun j p hlt hp=>hj (j+1) p (by omega) (by simpa using hp))]
  rfl
def s_ (i:TI):Option AV:=nh i.d.agg (i.zero.map .lit)
theorem v3 {t:Nat} {i:TI} (ht:dC P t i) {x:AV} (h:s_ i=some x) {E:Env}:Rel E x ht.z:=by
 unfold s_ at h
 have hz:=ht.zero_eq
 have ha:=ht.hza
 rw [← ht.d_eq] at ha
 cases hg:i.d.agg with
 | true =>
  rw [hg] at h ha
  simp only [nh,Option.some.injEq] at h
  subst h
  generalize ht.z=z at *
  cases z<;>simp [A9] at ha
  rename_i vs
  simp only [Value.cells] at hz
  subst hz
  refine .agg (by simp) fun j x v hx hv=>?_
  simp only [List.getElem?_map,Option.map_eq_some_iff] at hx
  obtain ⟨u,hu,rfl⟩:=hx
  simp only [List.getElem?_toArray] at hv
  rw [hu] at hv
  cases hv
  exact .lit _
 | false =>
  rw [hg] at h ha
  have:ht.z.cells=#[ht.z]:=by
   generalize ht.z=z at *
   cases z<;>first | rfl | (simp [A9] at ha)
  rw [this] at hz
  have:i.zero=[ht.z]:=by simpa using congrArg Array.toList hz
  rw [this] at h
  simp only [nh,List.map_cons,List.map_nil,Option.some.injEq] at h
  subst h
  exact .lit _
noncomputable def Kn (z:AV) (ok:Bool) (r:Option AV):AV:=match ok with
 | true=>.tup [r.getD z,.lit (.bool r.isSome)]
 | false=>r.getD z
noncomputable def tf (z:AV) (ag:Bool) (ks:List KK) (ok:Bool) (H:Hp) (m k:AV):Option AV:=match m with
 | .mp id=>match H.get id with
  | some (.map es)=>bif kOk ag ks k&&es.all (fun p=>kOk ag ks p.1) then some (Kn z ok (kg k es)) else none
  | _=>none
 | .lit (.map none)=>bif kOk ag ks k then some (Kn z ok none) else none
 | _=>none
noncomputable def Nl (ag:Bool) (ks:List KK) (H:Hp) (m k v:AV):Option Hp:=match m with
 | .mp id=>match H.get id with
  | some (.map es)=>bif kOk ag ks k&&(es.all (fun p=>kOk ag ks p.1)&&!v.isAny) then some (H.set id (some (.map (od k v es)))) else none
  | _=>none
 | _=>none
section
variable {B:Nat} {w0:fk} {E:Env} {H:Hp} {w:World}
theorem sx {ag:Bool} {ks:List KK} {es:List (AV × AV)} {vs:Array MapEntry} (hl:vs.size=es.length) (hr:∀ (j:Nat) (p:AV × AV) (v:MapEntry),es[j]?=some p→vs[j]?=some v→Rel E p.1 v.key∧Rel E p.2 v.val)
  (hok:es.all (fun p=>kOk ag ks p.1)=true) {k:AV} {u:Value} (hku:oO ag ks u) (hk:k=tN ag u) :
  (∀ e ∈ vs.toList,oO ag ks e.key)∧∀ (j:Nat) (p:AV × AV) (v:MapEntry),es[j]?=some p→vs[j]?=some v→(v.key=u ↔ p.1=k):=by
 have each:∀ (j:Nat) (p:AV × AV) (v:MapEntry),es[j]?=some p→vs[j]?=some v→oO ag ks v.key∧p.1=tN ag v.key:=by
  intro j p v hp hv
  obtain ⟨u',h1,h2,h3⟩:=tZ (List.all_eq_true.1 hok p (List.mem_of_getElem? hp))
  rw [h3 E _ (hr j p v hp hv).1]
  exact ⟨h1,h2⟩
 refine ⟨fun e he=>?_,fun j p v hp hv=>?_⟩
 ·obtain ⟨j,hj⟩:=List.getElem?_of_mem he
  have hlt:=(List.getElem?_eq_some_iff.1 hj).1
  have hlt':j<es.length:=by simp at hlt; omega
  exact (each j _ e (List.getElem?_eq_getElem hlt') (by simpa using hj)).1
 ·obtain ⟨h1,h2⟩:=each j p v hp hv
  rw [h2,hk]
  exact ⟨fun h=>by rw [h],fun h=>AX h1 hku h⟩
theorem uc {t kt et:Nat} {ie:TI} (hte:dC P et ie) (hum:P.underlying t=some (.map kt et)) {vm u:Value} {vs:Array MapEntry} {fr:Option (Nat × Value)} (ok:Bool)
  (hm:(vm=.map none∧vs=#[])∨∃ r clock,vm=.map (some r)∧w.heap[r]?=some (.map vs clock)) (hchk:(Instr.checkKey vs.isEmpty 10000 kt u).run P w=.ok () w) (hf:(Instr.findKey kt u vs.toList).run P w=.ok fr w) :
  (Instr.lookup t vm u ok).run P w=.ok (if ok then .tuple #[(fr.map (·.2)).getD hte.z,.bool fr.isSome] else (fr.map (·.2)).getD hte.z) w:=by
 rcases hm with ⟨rfl,rfl⟩ | ⟨r,clock,rfl,hr⟩
 ·unfold Instr.lookup
  simp only [Sem.run_bind,run_underlying hum,Result.andThen_ok,Sem.run_pure,hchk,hf]
  cases fr with
  | none=>cases ok<;>simp [hte.zeroValue]
  | some p=>cases ok<;>simp
 ·unfold Instr.lookup
  simp only [Sem.run_bind,run_underlying hum,Result.andThen_ok,Sem.run_pure,Go.MapKept.run_getObj_map hr,hchk,hf]
  cases fr with
  | none=>cases ok<;>simp [hte.zeroValue]
  | some p=>cases ok<;>simp
theorem mI (C:Ctx P) {t kt et:Nat} {m k:Operand} {ok:Bool} {i ie:TI} (hi:C.ti t=some i) (hd:i.d=.map kt et) (he:C.ti et=some ie) {ag:Bool} {ks:List KK} (hk:uM C kt=some (ag,ks)) {z:AV} (hz:s_ ie=some z) {H:Hp} {xm xk r:AV}
  (h:tf z ag ks ok H xm xk=some r):vG P C.σ (.lookup t m k ok) [xm,xk] H r H:=by
 intro oper ho B w0 E w a hσ hst hrel
 obtain ⟨dst,op,ty,pos,after,guard⟩:=oper
 simp only at ho
 subst ho
 have hm:=hrel 0 xm m rfl rfl
 have hkk:=hrel 1 xk k rfl rfl
 obtain ⟨ht⟩:=aG (C.hti _ _ hi)
 obtain ⟨hte⟩:=aG (C.hti _ _ he)
 have hu:=ht.hu
 have hde:=ht.d_eq
 rw [hd] at hde
 have hum:P.underlying t=some (.map kt et):=by
  cases hdd:ht.d<;>rw [hdd] at hde hu<;>simp [TD.of] at hde
  rw [hde.1,hde.2]; exact hu
 have M:=vu C hk
 have fin:∀ (es:List (AV × AV)) (vs:Array MapEntry),((a.eval m=.map none∧vs=#[])∨∃ r clock,a.eval m=.map (some r)∧w.heap[r]?=some (.map vs clock)) →
   vs.size=es.length→(∀ (j:Nat) (p:AV × AV) (v:MapEntry),es[j]?=some p→vs[j]?=some v→Rel E p.1 v.key∧Rel E p.2 v.val)→es.all (fun p=>kOk ag ks p.1)=true→kOk ag ks xk=true→r=Kn z ok (kg xk es) →
   gU P B w0 E (execOp a.eval ⟨dst,.lookup t m k ok,ty,pos,after,guard⟩) w r H:=by
  intro es vs hvm hl hr hok hko hres
  obtain ⟨u,hku,hke,hue⟩:=tZ hko
  have hku2:=hue E _ hkk
  obtain ⟨hall,hiff⟩:=sx hl hr hok hku hke
  obtain ⟨fr,hf1,hf2⟩:=M.find w u vs.toList hku hall
  have hchk:=M.check vs.isEmpty w u hku
  have hz':=v3 hte hz (E:=E)
  have run:=uc hte hum ok hvm hchk hf1
  rw [← hku2] at run
  refine ⟨E,_,w,(by simp only [execOp,Sem.run_bind,run,Result.andThen_ok,Sem.run_pure]; rfl),.refl E,hst,.inl ⟨_,rfl,?_⟩⟩
  have key:Rel E ((kg xk es).getD z) ((fr.map (·.2)).getD hte.z)∧(kg xk es).isSome=fr.isSome:=by
   cases fr with
   | none =>
    have:kg xk es=none:=oX fun p hp=>by
     obtain ⟨j,hj⟩:=List.getElem?_of_mem hp
     have hlt:=(List.getElem?_eq_some_iff.1 hj).1
     have hv:vs[j]?=some vs[j]:=Array.getElem?_eq_getElem (by omega)
     intro e
     exact hf2 vs[j] (by simp) ((hiff j p _ hj hv).2 e)
    rw [this]
    exact ⟨hz',rfl⟩
   | some q =>
    obtain ⟨n,x⟩:=q
    obtain ⟨e,h1,h2,h3,h4⟩:=hf2
    have hlt:=(List.getElem?_eq_some_iff.1 h1).1
    have hlt':n<es.length:=by simp at hlt; omega
    have hv:vs[n]?=some e:=by simpa using h1
    have hes:es[n]?=some es[n]:=List.getElem?_eq_getElem hlt'
    have hkey:=(hiff n _ e hes hv).1 h2
    have:kg xk es=some es[n].2:=pH n (by rw [hes,← hkey]) fun j p hj hp=>by
     have hltj:=(List.getElem?_eq_some_iff.1 hp).1
     have hvj:vs[j]?=some vs[j]:=Array.getElem?_eq_getElem (by omega)
     exact fun e=>h4 j vs[j] hj (by simp) ((hiff j p _ hp hvj).2 e)
    rw [this]
    exact ⟨by rw [← h3]; exact (hr n _ e hes hv).2,rfl⟩
  obtain ⟨k1,k2⟩:=key
  rw [hres]
  unfold Kn
  cases ok with
  | false=>exact k1
  | true =>
   simp only [if_true]
   refine .tup (by simp) fun j x v hx hv=>?_
   match j with
   | 0=>simp at hx hv; subst hx; subst hv; exact k1
   | 1=>simp at hx hv; subst hx; subst hv; rw [k2]; exact .lit _
   | j+2=>simp at hx
 unfold tf at h
 split at h
 ·rename_i id
  split at h
  case h_2=>cases h
  rename_i es hg
  cases hb:(kOk ag ks xk&&es.all (fun p=>kOk ag ks p.1)) with
  | false=>rw [hb] at h; cases h
  | true =>
   rw [hb] at h
   simp only [cond_true,Option.some.injEq] at h
   simp only [Bool.and_eq_true] at hb
   generalize hv:a.eval m=vm at hm
   cases hm with
   | mp hρ =>
    obtain ⟨b',o',n',e1,e2,e3,vs,clock,e4,e5,e6⟩:=hst.live _ _ hg
    rw [hρ] at e1
    cases e1
    exact fin es vs (.inr ⟨_,_,hv,e4⟩) e5 e6 hb.2 hb.1 h.symm
 ·cases hb:kOk ag ks xk with
  | false=>rw [hb] at h; cases h
  | true =>
   rw [hb] at h
   simp only [cond_true,Option.some.injEq] at h
   generalize hv:a.eval m=vm at hm
   cases hm
   exact fin [] #[] (.inl ⟨hv,rfl⟩) rfl (fun j p v hp=>by simp at hp) rfl hb (by rw [← h]; rfl)
 ·cases h
theorem wo (C:Ctx P) {t kt et:Nat} {m k v:Operand} {i:TI} (hi:C.ti t=some i) (hd:i.d=.map kt et) {ag:Bool} {ks:List KK} (hk:uM C kt=some (ag,ks)) {H H':Hp} {xm xk xv:AV}
  (h:Nl ag ks H xm xk xv=some H'):vG P C.σ (.mapUpdate t m k v) [xm,xk,xv] H (.lit undef) H':=by
 intro oper ho B w0 E w a hσ hst hrel
 obtain ⟨dst,op,ty,pos,after,guard⟩:=oper
 simp only at ho
 subst ho
 have hm:=hrel 0 xm m rfl rfl
 have hkk:=hrel 1 xk k rfl rfl
 have hvv:=hrel 2 xv v rfl rfl
 obtain ⟨ht⟩:=aG (C.hti _ _ hi)
 have hu:=ht.hu
 have hde:=ht.d_eq
 rw [hd] at hde
 have hum:P.underlying t=some (.map kt et):=by
  cases hdd:ht.d<;>rw [hdd] at hde hu<;>simp [TD.of] at hde
  rw [hde.1,hde.2]; exact hu
 have M:=vu C hk
 unfold Nl at h
 split at h
 case h_2=>cases h
 rename_i id
 split at h
 case h_2=>cases h
 rename_i es hg
 cases hb:(kOk ag ks xk&&(es.all (fun p=>kOk ag ks p.1)&&!xv.isAny)) with
 | false=>rw [hb] at h; cases h
 | true =>
  rw [hb] at h
  simp only [cond_true,Option.some.injEq] at h
  subst h
  simp only [Bool.and_eq_true] at hb
  generalize hvm:a.eval m=vm at hm
  cases hm with
  | mp hρ =>
   rename_i b o n
   obtain ⟨b',o',n',e1,e2,e3,vs,clock,e4,e5,e6⟩:=hst.live _ _ hg
   rw [hρ] at e1
   cases e1
   obtain ⟨u,hku,hke,hue⟩:=tZ hb.1
   have hku2:=hue E _ hkk
   obtain ⟨hall,hiff⟩:=sx e5 e6 hb.2.1 hku hke
   obtain ⟨fr,hf1,hf2⟩:=M.find w u vs.toList hku hall
   have hchk:=M.check false w u hku
   have hlt:=(Array.getElem?_eq_some_iff.1 e4).1
   have fin:∀ (vs':Array MapEntry) (clock':Nat),(Instr.mapUpdate t (a.eval m) (a.eval k) (a.eval v)).run P w=.ok () { w with heap:=w.heap.setIfInBounds b (.map vs' clock') } →
     vs'.size=(od xk xv es).length→(∀ (j:Nat) (p:AV × AV) (x:MapEntry),(od xk xv es)[j]?=some p→vs'[j]?=some x→Rel E p.1 x.key∧Rel E p.2 x.val) →
     gU P B w0 E (execOp a.eval ⟨dst,.mapUpdate t m k v,ty,pos,after,guard⟩) w (.lit undef) (H.set id (some (.map (od xk xv es)))):=by
    intro vs' clock' hrun h1 h2
    refine ⟨E,.skip,{ w with heap:=w.heap.setIfInBounds b (.map vs' clock') },(by simp only [execOp,Sem.run_bind,hrun,Result.andThen_ok,Sem.run_pure]),.refl E,?_,.inr ⟨rfl,rfl⟩⟩
    refine hst.write hg hρ (k':=.map (od xk xv es)) (fun c hc=>by simp [Array.getElem?_setIfInBounds_ne (Ne.symm hc)]) (by simp) rfl rfl rfl ⟨vs',clock',by simp [hlt],h1,h2⟩
   cases fr with
   | none =>
    have hno:∀ p ∈ es,p.1≠xk:=fun p hp=>by
     obtain ⟨j,hj⟩:=List.getElem?_of_mem hp
     have hlt:=(List.getElem?_eq_some_iff.1 hj).1
     have hv:vs[j]?=some vs[j]:=Array.getElem?_eq_getElem (by omega)
     intro e
     exact hf2 vs[j] (by simp) ((hiff j p _ hj hv).2 e)
    refine fin (vs.push { key:=u,val:=a.eval v,born:=clock }) (clock+1) ?_ (by rw [nG hno]; simp [e5]) ?_
    ·unfold Instr.mapUpdate
     rw [hvm,hku2]
     simp only [Sem.run_bind,run_underlying hum,Result.andThen_ok,Go.MapKept.run_getObj_map e4,hchk,hf1,Go.MapKept.run_setObj_map _ e4]
    ·rw [nG hno]
     intro j p x hp hx
     by_cases hj:j<es.length
     ·rw [List.getElem?_append_left hj] at hp
      rw [Array.getElem?_push,if_neg (by omega)] at hx
      exact e6 j p x hp hx
     ·rw [List.getElem?_append_right (by omega)] at hp
      have:j=es.length:=by have:=(List.getElem?_eq_some_iff.1 hp).1; simp at this; omega
      subst this
      rw [← e5,Array.getElem?_push_size] at hx
      simp at hp
      subst hp
      cases hx
      exact ⟨by rw [← hku2]; exact hkk,hvv⟩
   | some q =>
    obtain ⟨n',x⟩:=q
    obtain ⟨e,h1,h2,h3,h4⟩:=hf2
    have hltn:=(List.getElem?_eq_some_iff.1 h1).1
    have hlt':n'<es.length:=by simp at hltn; omega
    have hv:vs[n']?=some e:=by simpa using h1
    have hes:es[n']?=some es[n']:=List.getElem?_eq_getElem hlt'
    have hkey:=(hiff n' _ e hes hv).1 h2
    have hput:od xk xv es=es.set n' (xk,xv):=rf n' (u:=es[n'].2) (by rw [hes,← hkey]) fun j p hj hp=>by
     have hltj:=(List.getElem?_eq_some_iff.1 hp).1
     have hvj:vs[j]?=some vs[j]:=Array.getElem?_eq_getElem (by omega)
     exact fun e=>h4 j vs[j] hj (by simp) ((hiff j p _ hp hvj).2 e)
    have hstay:(Instr.keyThatStays u u).run P w=.ok u w:=by simp [Instr.keyThatStays,KV hku]
    refine fin (vs.modify n' fun e=>{ e with key:=u,val:=a.eval v }) clock ?_ (by rw [hput]; simp [e5]) ?_
    ·unfold Instr.mapUpdate
     rw [hvm,hku2]
     simp only [Sem.run_bind,run_underlying hum,Result.andThen_ok,Go.MapKept.run_getObj_map e4,hchk,hf1,Go.MapKept.run_setObj_map _ e4,hv,Option.map_some,Option.getD_some,h2,hstay]
    ·rw [hput]
     intro j p y hp hy
     rw [List.getElem?_set] at hp
     rw [Array.getElem?_modify] at hy
     by_cases hj:n'=j
     ·subst hj
      rw [if_pos rfl,hv] at hy
      simp [hlt'] at hp hy
      subst hp; subst hy
      exact ⟨by rw [← hku2]; exact hkk,hvv⟩
     ·rw [if_neg hj] at hp hy
      exact e6 j p y hp hy
theorem uh (C:Ctx P) {t:Nat} {H:Hp}:vG P C.σ (.makeMap t none) [] H (.mp H.n) (H.new (.map [])):=by
 intro oper ho B w0 E w a hσ hst hrel
 obtain ⟨dst,op,ty,pos,after,guard⟩:=oper
 simp only at ho
 subst ho
 obtain ⟨e1,st1⟩:=hst.new (.map #[] 0) 0 0 (.map []) ⟨#[],0,Array.getElem?_push_size,rfl,fun j p v hp=>by simp at hp⟩
 refine ⟨_,.value (.map (some w.heap.size)),_,?_,e1,st1,.inl ⟨_,rfl,.mp (o:=0) (n:=0) (by simp [Env.put])⟩⟩
 rfl
end
end
end Go.Proofs.YtegioimlblnajaaGreat.Ev
namespace Go.Proofs.YtegioimlblnajaaGreat.Ev
open Go.RowKit (Below)
set_option linter.unusedVariables false
set_option linter.unusedSimpArgs false
set_option linter.unusedSectionVars false
def bnd {α:Type} (o:Option α) (K:α→Prop):Prop:=@Option.rec α (fun _=>Prop) False K o
theorem ae {α:Type} (x:α) (K:α→Prop):bnd (some x) K=K x:=rfl
theorem BK {α:Type} (K:α→Prop):bnd none K=False:=rfl
theorem bI {α:Type} {o:Option α} {K:α→Prop} (h:bnd o K):∃ x,o=some x∧K x:=by
 cases o with
 | none=>exact h.elim
 | some x=>exact ⟨x,rfl,h⟩
abbrev isB (x:AV):Option Bool:=match x with
 | .lit (.bool t)=>some t
 | _=>none
def ifC (A B:Prop) (x:AV):Prop:=@Option.rec Bool (fun _=>Prop) False (fun t=>@Bool.rec (fun _=>Prop) B A t) (isB x)
def ifB (x:AV) (A B:Prop):Prop:=ifC A B x
theorem zq {x:AV} {t:Bool} (h:isB x=some t):x=.lit (.bool t):=by
 unfold isB at h
 split at h
 ·cases h; rfl
 ·cases h
theorem uj {x:AV} {A B:Prop} (h:ifB x A B):(x=.lit (.bool true)∧A)∨(x=.lit (.bool false)∧B):=by
 unfold ifB ifC at h
 cases hb:isB x with
 | none=>rw [hb] at h; exact h.elim
 | some t =>
  rw [hb] at h
  have e:=zq hb
  cases t with
  | true=>exact .inl ⟨e,h⟩
  | false=>exact .inr ⟨e,h⟩
def ldA (agg:Bool) (n:Nat) (H:Hp) (x:AV):Option AV:=match b8 H x n with
 | some l=>nh agg l
 | none=>none
def stA (n:Nat) (H:Hp) (a x:AV):Option Hp:=bif Nat.beq x.cells.length n&&!x.isAny then d5 H a x.cells else none
def Lw (agg:Bool) (off sz:Nat) (cs:List AV):Option AV:=bif agg then some (.agg ((cs.drop off).take sz)) else cs[off]?
def o9 (agg:Bool) (off sz:Nat) (x:AV):Option AV:=match x with
 | .agg cs=>Lw agg off sz cs
 | .lit (.agg vs)=>Lw agg off sz (vs.toList.map .lit)
 | _=>none
def jm (n sz:Nat) (x ix:AV):Option AV:=match jN ix with
 | some k=>bif decide (0≤k)&&decide (k<n) then ab x (k.toNat*sz) else none
 | none=>none
def aw (sz:Nat) (x ix:AV):Option AV:=match jN ix with
 | some n=>match x with
  | .sl id off _ len _=>bif decide (0≤n)&&decide (n<len) then some (.ptr id (off+n.toNat*sz)) else none
  | .imm s xs=>bif decide (0≤n)&&Nat.beq s sz then (xs[n.toNat]?).map .ip else none
  | _=>none
 | none=>none
def tL (agg:Bool) (n sz:Nat) (x ix:AV):Option AV:=match jN ix with
 | some k=>bif decide (0≤k)&&decide (k<n) then o9 agg (k.toNat*sz) sz x else none
 | none=>none
def MJ (x ix:AV):Option AV:=match jN ix with
 | some n=>match x with
  | .lit (.string s)=>bif decide (0≤n) then (s.data.toList[n.toNat]?).map fun b=>.lit (.int .u8 b.toNat) else none
  | _=>none
 | none=>none
def kT (x:AV):Option AV:=match x with
 | .lit (.string s)=>some (.lit (.int .i64 s.data.size))
 | _=>none
def aM (x:AV):Option AV:=match x with
 | .sl _ _ _ len _=>some (.lit (.int .i64 len))
 | .imm _ xs=>some (.lit (.int .i64 xs.length))
 | .emp=>some (.lit (.int .i64 0))
 | .se _ _ _=>some (.lit (.int .i64 0))
 | .lit (.slice _ n _)=>some (.lit (.int .i64 n))
 | _=>none
def uW:TD→Option Bool
 | .slice _=>some false
 | .string=>some true
 | _=>none
def eC (str:Bool) (sz bytes:Nat) (H:Hp) (x y:AV):Option (AV × Hp) :=
 bif (match str with | true=>lF y | false=>iZ y) then
  match ia H sz y with
  | some (n,l) =>
   bif l.all AV.one then
   bif Nat.beq n 0 then
    match x with
    | .lit (.slice none 0 0)=>some (x,H)
    | .emp=>some (x,H)
    | .sl _ _ _ _ _=>some (x,H)
    | .se _ _ _=>some (x,H)
    | .imm _ _=>some (x,H)
    | _=>none
   else
    match x with
    | .lit (.slice none 0 0)=>bif Nat.ble (n*bytes) 140737488355328&&Nat.ble n 4611686018427387904 then some (.sl H.n 0 sz n none,H.new (.cells l false)) else none
    | .emp=>bif Nat.ble (n*bytes) 140737488355328&&Nat.ble n 4611686018427387904 then some (.sl H.n 0 sz n none,H.new (.cells l false)) else none
    | .sl id off sz' len cap =>
     match H.get id with
     | some (.cells cs ex) =>
      bif Nat.beq sz' sz&&(Nat.ble (off+len*sz') cs.length&&(Nat.ble ((len+n)*bytes) 140737488355328&&Nat.ble (len+n) 4611686018427387904)) then
       match cap with
       | some c =>
        bif Nat.ble (len+n) c then
         bif Nat.ble (off+len*sz'+l.length) cs.length then some (.sl id off sz' (len+n) (some c),H.set id (some (.cells (ax cs (off+len*sz') l) ex))) else none
        else some (.sl H.n 0 sz' (len+n) none,H.new (.cells ((cs.drop off).take (len*sz')++l) false))
       | none=>some (.sl H.n 0 sz' (len+n) none,(H.set id none).new (.cells ((cs.drop off).take (len*sz')++l) false))
      else none
     | _=>none
    | .se id off sz' =>
     match H.get id with
     | some (.cells cs _) =>
      bif Nat.beq sz' sz&&(Nat.ble off cs.length&&(Nat.ble (n*bytes) 140737488355328&&Nat.ble n 4611686018427387904)) then some (.sl H.n 0 sz' n none,(H.set id none).new (.cells l false))
      else none
     | _=>none
    | _=>none
   else none
  | none=>none
 else none
def aj (op:BinOp) (x y:AV):Option AV:=match lit? x,lit? y with
 | some a,some b=>match fH op a b with
  | some v=>some (.lit v)
  | none=>none
 | _,_=>none
def tfB (op:BinOp) (b:Bool):Option AV:=match op with
 | .eql=>some (.lit (.bool b))
 | .neq=>some (.lit (.bool (!b)))
 | _=>none
def kX (op:BinOp) (x y:AV):Option AV:=match x,y with
 | .lit (.bool a),.lit (.bool b)=>tfB op (a == b)
 | _,_=>none
def fB (op:BinOp) (x y:AV):Option AV:=match x,y with
 | .ptr _ _,.lit (.pointer none)=>tfB op false
 | .ip _,.lit (.pointer none)=>tfB op false
 | .lit (.pointer none),.ptr _ _=>tfB op false
 | .lit (.pointer none),.ip _=>tfB op false
 | .lit (.pointer none),.lit (.pointer none)=>tfB op true
 | _,_=>none
def mT (op:BinOp) (x y:AV):Option AV:=match x,y with
 | .lit (.slice a _ _),.lit (.slice none _ _)=>tfB op a.isNone
 | .sl _ _ _ _ _,.lit (.slice none _ _)=>tfB op false
 | .imm _ (_::_),.lit (.slice none _ _)=>tfB op false
 | _,_=>none
def xV (op:BinOp) (x y:AV):Option AV:=match x,y with
 | .mp _,.lit (.map none)=>tfB op false
 | .lit (.map none),.lit (.map none)=>tfB op true
 | _,_=>none
def lI (op:BinOp) (x y:AV):Option AV:=match x,y with
 | .fn _ _,.lit .nilFunc=>tfB op false
 | .lit .nilFunc,.fn _ _=>tfB op false
 | .lit .nilFunc,.lit .nilFunc=>tfB op true
 | _,_=>none
def eqC:List KK→List AV→List AV→Option Bool
 | [],[],[]=>some true
 | .int k::ks,.lit (.int k1 a)::xs,.lit (.int k2 b)::ys=>bif decide (k=k1)&&decide (k=k2) then (eqC ks xs ys).map (decide (a=b)&&·) else none
 | .bool::ks,.lit (.bool a)::xs,.lit (.bool b)::ys=>(eqC ks xs ys).map ((a == b)&&·)
 | .string::ks,.lit (.string a)::xs,.lit (.string b)::ys=>(eqC ks xs ys).map (jv a b&&·)
 | _,_,_=>none
def sn (ks:List KK) (op:BinOp) (x y:AV):Option AV:=bif d6 x&&d6 y then match eqC ks x.cells y.cells with
  | some b=>tfB op b
  | none=>none
 else none
def unR (op:UnOp) (x:AV):Option AV:=match x with
 | .lit v=>match sun op v with
  | some u=>some (.lit u)
  | none=>none
 | _=>none
def cR (z:List AV):List (Nat × Nat × AV)→Option (List AV)
 | []=>some z
 | (off,sz,x)::r=>bif Nat.beq x.cells.length sz&&(Nat.ble (off+x.cells.length) z.length&&!x.isAny) then cR (ax z off x.cells) r else none
def iG (z:List Value) (n:Nat):List AV:=(List.range n).map fun j=>.lit (z.toArray[j % z.toArray.size]!)
def cw (z:List Value) (sz n:Nat) (H:Hp) (ps:List (Nat × Nat × AV)):Option (AV × Hp):=match cR (iG z (n*sz)) ps with
 | some cs=>bif Nat.beq cs.length (n*sz) then some (.sl H.n 0 sz n (some n),H.new (.cells cs true)) else none
 | none=>none
def lE (z:List Value) (sz bytes:Nat) (H:Hp) (l c:AV):Option (AV × Hp):=match jN l,jN c with
 | some l,some c=>bif decide (0≤l)&&(decide (l≤c)&&(Nat.ble c.toNat 9223372036854775807&&Nat.ble (bytes*c.toNat) 281474976710656)) then
   some (.sl H.n 0 sz l.toNat (some c.toNat),H.new (.cells (iG z (c.toNat*sz)) true))
  else none
 | _,_=>none
def sg:Option AV→Option (Option Int)
 | none=>some none
 | some x=>match jN x with
  | some n=>some (some n)
  | none=>none
def MH (x:AV) (lo hi:Option AV):Option AV:=match sg lo,sg hi with
 | some lo,some hi=>match x with
  | .lit (.string s)=>(cH s.data.size s.data.size lo hi none).map fun p=>.lit (.string (pY s p.1 p.2.1))
  | _=>none
 | _,_=>none
def n9 (sz0:Nat) (x:AV) (lo hi mx:Option Int):Option AV:=match x with
 | .sl id off sz len (some c)=>bif Nat.beq sz sz0&&Nat.ble len c then
   match cH len c lo hi mx with
   | some (l,h,m)=>let m:=m.getD c; bif Nat.beq m l then some .emp else some (.sl id (off+l*sz) sz (h - l) (some (m - l)))
   | none=>none
  else none
 | .sl id off sz len none=>bif Nat.beq sz sz0 then
   match cH len len lo hi mx with
   | some (l,h,none)=>bif Nat.beq l 0 then some (.sl id off sz h none) else bif Nat.beq h l then some (.se id (off+l*sz) sz) else some (.sl id (off+l*sz) sz (h - l) none)
   | some (l,h,some m)=>bif Nat.beq m l then some .emp else some (.sl id (off+l*sz) sz (h - l) (some (m - l)))
   | none=>none
  else none
 | .imm sz xs=>bif Nat.beq sz sz0 then
   match cH xs.length xs.length lo hi mx with
   | some (l,h,none)=>some (.imm sz ((xs.drop l).take (h - l)))
   | some (l,h,some m)=>bif Nat.beq m l then some .emp else some (.imm sz ((xs.drop l).take (h - l)))
   | none=>none
  else none
 | .emp=>match cH 0 0 lo hi mx with
   | some _=>some .emp
   | none=>none
 | .se id off sz=>bif Nat.beq sz sz0 then
   match cH 0 0 lo hi mx with
   | some (_,_,none)=>some (.se id off sz)
   | some (_,_,some _)=>some .emp
   | none=>none
  else none
 | .lit (.slice none 0 0)=>match cH 0 0 lo hi mx with
   | some _=>some (.lit (.slice none 0 0))
   | none=>none
 | _=>none
def qr (sz0:Nat) (x:AV) (lo hi mx:Option AV):Option AV:=match sg lo,sg hi,sg mx with
 | some lo,some hi,some mx=>n9 sz0 x lo hi mx
 | _,_,_=>none
def MC (n sz:Nat) (H:Hp) (x:AV) (lo hi mx:Option AV):Option AV:=match sg lo,sg hi,sg mx with
 | some lo,some hi,some mx=>match x with
  | .ptr id off=>match H.get id with
   | some (.cells cs _)=>bif Nat.ble (off+n*sz) cs.length then
    match cH n n lo hi mx with
    | some (l,h,m)=>let m:=m.getD n; bif Nat.beq m l then some .emp else some (.sl id (off+l*sz) sz (h - l) (some (m - l)))
    | none=>none
    else none
   | _=>none
  | _=>none
 | _,_,_=>none
def ao:AV→Option AV
 | .ptr id o=>some (.ptr id o)
 | .ip cs=>some (.ip cs)
 | .fn f cs=>some (.fn f cs)
 | _=>none
def exR (x:AV) (i:Nat):Option AV:=match x with
 | .tup vs=>vs[i]?
 | _=>none
def HX (k:IntKind) (x:AV):Option AV:=match x with
 | .lit (.int _ n)=>some (.lit (.int k (wr k n)))
 | _=>none
def IC (x:AV):Option AV:=match x with
 | .lit (.string b)=>some (.lit (.string b))
 | _=>none
def jh (H:Hp) (x:AV):Option AV:=match x with
 | .lit (.slice none _ _)=>some (.lit (.string ⟨#[]⟩))
 | .lit (.string _)=>none
 | x=>match ia H 1 x with
  | some (_,l)=>bif l.all AV.one then (kH l).map fun bs=>.lit (.string ⟨bs.toArray⟩) else none
  | none=>none
def iK (H:Hp) (x:AV):Option (AV × Hp):=match x with
 | .lit (.string b)=>some (.sl H.n 0 1 b.data.size none,H.new (.cells (b.data.toList.map fun c=>.lit (.int .u8 c.toNat)) false))
 | _=>none
def F7 (H:Hp) (x:AV):Option (AV × Hp):=match x with
 | .sl id off sz len cap=>match H.get id with
  | some (.cells cs ex)=>some (.sl id off sz len cap,H.set id (some (.cells cs ex)))
  | _=>none
 | _=>none
def DY (c a b:AV):Option AV:=match c with
 | .lit (.bool t)=>some (bif t then a else b)
 | _=>none
def dN (x:AV) (H:Hp) (K:AV→Hp→Prop):Prop:=bif x.isAny then False else K (.ptr H.n 0) (H.new (.cells x.cells true))
abbrev Hp.newA (H:Hp) (b:Blk):Hp:=H.new b
def cY (z:List AV) (H:Hp) (K:AV→Hp→Prop):Prop:=K (.ptr H.n 0) (Hp.newA H (.cells z true))
def ai (P:Program) (σ:Sig) (g:Nat) (xs:List AV) (H:Hp) (K:AV→Hp→Prop):Prop:=∃ r H1,aq P σ g xs H r H1∧K r H1
def jd (P:Program) (σ:Sig) (f:AV) (xs:List AV) (H:Hp) (K:AV→Hp→Prop):Prop:=match f with
 | .fn g caps=>ai P σ g (xs++caps) H K
 | .yl id=>∃ r H1,IM P σ id xs H r H1∧K r H1
 | _=>False
def d4 {α:Type} (o:Option α) (K:α→Prop):Prop:=(fun (_:(P:Program)→Sig→AV→List AV→Hp→(AV→Hp→Prop)→Prop)=>@Option.rec α (fun _=>Prop) False K o) jd
def tyK (ti:Nat→Option TI) (t:Nat) (f:TI→Prop):Prop:=(fun (_:(P:Program)→Sig→AV→List AV→Hp→(AV→Hp→Prop)→Prop)=>@Option.rec TI (fun _=>Prop) False f (ti t)) jd
theorem bY {ti:Nat→Option TI} {t:Nat} {f:TI→Prop} (h:tyK ti t f):∃ i,ti t=some i∧f i:=by
 have h:@Option.rec TI (fun _=>Prop) False f (ti t):=h
 cases hh:ti t with
 | none=>rw [hh] at h; exact h.elim
 | some i=>rw [hh] at h; exact ⟨i,rfl,h⟩
def qg (dR:Nat→Option (Nat × Nat)) (T:List AV):List (Nat × Operand)→List (Nat × Nat × AV)
 | []=>[]
 | (i,x)::r=>(match dR i with | some (o,s)=>(o,s,evO T x) | none=>(0,0,.any))::qg dR T r
section
variable {P:Program} (C:Ctx P)
def opK (T:List AV) (H:Hp) (o:Op) (K:AV→Hp→Prop):Prop :=
 match o with
 | .move x=>K (evO T x) H
 | .assign x=>K (evO T x) H
 | .pick c a b=>d4 (DY (evO T c) (evO T a) (evO T b)) fun x=>K x H
 | .alloc t=>tyK C.ti t fun i=>cY (i.zero.map .lit) H K
 | .box t x=>dN (evO T x) H K
 | .build t ps=>tyK C.ti t fun i=>match oH C.ti i.d with
  | some dR=>d4 (cR (i.zero.map .lit) (qg dR T ps.toList)) fun l=>K (.agg l) H
  | none=>False
 | .buildSlice t n ps=>tyK C.ti t fun i=>match i.d with
  | .slice e=>tyK C.ti e fun j=>match Nat.ble (n*j.size) 16777216 with
   | true=>d4 (cw j.zero j.size n H (qg (fun k=>some (k*j.size,j.size)) T ps.toList)) fun p=>K p.1 p.2
   | false=>False
  | _=>False
 | .load t a=>tyK C.ti t fun i=>d4 (ldA i.d.agg i.size H (evO T a)) fun x=>K x H
 | .store t a x=>tyK C.ti t fun i=>d4 (stA i.size H (evO T a) (evO T x)) fun H1=>K (.lit undef) H1
 | .nilCheck x=>d4 (ao (evO T x)) fun x=>K x H
 | .binOp op t x y _=>tyK C.ti t fun i=>match i.d with
  | .int _=>d4 (aj op (evO T x) (evO T y)) fun v=>K v H
  | .string=>d4 (aj op (evO T x) (evO T y)) fun v=>K v H
  | .bool=>d4 (kX op (evO T x) (evO T y)) fun v=>K v H
  | .ptr _=>d4 (fB op (evO T x) (evO T y)) fun v=>K v H
  | .slice _=>d4 (mT op (evO T x) (evO T y)) fun v=>K v H
  | .func=>d4 (lI op (evO T x) (evO T y)) fun v=>K v H
  | .map _ _=>d4 (xV op (evO T x) (evO T y)) fun v=>K v H
  | .struct _=>match C.keys t with
   | some ks=>d4 (sn ks op (evO T x) (evO T y)) fun v=>K v H
   | none=>False
  | .array _ _=>match C.keys t with
   | some ks=>d4 (sn ks op (evO T x) (evO T y)) fun v=>K v H
   | none=>False
  | _=>False
 | .unOp op _ x=>d4 (unR op (evO T x)) fun v=>K v H
 | .convert s d x=>tyK C.ti s fun si=>tyK C.ti d fun di=>match di.d with
  | .int k=>d4 (HX k (evO T x)) fun v=>K v H
  | .string=>match si.d with
   | .string=>d4 (IC (evO T x)) fun v=>K v H
   | .slice e=>match C.ti e with
    | some ⟨.int .u8,_,_,_⟩=>d4 (jh H (evO T x)) fun v=>K v H
    | _=>False
   | _=>False
  | .slice e=>match C.ti e with
   | some ⟨.int .u8,_,_,_⟩=>match si.d with
    | .slice _=>match Nat.beq s d with
     | true=>d4 (F7 H (evO T x)) fun p=>K p.1 p.2
     | false=>False
    | _=>d4 (iK H (evO T x)) fun p=>K p.1 p.2
   | _=>False
  | _=>False
 | .makeFunc fn first caps=>match fn,first with
  | .func f,⟨[]⟩=>K (.fn f (caps.toList.map (evO T))) H
  | _,_=>False
 | .makeSlice t l c=>tyK C.ti t fun i=>match i.d with
  | .slice e=>tyK C.ti e fun j=>d4 (lE j.zero j.size j.bytes H (evO T l) (evO T c)) fun p=>K p.1 p.2
  | _=>False
 | .slice t x lo hi mx=>tyK C.ti t fun i=>match i.d with
  | .string=>match mx with
   | none=>d4 (MH (evO T x) (lo.map (evO T)) (hi.map (evO T))) fun y=>K y H
   | some _=>False
  | .slice e=>tyK C.ti e fun j=>d4 (qr j.size (evO T x) (lo.map (evO T)) (hi.map (evO T)) (mx.map (evO T))) fun y=>K y H
  | .array n e=>tyK C.ti e fun j=>d4 (MC n j.size H (evO T x) (lo.map (evO T)) (hi.map (evO T)) (mx.map (evO T))) fun y=>K y H
  | _=>False
 | .fieldAddr t x f=>tyK C.ti t fun i=>match i.d with
  | .struct fs=>match fs[f]? with
   | some (off,ft)=>tyK C.ti ft fun j=>match Nat.beq j.size 0 with
    | true=>False
    | false=>d4 (ab (evO T x) off) fun y=>K y H
   | none=>False
  | _=>False
 | .field t x f=>tyK C.ti t fun i=>match i.d with
  | .struct fs=>match fs[f]? with
   | some (off,ft)=>tyK C.ti ft fun j=>d4 (o9 j.d.agg off j.size (evO T x)) fun y=>K y H
   | none=>False
  | _=>False
 | .indexAddr t x i=>tyK C.ti t fun ty=>match ty.d with
  | .array n e=>tyK C.ti e fun j=>d4 (jm n j.size (evO T x) (evO T i)) fun y=>K y H
  | .slice e=>tyK C.ti e fun j=>d4 (aw j.size (evO T x) (evO T i)) fun y=>K y H
  | _=>False
 | .index t x i=>tyK C.ti t fun ty=>match ty.d with
  | .array n e=>tyK C.ti e fun j=>d4 (tL j.d.agg n j.size (evO T x) (evO T i)) fun y=>K y H
  | .string=>d4 (MJ (evO T x) (evO T i)) fun y=>K y H
  | _=>False
 | .extract x i=>d4 (exR (evO T x) i) fun y=>K y H
 | .call ⟨.builtin .len,args,ts⟩=>match ts[0]?,args.toList with
  | some t,[x]=>tyK C.ti t fun ty=>match ty.d with
   | .string=>d4 (kT (evO T x)) fun y=>K y H
   | .slice _=>d4 (aM (evO T x)) fun y=>K y H
   | .array n _=>K (.lit (.int .i64 n)) H
   | _=>False
  | _,_=>False
 | .call ⟨.builtin .cap,args,ts⟩=>match ts[0]?,args.toList with
  | some t,[x]=>tyK C.ti t fun ty=>match ty.d with
   | .slice _=>d4 (KJ (evO T x)) fun y=>K y H
   | _=>False
  | _,_=>False
 | .call ⟨.builtin .append,args,ts⟩=>match ts,args.toList with
  | ⟨[s,t]⟩,[x,y]=>tyK C.ti s fun si=>tyK C.ti t fun tj=>match si.d,uW tj.d with
   | .slice e,some str=>tyK C.ti e fun i=>match Nat.beq i.zero.length i.size with
    | true=>d4 (eC str i.size i.bytes H (evO T x) (evO T y)) fun p=>K p.1 p.2
    | false=>False
   | _,_=>False
  | _,_=>False
 | .call ⟨.builtin .min,args,_⟩=>d4 (s5 (args.toList.map (evO T))) fun y=>K y H
 | .call ⟨.builtin .max,args,_⟩=>d4 (qo (args.toList.map (evO T))) fun y=>K y H
 | .call ⟨.value f,args,_⟩=>jd P C.σ (evO T f) (args.toList.map (evO T)) H K
 | .makeMap _ none=>K (.mp H.n) (H.new (.map []))
 | .lookup t m k ok=>tyK C.ti t fun i=>match i.d with
  | .map kt et=>tyK C.ti et fun ie=>match uM C kt,s_ ie with
   | some (ag,ks),some z=>d4 (tf z ag ks ok H (evO T m) (evO T k)) fun y=>K y H
   | _,_=>False
  | _=>False
 | .mapUpdate t m k v=>tyK C.ti t fun i=>match i.d with
  | .map kt et=>match uM C kt with
   | some (ag,ks)=>d4 (Nl ag ks H (evO T m) (evO T k) (evO T v)) fun H1=>K (.lit undef) H1
   | none=>False
  | _=>False
 | _=>False
end
end Go.Proofs.YtegioimlblnajaaGreat.Ev

/- The walks, part 7: the evaluator, the functions, the laws. Conditions: none. -/
import Derived.Test.YthmaggcfghjmfaaZ6
namespace Go.Proofs.Ythmaggcfghjmfaa.Ev
set_option linter.unusedVariables false
set_option linter.unusedSimpArgs false
variable {σ:Sig}
theorem BW.app {b a:Nat} {l:List Int} {H0 H:Hp} {x:AV} {bs bs2:List UInt8} (h:BW b l H0 a x bs H) (hb:b<H0.n) (hn:bs.length≤1000000) (h2:bs2.length≤10) {n:Nat} (hnl:n=bs2.length) {K:AV × Hp→Prop} (hK:∀ x' H',BW b l H0 a x' (bs++bs2) H'→K (x',H')) :
  bnd (aT false 1 1 (H.new (.cells (bs2.map dh) true)) x (.sl H.n 0 1 n (some n))) K:=by
 refine jH h.gs hn h2 hnl fun x' H' g fr=>hK x' H' ⟨?_,⟨?_,fun j hj hjb=>?_⟩,g,fun j hj=>?_⟩
 ·unfold Rd
  rw [fr.same b (by have:=h.kp.n; omega) fun ho=>h.ob hb ho rfl]
  exact h.rd
 ·have:=h.kp.n; have:=fr.grow; omega
 ·rw [fr.same j (by have:=h.kp.n; omega) fun ho=>by have:=h.ow j ho; omega]
  exact h.kp.g j hj hjb
 ·rcases fr.mine j hj with h1 | ⟨h1,_⟩
  ·exact h.ow j h1
  ·have:=h.kp.n; omega
section
attribute [local irreducible] aq.J0 aq.L1 aq.L2 aq.J3
theorem uM {b a:Nat} {l:List Int} {H:Hp} {K:AV→Hp→Prop} (h:Rd b l a H) (hb:b<H.n) (hl:l.length≤200) (hnum:uC l a=true)
  (hK:∀ (t:Tn) (a':Nat) (H':Hp),Rd b l a' H'→Kpb b H H'→a<a'→a'≤l.length→g_ t→K (.agg (bD t)) H') (ha:a≤l.length):ai Try.prog σ bF [.ptr b 0] H K:=by
 refine aq.run ?_
 rw [bl]
 obtain ⟨r,hr⟩:∃ r,r=H.n:=⟨_,rfl⟩
 obtain ⟨H0,hH0⟩:∃ H0,H0=H.new (.cells zTn true):=⟨_,rfl⟩
 have e0:H.new (.cells [I 0,.lit (.string ⟨#[]⟩),I 0,.lit (.bool false),I 0] true)=H0:=hH0.symm
 have n0:H0.n=H.n+1:=by rw [hH0]; rfl
 have g0:H0.get r=some (.cells zTn true):=by rw [hH0,hr]; simp
 have k0:Kpb b H H0:=⟨by omega,fun j hj _=>by rw [hH0,az,if_neg (by omega)]⟩
 have h0:Rd b l a H0:=by unfold Rd; rw [hH0,az,if_neg (by omega)]; exact h
 rw [e0,← hr]
 clear hH0 e0
 have hrb:r≠b:=by omega
 have hb0:b<H0.n:=by omega
 have fin:∀ (H1:Hp) (t:Tn) (a1:Nat),Rd b l a1 H1→Kpb b H0 H1→a<a1→a1≤l.length→g_ t→bnd (stA 5 H1 (.ptr r 0) (.agg (bD t))) fun H6=>bnd (ldA true 5 H6 (.ptr r 0)) fun r7=>K r7 H6:=by
  intro H1 t a1 h1 k1 g1 g2 ht
  refine u0 (cs:=zTn) (by rw [k1.g r (by omega) hrb]; exact g0) rfl fun H2 n2 o2=>hK t a1 H2 ?_ ⟨?_,fun j hj hjb=>?_⟩ g1 g2 ht
  ·unfold Rd; rw [o2 b (Ne.symm hrb)]; exact h1
  ·have:=k0.n; have:=k1.n; omega
  ·rw [o2 j (by omega),k1.g j (by omega) hjb]
   exact k0.g j hj hjb
 have ex:∀ x y:AV,exR (.tup [x,y]) 0=some x∧exR (.tup [x,y]) 1=some y:=fun _ _=>⟨rfl,rfl⟩
 have J3:∀ (a1:Nat) (H1:Hp) (y3:AV) (bs:List UInt8) (w:Bool),a<a1→a1≤l.length→BW b l H0 a1 y3 bs H1→bs.length≤4*a1→aq.J3 σ K (.ptr b 0) (.ptr r 0) y3 (Bo w) H1:=by
  intro a1 H1 y3 bs w g1 g2 hB hlen
  refine aq.J3_step ?_
  rw [ru hB.gs,aa]
  refine HH _ (by simp; omega) H1 fun m ok m1 m2=>?_
  rw [(ex _ _).1,aa,(ex _ _).2,aa]
  refine na 0 rfl hB.rd (by omega) ?_
  rw [aj]
  split
  ·refine oF hB.rd (by have:=hB.kp.n; omega) hl (by omega) fun s a2 H2 hr2 k2 ge le hs _=>?_
   have eb:aY [I 0,.lit (.string ⟨#[]⟩),I 0,.lit (.bool false),I 0] [(0,1,I 8),(2,1,I m),(1,1,Sx s)]=some (bD ⟨8,s,m,false,0⟩):=rfl
   rw [eb,aa]
   exact fin H2 _ a2 hr2 (hB.kp.trans k2) (by omega) (by omega) ⟨hs,m1,m2⟩
  ·refine b_ 0 rfl hB.rd (by omega) ?_
   rw [bT,aa,aj]
   split
   ·rename_i hc
    have hc:=of_decide_eq_true hc
    have:=(fh l (a1+0)).2.1 (by omega)
    refine hB.adv hb0 1 rfl (by omega) fun H3 hB3=>?_
    have eb:aY [I 0,.lit (.string ⟨#[]⟩),I 0,.lit (.bool false),I 0] [(0,1,I 7),(2,1,I m)]=some (bD ⟨7,⟨#[]⟩,m,false,0⟩):=rfl
    rw [eb,aa]
    exact fin H3 _ (a1+1) hB3.rd hB3.kp (by omega) (by omega) ⟨(by decide:(0:Nat)≤900),m1,m2⟩
   ·have eb:aY [I 0,.lit (.string ⟨#[]⟩),I 0,.lit (.bool false),I 0] [(0,1,I 6),(2,1,I m),(3,1,Bo w)]=some (bD ⟨6,⟨#[]⟩,m,w,0⟩):=rfl
    rw [eb,aa]
    exact fin H1 _ a1 hB.rd hB.kp g1 g2 ⟨(by decide:(0:Nat)≤900),m1,m2⟩
 have L2:∀ (f a1:Nat) (H1:Hp) (y3:AV) (bs:List UInt8) (w:Bool),l.length+1 - a1≤f→a<a1→a1≤l.length→BW b l H0 a1 y3 bs H1→bs.length≤4*a1→aq.L2 σ K (.ptr b 0) (.ptr r 0) y3 (Bo w) H1:=by
  intro f
  induction f with
  | zero=>intro a1 H1 y3 bs w hf g1 g2 hB hlen; omega
  | succ f ih =>
   intro a1 H1 y3 bs w hf g1 g2 hB hlen
   refine aq.L2_step ?_
   refine b_ 0 rfl hB.rd (by omega) (aw (gU _ H1) ?_)
   rw [aj]
   split
   ·rename_i hd
    have hlt:=(fh l (a1+0)).2.1 (vu hd)
    refine b_ 0 rfl hB.rd (by omega) ?_
    refine hB.put hb0 (by omega) fun x' H2 bs' hB2 hb4=>?_
    refine hB2.adv hb0 1 rfl (by omega) fun H3 hB3=>?_
    exact ih (a1+1) H3 x' _ w (by omega) (by omega) (by omega) hB3 (by rw [List.length_append]; omega)
   ·exact J3 a1 H1 y3 bs w g1 g2 hB hlen
 have L1:∀ (f a1:Nat) (H1:Hp) (y3:AV) (bs:List UInt8),l.length+1 - a1≤f→(a<a1∨(a1=a∧tZ l a=true))→a1≤l.length→BW b l H0 a1 y3 bs H1→bs.length≤4*a1→aq.L1 σ K (.ptr b 0) (.ptr r 0) y3 (Bo true) H1:=by
  intro f
  induction f with
  | zero=>intro a1 H1 y3 bs hf g1 g2 hB hlen; omega
  | succ f ih =>
   intro a1 H1 y3 bs hf g1 g2 hB hlen
   have hge:a≤a1:=by rcases g1 with h | ⟨h,_⟩<;>omega
   refine aq.L1_step ?_
   refine b_ 0 rfl hB.rd (by omega) (aw (gU _ H1) ?_)
   rw [aj,Nat.add_zero]
   cases hd:oq (cn l a1) with
   | true =>
    have hlt:=(fh l a1).2.1 (vu hd)
    simp only [if_true]
    refine b_ 0 rfl hB.rd (by omega) ?_
    refine hB.put hb0 (by omega) fun x' H2 bs' hB2 hb4=>?_
    refine hB2.adv hb0 1 rfl (by omega) fun H3 hB3=>?_
    exact ih (a1+1) H3 x' _ (by omega) (.inl (by omega)) (by omega) hB3 (by rw [List.length_append]; omega)
   | false =>
    simp only [Bool.false_eq_true,if_false]
    refine b_ 0 rfl hB.rd (by omega) ?_
    rw [bT,aa,aj,Nat.add_zero]
    simp only [decide_eq_true_eq]
    by_cases hp:cn l a1=46
    ·have hlt:=(fh l a1).2.1 (by omega)
     rw [if_pos hp]
     refine b_ 1 rfl hB.rd (by omega) (aw (gU _ H1) ?_)
     rw [aj]
     cases hd1:oq (cn l (a1+1)) with
     | true =>
      simp only [if_true]
      have eb:au [.int .u8 0] 1 1 H1 [(0,1,.lit (.int .u8 46))]=some (.sl H1.n 0 1 1 (some 1),H1.new (.cells ([(46:UInt8)].map dh) true)):=rfl
      rw [eb,aa]
      refine hB.app (bs2:=[46]) hb0 (by omega) (by simp) rfl fun x' H2 hB2=>?_
      refine hB2.adv hb0 1 rfl (by omega) fun H3 hB3=>?_
      exact L2 _ (a1+1) H3 x' _ false (Nat.le_refl _) (by omega) (by omega) hB3 (by rw [List.length_append]; simp; omega)
     | false =>
      simp only [Bool.false_eq_true,if_false]
      refine J3 a1 H1 y3 bs true ?_ g2 hB hlen
      rcases g1 with h | ⟨h,hn⟩
      ·exact h
      ·subst h
       unfold tZ at hn
       rw [hd,hd1] at hn
       simp at hn
    ·rw [if_neg hp]
     refine J3 a1 H1 y3 bs true ?_ g2 hB hlen
     rcases g1 with h | ⟨h,hn⟩
     ·exact h
     ·subst h
      unfold tZ at hn
      rw [hd] at hn
      simp [hp] at hn
 have J0:∀ (a1:Nat) (H1:Hp) (y3:AV) (bs:List UInt8),(a<a1∨(a1=a∧tZ l a=true))→a1≤l.length→BW b l H0 a1 y3 bs H1→bs.length≤4*a1→aq.J0 σ K (.ptr b 0) (.ptr r 0) y3 (Bo true) H1:=fun a1 H1 y3 bs g1 g2 hB hlen=>aq.J0_step (L1 _ a1 H1 y3 bs (Nat.le_refl _) g1 g2 hB hlen)
 have hB0:BW b l H0 a (.lit (.slice none 0 0)) [] H0:=⟨h0,.refl,.nil,fun j hj=>hj.elim⟩
 have sgn:cn l a=43∨cn l a=45→ai Try.prog σ al [.ptr b 0,I 0] H0 fun x6 H7=>ai Try.prog σ bV [.lit (.slice none 0 0),x6] H7 fun x8 H9=>bnd (ar (.ptr b 0)) fun x10=>bnd (ae x10 1) fun x11=>bnd (ldA false 1 H9 x11) fun x12=>bnd (af .add x12 (I 1)) fun x13=>bnd (ar (.ptr b 0)) fun x14=>bnd (ae x14 1) fun x15=>bnd (stA 1 H9 x15 x13) fun H16=>aq.J0 σ K (.ptr b 0) (.ptr r 0) x8 (Bo true) H16:=by
  intro hc
  have hlt:=(fh l a).2.1 (by omega)
  refine b_ 0 rfl h0 (by omega) ?_
  refine hB0.put hb0 (by simp) fun x' H2 bs' hB2 hb4=>?_
  refine hB2.adv hb0 1 rfl (by omega) fun H3 hB3=>?_
  exact J0 (a+1) H3 x' _ (.inl (by omega)) (by omega) hB3 (by rw [List.length_append]; simp; omega)
 unfold uC at hnum
 refine b_ 0 rfl h0 (by omega) ?_
 rw [bT,aa,aj,Nat.add_zero]
 simp only [decide_eq_true_eq]
 by_cases h1:cn l a=43
 ·rw [if_pos h1]
  exact sgn (.inl h1)
 rw [if_neg h1]
 refine b_ 0 rfl h0 (by omega) ?_
 rw [bT,aa,aj,Nat.add_zero]
 simp only [decide_eq_true_eq]
 by_cases h2:cn l a=45
 ·rw [if_pos h2]
  exact sgn (.inr h2)
 rw [if_neg h2]
 rw [if_neg (by omega)] at hnum
 exact J0 a H0 _ [] (.inr ⟨rfl,hnum⟩) ha hB0 (by simp)
end
structure TkS (b:Nat) (l:List Int) (H0:Hp) (a:Nat) (y:AV) (ts:List Tn) (H:Hp):Prop where
 rd:Rd b l a H
 kp:Kpb b H0 H
 gs:Gs 5 H y (ts.map bD)
 ow:∀ j,own y j→j≠b
 old:∀ j,own y j→H0.n≤j
theorem TkS.to {b a a':Nat} {l:List Int} {H0 H H':Hp} {y:AV} {ts:List Tn} (h:TkS b l H0 a y ts H) (hr:Rd b l a' H') (hk:Kpb b H H'):TkS b l H0 a' y ts H' :=
 ⟨hr,h.kp.trans hk,h.gs.keep (fun j hj=>hk.g j (h.gs.lt hj) (h.ow j hj)) hk.n,h.ow,h.old⟩
theorem TkS.app {b a:Nat} {l:List Int} {H0 H:Hp} {y:AV} {ts:List Tn} (h:TkS b l H0 a y ts H) (hb:b<H0.n) (hn:ts.length≤1000000) (t:Tn) {K:AV × Hp→Prop} (hK:∀ y' H',TkS b l H0 a y' (ts++[t]) H'→K (y',H')) :
  bnd (au [.int .i64 0,.string ⟨#[]⟩,.int .i64 0,.bool false,.int .i64 0] 5 1 H [(0,5,.agg (bD t))]) fun p=>bnd (aT false 5 48 p.2 y p.1) K:=by
 have hkn:=h.kp.n
 refine fk (y:=.agg (bD t)) h.gs rfl rfl rfl (by rw [List.length_map]; omega) (by rw [List.length_map]; omega) fun x' H' g' fr=>hK x' H' ⟨?_,⟨?_,fun j hj hjb=>?_⟩,?_,fun j hj=>?_,fun j hj=>?_⟩
 ·unfold Rd
  rw [fr.same b (by omega) fun ho=>h.ow b ho rfl]
  exact h.rd
 ·have:=fr.grow; omega
 ·rw [fr.same j (by omega) fun ho=>?_]
  ·exact h.kp.g j hj hjb
  ·exact absurd (h.old j ho) (by omega)
 ·rw [List.map_append]; exact g'
 ·rcases fr.mine j hj with h1 | ⟨h1,_⟩
  ·exact h.ow j h1
  ·omega
 ·rcases fr.mine j hj with h1 | ⟨h1,_⟩
  ·exact h.old j h1
  ·omega
section
attribute [local irreducible] ah.L0 ah.L1 ah.L2
theorem xt {b:Nat} {l:List Int} {H0:Hp} {K:AV→Hp→Prop} (hb:b<H0.n) (hl:l.length≤200)
  (hK:∀ (y:AV) (ts:List Tn) (a:Nat) (H':Hp),TkS b l H0 a y ts H'→ts.length≤l.length+2→(∀ t ∈ ts,g_ t)→K y H') :
  ∀ (f a1:Nat) (H1:Hp) (y:AV) (ts:List Tn),l.length+3 - a1≤f→a1≤l.length+2→TkS b l H0 a1 y ts H1→ts.length≤a1→(∀ t ∈ ts,g_ t)→ah.L0 σ K (.ptr b 0) y H1:=by
 intro f
 induction f with
 | zero=>intro a1 H1 y ts hf g1 hT hlen hok; omega
 | succ f ih =>
  intro a1 H1 y ts hf g1 hT hlen hok
  have hbn:∀ {a y ts H},TkS b l H0 a y ts H→b<H.n:=fun h=>by have:=h.kp.n; omega
  have nxt:∀ (a':Nat) (H':Hp),TkS b l H0 a' y ts H'→a1<a'→a'≤l.length+2→ah.L0 σ K (.ptr b 0) y H':=fun a' H' h h1 h2=>ih a' H' y ts (by omega) h2 h (by omega) hok
  have app:∀ (a':Nat) (H':Hp) (t:Tn),TkS b l H0 a' y ts H'→g_ t→a1<a'→a'≤l.length+2→bnd (au [.int .i64 0,.string ⟨#[]⟩,.int .i64 0,.bool false,.int .i64 0] 5 1 H' [(0,5,.agg (bD t))]) fun p=>bnd (aT false 5 48 p.2 y p.1) fun q=>ah.L0 σ K (.ptr b 0) q.1 q.2:=fun a' H' t h ht h1 h2 =>
   h.app hb (by omega) t fun y' H2 h3=>ih a' H2 y' _ (by omega) h2 h3 (by rw [List.length_append]; simp; omega) fun u hu=>by
    rcases List.mem_append.1 hu with hu | hu
    ·exact hok u hu
    ·rw [List.mem_singleton.1 hu]; exact ht
  have alc:∀ (a':Nat) (H':Hp) (t:Tn),TkS b l H0 a' y ts H'→g_ t→a1<a'→a'≤l.length+2→bh [.lit (.int .i64 0),.lit (.string ⟨#[]⟩),.lit (.int .i64 0),.lit (.bool false),.lit (.int .i64 0)] H' fun x26 H27=>bnd (stA 5 H27 x26 (.agg (bD t))) fun H28=>bnd (ldA true 5 H28 x26) fun x29=>bnd (au [.int .i64 0,.string ⟨#[]⟩,.int .i64 0,.bool false,.int .i64 0] 5 1 H28 [(0,5,x29)]) fun p30=>bnd (aT false 5 48 p30.2 y p30.1) fun p31=>ah.L0 σ K (.ptr b 0) p31.1 p31.2:=by
   intro a' H' t h ht h1 h2
   rw [bl]
   have hn:=hbn h
   refine u0 (K:=fun x29 H28=>bnd (au [.int .i64 0,.string ⟨#[]⟩,.int .i64 0,.bool false,.int .i64 0] 5 1 H28 [(0,5,x29)]) fun p30=>bnd (aT false 5 48 p30.2 y p30.1) fun p31=>ah.L0 σ K (.ptr b 0) p31.1 p31.2) (cs:=zTn) (by rw [az,if_pos rfl]; rfl) rfl fun H2 n2 o2=>?_
   have k2:Kpb b H' H2:=⟨by rw [n2]; simp,fun j hj hjb=>by rw [o2 j (by omega),az,if_neg (by omega)]⟩
   have r2:Rd b l a' H2:=by unfold Rd; rw [o2 b (by omega),az,if_neg (by omega)]; exact h.rd
   exact app a' H2 t (h.to r2 k2) ht h1 h2
  have sb:=fh l a1
  have sb1:=fh l (a1+1)
  have z1:∀ k:Int,aY [.lit (.int .i64 0),.lit (.string ⟨#[]⟩),.lit (.int .i64 0),.lit (.bool false),.lit (.int .i64 0)] [(0,1,.lit (.int .i64 k))]=some (bD ⟨k,⟨#[]⟩,0,false,0⟩):=fun _=>rfl
  have z2:∀ (k:Int) (s:ByteArray),aY [.lit (.int .i64 0),.lit (.string ⟨#[]⟩),.lit (.int .i64 0),.lit (.bool false),.lit (.int .i64 0)] [(0,1,.lit (.int .i64 k)),(1,1,Sx s)]=some (bD ⟨k,s,0,false,0⟩):=fun _ _=>rfl
  have z3:∀ k c:Int,aY [.lit (.int .i64 0),.lit (.string ⟨#[]⟩),.lit (.int .i64 0),.lit (.bool false),.lit (.int .i64 0)] [(0,1,.lit (.int .i64 k)),(4,1,I c)]=some (bD ⟨k,⟨#[]⟩,0,false,c⟩):=fun _ _=>rfl
  have ok1:∀ k c:Int,g_ ⟨k,⟨#[]⟩,0,false,c⟩:=fun _ _=>⟨(by decide:(0:Nat)≤900),(by decide:(-2147483647:Int)≤0),(by decide:(0:Int)≤2147483647)⟩
  have ok2:∀ (k:Int) (s:ByteArray),s.data.size≤900→g_ ⟨k,s,0,false,0⟩:=fun _ _ h=>⟨h,(by decide:(-2147483647:Int)≤0),(by decide:(0:Int)≤2147483647)⟩
  refine ah.L0_step ?_
  refine b_ 0 rfl hT.rd (by omega) ?_
  rw [iR,aa,aj,Nat.add_zero]
  split
  case isFalse=>exact hK y ts a1 H1 hT (by omega) hok
  rename_i hc0
  have hlt:a1<l.length:=sb.2.1 (of_decide_eq_true hc0)
  have AB:ifB (Bo (qd l a1)) (ai Try.prog σ aA [(.ptr b 0)] H1 fun x95 H96=>ai Try.prog σ al [(.ptr b 0),(.lit (.int .i64 0))] H96 fun x97 H98=>bnd (af .eql x97 (.lit (.int .i64 40))) fun x99=>ifB x99 (bnd (ar (.ptr b 0)) fun x100=>bnd (ae x100 1) fun x101=>bnd (ldA false 1 H98 x101) fun x102=>bnd (af .add x102 (.lit (.int .i64 1))) fun x103=>bnd (ar (.ptr b 0)) fun x104=>bnd (ae x104 1) fun x105=>bnd (stA 1 H98 x105 x103) fun H106=>bnd (aY [.lit (.int .i64 0),.lit (.string ⟨#[]⟩),.lit (.int .i64 0),.lit (.bool false),.lit (.int .i64 0)] [(0,1,(.lit (.int .i64 20))),(1,1,x95)]) fun l107=>bnd (au [.int .i64 0,.string ⟨#[]⟩,.int .i64 0,.bool false,.int .i64 0] 5 1 H106 [(0,5,(.agg l107))]) fun p108=>bnd (aT false 5 48 p108.2 y p108.1) fun p109=>ah.L0 σ K (.ptr b 0) p109.1 p109.2) (bnd (aY [.lit (.int .i64 0),.lit (.string ⟨#[]⟩),.lit (.int .i64 0),.lit (.bool false),.lit (.int .i64 0)] [(0,1,(.lit (.int .i64 1))),(1,1,x95)]) fun l110=>bnd (au [.int .i64 0,.string ⟨#[]⟩,.int .i64 0,.bool false,.int .i64 0] 5 1 H98 [(0,5,(.agg l110))]) fun p111=>bnd (aT false 5 48 p111.2 y p111.1) fun p112=>ah.L0 σ K (.ptr b 0) p112.1 p112.2)) (ai Try.prog σ aW [(I (cn l a1))] H1 fun x113 H114=>bnd (af .gtr x113 (.lit (.int .i64 0))) fun x115=>ifB x115 (bnd (ar (.ptr b 0)) fun x116=>bnd (ae x116 1) fun x117=>bnd (ldA false 1 H114 x117) fun x118=>bnd (af .add x118 (.lit (.int .i64 1))) fun x119=>bnd (ar (.ptr b 0)) fun x120=>bnd (ae x120 1) fun x121=>bnd (stA 1 H114 x121 x119) fun H122=>ai Try.prog σ aW [(I (cn l a1))] H122 fun x123 H124=>bnd (aY [.lit (.int .i64 0),.lit (.string ⟨#[]⟩),.lit (.int .i64 0),.lit (.bool false),.lit (.int .i64 0)] [(0,1,x123)]) fun l125=>bnd (au [.int .i64 0,.string ⟨#[]⟩,.int .i64 0,.bool false,.int .i64 0] 5 1 H124 [(0,5,(.agg l125))]) fun p126=>bnd (aT false 5 48 p126.2 y p126.1) fun p127=>ah.L0 σ K (.ptr b 0) p127.1 p127.2) (bnd (ar (.ptr b 0)) fun x128=>bnd (ae x128 1) fun x129=>bnd (ldA false 1 H114 x129) fun x130=>bnd (af .add x130 (.lit (.int .i64 1))) fun x131=>bnd (ar (.ptr b 0)) fun x132=>bnd (ae x132 1) fun x133=>bnd (stA 1 H114 x133 x131) fun H134=>bnd (aY [.lit (.int .i64 0),.lit (.string ⟨#[]⟩),.lit (.int .i64 0),.lit (.bool false),.lit (.int .i64 0)] [(0,1,(.lit (.int .i64 10))),(4,1,(I (cn l a1)))]) fun l135=>bnd (au [.int .i64 0,.string ⟨#[]⟩,.int .i64 0,.bool false,.int .i64 0] 5 1 H134 [(0,5,(.agg l135))]) fun p136=>bnd (aT false 5 48 p136.2 y p136.1) fun p137=>ah.L0 σ K (.ptr b 0) p137.1 p137.2)):=by
   rw [aj]
   split
   ·rename_i hbg
    refine oF hT.rd (hbn hT) hl (by omega) fun s a2 H2 h2 k2 ge le hs hlt2=>?_
    have hT2:=hT.to h2 k2
    have hg2:=hlt2 (GY hbg)
    refine b_ 0 rfl h2 (by omega) ?_
    rw [bT,aa,aj]
    split
    ·rename_i h40
     have h40:=of_decide_eq_true h40
     have:=(fh l (a2+0)).2.1 (by omega)
     refine kJ 1 rfl h2 (by omega) fun H3 h3 k3 _=>?_
     rw [z2,aa]
     exact app (a2+1) H3 _ (hT2.to h3 k3) (ok2 _ _ hs) (by omega) (by omega)
    ·rw [z2,aa]
     exact app a2 H2 _ hT2 (ok2 _ _ hs) hg2 (by omega)
   ·refine aw (wg _ H1) ?_
    rw [eT,aa,aj]
    split
    ·refine kJ 1 rfl hT.rd (by omega) fun H2 h2 k2 _=>?_
     refine aw (wg _ H2) ?_
     rw [z1,aa]
     exact app (a1+1) H2 _ (hT.to h2 k2) (ok1 _ _) (by omega) (by omega)
    ·refine kJ 1 rfl hT.rd (by omega) fun H2 h2 k2 _=>?_
     rw [z3,aa]
     exact app (a1+1) H2 _ (hT.to h2 k2) (ok1 _ _) (by omega) (by omega)
  have AN:ifB (Bo (uC l a1)) (ai Try.prog σ bF [(.ptr b 0)] H1 fun x72 H73=>bh [.lit (.int .i64 0),.lit (.string ⟨#[]⟩),.lit (.int .i64 0),.lit (.bool false),.lit (.int .i64 0)] H73 fun x74 H75=>bnd (stA 5 H75 x74 x72) fun H76=>bnd (ldA true 5 H76 x74) fun x77=>bnd (au [.int .i64 0,.string ⟨#[]⟩,.int .i64 0,.bool false,.int .i64 0] 5 1 H76 [(0,5,x77)]) fun p78=>bnd (aT false 5 48 p78.2 y p78.1) fun p79=>ah.L0 σ K (.ptr b 0) p79.1 p79.2) (bnd (af .eql (I (cn l a1)) (.lit (.int .i64 64))) fun x80=>ifB x80 (ai Try.prog σ bn [(.ptr b 0),(.lit (.int .i64 1))] H1 fun x81 H82=>ifB x81 (bnd (ar (.ptr b 0)) fun x83=>bnd (ae x83 1) fun x84=>bnd (ldA false 1 H82 x84) fun x85=>bnd (af .add x85 (.lit (.int .i64 1))) fun x86=>bnd (ar (.ptr b 0)) fun x87=>bnd (ae x87 1) fun x88=>bnd (stA 1 H82 x88 x86) fun H89=>ai Try.prog σ aA [(.ptr b 0)] H89 fun x90 H91=>bnd (aY [.lit (.int .i64 0),.lit (.string ⟨#[]⟩),.lit (.int .i64 0),.lit (.bool false),.lit (.int .i64 0)] [(0,1,(.lit (.int .i64 2))),(1,1,x90)]) fun l92=>bnd (au [.int .i64 0,.string ⟨#[]⟩,.int .i64 0,.bool false,.int .i64 0] 5 1 H91 [(0,5,(.agg l92))]) fun p93=>bnd (aT false 5 48 p93.2 y p93.1) fun p94=>ah.L0 σ K (.ptr b 0) p94.1 p94.2) (ifB (Bo (qd l a1)) (ai Try.prog σ aA [(.ptr b 0)] H82 fun x95 H96=>ai Try.prog σ al [(.ptr b 0),(.lit (.int .i64 0))] H96 fun x97 H98=>bnd (af .eql x97 (.lit (.int .i64 40))) fun x99=>ifB x99 (bnd (ar (.ptr b 0)) fun x100=>bnd (ae x100 1) fun x101=>bnd (ldA false 1 H98 x101) fun x102=>bnd (af .add x102 (.lit (.int .i64 1))) fun x103=>bnd (ar (.ptr b 0)) fun x104=>bnd (ae x104 1) fun x105=>bnd (stA 1 H98 x105 x103) fun H106=>bnd (aY [.lit (.int .i64 0),.lit (.string ⟨#[]⟩),.lit (.int .i64 0),.lit (.bool false),.lit (.int .i64 0)] [(0,1,(.lit (.int .i64 20))),(1,1,x95)]) fun l107=>bnd (au [.int .i64 0,.string ⟨#[]⟩,.int .i64 0,.bool false,.int .i64 0] 5 1 H106 [(0,5,(.agg l107))]) fun p108=>bnd (aT false 5 48 p108.2 y p108.1) fun p109=>ah.L0 σ K (.ptr b 0) p109.1 p109.2) (bnd (aY [.lit (.int .i64 0),.lit (.string ⟨#[]⟩),.lit (.int .i64 0),.lit (.bool false),.lit (.int .i64 0)] [(0,1,(.lit (.int .i64 1))),(1,1,x95)]) fun l110=>bnd (au [.int .i64 0,.string ⟨#[]⟩,.int .i64 0,.bool false,.int .i64 0] 5 1 H98 [(0,5,(.agg l110))]) fun p111=>bnd (aT false 5 48 p111.2 y p111.1) fun p112=>ah.L0 σ K (.ptr b 0) p112.1 p112.2)) (ai Try.prog σ aW [(I (cn l a1))] H82 fun x113 H114=>bnd (af .gtr x113 (.lit (.int .i64 0))) fun x115=>ifB x115 (bnd (ar (.ptr b 0)) fun x116=>bnd (ae x116 1) fun x117=>bnd (ldA false 1 H114 x117) fun x118=>bnd (af .add x118 (.lit (.int .i64 1))) fun x119=>bnd (ar (.ptr b 0)) fun x120=>bnd (ae x120 1) fun x121=>bnd (stA 1 H114 x121 x119) fun H122=>ai Try.prog σ aW [(I (cn l a1))] H122 fun x123 H124=>bnd (aY [.lit (.int .i64 0),.lit (.string ⟨#[]⟩),.lit (.int .i64 0),.lit (.bool false),.lit (.int .i64 0)] [(0,1,x123)]) fun l125=>bnd (au [.int .i64 0,.string ⟨#[]⟩,.int .i64 0,.bool false,.int .i64 0] 5 1 H124 [(0,5,(.agg l125))]) fun p126=>bnd (aT false 5 48 p126.2 y p126.1) fun p127=>ah.L0 σ K (.ptr b 0) p127.1 p127.2) (bnd (ar (.ptr b 0)) fun x128=>bnd (ae x128 1) fun x129=>bnd (ldA false 1 H114 x129) fun x130=>bnd (af .add x130 (.lit (.int .i64 1))) fun x131=>bnd (ar (.ptr b 0)) fun x132=>bnd (ae x132 1) fun x133=>bnd (stA 1 H114 x133 x131) fun H134=>bnd (aY [.lit (.int .i64 0),.lit (.string ⟨#[]⟩),.lit (.int .i64 0),.lit (.bool false),.lit (.int .i64 0)] [(0,1,(.lit (.int .i64 10))),(4,1,(I (cn l a1)))]) fun l135=>bnd (au [.int .i64 0,.string ⟨#[]⟩,.int .i64 0,.bool false,.int .i64 0] 5 1 H134 [(0,5,(.agg l135))]) fun p136=>bnd (aT false 5 48 p136.2 y p136.1) fun p137=>ah.L0 σ K (.ptr b 0) p137.1 p137.2)))) (ifB (Bo (qd l a1)) (ai Try.prog σ aA [(.ptr b 0)] H1 fun x138 H139=>ai Try.prog σ al [(.ptr b 0),(.lit (.int .i64 0))] H139 fun x140 H141=>bnd (af .eql x140 (.lit (.int .i64 40))) fun x142=>ifB x142 (bnd (ar (.ptr b 0)) fun x143=>bnd (ae x143 1) fun x144=>bnd (ldA false 1 H141 x144) fun x145=>bnd (af .add x145 (.lit (.int .i64 1))) fun x146=>bnd (ar (.ptr b 0)) fun x147=>bnd (ae x147 1) fun x148=>bnd (stA 1 H141 x148 x146) fun H149=>bnd (aY [.lit (.int .i64 0),.lit (.string ⟨#[]⟩),.lit (.int .i64 0),.lit (.bool false),.lit (.int .i64 0)] [(0,1,(.lit (.int .i64 20))),(1,1,x138)]) fun l150=>bnd (au [.int .i64 0,.string ⟨#[]⟩,.int .i64 0,.bool false,.int .i64 0] 5 1 H149 [(0,5,(.agg l150))]) fun p151=>bnd (aT false 5 48 p151.2 y p151.1) fun p152=>ah.L0 σ K (.ptr b 0) p152.1 p152.2) (bnd (aY [.lit (.int .i64 0),.lit (.string ⟨#[]⟩),.lit (.int .i64 0),.lit (.bool false),.lit (.int .i64 0)] [(0,1,(.lit (.int .i64 1))),(1,1,x138)]) fun l153=>bnd (au [.int .i64 0,.string ⟨#[]⟩,.int .i64 0,.bool false,.int .i64 0] 5 1 H141 [(0,5,(.agg l153))]) fun p154=>bnd (aT false 5 48 p154.2 y p154.1) fun p155=>ah.L0 σ K (.ptr b 0) p155.1 p155.2)) (ai Try.prog σ aW [(I (cn l a1))] H1 fun x156 H157=>bnd (af .gtr x156 (.lit (.int .i64 0))) fun x158=>ifB x158 (bnd (ar (.ptr b 0)) fun x159=>bnd (ae x159 1) fun x160=>bnd (ldA false 1 H157 x160) fun x161=>bnd (af .add x161 (.lit (.int .i64 1))) fun x162=>bnd (ar (.ptr b 0)) fun x163=>bnd (ae x163 1) fun x164=>bnd (stA 1 H157 x164 x162) fun H165=>ai Try.prog σ aW [(I (cn l a1))] H165 fun x166 H167=>bnd (aY [.lit (.int .i64 0),.lit (.string ⟨#[]⟩),.lit (.int .i64 0),.lit (.bool false),.lit (.int .i64 0)] [(0,1,x166)]) fun l168=>bnd (au [.int .i64 0,.string ⟨#[]⟩,.int .i64 0,.bool false,.int .i64 0] 5 1 H167 [(0,5,(.agg l168))]) fun p169=>bnd (aT false 5 48 p169.2 y p169.1) fun p170=>ah.L0 σ K (.ptr b 0) p170.1 p170.2) (bnd (ar (.ptr b 0)) fun x171=>bnd (ae x171 1) fun x172=>bnd (ldA false 1 H157 x172) fun x173=>bnd (af .add x173 (.lit (.int .i64 1))) fun x174=>bnd (ar (.ptr b 0)) fun x175=>bnd (ae x175 1) fun x176=>bnd (stA 1 H157 x176 x174) fun H177=>bnd (aY [.lit (.int .i64 0),.lit (.string ⟨#[]⟩),.lit (.int .i64 0),.lit (.bool false),.lit (.int .i64 0)] [(0,1,(.lit (.int .i64 10))),(4,1,(I (cn l a1)))]) fun l178=>bnd (au [.int .i64 0,.string ⟨#[]⟩,.int .i64 0,.bool false,.int .i64 0] 5 1 H177 [(0,5,(.agg l178))]) fun p179=>bnd (aT false 5 48 p179.2 y p179.1) fun p180=>ah.L0 σ K (.ptr b 0) p180.1 p180.2)))):=by
   rw [aj]
   split
   ·rename_i hnum
    exact uM hT.rd (hbn hT) hl hnum (fun t a2 H2 h2 k2 g2 le2 ht=>alc a2 H2 t (hT.to h2 k2) ht g2 (by omega)) (by omega)
   ·rw [bT,aa,aj]
    split
    ·refine na 1 rfl hT.rd (by omega) ?_
     rw [aj]
     split
     ·refine kJ 1 rfl hT.rd (by omega) fun H2 h2 k2 _=>?_
      have hT2:=hT.to h2 k2
      refine oF h2 (hbn hT2) hl (by omega) fun s a3 H3 h3 k3 ge le hs _=>?_
      rw [z2,aa]
      exact app a3 H3 _ (hT2.to h3 k3) (ok2 _ _ hs) (by omega) (by omega)
     ·exact AB
    ·exact AB
  have hsh:∀ (H2:Hp),Rd b l (a1+1) H2→Kpb b H1 H2→ai Try.prog σ aA [.ptr b 0] H2 fun x53 H54=>bnd (aY [.lit (.int .i64 0),.lit (.string ⟨#[]⟩),.lit (.int .i64 0),.lit (.bool false),.lit (.int .i64 0)] [(0,1,(.lit (.int .i64 3))),(1,1,x53)]) fun l55=>bnd (au [.int .i64 0,.string ⟨#[]⟩,.int .i64 0,.bool false,.int .i64 0] 5 1 H54 [(0,5,(.agg l55))]) fun p56=>bnd (aT false 5 48 p56.2 y p56.1) fun p57=>ah.L0 σ K (.ptr b 0) p57.1 p57.2:=by
   intro H2 h2 k2
   have hT2:=hT.to h2 k2
   refine oF h2 (hbn hT2) hl (by omega) fun s a3 H3 h3 k3 ge le hs _=>?_
   rw [z2,aa]
   exact app a3 H3 _ (hT2.to h3 k3) (ok2 _ _ hs) (by omega) (by omega)
  have L2:∀ (f a2:Nat) (H2:Hp),l.length+3 - a2≤f→a2≤l.length→TkS b l H0 a2 y ts H2→(a1<a2∨(a2=a1∧pi (cn l a1)=true))→ah.L2 σ K (.ptr b 0) y H2:=by
   intro f2
   induction f2 with
   | zero=>intro a2 H2 hf2 h1 h2 h3; omega
   | succ f2 ih2 =>
    intro a2 H2 hf2 h1 h2 h3
    refine ah.L2_step ?_
    refine b_ 0 rfl h2.rd (by omega) (aw (nN _ H2) ?_)
    rw [aj,Nat.add_zero]
    split
    ·rename_i hw
     have:=(fh l a2).2.1 (qC hw)
     refine kJ 1 rfl h2.rd (by omega) fun H3 h4 k4 _=>?_
     exact ih2 (a2+1) H3 (by omega) (by omega) (h2.to h4 k4) (.inl (by omega))
    ·rename_i hw
     rw [z1,aa]
     refine app a2 H2 _ h2 (ok1 _ _) ?_ (by omega)
     rcases h3 with h3 | ⟨h3,h4⟩
     ·exact h3
     ·subst h3; exact absurd h4 hw
  have W:ai Try.prog σ dc [(I (cn l a1))] H1 fun x21 H22=>ifB x21 (ah.L2 σ K (.ptr b 0) y H22) (bnd (af .eql (I (cn l a1)) (.lit (.int .i64 34))) fun x23=>ifB x23 (ai Try.prog σ cj [(.ptr b 0)] H22 fun x24 H25=>bh [.lit (.int .i64 0),.lit (.string ⟨#[]⟩),.lit (.int .i64 0),.lit (.bool false),.lit (.int .i64 0)] H25 fun x26 H27=>bnd (stA 5 H27 x26 x24) fun H28=>bnd (ldA true 5 H28 x26) fun x29=>bnd (au [.int .i64 0,.string ⟨#[]⟩,.int .i64 0,.bool false,.int .i64 0] 5 1 H28 [(0,5,x29)]) fun p30=>bnd (aT false 5 48 p30.2 y p30.1) fun p31=>ah.L0 σ K (.ptr b 0) p31.1 p31.2) (bnd (af .eql (I (cn l a1)) (.lit (.int .i64 39))) fun x32=>ifB x32 (ai Try.prog σ cj [(.ptr b 0)] H22 fun x33 H34=>bh [.lit (.int .i64 0),.lit (.string ⟨#[]⟩),.lit (.int .i64 0),.lit (.bool false),.lit (.int .i64 0)] H34 fun x35 H36=>bnd (stA 5 H36 x35 x33) fun H37=>bnd (ldA true 5 H37 x35) fun x38=>bnd (au [.int .i64 0,.string ⟨#[]⟩,.int .i64 0,.bool false,.int .i64 0] 5 1 H37 [(0,5,x38)]) fun p39=>bnd (aT false 5 48 p39.2 y p39.1) fun p40=>ah.L0 σ K (.ptr b 0) p40.1 p40.2) (bnd (af .eql (I (cn l a1)) (.lit (.int .i64 35))) fun x41=>ifB x41 (ai Try.prog σ al [(.ptr b 0),(.lit (.int .i64 1))] H22 fun x42 H43=>ai Try.prog σ cY [x42] H43 fun x44 H45=>ifB x44 (bnd (ar (.ptr b 0)) fun x46=>bnd (ae x46 1) fun x47=>bnd (ldA false 1 H45 x47) fun x48=>bnd (af .add x48 (.lit (.int .i64 1))) fun x49=>bnd (ar (.ptr b 0)) fun x50=>bnd (ae x50 1) fun x51=>bnd (stA 1 H45 x51 x49) fun H52=>ai Try.prog σ aA [(.ptr b 0)] H52 fun x53 H54=>bnd (aY [.lit (.int .i64 0),.lit (.string ⟨#[]⟩),.lit (.int .i64 0),.lit (.bool false),.lit (.int .i64 0)] [(0,1,(.lit (.int .i64 3))),(1,1,x53)]) fun l55=>bnd (au [.int .i64 0,.string ⟨#[]⟩,.int .i64 0,.bool false,.int .i64 0] 5 1 H54 [(0,5,(.agg l55))]) fun p56=>bnd (aT false 5 48 p56.2 y p56.1) fun p57=>ah.L0 σ K (.ptr b 0) p57.1 p57.2) (ai Try.prog σ bS [(.ptr b 0),(.lit (.int .i64 1))] H45 fun x58 H59=>ifB x58 (bnd (ar (.ptr b 0)) fun x60=>bnd (ae x60 1) fun x61=>bnd (ldA false 1 H59 x61) fun x62=>bnd (af .add x62 (.lit (.int .i64 1))) fun x63=>bnd (ar (.ptr b 0)) fun x64=>bnd (ae x64 1) fun x65=>bnd (stA 1 H59 x65 x63) fun H66=>ai Try.prog σ aA [(.ptr b 0)] H66 fun x67 H68=>bnd (aY [.lit (.int .i64 0),.lit (.string ⟨#[]⟩),.lit (.int .i64 0),.lit (.bool false),.lit (.int .i64 0)] [(0,1,(.lit (.int .i64 3))),(1,1,x67)]) fun l69=>bnd (au [.int .i64 0,.string ⟨#[]⟩,.int .i64 0,.bool false,.int .i64 0] 5 1 H68 [(0,5,(.agg l69))]) fun p70=>bnd (aT false 5 48 p70.2 y p70.1) fun p71=>ah.L0 σ K (.ptr b 0) p71.1 p71.2) (ifB (Bo (uC l a1)) (ai Try.prog σ bF [(.ptr b 0)] H59 fun x72 H73=>bh [.lit (.int .i64 0),.lit (.string ⟨#[]⟩),.lit (.int .i64 0),.lit (.bool false),.lit (.int .i64 0)] H73 fun x74 H75=>bnd (stA 5 H75 x74 x72) fun H76=>bnd (ldA true 5 H76 x74) fun x77=>bnd (au [.int .i64 0,.string ⟨#[]⟩,.int .i64 0,.bool false,.int .i64 0] 5 1 H76 [(0,5,x77)]) fun p78=>bnd (aT false 5 48 p78.2 y p78.1) fun p79=>ah.L0 σ K (.ptr b 0) p79.1 p79.2) (bnd (af .eql (I (cn l a1)) (.lit (.int .i64 64))) fun x80=>ifB x80 (ai Try.prog σ bn [(.ptr b 0),(.lit (.int .i64 1))] H59 fun x81 H82=>ifB x81 (bnd (ar (.ptr b 0)) fun x83=>bnd (ae x83 1) fun x84=>bnd (ldA false 1 H82 x84) fun x85=>bnd (af .add x85 (.lit (.int .i64 1))) fun x86=>bnd (ar (.ptr b 0)) fun x87=>bnd (ae x87 1) fun x88=>bnd (stA 1 H82 x88 x86) fun H89=>ai Try.prog σ aA [(.ptr b 0)] H89 fun x90 H91=>bnd (aY [.lit (.int .i64 0),.lit (.string ⟨#[]⟩),.lit (.int .i64 0),.lit (.bool false),.lit (.int .i64 0)] [(0,1,(.lit (.int .i64 2))),(1,1,x90)]) fun l92=>bnd (au [.int .i64 0,.string ⟨#[]⟩,.int .i64 0,.bool false,.int .i64 0] 5 1 H91 [(0,5,(.agg l92))]) fun p93=>bnd (aT false 5 48 p93.2 y p93.1) fun p94=>ah.L0 σ K (.ptr b 0) p94.1 p94.2) (ifB (Bo (qd l a1)) (ai Try.prog σ aA [(.ptr b 0)] H82 fun x95 H96=>ai Try.prog σ al [(.ptr b 0),(.lit (.int .i64 0))] H96 fun x97 H98=>bnd (af .eql x97 (.lit (.int .i64 40))) fun x99=>ifB x99 (bnd (ar (.ptr b 0)) fun x100=>bnd (ae x100 1) fun x101=>bnd (ldA false 1 H98 x101) fun x102=>bnd (af .add x102 (.lit (.int .i64 1))) fun x103=>bnd (ar (.ptr b 0)) fun x104=>bnd (ae x104 1) fun x105=>bnd (stA 1 H98 x105 x103) fun H106=>bnd (aY [.lit (.int .i64 0),.lit (.string ⟨#[]⟩),.lit (.int .i64 0),.lit (.bool false),.lit (.int .i64 0)] [(0,1,(.lit (.int .i64 20))),(1,1,x95)]) fun l107=>bnd (au [.int .i64 0,.string ⟨#[]⟩,.int .i64 0,.bool false,.int .i64 0] 5 1 H106 [(0,5,(.agg l107))]) fun p108=>bnd (aT false 5 48 p108.2 y p108.1) fun p109=>ah.L0 σ K (.ptr b 0) p109.1 p109.2) (bnd (aY [.lit (.int .i64 0),.lit (.string ⟨#[]⟩),.lit (.int .i64 0),.lit (.bool false),.lit (.int .i64 0)] [(0,1,(.lit (.int .i64 1))),(1,1,x95)]) fun l110=>bnd (au [.int .i64 0,.string ⟨#[]⟩,.int .i64 0,.bool false,.int .i64 0] 5 1 H98 [(0,5,(.agg l110))]) fun p111=>bnd (aT false 5 48 p111.2 y p111.1) fun p112=>ah.L0 σ K (.ptr b 0) p112.1 p112.2)) (ai Try.prog σ aW [(I (cn l a1))] H82 fun x113 H114=>bnd (af .gtr x113 (.lit (.int .i64 0))) fun x115=>ifB x115 (bnd (ar (.ptr b 0)) fun x116=>bnd (ae x116 1) fun x117=>bnd (ldA false 1 H114 x117) fun x118=>bnd (af .add x118 (.lit (.int .i64 1))) fun x119=>bnd (ar (.ptr b 0)) fun x120=>bnd (ae x120 1) fun x121=>bnd (stA 1 H114 x121 x119) fun H122=>ai Try.prog σ aW [(I (cn l a1))] H122 fun x123 H124=>bnd (aY [.lit (.int .i64 0),.lit (.string ⟨#[]⟩),.lit (.int .i64 0),.lit (.bool false),.lit (.int .i64 0)] [(0,1,x123)]) fun l125=>bnd (au [.int .i64 0,.string ⟨#[]⟩,.int .i64 0,.bool false,.int .i64 0] 5 1 H124 [(0,5,(.agg l125))]) fun p126=>bnd (aT false 5 48 p126.2 y p126.1) fun p127=>ah.L0 σ K (.ptr b 0) p127.1 p127.2) (bnd (ar (.ptr b 0)) fun x128=>bnd (ae x128 1) fun x129=>bnd (ldA false 1 H114 x129) fun x130=>bnd (af .add x130 (.lit (.int .i64 1))) fun x131=>bnd (ar (.ptr b 0)) fun x132=>bnd (ae x132 1) fun x133=>bnd (stA 1 H114 x133 x131) fun H134=>bnd (aY [.lit (.int .i64 0),.lit (.string ⟨#[]⟩),.lit (.int .i64 0),.lit (.bool false),.lit (.int .i64 0)] [(0,1,(.lit (.int .i64 10))),(4,1,(I (cn l a1)))]) fun l135=>bnd (au [.int .i64 0,.string ⟨#[]⟩,.int .i64 0,.bool false,.int .i64 0] 5 1 H134 [(0,5,(.agg l135))]) fun p136=>bnd (aT false 5 48 p136.2 y p136.1) fun p137=>ah.L0 σ K (.ptr b 0) p137.1 p137.2)))) (ifB (Bo (qd l a1)) (ai Try.prog σ aA [(.ptr b 0)] H59 fun x138 H139=>ai Try.prog σ al [(.ptr b 0),(.lit (.int .i64 0))] H139 fun x140 H141=>bnd (af .eql x140 (.lit (.int .i64 40))) fun x142=>ifB x142 (bnd (ar (.ptr b 0)) fun x143=>bnd (ae x143 1) fun x144=>bnd (ldA false 1 H141 x144) fun x145=>bnd (af .add x145 (.lit (.int .i64 1))) fun x146=>bnd (ar (.ptr b 0)) fun x147=>bnd (ae x147 1) fun x148=>bnd (stA 1 H141 x148 x146) fun H149=>bnd (aY [.lit (.int .i64 0),.lit (.string ⟨#[]⟩),.lit (.int .i64 0),.lit (.bool false),.lit (.int .i64 0)] [(0,1,(.lit (.int .i64 20))),(1,1,x138)]) fun l150=>bnd (au [.int .i64 0,.string ⟨#[]⟩,.int .i64 0,.bool false,.int .i64 0] 5 1 H149 [(0,5,(.agg l150))]) fun p151=>bnd (aT false 5 48 p151.2 y p151.1) fun p152=>ah.L0 σ K (.ptr b 0) p152.1 p152.2) (bnd (aY [.lit (.int .i64 0),.lit (.string ⟨#[]⟩),.lit (.int .i64 0),.lit (.bool false),.lit (.int .i64 0)] [(0,1,(.lit (.int .i64 1))),(1,1,x138)]) fun l153=>bnd (au [.int .i64 0,.string ⟨#[]⟩,.int .i64 0,.bool false,.int .i64 0] 5 1 H141 [(0,5,(.agg l153))]) fun p154=>bnd (aT false 5 48 p154.2 y p154.1) fun p155=>ah.L0 σ K (.ptr b 0) p155.1 p155.2)) (ai Try.prog σ aW [(I (cn l a1))] H59 fun x156 H157=>bnd (af .gtr x156 (.lit (.int .i64 0))) fun x158=>ifB x158 (bnd (ar (.ptr b 0)) fun x159=>bnd (ae x159 1) fun x160=>bnd (ldA false 1 H157 x160) fun x161=>bnd (af .add x161 (.lit (.int .i64 1))) fun x162=>bnd (ar (.ptr b 0)) fun x163=>bnd (ae x163 1) fun x164=>bnd (stA 1 H157 x164 x162) fun H165=>ai Try.prog σ aW [(I (cn l a1))] H165 fun x166 H167=>bnd (aY [.lit (.int .i64 0),.lit (.string ⟨#[]⟩),.lit (.int .i64 0),.lit (.bool false),.lit (.int .i64 0)] [(0,1,x166)]) fun l168=>bnd (au [.int .i64 0,.string ⟨#[]⟩,.int .i64 0,.bool false,.int .i64 0] 5 1 H167 [(0,5,(.agg l168))]) fun p169=>bnd (aT false 5 48 p169.2 y p169.1) fun p170=>ah.L0 σ K (.ptr b 0) p170.1 p170.2) (bnd (ar (.ptr b 0)) fun x171=>bnd (ae x171 1) fun x172=>bnd (ldA false 1 H157 x172) fun x173=>bnd (af .add x173 (.lit (.int .i64 1))) fun x174=>bnd (ar (.ptr b 0)) fun x175=>bnd (ae x175 1) fun x176=>bnd (stA 1 H157 x176 x174) fun H177=>bnd (aY [.lit (.int .i64 0),.lit (.string ⟨#[]⟩),.lit (.int .i64 0),.lit (.bool false),.lit (.int .i64 0)] [(0,1,(.lit (.int .i64 10))),(4,1,(I (cn l a1)))]) fun l178=>bnd (au [.int .i64 0,.string ⟨#[]⟩,.int .i64 0,.bool false,.int .i64 0] 5 1 H177 [(0,5,(.agg l178))]) fun p179=>bnd (aT false 5 48 p179.2 y p179.1) fun p180=>ah.L0 σ K (.ptr b 0) p180.1 p180.2))))))) (ifB (Bo (uC l a1)) (ai Try.prog σ bF [(.ptr b 0)] H22 fun x181 H182=>bh [.lit (.int .i64 0),.lit (.string ⟨#[]⟩),.lit (.int .i64 0),.lit (.bool false),.lit (.int .i64 0)] H182 fun x183 H184=>bnd (stA 5 H184 x183 x181) fun H185=>bnd (ldA true 5 H185 x183) fun x186=>bnd (au [.int .i64 0,.string ⟨#[]⟩,.int .i64 0,.bool false,.int .i64 0] 5 1 H185 [(0,5,x186)]) fun p187=>bnd (aT false 5 48 p187.2 y p187.1) fun p188=>ah.L0 σ K (.ptr b 0) p188.1 p188.2) (bnd (af .eql (I (cn l a1)) (.lit (.int .i64 64))) fun x189=>ifB x189 (ai Try.prog σ bn [(.ptr b 0),(.lit (.int .i64 1))] H22 fun x190 H191=>ifB x190 (bnd (ar (.ptr b 0)) fun x192=>bnd (ae x192 1) fun x193=>bnd (ldA false 1 H191 x193) fun x194=>bnd (af .add x194 (.lit (.int .i64 1))) fun x195=>bnd (ar (.ptr b 0)) fun x196=>bnd (ae x196 1) fun x197=>bnd (stA 1 H191 x197 x195) fun H198=>ai Try.prog σ aA [(.ptr b 0)] H198 fun x199 H200=>bnd (aY [.lit (.int .i64 0),.lit (.string ⟨#[]⟩),.lit (.int .i64 0),.lit (.bool false),.lit (.int .i64 0)] [(0,1,(.lit (.int .i64 2))),(1,1,x199)]) fun l201=>bnd (au [.int .i64 0,.string ⟨#[]⟩,.int .i64 0,.bool false,.int .i64 0] 5 1 H200 [(0,5,(.agg l201))]) fun p202=>bnd (aT false 5 48 p202.2 y p202.1) fun p203=>ah.L0 σ K (.ptr b 0) p203.1 p203.2) (ifB (Bo (qd l a1)) (ai Try.prog σ aA [(.ptr b 0)] H191 fun x204 H205=>ai Try.prog σ al [(.ptr b 0),(.lit (.int .i64 0))] H205 fun x206 H207=>bnd (af .eql x206 (.lit (.int .i64 40))) fun x208=>ifB x208 (bnd (ar (.ptr b 0)) fun x209=>bnd (ae x209 1) fun x210=>bnd (ldA false 1 H207 x210) fun x211=>bnd (af .add x211 (.lit (.int .i64 1))) fun x212=>bnd (ar (.ptr b 0)) fun x213=>bnd (ae x213 1) fun x214=>bnd (stA 1 H207 x214 x212) fun H215=>bnd (aY [.lit (.int .i64 0),.lit (.string ⟨#[]⟩),.lit (.int .i64 0),.lit (.bool false),.lit (.int .i64 0)] [(0,1,(.lit (.int .i64 20))),(1,1,x204)]) fun l216=>bnd (au [.int .i64 0,.string ⟨#[]⟩,.int .i64 0,.bool false,.int .i64 0] 5 1 H215 [(0,5,(.agg l216))]) fun p217=>bnd (aT false 5 48 p217.2 y p217.1) fun p218=>ah.L0 σ K (.ptr b 0) p218.1 p218.2) (bnd (aY [.lit (.int .i64 0),.lit (.string ⟨#[]⟩),.lit (.int .i64 0),.lit (.bool false),.lit (.int .i64 0)] [(0,1,(.lit (.int .i64 1))),(1,1,x204)]) fun l219=>bnd (au [.int .i64 0,.string ⟨#[]⟩,.int .i64 0,.bool false,.int .i64 0] 5 1 H207 [(0,5,(.agg l219))]) fun p220=>bnd (aT false 5 48 p220.2 y p220.1) fun p221=>ah.L0 σ K (.ptr b 0) p221.1 p221.2)) (ai Try.prog σ aW [(I (cn l a1))] H191 fun x222 H223=>bnd (af .gtr x222 (.lit (.int .i64 0))) fun x224=>ifB x224 (bnd (ar (.ptr b 0)) fun x225=>bnd (ae x225 1) fun x226=>bnd (ldA false 1 H223 x226) fun x227=>bnd (af .add x227 (.lit (.int .i64 1))) fun x228=>bnd (ar (.ptr b 0)) fun x229=>bnd (ae x229 1) fun x230=>bnd (stA 1 H223 x230 x228) fun H231=>ai Try.prog σ aW [(I (cn l a1))] H231 fun x232 H233=>bnd (aY [.lit (.int .i64 0),.lit (.string ⟨#[]⟩),.lit (.int .i64 0),.lit (.bool false),.lit (.int .i64 0)] [(0,1,x232)]) fun l234=>bnd (au [.int .i64 0,.string ⟨#[]⟩,.int .i64 0,.bool false,.int .i64 0] 5 1 H233 [(0,5,(.agg l234))]) fun p235=>bnd (aT false 5 48 p235.2 y p235.1) fun p236=>ah.L0 σ K (.ptr b 0) p236.1 p236.2) (bnd (ar (.ptr b 0)) fun x237=>bnd (ae x237 1) fun x238=>bnd (ldA false 1 H223 x238) fun x239=>bnd (af .add x239 (.lit (.int .i64 1))) fun x240=>bnd (ar (.ptr b 0)) fun x241=>bnd (ae x241 1) fun x242=>bnd (stA 1 H223 x242 x240) fun H243=>bnd (aY [.lit (.int .i64 0),.lit (.string ⟨#[]⟩),.lit (.int .i64 0),.lit (.bool false),.lit (.int .i64 0)] [(0,1,(.lit (.int .i64 10))),(4,1,(I (cn l a1)))]) fun l244=>bnd (au [.int .i64 0,.string ⟨#[]⟩,.int .i64 0,.bool false,.int .i64 0] 5 1 H243 [(0,5,(.agg l244))]) fun p245=>bnd (aT false 5 48 p245.2 y p245.1) fun p246=>ah.L0 σ K (.ptr b 0) p246.1 p246.2)))) (ifB (Bo (qd l a1)) (ai Try.prog σ aA [(.ptr b 0)] H22 fun x247 H248=>ai Try.prog σ al [(.ptr b 0),(.lit (.int .i64 0))] H248 fun x249 H250=>bnd (af .eql x249 (.lit (.int .i64 40))) fun x251=>ifB x251 (bnd (ar (.ptr b 0)) fun x252=>bnd (ae x252 1) fun x253=>bnd (ldA false 1 H250 x253) fun x254=>bnd (af .add x254 (.lit (.int .i64 1))) fun x255=>bnd (ar (.ptr b 0)) fun x256=>bnd (ae x256 1) fun x257=>bnd (stA 1 H250 x257 x255) fun H258=>bnd (aY [.lit (.int .i64 0),.lit (.string ⟨#[]⟩),.lit (.int .i64 0),.lit (.bool false),.lit (.int .i64 0)] [(0,1,(.lit (.int .i64 20))),(1,1,x247)]) fun l259=>bnd (au [.int .i64 0,.string ⟨#[]⟩,.int .i64 0,.bool false,.int .i64 0] 5 1 H258 [(0,5,(.agg l259))]) fun p260=>bnd (aT false 5 48 p260.2 y p260.1) fun p261=>ah.L0 σ K (.ptr b 0) p261.1 p261.2) (bnd (aY [.lit (.int .i64 0),.lit (.string ⟨#[]⟩),.lit (.int .i64 0),.lit (.bool false),.lit (.int .i64 0)] [(0,1,(.lit (.int .i64 1))),(1,1,x247)]) fun l262=>bnd (au [.int .i64 0,.string ⟨#[]⟩,.int .i64 0,.bool false,.int .i64 0] 5 1 H250 [(0,5,(.agg l262))]) fun p263=>bnd (aT false 5 48 p263.2 y p263.1) fun p264=>ah.L0 σ K (.ptr b 0) p264.1 p264.2)) (ai Try.prog σ aW [(I (cn l a1))] H22 fun x265 H266=>bnd (af .gtr x265 (.lit (.int .i64 0))) fun x267=>ifB x267 (bnd (ar (.ptr b 0)) fun x268=>bnd (ae x268 1) fun x269=>bnd (ldA false 1 H266 x269) fun x270=>bnd (af .add x270 (.lit (.int .i64 1))) fun x271=>bnd (ar (.ptr b 0)) fun x272=>bnd (ae x272 1) fun x273=>bnd (stA 1 H266 x273 x271) fun H274=>ai Try.prog σ aW [(I (cn l a1))] H274 fun x275 H276=>bnd (aY [.lit (.int .i64 0),.lit (.string ⟨#[]⟩),.lit (.int .i64 0),.lit (.bool false),.lit (.int .i64 0)] [(0,1,x275)]) fun l277=>bnd (au [.int .i64 0,.string ⟨#[]⟩,.int .i64 0,.bool false,.int .i64 0] 5 1 H276 [(0,5,(.agg l277))]) fun p278=>bnd (aT false 5 48 p278.2 y p278.1) fun p279=>ah.L0 σ K (.ptr b 0) p279.1 p279.2) (bnd (ar (.ptr b 0)) fun x280=>bnd (ae x280 1) fun x281=>bnd (ldA false 1 H266 x281) fun x282=>bnd (af .add x282 (.lit (.int .i64 1))) fun x283=>bnd (ar (.ptr b 0)) fun x284=>bnd (ae x284 1) fun x285=>bnd (stA 1 H266 x285 x283) fun H286=>bnd (aY [.lit (.int .i64 0),.lit (.string ⟨#[]⟩),.lit (.int .i64 0),.lit (.bool false),.lit (.int .i64 0)] [(0,1,(.lit (.int .i64 10))),(4,1,(I (cn l a1)))]) fun l287=>bnd (au [.int .i64 0,.string ⟨#[]⟩,.int .i64 0,.bool false,.int .i64 0] 5 1 H286 [(0,5,(.agg l287))]) fun p288=>bnd (aT false 5 48 p288.2 y p288.1) fun p289=>ah.L0 σ K (.ptr b 0) p289.1 p289.2)))))))):=by
   refine aw (nN _ H1) ?_
   rw [aj]
   split
   ·rename_i hw
    exact L2 _ a1 H1 (Nat.le_refl _) (by omega) hT (.inr ⟨rfl,hw⟩)
   ·rw [bT,aa,aj]
    split
    ·exact Ac hT.rd (hbn hT) hl hlt fun t a2 H2 h2 k2 g2 le2 ht=>alc a2 H2 t (hT.to h2 k2) ht g2 (by omega)
    ·rw [bT,aa,aj]
     split
     ·exact Ac hT.rd (hbn hT) hl hlt fun t a2 H2 h2 k2 g2 le2 ht=>alc a2 H2 t (hT.to h2 k2) ht g2 (by omega)
     ·rw [bT,aa,aj]
      split
      ·refine b_ 1 rfl hT.rd (by omega) (aw (mW _ H1) ?_)
       rw [aj]
       split
       ·exact kJ 1 rfl hT.rd (by omega) fun H2 h2 k2 _=>hsh H2 h2 k2
       ·refine lf 1 rfl hT.rd (by omega) ?_
        rw [aj]
        split
        ·exact kJ 1 rfl hT.rd (by omega) fun H2 h2 k2 _=>hsh H2 h2 k2
        ·exact AN
      ·exact AN
  have L1:∀ (f a2:Nat) (H2:Hp),l.length+3 - a2≤f→a2≤l.length→TkS b l H0 a2 y ts H2→a1<a2→ah.L1 σ K (.ptr b 0) y H2:=by
   intro f2
   induction f2 with
   | zero=>intro a2 H2 hf2 h1 h2 h3; omega
   | succ f2 ih2 =>
    intro a2 H2 hf2 h1 h2 h3
    have sb2:=fh l a2
    have st1:a2<l.length→bnd (ar (.ptr b 0)) fun x7=>bnd (ae x7 1) fun x8=>bnd (ldA false 1 H2 x8) fun x9=>bnd (af .add x9 (.lit (.int .i64 1))) fun x10=>bnd (ar (.ptr b 0)) fun x11=>bnd (ae x11 1) fun x12=>bnd (stA 1 H2 x12 x10) fun H13=>ah.L1 σ K (.ptr b 0) y H13:=fun hlt2 =>
     kJ 1 rfl h2.rd (by omega) fun H3 h4 k4 _=>ih2 (a2+1) H3 (by omega) (by omega) (h2.to h4 k4) (by omega)
    refine ah.L1_step ?_
    refine b_ 0 rfl h2.rd (by omega) ?_
    rw [iR,aa,aj,Nat.add_zero]
    split
    ·rename_i hc
     have hlt2:=sb2.2.1 (of_decide_eq_true hc)
     refine b_ 0 rfl h2.rd (by omega) ?_
     rw [jC,aa,aj]
     split
     ·exact st1 hlt2
     ·refine b_ 1 rfl h2.rd (by omega) ?_
      rw [jC,aa,aj]
      split
      ·exact st1 hlt2
      ·exact kJ 2 rfl h2.rd (by omega) fun H3 h4 k4 _=>nxt (a2+2) H3 (h2.to h4 k4) (by omega) (by omega)
    ·exact kJ 2 rfl h2.rd (by omega) fun H3 h4 k4 _=>nxt (a2+2) H3 (h2.to h4 k4) (by omega) (by omega)
  refine b_ 0 rfl hT.rd (by omega) ?_
  refine wO hT.rd (by omega) ?_
  refine na 0 rfl hT.rd (by omega) ?_
  rw [bT,aa,aj,Nat.add_zero]
  split
  ·refine b_ 1 rfl hT.rd (by omega) ?_
   rw [bT,aa,aj]
   split
   ·rename_i h42
    have h42:=of_decide_eq_true h42
    have:=sb1.2.1 (by omega)
    exact kJ 2 rfl hT.rd (by omega) fun H2 h2 k2 _=>L1 _ (a1+2) H2 (Nat.le_refl _) (by omega) (hT.to h2 k2) (by omega)
   ·exact W
  ·exact W
end
def kj (l:List Tn):AV:=.imm 5 (l.map bD)
theorem xn (l:List Int) (hl:l.length≤200):∃ ts:List Tn,ts.length≤l.length+2∧(∀ t ∈ ts,g_ t)∧∀ H,aH Try.prog σ fu [zs l] H (kj ts) H:=by
 obtain ⟨Q,hQ⟩:∃ Q:AV→Hp→Prop,∀ r H1,Q r H1 ↔ ∃ ts:List Tn,ts.length≤l.length+2∧(∀ t ∈ ts,g_ t)∧Gs 5 H1 r (ts.map bD):=⟨_,fun _ _=>Iff.rfl⟩
 have run:∃ r H1,aH Try.prog σ fu [zs l] Hp.empty r H1∧Q r H1:=by
  refine ah.run ?_
  have eb:aY [.lit (.slice none 0 0),.lit (.int .i64 0)] [(0,1,zs l)]=some [zs l,I ((0:Nat):Int)]:=rfl
  rw [eb,aa,iM]
  refine xt (H0:=Hp.empty.new (.cells [zs l,I ((0:Nat):Int)] true)) (by simp) hl (fun y ts a H' hT h1 h2=>(hQ _ _).2 ⟨ts,h1,h2,hT.gs⟩) _ 0 _ _ [] (Nat.le_refl _) (by omega) ⟨?_,.refl,.nil,fun j hj=>hj.elim,fun j hj=>hj.elim⟩ (by simp) (fun t ht=>by cases ht)
  unfold Rd
  rw [az,if_pos rfl]
 obtain ⟨r,H1,hg,hq⟩:=run
 obtain ⟨ts,h1,h2,h3⟩:=(hQ _ _).1 hq
 exact ⟨ts,h1,h2,fun H=>hg.frzR (by simp [aU,Ei]) (h3.fz (a_ _ (fun _=>rfl) _)) H⟩
end Go.Proofs.Ythmaggcfghjmfaa.Ev
namespace Go.Proofs.Ythmaggcfghjmfaa.Ev
set_option linter.unusedVariables false
set_option linter.unusedSimpArgs false
set_option maxRecDepth 100000
variable {σ:Sig}
theorem Ju {bs:List UInt8} {i:Nat} (h:i≤bs.length):t0 1 (.imm 1 (B8 bs)) (some (I (i:Int))) none none=some (.imm 1 (B8 (bs.drop i))):=by
 have h1:(i:Int)≤(bs.length:Int):=by omega
 have e:((B8 bs).drop i).take ((B8 bs).length - i)=B8 (bs.drop i):=by
  rw [List.take_of_length_le (by rw [List.length_drop]; exact Nat.le_refl _)]
  unfold B8
  rw [List.map_drop]
 rw [hO] at e
 simp [t0,nE,jx,wd,cL,eM,jn,hO,h1,h,e]
theorem Jp (c:UInt8):d4 .i64 (dh c)=some (I (c.toNat:Int)):=by
 show some (AV.lit (.int .i64 (wr .i64 (c.toNat:Int))))=_
 have:=c.toNat_lt
 rw [fe (by omega) (by omega)]
section
attribute [local irreducible] br.J0 br.L1
theorem BG {bs:List UInt8} (h0:bs≠[]) (hl:bs.length≤1000000) {H:Hp} {K:AV→Hp→Prop} (hK:∀ (c:Int) (n:Nat),1≤n→n≤bs.length→K (.tup [I c,I (n:Int)]) H):ai Try.prog σ il [.imm 1 (B8 bs)] H K:=by
 have hlen:1≤bs.length:=by
  cases bs with
  | nil=>exact absurd rfl h0
  | cons _ _=>simp
 have an:∀ v w:Int,∃ z,af .and (I v) (I w)=some (I z):=fun v w=>⟨_,by simp [af,lit?,eF]; rfl⟩
 have ix:∀ i:Nat,i<bs.length→∃ c:UInt8,aQ 1 (.imm 1 (B8 bs)) (I (i:Int))=some (.ip [dh c]):=fun i hi=>by
  obtain ⟨c,hc⟩:=cb hi
  exact ⟨c,cd hc⟩
 have l8:∀ (c:UInt8) (H:Hp),ldA false 1 H (.ip [dh c])=some (dh c):=fun _ _=>rfl
 have one:∀ c:Int,K (.tup [I c,I 1]) H:=fun c=>hK c 1 (by omega) hlen
 have lb:a8 (.imm 1 (B8 bs))=some (I (bs.length:Int)):=by rw [fR,hO]
 refine br.run ?_
 have L1:∀ (f n i:Nat) (lo v:Int),n - i=f→i≤n→1≤n→n≤bs.length→br.L1 σ K (.imm 1 (B8 bs)) (I (n:Int)) (I lo) (I v) (I (i:Int)) H:=by
  intro f
  induction f with
  | zero =>
   intro n i lo v hf hi h1 hn
   have:¬ ((i:Int)<(n:Int)):=by omega
   refine br.L1_step ?_
   simp only [b8,aa,this,decide_false,aj,Bool.false_eq_true,if_false]
   split
   ·exact one _
   ·refine aw (mS v H) ?_
    rw [ep,aa,aj]
    split
    ·exact one _
    ·exact hK v n h1 hn
  | succ f ih =>
   intro n i lo v hf hi h1 hn
   have hlt:(i:Int)<(n:Int):=by omega
   obtain ⟨c,hc⟩:=ix i (by omega)
   obtain ⟨z,hz⟩:=an (c.toNat:Int) 63
   refine br.L1_step ?_
   simp only [b8,eT,pG,co,aa,hlt,decide_true,aj,if_true,hc,l8,Jp,hz]
   split
   ·exact one _
   ·split
    ·exact one _
    ·rw [bW (by omega)]
     exact ih n (i+1) lo _ (by omega) (by omega) h1 hn
 have J0:∀ (n:Nat) (lo v:Int) (y8:AV),1≤n→br.J0 σ K (.imm 1 (B8 bs)) (I (n:Int)) (I lo) (I v) y8 H:=by
  intro n lo v y8 h1
  refine br.J0_step ?_
  simp only [lb,aa,b8,aj,decide_eq_true_eq]
  split
  ·exact one _
  ·exact L1 _ n 1 lo v rfl h1 h1 (by omega)
 obtain ⟨c,hc⟩:=ix 0 (by omega)
 have hc:aQ 1 (.imm 1 (B8 bs)) (I 0)=some (.ip [dh c]):=hc
 obtain ⟨z31,h31⟩:=an (c.toNat:Int) 31
 obtain ⟨z15,h15⟩:=an (c.toNat:Int) 15
 obtain ⟨z7,h7⟩:=an (c.toNat:Int) 7
 have j2:=J0 2 128 z31 (.lit undef) (by omega)
 have j3:=J0 3 2048 z15 (.lit undef) (by omega)
 have j4:=J0 4 65536 z7 (.lit undef) (by omega)
 simp only [hc,aa,l8,Jp,b8,iR,aj,h31,h15,h7]
 repeat' split
 all_goals first | exact one _ | exact j2 | exact j3 | exact j4
end
section
attribute [local irreducible] cI.L0
theorem wG (bs:List UInt8) (hl:bs.length≤100000):∃ l:List Int,l.length≤bs.length∧∀ H,aH Try.prog σ fq [.imm 1 (B8 bs)] H (zs l) H:=by
 obtain ⟨Q,hQ⟩:∃ Q:AV→Hp→Prop,∀ r H1,Q r H1 ↔ ∃ l:List Int,l.length≤bs.length∧Gs 1 H1 r (l.map zrw):=⟨_,fun _ _=>Iff.rfl⟩
 have lb:a8 (.imm 1 (B8 bs))=some (I (bs.length:Int)):=by rw [fR,hO]
 have ex:∀ x y:AV,exR (.tup [x,y]) 0=some x∧exR (.tup [x,y]) 1=some y:=fun _ _=>⟨rfl,rfl⟩
 have run:∃ r H1,aH Try.prog σ fq [.imm 1 (B8 bs)] Hp.empty r H1∧Q r H1:=by
  refine cI.run ?_
  have L0:∀ (f i:Nat) (H1:Hp) (y:AV) (l:List Int),bs.length+1 - i≤f→i≤bs.length→l.length≤i→Gs 1 H1 y (l.map zrw)→cI.L0 σ Q (.imm 1 (B8 bs)) y (I (i:Int)) H1:=by
   intro f
   induction f with
   | zero=>intro i H1 y l hf hi hll hg; omega
   | succ f ih =>
    intro i H1 y l hf hi hll hg
    refine cI.L0_step ?_
    simp only [lb,aa,b8,aj,decide_eq_true_eq]
    split
    ·rename_i hlt
     rw [Ju hi,aa]
     refine BG (fun h=>by have:=congrArg List.length h; simp at this; omega) (by rw [List.length_drop]; omega) fun c n h1 h2=>?_
     rw [List.length_drop] at h2
     rw [(ex _ _).1,aa,(ex _ _).2,aa]
     refine fk (y:=I c) hg rfl rfl rfl (by rw [List.length_map]; omega) (by rw [List.length_map]; omega) fun x' H' g' fr=>?_
     have e:wr .i64 ((i:Int)+(n:Int))=((i+n:Nat):Int):=by rw [fe (by omega) (by omega)]; omega
     rw [co,aa,e]
     exact ih (i+n) H' x' (l++[c]) (by omega) (by omega) (by simp; omega) (by rw [List.map_append]; exact g')
    ·exact (hQ _ _).2 ⟨l,by omega,hg⟩
  exact L0 _ 0 Hp.empty _ [] (Nat.le_refl _) (Nat.zero_le _) (by simp) .nil
 obtain ⟨r,H1,hg,hq⟩:=run
 obtain ⟨l,h1,h2⟩:=(hQ _ _).1 hq
 exact ⟨l,h1,fun H=>hg.frzR (by simp only [aU,bQ,Bool.and_true]; exact a_ _ (fun _=>rfl) _) (h2.fz (a_ _ (fun _=>rfl) _)) H⟩
end
section
attribute [local irreducible] aJ.L0 aJ.J1
theorem un (bs:List UInt8) (hl:bs.length≤100000):∃ l:List Int,l.length≤bs.length∧∀ H,aH Try.prog σ eS [.imm 1 (B8 bs)] H (zs l) H:=by
 obtain ⟨p,hp,hpg⟩:=wG (σ:=σ) bs hl
 obtain ⟨Q,hQ⟩:∃ Q:AV→Hp→Prop,∀ r H1,Q r H1 ↔ ∃ l:List Int,l.length≤bs.length∧Gs 1 H1 r (l.map zrw):=⟨_,fun _ _=>Iff.rfl⟩
 have run:∃ r H1,aH Try.prog σ eS [.imm 1 (B8 bs)] Hp.empty r H1∧Q r H1:=by
  refine aJ.run (aw (hpg _) ?_)
  have L0:∀ (f i:Nat) (H1:Hp) (y:AV) (l:List Int),p.length+1 - i≤f→i≤p.length→l.length≤i→Gs 1 H1 y (l.map zrw)→aJ.L0 σ Q (zs p) y (I (i:Int)) H1:=by
   intro f
   induction f with
   | zero=>intro i H1 y l hf hi hll hg; omega
   | succ f ih =>
    intro i H1 y l hf hi hll hg
    refine aJ.L0_step ?_
    simp only [sa,aa,b8,aj,decide_eq_true_eq]
    split
    ·rename_i hlt
     have J1:∀ (H2:Hp) (y2:AV) (l2:List Int),l2.length≤i+1→Gs 1 H2 y2 (l2.map zrw)→aJ.J1 σ Q (zs p) y2 (I (i:Int)) H2:=by
      intro H2 y2 l2 h1 h2
      refine aJ.J1_step ?_
      rw [co,aa,bW (by omega)]
      exact ih (i+1) H2 y2 l2 (by omega) (by omega) h1 h2
     have app:∀ v:Int,bnd (au [.int .i64 0] 1 1 H1 [(0,1,I v)]) fun q=>bnd (aT false 1 8 q.2 y q.1) fun q2=>aJ.J1 σ Q (zs p) q2.1 (I (i:Int)) q2.2:=by
      intro v
      refine fk (y:=I v) hg rfl rfl rfl (by rw [List.length_map]; omega) (by rw [List.length_map]; omega) fun x' H' g' fr=>?_
      exact J1 H' x' (l++[v]) (by simp; omega) (by rw [List.map_append]; exact g')
     have skip:=J1 H1 y l (by omega) hg
     obtain ⟨c,hc⟩:=cb (show i<p.length by omega)
     have hix:aQ 1 (zs p) (I (i:Int))=some (.ip (zrw c)):=cd hc
     have lc:∀ (c:Int) (H:Hp),ldA false 1 H (.ip (zrw c))=some (I c):=fun _ _=>rfl
     have e1:wr .i64 ((i:Int)+1)=((i+1:Nat):Int):=bW (by omega)
     by_cases h1:i+1<p.length
     ·obtain ⟨c1,hc1⟩:=cb h1
      have hix1:aQ 1 (zs p) (I ((i+1:Nat):Int))=some (.ip (zrw c1)):=cd hc1
      simp only [hix,hix1,lc,aa,bT,co,b8,sa,aj,e1]
      repeat' split
      all_goals first | exact skip | exact app _
     ·have h1':¬ (((i+1:Nat):Int)<(p.length:Int)):=by omega
      simp only [hix,lc,aa,bT,co,b8,sa,aj,e1,h1',decide_false,Bool.false_eq_true,if_false]
      repeat' split
      all_goals first | exact skip | exact app _
    ·exact (hQ _ _).2 ⟨l,by omega,hg⟩
  exact L0 _ 0 Hp.empty _ [] (Nat.le_refl _) (Nat.zero_le _) (by simp) .nil
 obtain ⟨r,H1,hg,hq⟩:=run
 obtain ⟨l,h1,h2⟩:=(hQ _ _).1 hq
 exact ⟨l,h1,fun H=>hg.frzR (by simp only [aU,bQ,Bool.and_true]; exact a_ _ (fun _=>rfl) _) (h2.fz (a_ _ (fun _=>rfl) _)) H⟩
end
end Go.Proofs.Ythmaggcfghjmfaa.Ev
namespace Go.Proofs.Ythmaggcfghjmfaa.Ev
set_option linter.unusedVariables false
set_option linter.unusedSimpArgs false
variable {σ:Sig}
def Hp.lo (H:Hp):Nat→Hp
 | 0=>H
 | n+1=>(H.lo n).set n none
theorem C1 (H:Hp):∀ n,(H.lo n).n=H.n
 | 0=>rfl
 | n+1=>C1 H n
theorem sd (H:Hp) (j:Nat):∀ n,(H.lo n).get j=if j<n then none else H.get j
 | 0=>by rw [if_neg (by omega)]; rfl
 | n+1=>by
  show ((H.lo n).set n none).get j=_
  rw [ax,sd H j n]
  by_cases h:j=n
  ·rw [if_pos h,if_pos (by omega)]
  ·rw [if_neg h]
   by_cases h2:j<n
   ·rw [if_pos h2,if_pos (by omega)]
   ·rw [if_neg h2,if_neg (by omega)]
def Hp.reN (H:Hp) (n:Nat):Hp:=⟨n,H.t⟩
theorem vz (H:Hp) (n j:Nat):(H.reN n).get j=H.get j:=rfl
theorem xu {P:Program} {f b:Nat} {xs:List AV} {H:Hp} (ok:∀ j,H.n≤j→H.get j=none) (hb:b<H.n) {K:AV→Hp→Prop}
  (h:ai P σ f xs H fun r H1=>∃ r',Kpb b H H1∧FzE (H1.lo H.n) r r'∧K r' ((H.set b (H1.get b)).reN H1.n)):ai P σ f xs H K:=by
 obtain ⟨r,H1,hg,r',kp,hr,hk⟩:=h
 have g2:∀ j,((H.set b (H1.get b)).reN H1.n).get j=if j=b then H1.get b else H.get j:=fun j=>by rw [vz,ax]
 refine ⟨r',_,hg.frzH (H2:=(H.set b (H1.get b)).reN H1.n) (Hd:=H1.lo H.n) rfl (C1 _ _) (fun id k hk=>?_) (fun id k2 hk=>?_) hr,hk⟩
 ·rw [sd] at hk
  split at hk
  ·cases hk
  ·refine ⟨hk,?_⟩
   rw [g2,if_neg (by omega)]
   exact ok id (by omega)
 ·rw [g2] at hk
  split at hk
  ·rename_i e
   exact ⟨k2,by rw [e]; exact hk,.refl _ k2⟩
  ·rename_i e
   have hlt:id<H.n:=by
    rcases Nat.lt_or_ge id H.n with h | h
    ·exact h
    ·rw [ok id h] at hk; cases hk
   exact ⟨k2,by rw [kp.g id hlt e]; exact hk,.refl _ k2⟩
theorem Gs.lo {sz:Nat} {H:Hp} {x:AV} {rows:List (List AV)} (h:Gs sz H x rows) {n:Nat} (ho:∀ j,own x j→n≤j) (hn:dS rows=true):Fz (H.lo n) x (.imm sz rows) :=
 (h.keep (H':=H.lo n) (fun j hj=>by rw [sd,if_neg (by have:=ho j hj; omega)]) (by rw [C1]; exact Nat.le_refl _)).fz hn
structure PkS (b:Nat) (ts:List Tn) (a:Nat) (bad:Bool) (dp:Int) (H:Hp):Prop where
 g:H.get b=some (.cells [kj ts,I (a:Int),Bo bad,I dp] true)
 ok:∀ j,H.n≤j→H.get j=none
 lt:b<H.n
structure Wb (b:Nat) (H H':Hp):Prop where
 n:H.n≤H'.n
 g:∀ j,j≠b→H'.get j=H.get j
theorem Wb.refl {b:Nat} {H:Hp}:Wb b H H:=⟨Nat.le_refl _,fun _ _=>rfl⟩
theorem Wb.trans {b:Nat} {H H1 H2:Hp} (h:Wb b H H1) (h':Wb b H1 H2):Wb b H H2:=⟨Nat.le_trans h.n h'.n,fun j hj=>(h'.g j hj).trans (h.g j hj)⟩
theorem Wb.kp {b:Nat} {H H':Hp} (h:Wb b H H'):Kpb b H H':=⟨h.n,fun j _ hj=>h.g j hj⟩
theorem PkS.l0 {b a:Nat} {ts:List Tn} {bad:Bool} {dp:Int} {H:Hp} (s:PkS b ts a bad dp H):ldA false 1 H (.ptr b (0+0))=some (kj ts):=by rw [bA,s.g]; rfl
theorem PkS.l1 {b a:Nat} {ts:List Tn} {bad:Bool} {dp:Int} {H:Hp} (s:PkS b ts a bad dp H):ldA false 1 H (.ptr b (0+1))=some (I (a:Int)):=by rw [bA,s.g]; rfl
theorem PkS.l2 {b a:Nat} {ts:List Tn} {bad:Bool} {dp:Int} {H:Hp} (s:PkS b ts a bad dp H):ldA false 1 H (.ptr b (0+2))=some (Bo bad):=by rw [bA,s.g]; rfl
theorem PkS.l3 {b a:Nat} {ts:List Tn} {bad:Bool} {dp:Int} {H:Hp} (s:PkS b ts a bad dp H):ldA false 1 H (.ptr b (0+3))=some (I dp):=by rw [bA,s.g]; rfl
theorem pe (ts:List Tn):a8 (kj ts)=some (I (ts.length:Int)):=by simp [kj]
theorem wH (ts:List Tn):bQ (kj ts)=true:=by unfold kj; simp only [bQ]; exact a_ _ (fun _=>rfl) ts
def d6 (b:Nat) (ts:List Tn) (H0:Hp) (K:AV→Hp→Prop) (r:AV) (H1:Hp):Prop:=∃ r' a' bad' dp',H1.get b=some (.cells [kj ts,I ((a':Nat):Int),Bo bad',I dp'] true)∧Kpb b H0 H1∧FzE (H1.lo H0.n) r r'∧∀ H',PkS b ts a' bad' dp' H'→Wb b H0 H'→K r' H'
theorem gV {f b a:Nat} {xs:List AV} {ts:List Tn} {bad:Bool} {dp:Int} {H:Hp} {K:AV→Hp→Prop} (s:PkS b ts a bad dp H)
  (h:ai Try.prog σ f xs H (d6 b ts H K)):ai Try.prog σ f xs H K:=by
 refine xu s.ok s.lt ?_
 obtain ⟨r,H1,hg,r',a',bad',dp',g1,kp,hr,hk⟩:=h
 have g2:∀ j,((H.set b (H1.get b)).reN H1.n).get j=if j=b then H1.get b else H.get j:=fun j=>by rw [vz,ax]
 refine ⟨r,H1,hg,r',kp,hr,hk _ ⟨?_,fun j hj=>?_,?_⟩ ⟨kp.n,fun j hj=>by rw [g2,if_neg hj]⟩⟩
 ·rw [g2,if_pos rfl]; exact g1
 ·have hj':H1.n≤j:=hj
  have:=kp.n
  have:=s.lt
  rw [g2,if_neg (by omega)]
  exact s.ok j (by omega)
 ·have:=kp.n
  have:=s.lt
  show b<H1.n
  omega
structure PL (b:Nat) (ts:List Tn) (H0:Hp) (a:Nat) (bad:Bool) (dp:Int) (H:Hp):Prop where
 s:PkS b ts a bad dp H
 k:Kpb b H0 H
theorem PkS.pl {b a:Nat} {ts:List Tn} {bad:Bool} {dp:Int} {H:Hp} (s:PkS b ts a bad dp H):PL b ts H a bad dp H:=⟨s,.refl⟩
theorem PL.to {b a a':Nat} {ts:List Tn} {bad bad':Bool} {dp dp':Int} {H0 H H':Hp} (p:PL b ts H0 a bad dp H) (s:PkS b ts a' bad' dp' H') (w:Wb b H H'):PL b ts H0 a' bad' dp' H':=⟨s,p.k.trans w.kp⟩
theorem PL.new {b a:Nat} {ts:List Tn} {bad:Bool} {dp:Int} {H0 H:Hp} (p:PL b ts H0 a bad dp H) (k:Blk):PL b ts H0 a bad dp (H.new k):=by
 have h1:=p.s.lt
 refine ⟨⟨by rw [az,if_neg (by omega)]; exact p.s.g,fun j hj=>?_,by simp; omega⟩,⟨by have:=p.k.n; simp; omega,fun j hj hjb=>by have:=p.k.n; rw [az,if_neg (by omega)]; exact p.k.g j hj hjb⟩⟩
 simp at hj
 rw [az,if_neg (by omega)]
 exact p.s.ok j (by omega)
theorem PL.set {b a i:Nat} {ts:List Tn} {bad:Bool} {dp:Int} {H0 H:Hp} (p:PL b ts H0 a bad dp H) (k:Blk) (h1:H0.n≤i) (h2:i<H.n) (h3:i≠b):PL b ts H0 a bad dp (H.set i (some k)):=by
 refine ⟨⟨by rw [ax,if_neg (Ne.symm h3)]; exact p.s.g,fun j hj=>?_,by simpa using p.s.lt⟩,⟨by simpa using p.k.n,fun j hj hjb=>by rw [ax,if_neg (by omega)]; exact p.k.g j hj hjb⟩⟩
 simp at hj
 rw [ax,if_neg (by omega)]
 exact p.s.ok j hj
theorem PL.fin {b a:Nat} {ts:List Tn} {bad:Bool} {dp:Int} {H0 H:Hp} {r r':AV} {K:AV→Hp→Prop} (p:PL b ts H0 a bad dp H) (hr:FzE (H.lo H0.n) r r') (hK:∀ H',PkS b ts a bad dp H'→Wb b H0 H'→K r' H') :
  d6 b ts H0 K r H :=
 ⟨r',a,bad,dp,p.s.g,p.k,hr,hK⟩
theorem kg {b a:Nat} {ts:List Tn} {bad:Bool} {dp:Int} {H:Hp} {K:Hp→Prop} {k:Int} (m:Nat) (hk:k=(m:Int)) (s:PkS b ts a bad dp H) (hm:a+m<4000000000) (hK:∀ H',PkS b ts (a+m) bad dp H'→Wb b H H'→H'.n=H.n→K H') :
  bnd (ar (.ptr b 0)) fun x1=>bnd (ae x1 1) fun x2=>bnd (ldA false 1 H x2) fun x3=>bnd (af .add x3 (I k)) fun x4=>bnd (ar (.ptr b 0)) fun x5=>bnd (ae x5 1) fun x6=>bnd (stA 1 H x6 x4) K:=by
 subst hk
 have e:wr .i64 ((a:Int)+(m:Int))=((a+m:Nat):Int):=by rw [fe (by omega) (by omega)]; omega
 have st:stA 1 H (.ptr b (0+1)) (I ((a+m:Nat):Int))=some (H.set b (some (.cells [kj ts,I ((a+m:Nat):Int),Bo bad,I dp] true))):=fS s.g rfl rfl rfl (by simp)
 simp only [fw,bx,aa,s.l1,co,e,st]
 exact hK _ ⟨by rw [ax,if_pos rfl],fun j hj=>by have:=s.lt; simp at hj; rw [ax,if_neg (by omega)]; exact s.ok j hj,by simpa using s.lt⟩ ⟨by simp,fun j hj=>by rw [ax,if_neg hj]⟩ (by simp)
theorem ot {b a:Nat} {ts:List Tn} {bad:Bool} {dp:Int} {H:Hp} {K:Hp→Prop} (w:Bool) (s:PkS b ts a bad dp H) (hK:∀ H',PkS b ts a w dp H'→Wb b H H'→H'.n=H.n→K H') :
  bnd (ar (.ptr b 0)) fun x1=>bnd (ae x1 2) fun x2=>bnd (stA 1 H x2 (Bo w)) K:=by
 have st:stA 1 H (.ptr b (0+2)) (Bo w)=some (H.set b (some (.cells [kj ts,I (a:Int),Bo w,I dp] true))):=fS s.g rfl rfl rfl (by simp)
 simp only [fw,bx,aa,st]
 exact hK _ ⟨by rw [ax,if_pos rfl],fun j hj=>by have:=s.lt; simp at hj; rw [ax,if_neg (by omega)]; exact s.ok j hj,by simpa using s.lt⟩ ⟨by simp,fun j hj=>by rw [ax,if_neg hj]⟩ (by simp)
def tn0:Tn:=⟨0,⟨#[]⟩,0,false,0⟩
def fZ (ts:List Tn) (i:Nat):Tn:=match ts[i]? with
 | none=>tn0
 | some t=>t
theorem fV {ts:List Tn} {i:Nat} (h:(fZ ts i).kind≠0):i<ts.length:=by
 unfold fZ at h
 split at h
 ·exact absurd rfl h
 ·rename_i t ht
  exact (List.getElem?_eq_some_iff.1 ht).1
theorem l_ {ts:List Tn} (h:∀ t ∈ ts,g_ t) (i:Nat):g_ (fZ ts i):=by
 unfold fZ
 split
 ·exact ⟨by decide,by decide⟩
 ·rename_i t ht
  exact h t (List.mem_of_getElem? ht)
theorem ij (t:Tn):dm false 0 1 (.agg (bD t))=some (I t.kind):=rfl
theorem qc (t:Tn):dm false 1 1 (.agg (bD t))=some (Sx t.text):=rfl
theorem p_c (t:Tn):dm false 4 1 (.agg (bD t))=some (I t.c):=rfl
theorem jt {b a:Nat} {ts:List Tn} {bad:Bool} {dp:Int} {H:Hp} {K:AV→Hp→Prop} {k:Int} (n:Nat) (hk:k=(n:Int)) (s:PkS b ts a bad dp H) (hn:a+n<4000000000) (hK:∀ H',PkS b ts a bad dp H'→Wb b H H'→K (.agg (bD (fZ ts (a+n)))) H') :
  ai Try.prog σ aI [.ptr b 0,I k] H K:=by
 subst hk
 refine gV s ?_
 refine gZ.run ?_
 rw [bl]
 have p:=s.pl.new (.cells zTn true)
 have e0:(Blk.cells [I 0,.lit (.string ⟨#[]⟩),I 0,.lit (.bool false),I 0] true)=.cells zTn true:=rfl
 rw [e0]
 have gr:(H.new (.cells zTn true)).get H.n=some (.cells zTn true):=by rw [az,if_pos rfl]
 have nn:(H.new (.cells zTn true)).n=H.n+1:=rfl
 generalize H.new (.cells zTn true)=H2 at p gr nn ⊢
 have e:wr .i64 ((a:Int)+(n:Int))=((a+n:Nat):Int):=by rw [fe (by omega) (by omega)]; omega
 have hlt:=s.lt
 have done:∀ t:Tn,t=fZ ts (a+n)→bnd (stA 5 H2 (.ptr H.n 0) (.agg (bD t))) fun H13=>bnd (ldA true 5 H13 (.ptr H.n 0)) fun r14=>d6 b ts H K r14 H13:=by
  intro t ht
  have st:stA 5 H2 (.ptr H.n 0) (.agg (bD t))=some (H2.set H.n (some (.cells (bD t) true))):=by
   rw [fC,gr,if_pos (show (bD t).length=5 from rfl),cp,if_pos ⟨by show 0+5≤5; omega,rfl⟩,aS (by rfl)]
  have l2:ldA true 5 (H2.set H.n (some (.cells (bD t) true))) (.ptr H.n 0)=some (.agg (bD t)):=by
   rw [bA,ax,if_pos rfl,bK,List.drop_zero,cB (show (bD t).length=5 from rfl)]
  rw [st,aa,l2,aa]
  exact (p.set (.cells (bD t) true) (Nat.le_refl _) (by omega) (by omega)).fin (.inl rfl) fun H' s' w=>by rw [ht]; exact hK H' s' w
 simp only [fw,bx,aa,p.s.l0,p.s.l1,co,e,pe,iR,aj,decide_eq_true_eq]
 by_cases hi:(ts.length:Int)≤((a+n:Nat):Int)
 ·rw [if_pos hi]
  have eb:aY [I 0,.lit (.string ⟨#[]⟩),I 0,.lit (.bool false),I 0] []=some (bD tn0):=rfl
  rw [eb,aa]
  exact done tn0 (by unfold fZ; rw [List.getElem?_eq_none (by omega)])
 ·rw [if_neg hi]
  obtain ⟨t,ht⟩:=cb (show a+n<ts.length by omega)
  have hix:aQ 5 (kj ts) (I ((a+n:Nat):Int))=some (.ip (bD t)):=cd ht
  have lt:ldA true 5 H2 (.ip (bD t))=some (.agg (bD t)):=rfl
  rw [hix,aa,lt,aa]
  exact done t (by unfold fZ; rw [ht])
theorem FE {b a:Nat} {ts:List Tn} {bad:Bool} {dp:Int} {H:Hp} {K:AV→Hp→Prop} (s:PkS b ts a bad dp H) (hK:K (Bo (decide ((ts.length:Int)≤(a:Int)))) H):ai Try.prog σ dL [.ptr b 0] H K:=by
 refine gI.run ?_
 simp only [fw,bx,aa,s.l0,s.l1,pe,iR]
 exact hK
theorem nM {b a:Nat} {ts:List Tn} {bad:Bool} {dp:Int} {H:Hp} {K:AV→Hp→Prop} {k c:Int} (n:Nat) (hk:k=(n:Int)) (s:PkS b ts a bad dp H) (hn:a+n<4000000000) (hK:∀ (w:Bool) (H':Hp),PkS b ts a bad dp H'→Wb b H H'→(w=true→a+n<ts.length)→K (Bo w) H') :
  ai Try.prog σ bJ [.ptr b 0,I k,I c] H K:=by
 refine gj.run ?_
 refine jt n hk s hn fun H1 s1 w1=>?_
 rw [ij,aa,bT,aa,aj]
 split
 ·rename_i h
  have h:=of_decide_eq_true h
  have hlt:a+n<ts.length:=fV (by omega)
  refine jt n hk s1 hn fun H2 s2 w2=>?_
  rw [p_c,aa,bT,aa]
  exact hK _ H2 s2 (w1.trans w2) fun _=>hlt
 ·exact hK _ H1 s1 w1 fun h=>by cases h
section
attribute [local irreducible] bC.L0
theorem jY {b a:Nat} {ts:List Tn} {bad:Bool} {dp:Int} {H:Hp} {K:AV→Hp→Prop} (s:PkS b ts a bad dp H) (hl:ts.length≤1000000) (ha:a≤1000000) (hK:∀ (w:Bool) (a':Nat) (H':Hp),PkS b ts a' bad dp H'→Wb b H H'→a≤a'→(a'≤ts.length∨a'=a)→K (Bo w) H') :
  ai Try.prog σ bj [.ptr b 0] H K:=by
 refine bC.run ?_
 have L0:∀ (f a1:Nat) (H1:Hp),1000001 - a1=f→a1≤1000000→PkS b ts a1 bad dp H1→Wb b H H1→a≤a1→(a1≤ts.length∨a1=a)→bC.L0 σ K (.ptr b 0) (I (a:Int)) H1:=by
  intro f
  induction f with
  | zero=>intro a1 H1 hf h1 s1 w1 h2 h3; omega
  | succ f ih =>
   intro a1 H1 hf h1 s1 w1 h2 h3
   refine bC.L0_step ?_
   refine jt 0 rfl s1 (by omega) fun H2 s2 w2=>?_
   rw [ij,aa,bT,aa,aj]
   split
   ·rename_i h
    have h:=of_decide_eq_true h
    have hlt:a1+0<ts.length:=fV (by omega)
    exact kg 1 rfl s2 (by omega) fun H3 s3 w3 _=>ih (a1+1) H3 (by omega) (by omega) s3 ((w1.trans w2).trans w3) (by omega) (by omega)
   ·simp only [fw,bx,aa,s2.l1,eT]
    exact hK _ a1 H2 s2 (w1.trans w2) h2 h3
 simp only [fw,bx,aa,s.l1]
 exact L0 _ a H rfl ha s .refl (Nat.le_refl _) (.inr rfl)
end
theorem JN {b a:Nat} {ts:List Tn} {bad:Bool} {dp:Int} {H:Hp} {K:AV→Hp→Prop} (s:PkS b ts a bad dp H) (hn:a<3000000000) (hK:∀ (w:Bool) (H':Hp),PkS b ts a bad dp H'→Wb b H H'→K (Bo w) H'):ai Try.prog σ er [.ptr b 0] H K:=by
 refine gz.run ?_
 refine jt 0 rfl s (by omega) fun H1 s1 w1=>?_
 rw [ij,aa]
 refine FE s1 ?_
 rw [aj]
 split
 ·exact hK _ H1 s1 w1
 ·rw [bT,aa,aj]
  split
  ·exact hK _ H1 s1 w1
  ·rw [bT,aa]
   exact hK _ H1 s1 w1
theorem IZ {b a:Nat} {ts:List Tn} {bad:Bool} {dp:Int} {H:Hp} {K:AV→Hp→Prop} (s:PkS b ts a bad dp H) (hn:a<3000000000) (hK:∀ (c:Int) (H':Hp),PkS b ts a bad dp H'→Wb b H H'→0≤c→c≤4→(0<c→a<ts.length)→K (I c) H'):ai Try.prog σ eu [.ptr b 0] H K:=by
 refine gA.run ?_
 refine nM 0 rfl s (by omega) fun d1 H1 s1 w1 h1=>?_
 rw [aj]
 split
 ·rename_i h; exact hK 2 H1 s1 w1 (by decide) (by decide) fun _=>h1 h
 ·refine nM 0 rfl s1 (by omega) fun d2 H2 s2 w2 h2=>?_
  rw [aj]
  split
  ·rename_i h; exact hK 3 H2 s2 (w1.trans w2) (by decide) (by decide) fun _=>h2 h
  ·refine nM 0 rfl s2 (by omega) fun d3 H3 s3 w3 h3=>?_
   rw [aj]
   split
   ·rename_i h; exact hK 4 H3 s3 ((w1.trans w2).trans w3) (by decide) (by decide) fun _=>h3 h
   ·exact hK 0 H3 s3 ((w1.trans w2).trans w3) (by decide) (by decide) fun h=>absurd h (by decide)
section
attribute [local irreducible] dj.L0
theorem C4 {s:ByteArray} {id n:Nat} {l:List ByteArray} {H:Hp} {ex:Bool} (hg:H.get id=some (.cells (l.map fun s=>Sx s) ex)) (hn:n=l.length) (hl:l.length≤1000) {K:AV→Hp→Prop} (hK:∀ (k:Nat) (ok:Bool),k≤l.length→K (.tup [I (k:Int),Bo ok]) H) :
  ai Try.prog σ jf [Sx s,.sl id 0 1 n (some n)] H K:=by
 subst hn
 refine dj.run ?_
 have L0:∀ (f k:Nat),l.length - k=f→k≤l.length→dj.L0 σ K (Sx s) (.sl id 0 1 l.length (some l.length)) (I (k:Int)) H:=by
  intro f
  induction f with
  | zero =>
   intro k hf hk
   have:¬ ((k:Int)<(l.length:Int)):=by omega
   refine dj.L0_step ?_
   simp only [nR,aa,b8,this,decide_false,aj,Bool.false_eq_true,if_false]
   exact hK 0 false (by omega)
  | succ f ih =>
   intro k hf hk
   have hlt:(k:Int)<(l.length:Int):=by omega
   have hix:aQ 1 (.sl id 0 1 l.length (some l.length)) (I (k:Int))=some (.ptr id k):=by rw [mF (by omega) (by omega)]; simp
   obtain ⟨t,ht⟩:=cb (show k<l.length by omega)
   have hld:ldA false 1 H (.ptr id k)=some (Sx t):=by
    rw [bA,hg,bK,rG (f:=fun s=>Sx s) (by omega)]
    have e:=List.getElem?_eq_getElem (l:=l) (i:=k) (by omega)
    rw [e] at ht
    cases ht; rfl
   refine dj.L0_step ?_
   simp only [nR,aa,b8,hlt,decide_true,aj,if_true,hix,hld,jw]
   split
   ·exact hK k true (by omega)
   ·rw [co,aa,bW (by omega)]
    exact ih (k+1) (by omega) (by omega)
 exact L0 _ 0 rfl (Nat.zero_le _)
end
end Go.Proofs.Ythmaggcfghjmfaa.Ev
namespace Go.Proofs.Ythmaggcfghjmfaa.Ev
set_option linter.unusedVariables false
set_option linter.unusedSimpArgs false
variable {σ:Sig}
structure LV (b:Nat) (ts:List Tn) (H0:Hp) (a:Nat) (bad:Bool) (dp:Int) (q r:Nat) (cs:List AV) (H:Hp):Prop where
 pl:PL b ts H0 a bad dp H
 gq:H.get q=some (.cells cs true)
 gr:∃ c0,H.get r=some (.cells c0 true)∧c0.length=cs.length
 q0:H0.n≤q
 r0:H0.n≤r
 qr:q≠r
 hb:b<H0.n
section
variable {b a a' q r:Nat} {ts:List Tn} {bad bad':Bool} {dp dp':Int} {H0 H H':Hp} {cs:List AV}
theorem LV.s (v:LV b ts H0 a bad dp q r cs H):PkS b ts a bad dp H:=v.pl.s
theorem LV.lt (v:LV b ts H0 a bad dp q r cs H) {j:Nat} {k:Blk} (h:H.get j=some k):j<H.n:=by
 rcases Nat.lt_or_ge j H.n with h1 | h1
 ·exact h1
 ·rw [v.s.ok j h1] at h; cases h
theorem LV.to (v:LV b ts H0 a bad dp q r cs H) (s:PkS b ts a' bad' dp' H') (w:Wb b H H'):LV b ts H0 a' bad' dp' q r cs H':=by
 obtain ⟨c0,g,l⟩:=v.gr
 have:=v.q0
 have:=v.r0
 have:=v.hb
 exact ⟨v.pl.to s w,by rw [w.g q (by omega)]; exact v.gq,⟨c0,by rw [w.g r (by omega)]; exact g,l⟩,v.q0,v.r0,v.qr,v.hb⟩
theorem LV.new (v:LV b ts H0 a bad dp q r cs H) (k:Blk):LV b ts H0 a bad dp q r cs (H.new k):=by
 obtain ⟨c0,g,l⟩:=v.gr
 have h1:=v.lt v.gq
 have h2:=v.lt g
 exact ⟨v.pl.new k,by rw [az,if_neg (by omega)]; exact v.gq,⟨c0,by rw [az,if_neg (by omega)]; exact g,l⟩,v.q0,v.r0,v.qr,v.hb⟩
theorem LV.other (v:LV b ts H0 a bad dp q r cs H) {j:Nat} (k:Blk) (h0:H0.n≤j) (h1:j<H.n) (hq:j≠q) (hr:j≠r):LV b ts H0 a bad dp q r cs (H.set j (some k)):=by
 obtain ⟨c0,g,l⟩:=v.gr
 have:=v.hb
 exact ⟨v.pl.set k h0 h1 (by omega),by rw [ax,if_neg (Ne.symm hq)]; exact v.gq,⟨c0,by rw [ax,if_neg (Ne.symm hr)]; exact g,l⟩,v.q0,v.r0,v.qr,v.hb⟩
theorem LV.set (v:LV b ts H0 a bad dp q r cs H) (cs':List AV) (hl:cs'.length=cs.length):LV b ts H0 a bad dp q r cs' (H.set q (some (.cells cs' true))):=by
 obtain ⟨c0,g,l⟩:=v.gr
 have:=v.hb
 have:=v.q0
 have:=v.qr
 exact ⟨v.pl.set _ v.q0 (v.lt v.gq) (by omega),by rw [ax,if_pos rfl],⟨c0,by rw [ax,if_neg (Ne.symm v.qr)]; exact g,by rw [hl]; exact l⟩,v.q0,v.r0,v.qr,v.hb⟩
theorem LV.st (v:LV b ts H0 a bad dp q r cs H) {i:Nat} {x:AV} {K:Hp→Prop} (hi:i<cs.length) (h1:x.cells=[x]) (h2:x.isAny=false) (h3:AV.one x=true) (hK:∀ H',LV b ts H0 a bad dp q r (cs.set i x) H'→K H'):bnd (stA 1 H (.ptr q i) x) K:=by
 rw [fS v.gq h1 h2 h3 hi,aa]
 exact hK _ (v.set _ (by rw [List.length_set]))
theorem LV.ret (v:LV b ts H0 a bad dp q r cs H) {n:Nat} (hn:cs.length=n) (h1:cs.all AV.one=true) {r':AV} {K:AV→Hp→Prop} (hr:∀ Hd:Hp,H.n≤Hd.n→(∀ j k,H.get j=some k→H0.n≤j→j≠r→Hd.get j=some k)→FzE Hd (.agg cs) r') (hK:∀ H',PkS b ts a bad dp H'→Wb b H0 H'→K r' H') :
  bnd (ldA true n H (.ptr q 0)) fun x8=>bnd (stA n H (.ptr r 0) x8) fun H9=>bnd (ldA true n H9 (.ptr r 0)) fun r10=>d6 b ts H0 K r10 H9:=by
 obtain ⟨c0,g,l⟩:=v.gr
 have lq:ldA true n H (.ptr q 0)=some (.agg cs):=by rw [bA,v.gq,bK,List.drop_zero,cB hn]
 have st:stA n H (.ptr r 0) (.agg cs)=some (H.set r (some (.cells cs true))):=by
  rw [fC,g,if_pos hn,cp,if_pos ⟨by rw [l]; omega,h1⟩,aS (by rw [l])]
 have lr:ldA true n (H.set r (some (.cells cs true))) (.ptr r 0)=some (.agg cs):=by rw [bA,ax,if_pos rfl,bK,List.drop_zero,cB hn]
 rw [lq,aa,st,aa,lr,aa]
 have hb:=v.hb
 have hr0:=v.r0
 refine (v.pl.set (.cells cs true) v.r0 (v.lt g) (by omega)).fin (hr _ (by rw [C1]; simp) fun j k hj h0 hjr=>?_) hK
 rw [sd,if_neg (by omega),ax,if_neg hjr]
 exact hj
theorem PL.ret (p:PL b ts H0 a bad dp H) {n:Nat} {c0:List AV} (g:H.get r=some (.cells c0 true)) (l:c0.length=n) (r0:H0.n≤r) (hb:b<H0.n) (hn:cs.length=n) (h1:cs.all AV.one=true) {r':AV} {K:AV→Hp→Prop} (hr:∀ Hd:Hp,FzE Hd (.agg cs) r') (hK:∀ H',PkS b ts a bad dp H'→Wb b H0 H'→K r' H') :
  bnd (stA n H (.ptr r 0) (.agg cs)) fun H9=>bnd (ldA true n H9 (.ptr r 0)) fun r10=>d6 b ts H0 K r10 H9:=by
 have st:stA n H (.ptr r 0) (.agg cs)=some (H.set r (some (.cells cs true))):=by
  rw [fC,g,if_pos hn,cp,if_pos ⟨by omega,h1⟩,aS (by omega)]
 have lr:ldA true n (H.set r (some (.cells cs true))) (.ptr r 0)=some (.agg cs):=by rw [bA,ax,if_pos rfl,bK,List.drop_zero,cB hn]
 have hlt:r<H.n:=by
  rcases Nat.lt_or_ge r H.n with h1 | h1
  ·exact h1
  ·rw [p.s.ok r h1] at g; cases g
 rw [st,aa,lr,aa]
 exact (p.set (.cells cs true) r0 hlt (by omega)).fin (hr _) hK
end
def zAt:List AV:=bR ⟨⟨#[]⟩,0,⟨#[]⟩⟩
section
attribute [local irreducible] ao.J0 ao.L1 ao.J2 ao.J3
theorem Jq {b a : Nat} {ts : List Tn} {dp : Int} {H : Hp} {K : AV → Hp → Prop} (s : PkS b ts a false dp H) (hok : ∀ t ∈ ts, g_ t) (hl : ts.length ≤ 300) (ha : a ≤ ts.length)
    (hK:∀ (x:At) (a':Nat) (bad':Bool) (H':Hp),PkS b ts a' bad' dp H'→Wb b H H'→a≤a'→a'≤ts.length+2→(bad'=false→a+2≤a'∧a'≤ts.length∧x.name.data.size≤900∧x.text.data.size≤900∧i64 x.op)→K (.agg (bR x)) H') :
    ai Try.prog σ da [.ptr b 0] H K:=by
  refine gV s ?_
  refine ao.run ?_
  rw [bl]
  obtain ⟨r,hr⟩:∃ r,r=H.n:=⟨_,rfl⟩
  have ez:(Blk.cells [.lit (.string ⟨#[]⟩),.lit (.int .i64 0),.lit (.string ⟨#[]⟩)] true)=.cells zAt true:=rfl
  rw [ez,← hr]
  have hbr:b<H.n:=s.lt
  have p0:=s.pl.new (.cells zAt true)
  have gr0:(H.new (.cells zAt true)).get r=some (.cells zAt true):=by rw [az,if_pos hr]
  generalize H.new (.cells zAt true)=H2 at p0 gr0 ⊢
  refine jY p0.s (by omega) (by omega) fun w1 a1 H3 s3 w3 ge1 le1=>?_
  have p3:=p0.to s3 w3
  have gr3:H3.get r=some (.cells zAt true):=by rw [w3.g r (by omega)]; exact gr0
  refine jt 0 rfl s3 (by omega) fun H4 s4 w4=>?_
  rw [Nat.add_zero]
  obtain ⟨t1,ht1⟩:∃ t,t=fZ ts a1:=⟨_,rfl⟩
  have ok1:g_ t1:=ht1 ▸ l_ hok a1
  rw [← ht1,qc,aa]
  have p4:=p3.to s4 w4
  have gr4:H4.get r=some (.cells zAt true):=by rw [w4.g r (by omega)]; exact gr3
  have sz1:=ok1.text
  refine aw (iA t1.text (by omega) H4) ?_
  have eb:aY [.lit (.string ⟨#[]⟩),.lit (.int .i64 0),.lit (.string ⟨#[]⟩)] [(0,1,Sx (jB t1.text))]=some (bR ⟨jB t1.text,0,⟨#[]⟩⟩):=rfl
  have szn:(jB t1.text).data.size≤900:=by
    have:(jB t1.text).data.size=t1.text.data.size:=by simp [jB]
    omega
  generalize jB t1.text=nm at eb szn ⊢
  rw [eb,aa,bl,ez]
  obtain ⟨q,hq⟩:∃ q,q=H4.n:=⟨_,rfl⟩
  have hrq:r<q:=by
    rcases Nat.lt_or_ge r H4.n with h1 | h1
    · omega
    · rw [s4.ok r h1] at gr4; cases gr4
  have p5:=p4.new (.cells zAt true)
  have gq5:(H4.new (.cells zAt true)).get q=some (.cells zAt true):=by rw [az,if_pos hq]
  have gr5:(H4.new (.cells zAt true)).get r=some (.cells zAt true):=by rw [az,if_neg (by omega)]; exact gr4
  have n5:(H4.new (.cells zAt true)).n=q+1:=by rw [hq]; rfl
  rw [← hq]
  generalize H4.new (.cells zAt true)=H5 at p5 gq5 gr5 n5 ⊢
  have kq:H.n≤q:=by have:=p4.k.n; omega
  have v5:LV b ts H a1 false dp q r zAt H5:=⟨p5,gq5,⟨zAt,gr5,rfl⟩,kq,by omega,by omega,hbr⟩
  have st5:stA 3 H5 (.ptr q 0) (.agg (bR ⟨nm,0,⟨#[]⟩⟩))=some (H5.set q (some (.cells (bR ⟨nm,0,⟨#[]⟩⟩) true))):=by
    rw [fC,gq5,if_pos (show (bR ⟨nm,0,⟨#[]⟩⟩).length=3 from rfl),cp,if_pos ⟨by show 0+3≤3; omega,rfl⟩,aS (by rfl)]
  rw [st5,aa]
  have v6:=v5.set (bR ⟨nm,0,⟨#[]⟩⟩) rfl
  generalize H5.set q (some (.cells (bR ⟨nm,0,⟨#[]⟩⟩) true))=H6 at v6 ⊢
  have opz:i64 0:=by unfold i64; decide
  have fin : ∀ (x : At) (a' : Nat) (bad' : Bool) (H7 : Hp), LV b ts H a' bad' dp q r (bR x) H7 → a ≤ a' → a' ≤ ts.length + 2 → (bad' = false → a + 2 ≤ a' ∧ a' ≤ ts.length ∧ x.name.data.size ≤ 900 ∧ x.text.data.size ≤ 900 ∧ i64 x.op) →
      bnd (ldA true 3 H7 (.ptr q 0)) fun x8=>bnd (stA 3 H7 (.ptr r 0) x8) fun H9=>bnd (ldA true 3 H9 (.ptr r 0)) fun r10=>d6 b ts H K r10 H9:=by
    intro x a' bad' H7 v h1 h2 h3
    exact v.ret (r':=.agg (bR x)) rfl rfl (fun _ _ _=>.inl rfl) fun H' s' w'=>hK x a' bad' H' s' w' h1 h2 h3
  have J2:∀ (x:At) (a3:Nat) (bad':Bool) (H7:Hp) (y4 y5 y6:AV),LV b ts H a3 bad' dp q r (bR x) H7→a+1≤a3→a3≤ts.length+1→(bad'=false→a3<ts.length∧x.name.data.size≤900∧x.text.data.size≤900∧i64 x.op)→ao.J2 σ (d6 b ts H K) (.ptr b 0) (.ptr r 0) (.ptr q 0) y4 y5 y6 H7:=by
    intro x a3 bad' H7 y4 y5 y6 v h1 h2 h3
    refine ao.J2_step ?_
    refine kg 1 rfl v.s (by omega) fun H8 s8 w8 _=>?_
    exact fin x (a3+1) bad' H8 (v.to s8 w8) (by omega) (by omega) fun hb=>by have:=h3 hb; exact ⟨by omega,by omega,this.2⟩
  have bk : ∀ (x : At) (a3 : Nat) (H7 : Hp) (y4 y5 y6 : AV), LV b ts H a3 false dp q r (bR x) H7 → a + 1 ≤ a3 → a3 ≤ ts.length → x.name.data.size ≤ 900 ∧ x.text.data.size ≤ 900 ∧ i64 x.op →
      ai Try.prog σ aI [.ptr b 0,.lit (.int .i64 0)] H7 fun x37 H38=>bnd (dm false 0 1 x37) fun x39=>bnd (af .neq x39 (.lit (.int .i64 19))) fun x40=>ifB x40 (bnd (ar (.ptr b 0)) fun x41=>bnd (ae x41 2) fun x42=>bnd (stA 1 H38 x42 (.lit (.bool true))) fun H43=>ao.J2 σ (d6 b ts H K) (.ptr b 0) (.ptr r 0) (.ptr q 0) y4 y5 y6 H43) (ao.J2 σ (d6 b ts H K) (.ptr b 0) (.ptr r 0) (.ptr q 0) y4 y5 y6 H38):=by
    intro x a3 H7 y4 y5 y6 v h1 h2 h3
    refine jt 0 rfl v.s (by omega) fun H8 s8 w8=>?_
    have v8:=v.to s8 w8
    rw [ij,aa,jC,aa,aj]
    split
    · refine ot true s8 fun H9 s9 w9 _=>?_
      exact J2 x a3 true H9 _ _ _ (v8.to s9 w9) h1 (by omega) fun h=>by cases h
    · rename_i hk
      have hk:(fZ ts (a3+0)).kind=19:=by simpa using hk
      have:=fV (ts:=ts) (i:=a3+0) (by omega)
      exact J2 x a3 false H8 _ _ _ v8 h1 (by omega) fun _=>⟨by omega,h3⟩
  have J0:∀ (op:Int) (a3:Nat) (H7:Hp) (y4 y5 y6:AV),LV b ts H a3 false dp q r (bR ⟨nm,op,⟨#[]⟩⟩) H7→a+1≤a3→a3≤ts.length→i64 op→ao.J0 σ (d6 b ts H K) (.ptr b 0) (.ptr r 0) (.ptr q 0) y4 y5 y6 H7:=by
    intro op a3 H7 y4 y5 y6 v h1 h2 hop
    refine ao.J0_step ?_
    have lop:ldA false 1 H7 (.ptr q (0+1))=some (I op):=by rw [bA,v.gq]; rfl
    rw [bx,aa,lop,aa,bT,aa,aj]
    split
    · refine ot true v.s fun H8 s8 w8 _=>?_
      exact fin _ a3 true H8 (v.to s8 w8) (by omega) (by omega) fun h=>by cases h
    · refine jY v.s (by omega) (by omega) fun w a4 H8 s8 w8 ge4 le4=>?_
      have v8:=v.to s8 w8
      refine jt 0 rfl s8 (by omega) fun H9 s9 w9=>?_
      have v9:=v8.to s9 w9
      rw [ij,aa]
      refine jt 0 rfl s9 (by omega) fun H10 s10 w10=>?_
      have v10:=v9.to s10 w10
      rw [qc,aa,bx,aa]
      have okt:=(l_ hok (a4+0)).text
      have hkl:(fZ ts (a4+0)).kind≠0→a4<ts.length:=fun h=>by have:=fV h; omega
      generalize fZ ts (a4+0)=t4 at okt hkl ⊢
      refine v10.st (i:=0+2) (by show 0+2<3; omega) rfl rfl rfl fun H11 v11=>?_
      have v11:LV b ts H a4 false dp q r (bR ⟨nm,op,t4.text⟩) H11:=v11
      have tail:t4.kind≠0→bnd (ar (.ptr b 0)) fun x28=>bnd (ae x28 1) fun x29=>bnd (ldA false 1 H11 x29) fun x30=>bnd (af .add x30 (.lit (.int .i64 1))) fun x31=>bnd (ar (.ptr b 0)) fun x32=>bnd (ae x32 1) fun x33=>bnd (stA 1 H11 x33 x31) fun H34=>ai Try.prog σ bj [.ptr b 0] H34 fun x35 H36=>ai Try.prog σ aI [.ptr b 0,.lit (.int .i64 0)] H36 fun x37 H38=>bnd (dm false 0 1 x37) fun x39=>bnd (af .neq x39 (.lit (.int .i64 19))) fun x40=>ifB x40 (bnd (ar (.ptr b 0)) fun x41=>bnd (ae x41 2) fun x42=>bnd (stA 1 H38 x42 (.lit (.bool true))) fun H43=>ao.J2 σ (d6 b ts H K) (.ptr b 0) (.ptr r 0) (.ptr q 0) y4 y5 y6 H43) (ao.J2 σ (d6 b ts H K) (.ptr b 0) (.ptr r 0) (.ptr q 0) y4 y5 y6 H38):=by
        intro hne
        have hlt:=hkl hne
        refine kg 1 rfl v11.s (by omega) fun H12 s12 w12 _=>?_
        have v12:=v11.to s12 w12
        refine jY s12 (by omega) (by omega) fun w a5 H13 s13 w13 ge5 le5=>?_
        exact bk _ a5 H13 _ _ _ (v12.to s13 w13) (by omega) (by omega) ⟨szn,okt,hop⟩
      rw [jC,aa,aj]
      split
      · rw [jC,aa,aj]
        split
        · refine ot true v11.s fun H12 s12 w12 _=>?_
          exact fin _ a4 true H12 (v11.to s12 w12) (by omega) (by omega) fun h=>by cases h
        · rename_i hk
          exact tail (by have : t4.kind = 4 := by simpa using hk
                         omega)
      · rename_i hk
        exact tail (by have : t4.kind = 1 := by simpa using hk
                       omega)
  have L1:∀ (f i:Nat) (op:Int) (a3 m o:Nat) (c:Int) (H7:Hp),5 - i=f→i≤5→LV b ts H a3 false dp q r (bR ⟨nm,op,⟨#[]⟩⟩) H7→a+1≤a3→a3+2≤ts.length→i64 op→m≠q→o≠q→(∃ tc,H7.get o=some (.cells (bD tc) true))→H7.get m=some (.cells [I 126,I 124,I 94,I 36,I 42] true)→ao.L1 σ (d6 b ts H K) (.ptr b 0) (.ptr r 0) (.ptr q 0) (.ptr o 0) (.sl m 0 1 5 (some 5)) (I (i:Int)) H7:=by
    intro f
    induction f with
    | zero =>
      intro i op a3 m o c H7 hf hi v h1 h2 hop hmq hoq ho hm
      have:¬ ((i:Int)<((5:Nat):Int)):=by omega
      refine ao.L1_step ?_
      simp only [nR,aa,b8,this,decide_false,aj,Bool.false_eq_true,if_false]
      refine kg 2 rfl v.s (by omega) fun H8 s8 w8 _=>?_
      exact J0 op (a3+2) H8 _ _ _ (v.to s8 w8) (by omega) (by omega) hop
    | succ f ih =>
      intro i op a3 m o c H7 hf hi v h1 h2 hop hmq hoq ho hm
      have hlt:(i:Int)<((5:Nat):Int):=by omega
      have hix:aQ 1 (.sl m 0 1 5 (some 5)) (I (i:Int))=some (.ptr m i):=by rw [mF (by omega) (by omega)]; simp
      have hld:∃ z:Int,ldA false 1 H7 (.ptr m i)=some (I z):=by
        rw [bA,hm]
        rcases i with _ | _ | _ | _ | _ | i
        · exact ⟨126,rfl⟩
        · exact ⟨124,rfl⟩
        · exact ⟨94,rfl⟩
        · exact ⟨36,rfl⟩
        · exact ⟨42,rfl⟩
        · omega
      obtain ⟨z,hz⟩:=hld
      obtain ⟨tc,htc⟩:=ho
      have ltc:ldA false 1 H7 (.ptr o (0+4))=some (I tc.c):=by rw [bA,htc]; rfl
      have J3:∀ (op:Int) (H8:Hp),LV b ts H a3 false dp q r (bR ⟨nm,op,⟨#[]⟩⟩) H8→i64 op→(∀ j,j≠q→H8.get j=H7.get j)→ao.J3 σ (d6 b ts H K) (.ptr b 0) (.ptr r 0) (.ptr q 0) (.ptr o 0) (.sl m 0 1 5 (some 5)) (I (i:Int)) H8:=by
        intro op H8 v8 hop hsame
        refine ao.J3_step ?_
        rw [co,aa,bW (by omega)]
        exact ih (i+1) op a3 m o c H8 (by omega) (by omega) v8 h1 h2 hop hmq hoq ⟨tc,by rw [hsame o hoq]; exact htc⟩ (by rw [hsame m hmq]; exact hm)
      refine ao.L1_step ?_
      simp only [nR,aa,b8,hlt,decide_true,aj,if_true,hix,hz,bx,ltc,bT]
      split
      · have e:wr .i64 (2+(i:Int))=2+(i:Int):=fe (by omega) (by omega)
        rw [co,aa,e]
        have st:stA 1 H7 (.ptr q (0+1)) (I (2+(i:Int)))=some (H7.set q (some (.cells (bR ⟨nm,2+(i:Int),⟨#[]⟩⟩) true))):=fS v.gq rfl rfl rfl (by show 0+1<3; omega)
        rw [st,aa]
        exact J3 _ _ (v.set _ rfl) (by unfold i64; omega) fun j hj=>by rw [ax,if_neg hj]
      · exact J3 op H7 v hop fun _ _=>rfl
  refine jt 0 rfl v6.s (by omega) fun H7 s7 w7=>?_
  have v7:=v6.to s7 w7
  rw [Nat.add_zero,← ht1,ij,aa,jC,aa,aj]
  split
  · refine ot true s7 fun H8 s8 w8 _=>?_
    exact fin _ a1 true H8 (v7.to s8 w8) ge1 (by omega) fun h=>by cases h
  · rename_i hk1
    have hk1:t1.kind=1:=by simpa using hk1
    have lt1:a1<ts.length:=fV (by rw [← ht1]; omega)
    refine kg 1 rfl s7 (by omega) fun H8 s8 w8 _=>?_
    have v8:=v7.to s8 w8
    refine jY s8 (by omega) (by omega) fun w a2 H9 s9 w9 ge2 le2=>?_
    have v9:=v8.to s9 w9
    refine jt 0 rfl s9 (by omega) fun H10 s10 w10=>?_
    have v10:=v9.to s10 w10
    rw [ij,aa,bT,aa,aj]
    split
    · rename_i hk
      have hk:=of_decide_eq_true hk
      have:=fV (ts:=ts) (i:=a2+0) (by omega)
      refine kg 1 rfl s10 (by omega) fun H11 s11 w11 _=>?_
      exact fin _ (a2+1) false H11 (v10.to s11 w11) (by omega) (by omega) fun _=>⟨by omega,by omega,szn,(by decide:(0:Nat)≤900),opz⟩
    · refine jt 0 rfl s10 (by omega) fun H11 s11 w11=>?_
      have v11:=v10.to s11 w11
      rw [bl]
      obtain ⟨o,ho⟩:∃ o,o=H11.n:=⟨_,rfl⟩
      have hqo:q<o:=by rw [ho]; exact v11.lt v11.gq
      have ez5:(Blk.cells [.lit (.int .i64 0),.lit (.string ⟨#[]⟩),.lit (.int .i64 0),.lit (.bool false),.lit (.int .i64 0)] true)=.cells zTn true:=rfl
      rw [ez5,← ho]
      have v12:=v11.new (.cells zTn true)
      have go:(H11.new (.cells zTn true)).get o=some (.cells zTn true):=by rw [az,if_pos ho]
      have no:(H11.new (.cells zTn true)).n=o+1:=by rw [ho]; rfl
      generalize H11.new (.cells zTn true)=H12 at v12 go no ⊢
      rw [Nat.add_zero]
      have hk2:(fZ ts a2).kind≠0→a2<ts.length:=fV
      generalize fZ ts a2=t2 at hk2 ⊢
      have st:stA 5 H12 (.ptr o 0) (.agg (bD t2))=some (H12.set o (some (.cells (bD t2) true))):=by
        rw [fC,go,if_pos (show (bD t2).length=5 from rfl),cp,if_pos ⟨by show 0+5≤5; omega,rfl⟩,aS (by rfl)]
      rw [st,aa]
      have v13:=v12.other (.cells (bD t2) true) (j:=o) (by omega) (by omega) (by omega) (by omega)
      have go13:(H12.set o (some (.cells (bD t2) true))).get o=some (.cells (bD t2) true):=by rw [ax,if_pos rfl]
      generalize H12.set o (some (.cells (bD t2) true))=H13 at v13 go13 ⊢
      have lk:ldA false 1 H13 (.ptr o (0+0))=some (I t2.kind):=by rw [bA,go13]; rfl
      have lc:ldA false 1 H13 (.ptr o (0+4))=some (I t2.c):=by rw [bA,go13]; rfl
      have opq:=opz
      have dl:ai Try.prog σ bJ [.ptr b 0,.lit (.int .i64 1),.lit (.int .i64 61)] H13 fun x70 H71=>ifB x70 (bnd (au [.int .i64 0] 1 5 H71 [(0,1,.lit (.int .i64 126)),(1,1,.lit (.int .i64 124)),(2,1,.lit (.int .i64 94)),(3,1,.lit (.int .i64 36)),(4,1,.lit (.int .i64 42))]) fun p72=>ao.L1 σ (d6 b ts H K) (.ptr b 0) (.ptr r 0) (.ptr q 0) (.ptr o 0) p72.1 (.lit (.int .i64 0)) p72.2) (ao.J0 σ (d6 b ts H K) (.ptr b 0) (.ptr r 0) (.ptr q 0) (.ptr o 0) (.lit undef) (.lit undef) H71):=by
        refine nM 1 rfl v13.s (by omega) fun d H14 s14 w14 hd=>?_
        have v14:=v13.to s14 w14
        rw [aj]
        split
        · rename_i h
          have h2:=hd h
          have eb:au [.int .i64 0] 1 5 H14 [(0,1,.lit (.int .i64 126)),(1,1,.lit (.int .i64 124)),(2,1,.lit (.int .i64 94)),(3,1,.lit (.int .i64 36)),(4,1,.lit (.int .i64 42))]=some (.sl H14.n 0 1 5 (some 5),H14.new (.cells [I 126,I 124,I 94,I 36,I 42] true)):=rfl
          rw [eb,aa]
          have gq14:=v14.lt v14.gq
          have go14:H14.get o=some (.cells (bD t2) true):=by rw [w14.g o (by omega)]; exact go13
          have lo14:=v14.lt go14
          exact L1 _ 0 0 a2 H14.n o 0 _ rfl (by omega) (v14.new _) (by omega) (by omega) opq (by omega) (by omega) ⟨t2,by rw [az,if_neg (by omega)]; exact go14⟩ (by rw [az,if_pos rfl])
        · exact J0 0 a2 H14 _ _ _ v14 (by omega) (by omega) opq
      simp only [bx,aa,lk,lc,bT,aj,decide_eq_true_eq]
      by_cases hk10:t2.kind=10
      · simp only [hk10,if_true]
        have lt2:=hk2 (by omega)
        by_cases hc:t2.c=61
        · simp only [hc,if_true]
          refine v13.st (i:=0+1) (by show 0+1<3; omega) rfl rfl rfl fun H14 v14=>?_
          have v14:LV b ts H a2 false dp q r (bR ⟨nm,1,⟨#[]⟩⟩) H14:=v14
          refine kg 1 rfl v14.s (by omega) fun H15 s15 w15 _=>?_
          exact J0 1 (a2+1) H15 _ _ _ (v14.to s15 w15) (by omega) (by omega) (by unfold i64; decide)
        · simp only [hc,if_false]
          exact dl
      · simp only [hk10,if_false]
        exact J0 0 a2 H13 _ _ _ v13 (by omega) (by omega) opq
end
end Go.Proofs.Ythmaggcfghjmfaa.Ev
namespace Go.Proofs.Ythmaggcfghjmfaa.Ev
set_option linter.unusedVariables false
set_option linter.unusedSimpArgs false
variable {σ:Sig}
def nv (k x y:Int):List AV:=[I k,I x,I y,.lit (.slice none 0 0)]
theorem FT (Hd:Hp) (k x y:Int):FzE Hd (.agg (nv k x y)) (.agg (bI (.mk k x y []))):=by
 rw [dN]
 exact .inr (.aggL (.cons (.refl rfl) (.cons (.refl rfl) (.cons (.refl rfl) (.cons .nil .nil)))))
theorem Js {b a:Nat} {ts:List Tn} {bad:Bool} {dp:Int} {H:Hp} {K:Hp→Prop} (w:Bool) (s:PkS b ts a bad dp H) (hK:∀ H',PkS b ts a w dp H'→Wb b H H'→H'.n=H.n→K H') :
  bnd (stA 1 H (.ptr b (0+2)) (Bo w)) K:=by
 have:=ot (K:=K) w s hK
 simpa only [fw,bx,aa] using this
section
attribute [local irreducible] aB.J0 aB.J1
theorem KO {b a:Nat} {ts:List Tn} {dp:Int} {H:Hp} {K:AV→Hp→Prop} (s:PkS b ts a false dp H) (hok:∀ t ∈ ts,g_ t) (hl:ts.length≤300) (ha:a≤ts.length)
  (hK:∀ (k x y:Int) (a':Nat) (bad':Bool) (H':Hp),PkS b ts a' bad' dp H'→Wb b H H'→a≤a'→a'≤ts.length+2→(bad'=false→a+2≤a'∧a'≤ts.length∧i64 k∧i64 x∧i64 y)→K (.agg (bI (.mk k x y []))) H') :
  ai Try.prog σ eN [.ptr b 0] H K:=by
 refine gV s ?_
 refine aB.run ?_
 rw [bl]
 obtain ⟨r,hr⟩:∃ r,r=H.n:=⟨_,rfl⟩
 have ez:(Blk.cells [.lit (.int .i64 0),.lit (.int .i64 0),.lit (.int .i64 0),.lit (.slice none 0 0)] true)=.cells (nv 0 0 0) true:=rfl
 have eb:aY [.lit (.int .i64 0),.lit (.int .i64 0),.lit (.int .i64 0),.lit (.slice none 0 0)] [(0,1,.lit (.int .i64 6))]=some (nv 6 0 0):=rfl
 have opz:i64 0∧i64 1∧i64 2∧i64 6:=by unfold i64; decide
 rw [ez,← hr,eb,aa,bl,ez]
 have hbr:b<H.n:=s.lt
 have p0:=(s.pl.new (.cells (nv 0 0 0) true)).new (.cells (nv 0 0 0) true)
 have n1:(H.new (.cells (nv 0 0 0) true)).n=r+1:=by rw [hr]; rfl
 have gr0:((H.new (.cells (nv 0 0 0) true)).new (.cells (nv 0 0 0) true)).get r=some (.cells (nv 0 0 0) true):=by rw [az,n1,if_neg (by omega),az,if_pos hr]
 have gq0:((H.new (.cells (nv 0 0 0) true)).new (.cells (nv 0 0 0) true)).get (r+1)=some (.cells (nv 0 0 0) true):=by rw [az,n1,if_pos rfl]
 rw [n1]
 generalize (H.new (.cells (nv 0 0 0) true)).new (.cells (nv 0 0 0) true)=H1 at p0 gr0 gq0 ⊢
 have v0:LV b ts H a false dp (r+1) r (nv 0 0 0) H1:=⟨p0,gq0,⟨_,gr0,rfl⟩,by omega,by omega,by omega,hbr⟩
 have st1:stA 4 H1 (.ptr (r+1) 0) (.agg (nv 6 0 0))=some (H1.set (r+1) (some (.cells (nv 6 0 0) true))):=by
  rw [fC,gq0,if_pos (show (nv 6 0 0).length=4 from rfl),cp,if_pos ⟨by show 0+4≤4; omega,rfl⟩,aS (by rfl)]
 rw [st1,aa]
 have v1:=v0.set (nv 6 0 0) rfl
 generalize H1.set (r+1) (some (.cells (nv 6 0 0) true))=H2 at v1 ⊢
 have J1:∀ (x y:Int) (a4:Nat) (bad4:Bool) (H7:Hp),LV b ts H a4 bad4 dp (r+1) r (nv 6 x y) H7→a+1≤a4→a4≤ts.length+1→(bad4=false→a4<ts.length)→i64 x→i64 y→aB.J1 σ (d6 b ts H K) (.ptr b 0) (.ptr r 0) (.ptr (r+1) 0) H7:=by
  intro x y a4 bad4 H7 v h1 h2 h3 hx hy
  refine aB.J1_step ?_
  refine kg 1 rfl v.s (by omega) fun H8 s8 w8 _=>?_
  exact (v.to s8 w8).ret rfl rfl (fun Hd _ _=>FT Hd 6 x y) fun H' s' w'=>hK 6 x y (a4+1) bad4 H' s' w' (by omega) (by omega) fun hb=>⟨by omega,by have:=h3 hb; omega,opz.2.2.2,hx,hy⟩
 have J0:∀ (x y:Int) (a3:Nat) (bad3:Bool) (H7:Hp),LV b ts H a3 bad3 dp (r+1) r (nv 6 x y) H7→a+1≤a3→a3≤ts.length+1→i64 x→i64 y→aB.J0 σ (d6 b ts H K) (.ptr b 0) (.ptr r 0) (.ptr (r+1) 0) H7:=by
  intro x y a3 bad3 H7 v h1 h2 hx hy
  refine aB.J0_step ?_
  refine jY v.s (by omega) (by omega) fun w a4 H8 s8 w8 ge4 le4=>?_
  have v8:=v.to s8 w8
  refine jt 0 rfl s8 (by omega) fun H9 s9 w9=>?_
  have v9:=v8.to s9 w9
  rw [ij,aa,jC,aa,aj]
  split
  ·refine ot true s9 fun H10 s10 w10 _=>?_
   exact J1 x y a4 true H10 (v9.to s10 w10) (by omega) (by omega) (fun h=>by cases h) hx hy
  ·rename_i hk
   have hk:(fZ ts (a4+0)).kind=17:=by simpa using hk
   have:=fV (ts:=ts) (i:=a4+0) (by omega)
   exact J1 x y a4 bad3 H9 v9 (by omega) (by omega) (fun _=>by omega) hx hy
 refine jY v1.s (by omega) (by omega) fun w a1 H3 s3 w3 ge1 le1=>?_
 have v3:=v1.to s3 w3
 refine jt 0 rfl s3 (by omega) fun H4 s4 w4=>?_
 have v4:=v3.to s4 w4
 rw [bl,Nat.add_zero]
 obtain ⟨o,ho⟩:∃ o,o=H4.n:=⟨_,rfl⟩
 have hqo:r+1<o:=by rw [ho]; exact v4.lt v4.gq
 have ez5:(Blk.cells [.lit (.int .i64 0),.lit (.string ⟨#[]⟩),.lit (.int .i64 0),.lit (.bool false),.lit (.int .i64 0)] true)=.cells zTn true:=rfl
 rw [ez5,← ho]
 have v5:=v4.new (.cells zTn true)
 have go:(H4.new (.cells zTn true)).get o=some (.cells zTn true):=by rw [az,if_pos ho]
 have no:(H4.new (.cells zTn true)).n=o+1:=by rw [ho]; rfl
 generalize H4.new (.cells zTn true)=H5 at v5 go no ⊢
 have hk2:(fZ ts a1).kind≠0→a1<ts.length:=fV
 have okt:=l_ hok a1
 generalize fZ ts a1=t at hk2 okt ⊢
 have st:stA 5 H5 (.ptr o 0) (.agg (bD t))=some (H5.set o (some (.cells (bD t) true))):=by
  rw [fC,go,if_pos (show (bD t).length=5 from rfl),cp,if_pos ⟨by show 0+5≤5; omega,rfl⟩,aS (by rfl)]
 rw [st,aa]
 have v6:=v5.other (.cells (bD t) true) (j:=o) (by omega) (by omega) (by omega) (by omega)
 have go6:(H5.set o (some (.cells (bD t) true))).get o=some (.cells (bD t) true):=by rw [ax,if_pos rfl]
 generalize H5.set o (some (.cells (bD t) true))=H6 at v6 go6 ⊢
 refine kg 1 rfl v6.s (by omega) fun H7 s7 w7 _=>?_
 have v7:=v6.to s7 w7
 have go7:H7.get o=some (.cells (bD t) true):=by rw [w7.g o (by omega)]; exact go6
 have lt:ldA false 1 H7 (.ptr o (0+1))=some (Sx t.text):=by rw [bA,go7]; rfl
 rw [bx,aa,lt,aa]
 have szt:=okt.text
 refine aw (iA t.text (by omega) H7) ?_
 generalize jB t.text=w
 have lk:ldA false 1 H7 (.ptr o (0+0))=some (I t.kind):=by rw [bA,go7]; rfl
 have ln:ldA false 1 H7 (.ptr o (0+2))=some (I t.n):=by rw [bA,go7]; rfl
 have lw:ldA false 1 H7 (.ptr o (0+3))=some (Bo t.whole):=by rw [bA,go7]; rfl
 have l1:t.kind=1→bnd (stA 1 H7 (.ptr (r+1) (0+1)) (.lit (.int .i64 2))) fun H30=>bnd (stA 1 H30 (.ptr (r+1) (0+2)) (.lit (.int .i64 1))) fun H32=>aB.J0 σ (d6 b ts H K) (.ptr b 0) (.ptr r 0) (.ptr (r+1) 0) H32:=by
  intro hk
  have:=hk2 (by omega)
  refine v7.st (i:=0+1) (by show 0+1<4; omega) rfl rfl rfl fun H8 v8=>?_
  have v8:LV b ts H (a1+1) false dp (r+1) r (nv 6 2 0) H8:=v8
  refine v8.st (i:=0+2) (by show 0+2<4; omega) rfl rfl rfl fun H9 v9=>?_
  exact J0 2 1 (a1+1) false H9 v9 (by omega) (by omega) opz.2.2.1 opz.2.1
 have l2:t.kind=1→bnd (stA 1 H7 (.ptr (r+1) (0+1)) (.lit (.int .i64 2))) fun H38=>aB.J0 σ (d6 b ts H K) (.ptr b 0) (.ptr r 0) (.ptr (r+1) 0) H38:=by
  intro hk
  have:=hk2 (by omega)
  refine v7.st (i:=0+1) (by show 0+1<4; omega) rfl rfl rfl fun H8 v8=>?_
  exact J0 2 0 (a1+1) false H8 v8 (by omega) (by omega) opz.2.2.1 opz.1
 have l3:t.kind=6→bnd (stA 1 H7 (.ptr (r+1) (0+2)) (.lit (.int .i64 (wr .i64 (t.n.tdiv 1000))))) fun H48=>aB.J0 σ (d6 b ts H K) (.ptr b 0) (.ptr r 0) (.ptr (r+1) 0) H48:=by
  intro hk
  have:=hk2 (by omega)
  refine v7.st (i:=0+2) (by show 0+2<4; omega) rfl rfl rfl fun H8 v8=>?_
  have hn:=okt.n
  have hd:-2147483647≤t.n.tdiv 1000∧t.n.tdiv 1000≤2147483647:=by
   rcases Int.lt_or_le t.n 0 with h | h
   ·have e:t.n.tdiv 1000=-((-t.n) / 1000):=by
     rw [show t.n=-(-t.n) by omega,Int.neg_tdiv,Int.tdiv_eq_ediv_of_nonneg (by omega)]
     simp
    omega
   ·rw [Int.tdiv_eq_ediv_of_nonneg h]; omega
  refine J0 0 _ (a1+1) false H8 v8 (by omega) (by omega) opz.1 ?_
  rw [fe (by omega) (by omega)]
  unfold i64; omega
 have l4:bnd (stA 1 H7 (.ptr b (0+2)) (.lit (.bool true))) fun H51=>aB.J0 σ (d6 b ts H K) (.ptr b 0) (.ptr r 0) (.ptr (r+1) 0) H51 :=
  Js true v7.s fun H8 s8 w8 _=>J0 0 0 (a1+1) true H8 (v7.to s8 w8) (by omega) (by omega) opz.1 opz.1
 simp only [bx,fw,aa,lk,ln,lw,bT,jw,aj,decide_eq_true_eq,FN _ 1000 .i64 (by decide)]
 repeat' split
 all_goals first | exact l4 | exact l1 (by assumption) | exact l2 (by assumption) | exact l3 (by assumption)
end
def mR (σ:Sig) (dp:Int):Prop:=∀ {b a:Nat} {ts:List Tn} {H:Hp} {K:AV→Hp→Prop},PkS b ts a false dp H→(∀ t ∈ ts,g_ t)→ts.length≤300→a≤ts.length →
 (∀ (m:List Sl) (a':Nat) (bad':Bool) (H':Hp),PkS b ts a' bad' dp H'→Wb b H H'→a≤a'→a'≤ts.length+2→(bad'=false→a+1≤a'∧a'≤ts.length∧gt cU m∧cP (m.map bc)≤1000*(a' - a))→K (sls m) H')→ai Try.prog σ d7 [.ptr b 0] H K
section
attribute [local irreducible] aK.J0 aK.J1
theorem Dv {b a:Nat} {ts:List Tn} {dp:Int} (IL:mR σ dp) {H:Hp} {K:AV→Hp→Prop} (s:PkS b ts a false dp H) (hok:∀ t ∈ ts,g_ t) (hl:ts.length≤300) (ha:a≤ts.length)
  (hK:∀ (q:Ps) (a':Nat) (bad':Bool) (H':Hp),PkS b ts a' bad' dp H'→Wb b H H'→a≤a'→a'≤ts.length+2→(bad'=false→a+1≤a'∧a'≤ts.length∧Ps.wf cU q∧bkL (bI q)+90≤1000*(a' - a))→K (.agg (bI q)) H') :
  ai Try.prog σ cK [.ptr b 0] H K:=by
 refine gV s ?_
 refine aK.run ?_
 rw [bl]
 obtain ⟨r,hr⟩:∃ r,r=H.n:=⟨_,rfl⟩
 have ez:(Blk.cells [.lit (.int .i64 0),.lit (.int .i64 0),.lit (.int .i64 0),.lit (.slice none 0 0)] true)=.cells (nv 0 0 0) true:=rfl
 have hbr:b<H.n:=s.lt
 have hL:cU=9223372036854775807:=rfl
 rw [ez,← hr]
 have p0:=s.pl.new (.cells (nv 0 0 0) true)
 have gr0:(H.new (.cells (nv 0 0 0) true)).get r=some (.cells (nv 0 0 0) true):=by rw [az,if_pos hr]
 generalize H.new (.cells (nv 0 0 0) true)=H1 at p0 gr0 ⊢
 refine jt 0 rfl p0.s (by omega) fun H4 s4 w4=>?_
 have p4:=p0.to s4 w4
 have gr4:H4.get r=some (.cells (nv 0 0 0) true):=by rw [w4.g r (by omega)]; exact gr0
 rw [bl,Nat.add_zero]
 obtain ⟨o,ho⟩:∃ o,o=H4.n:=⟨_,rfl⟩
 have hro:r<o:=by
  rcases Nat.lt_or_ge r H4.n with h1 | h1
  ·omega
  ·rw [s4.ok r h1] at gr4; cases gr4
 have ez5:(Blk.cells [.lit (.int .i64 0),.lit (.string ⟨#[]⟩),.lit (.int .i64 0),.lit (.bool false),.lit (.int .i64 0)] true)=.cells zTn true:=rfl
 rw [ez5,← ho]
 have p5:=p4.new (.cells zTn true)
 have go:(H4.new (.cells zTn true)).get o=some (.cells zTn true):=by rw [az,if_pos ho]
 have gr5:(H4.new (.cells zTn true)).get r=some (.cells (nv 0 0 0) true):=by rw [az,if_neg (by omega)]; exact gr4
 have no:(H4.new (.cells zTn true)).n=o+1:=by rw [ho]; rfl
 generalize H4.new (.cells zTn true)=H5 at p5 go no gr5 ⊢
 have hk2:(fZ ts a).kind≠0→a<ts.length:=fV
 have okt:=l_ hok a
 generalize fZ ts a=t at hk2 okt ⊢
 have st:stA 5 H5 (.ptr o 0) (.agg (bD t))=some (H5.set o (some (.cells (bD t) true))):=by
  rw [fC,go,if_pos (show (bD t).length=5 from rfl),cp,if_pos ⟨by show 0+5≤5; omega,rfl⟩,aS (by rfl)]
 rw [st,aa]
 have p6:=p5.set (i:=o) (.cells (bD t) true) (by omega) (by omega) (by omega)
 have go6:(H5.set o (some (.cells (bD t) true))).get o=some (.cells (bD t) true):=by rw [ax,if_pos rfl]
 have gr6:(H5.set o (some (.cells (bD t) true))).get r=some (.cells (nv 0 0 0) true):=by rw [ax,if_neg (by omega)]; exact gr5
 generalize H5.set o (some (.cells (bD t) true))=H6 at p6 go6 gr6 ⊢
 refine kg 1 rfl p6.s (by omega) fun H7 s7 w7 _=>?_
 have p7:=p6.to s7 w7
 have go7:H7.get o=some (.cells (bD t) true):=by rw [w7.g o (by omega)]; exact go6
 have gr7:H7.get r=some (.cells (nv 0 0 0) true):=by rw [w7.g r (by omega)]; exact gr6
 have lt:ldA false 1 H7 (.ptr o (0+1))=some (Sx t.text):=by rw [bA,go7]; rfl
 have lk:ldA false 1 H7 (.ptr o (0+0))=some (I t.kind):=by rw [bA,go7]; rfl
 rw [bx,aa,lt,aa]
 have szt:=okt.text
 refine aw (iA t.text (by omega) H7) ?_
 generalize jB t.text=w
 have fin0:∀ (k:Int) (bad':Bool) (H8:Hp),PL b ts H (a+1) bad' dp H8→H8.get r=some (.cells (nv 0 0 0) true)→(bad'=false→a+1≤ts.length∧i64 k)→bnd (stA 4 H8 (.ptr r 0) (.agg (nv k 0 0))) fun H9=>bnd (ldA true 4 H9 (.ptr r 0)) fun r10=>d6 b ts H K r10 H9:=by
  intro k bad' H8 p8 g8 h8
  refine p8.ret (cs:=nv k 0 0) g8 rfl (by omega) hbr rfl rfl (fun Hd=>FT Hd k 0 0) fun H' s' w'=>hK (.mk k 0 0 []) (a+1) bad' H' s' w' (by omega) (by omega) fun hb=>?_
  have:=h8 hb
  refine ⟨by omega,this.1,?_,?_⟩
  ·rw [Ps.wf_iff]
   exact ⟨this.2,(by show i64 0; unfold i64; decide),(by show i64 0; unfold i64; decide),by show (0:Nat)≤cU; omega,fun s h=>by cases h⟩
  ·rw [qT]
   show 1+(1+(1+(0+1)))+90≤_
   omega
 have eb0:aY [.lit (.int .i64 0),.lit (.int .i64 0),.lit (.int .i64 0),.lit (.slice none 0 0)] []=some (nv 0 0 0):=rfl
 have eb1:∀ k:Int,aY [.lit (.int .i64 0),.lit (.int .i64 0),.lit (.int .i64 0),.lit (.slice none 0 0)] [(0,1,.lit (.int .i64 k))]=some (nv k 0 0):=fun _=>rfl
 have zb:∀ (H8:Hp),PL b ts H (a+1) false dp H8→H8.get r=some (.cells (nv 0 0 0) true)→bnd (ar (.ptr b 0)) fun x31=>bnd (ae x31 2) fun x32=>bnd (stA 1 H8 x32 (.lit (.bool true))) fun H33=>bnd (aY [.lit (.int .i64 0),.lit (.int .i64 0),.lit (.int .i64 0),.lit (.slice none 0 0)] []) fun l34=>bnd (stA 4 H33 (.ptr r 0) (.agg l34)) fun H35=>bnd (ldA true 4 H35 (.ptr r 0)) fun r36=>d6 b ts H K r36 H35:=by
  intro H8 p8 g8
  refine ot true p8.s fun H9 s9 w9 _=>?_
  rw [eb0,aa]
  exact fin0 0 true H9 (p8.to s9 w9) (by rw [w9.g r (by omega)]; exact g8) fun h=>by cases h
 have J1:∀ (k:Int) (y4 y49:AV) (q:Nat) (H8:Hp),LV b ts H (a+1) false dp q r (nv k 0 0) H8→a+1≤ts.length→i64 k→aK.J1 σ (d6 b ts H K) (.ptr b 0) (.ptr r 0) y4 (.ptr q 0) y49 H8:=by
  intro k y4 y49 q H8 v8 hlen hk
  refine aK.J1_step ?_
  refine IL v8.s hok hl hlen fun m a' bad' H9 s9 w9 ge9 le9 h9=>?_
  have v9:=v8.to s9 w9
  rw [bx,aa]
  refine v9.st (i:=0+3) (by show 0+3<4; omega) rfl rfl rfl fun H10 v10=>?_
  have v10:LV b ts H a' bad' dp q r [I k,I 0,I 0,sls m] H10:=v10
  refine v10.ret (r':=.agg (bI (.mk k 0 0 m))) rfl rfl (fun Hd _ _=>.inl (by rw [dN]; rfl)) fun H' s' w'=>hK _ a' bad' H' s' w' (by omega) (by omega) fun hb=>?_
  obtain ⟨q1,q2,q3,q4⟩:=h9 hb
  refine ⟨by omega,q2,?_,?_⟩
  ·rw [Ps.wf_iff]
   exact ⟨hk,(by show i64 0; unfold i64; decide),(by show i64 0; unfold i64; decide),q3⟩
  ·rw [qT]
   show 1+(1+(1+(cP (m.map bc)+1)))+90≤_
   omega
 have J0:∀ (c:Bool) (y7:AV),(c=true→a+1≤ts.length)→aK.J0 σ (d6 b ts H K) (.ptr b 0) (.ptr r 0) (Sx w) y7 (Bo c) H7:=by
  intro c y7 hc
  refine aK.J0_step ?_
  rw [aj]
  split
  ·rename_i h
   have hlen:=hc h
   rw [eb1,aa,bl,ez]
   obtain ⟨q,hq⟩:∃ q,q=H7.n:=⟨_,rfl⟩
   have hor:o<H7.n:=by
    rcases Nat.lt_or_ge o H7.n with h1 | h1
    ·exact h1
    ·rw [s7.ok o h1] at go7; cases go7
   rw [← hq]
   have p8:=p7.new (.cells (nv 0 0 0) true)
   have gq8:(H7.new (.cells (nv 0 0 0) true)).get q=some (.cells (nv 0 0 0) true):=by rw [az,if_pos hq]
   have gr8:(H7.new (.cells (nv 0 0 0) true)).get r=some (.cells (nv 0 0 0) true):=by rw [az,if_neg (by omega)]; exact gr7
   generalize H7.new (.cells (nv 0 0 0) true)=H8 at p8 gq8 gr8 ⊢
   have v8:LV b ts H (a+1) false dp q r (nv 0 0 0) H8:=⟨p8,gq8,⟨_,gr8,rfl⟩,by have:=p7.k.n; omega,by omega,by omega,hbr⟩
   have st1:stA 4 H8 (.ptr q 0) (.agg (nv 7 0 0))=some (H8.set q (some (.cells (nv 7 0 0) true))):=by
    rw [fC,gq8,if_pos (show (nv 7 0 0).length=4 from rfl),cp,if_pos ⟨by show 0+4≤4; omega,rfl⟩,aS (by rfl)]
   rw [st1,aa]
   have v9:=v8.set (nv 7 0 0) rfl
   rw [jw,aa,aj]
   split
   ·rw [bx,aa]
    refine v9.st (i:=0+0) (by show 0+0<4; omega) rfl rfl rfl fun H10 v10=>?_
    exact J1 8 _ _ q H10 v10 hlen (by unfold i64; decide)
   ·exact J1 7 _ _ q _ v9 hlen (by unfold i64; decide)
  ·exact zb H7 p7 gr7
 rw [bx,aa,lk,aa,bT,aa,aj]
 split
 ·rename_i hk
  have hk:=of_decide_eq_true hk
  have hlt:=hk2 (by omega)
  obtain ⟨L5,hL5⟩:∃ L5:List ByteArray,L5=[⟨#[114,111,111,116]⟩,⟨#[102,105,114,115,116,45,99,104,105,108,100]⟩,⟨#[108,97,115,116,45,99,104,105,108,100]⟩,⟨#[111,110,108,121,45,99,104,105,108,100]⟩,⟨#[101,109,112,116,121]⟩]:=⟨_,rfl⟩
  have eb:au [.string ⟨#[]⟩] 1 5 H7 [(0,1,(.lit (.string ⟨#[114,111,111,116]⟩))),(1,1,(.lit (.string ⟨#[102,105,114,115,116,45,99,104,105,108,100]⟩))),(2,1,(.lit (.string ⟨#[108,97,115,116,45,99,104,105,108,100]⟩))),(3,1,(.lit (.string ⟨#[111,110,108,121,45,99,104,105,108,100]⟩))),(4,1,(.lit (.string ⟨#[101,109,112,116,121]⟩)))]=some (.sl H7.n 0 1 5 (some 5),H7.new (.cells (L5.map fun s=>Sx s) true)):=by rw [hL5]; rfl
  rw [eb,aa]
  have l5:L5.length=5:=by rw [hL5]; rfl
  refine C4 (by rw [az,if_pos rfl]) l5.symm (by omega) fun k ok hk5=>?_
  have ex:∀ x y:AV,exR (.tup [x,y]) 0=some x∧exR (.tup [x,y]) 1=some y:=fun _ _=>⟨rfl,rfl⟩
  rw [(ex _ _).1,aa,(ex _ _).2,aa,aj]
  have p8:=p7.new (.cells (L5.map fun s=>Sx s) true)
  have hrn:r<H7.n:=by
   rcases Nat.lt_or_ge r H7.n with h1 | h1
   ·exact h1
   ·rw [s7.ok r h1] at gr7; cases gr7
  have gr8:(H7.new (.cells (L5.map fun s=>Sx s) true)).get r=some (.cells (nv 0 0 0) true):=by rw [az,if_neg (by omega)]; exact gr7
  split
  ·rw [co,aa,eb1,aa]
   refine fin0 _ false _ p8 gr8 fun _=>⟨by omega,?_⟩
   rw [fe (by omega) (by omega)]
   unfold i64; omega
  ·exact zb _ p8 gr8
 ·rw [aa,lk,aa,jC,aa,aj]
  split
  ·exact zb H7 p7 gr7
  ·rename_i hk
   have hk:t.kind=20:=by simpa using hk
   have hlt:=hk2 (by omega)
   rw [jw,aa,aj]
   split
   ·refine KO s7 hok hl (by omega) fun k x y a' bad' H8 s8 w8 ge8 le8 h8=>?_
    have p8:=p7.to s8 w8
    refine p8.ret (r':=.agg (bI (.mk k x y []))) (by rw [w8.g r (by omega)]; exact gr7) rfl (by omega) hbr (by rw [dN]; rfl) (by rw [dN]; rfl) (fun Hd=>.inl rfl) fun H' s' w'=>hK _ a' bad' H' s' w' (by omega) (by omega) fun hb=>?_
    obtain ⟨q1,q2,q3,q4,q5⟩:=h8 hb
    refine ⟨by omega,q2,?_,?_⟩
    ·rw [Ps.wf_iff]
     exact ⟨q3,q4,q5,by show (0:Nat)≤cU; omega,fun s h=>by cases h⟩
    ·rw [qT]
     show 1+(1+(1+(0+1)))+90≤_
     omega
   ·rw [jw,aa,aj]
    split
    ·rename_i h
     rw [h]
     exact J0 true _ fun _=>by omega
    ·rw [jw,aa]
     exact J0 _ _ fun _=>by omega
end
end Go.Proofs.Ythmaggcfghjmfaa.Ev
namespace Go.Proofs.Ythmaggcfghjmfaa.Ev
set_option linter.unusedVariables false
set_option linter.unusedSimpArgs false
variable {σ:Sig}
theorem sp {H:Hp} (ok:∀ j,H.n≤j→H.get j=none) (b:Blk):∀ j,(H.new b).n≤j→(H.new b).get j=none:=by
 intro j hj
 simp only [az,Hp.n_new] at hj ⊢
 rw [if_neg (by omega)]
 exact ok j (by omega)
theorem vB {sz bytes:Nat} {H H':Hp} {x y x':AV} {rows rows2:List (List AV)} (ok:∀ j,H.n≤j→H.get j=none) (hx:Gs sz H x rows) (hns:jq y=true) (hs:gK H sz y=some (rows2.length,rows2.flatten)) (hone:rows2.flatten.all AV.one=true)
  (hb:(rows.length+rows2.length)*bytes≤140737488355328) (hn:rows.length+rows2.length≤4611686018427387904) (h:aT false sz bytes H x y=some (x',H')):∀ j,H'.n≤j→H'.get j=none:=by
 have hn':∀ (id:Nat) (b:Blk) j,((H.set id none).new b).n≤j→((H.set id none).new b).get j=none:=by
  intro id b j hj
  simp only [az,Hp.n_new,ax,Hp.n_set] at hj ⊢
  rw [if_neg (by omega)]
  split
  ·rfl
  ·exact ok j (by omega)
 unfold aT at h
 simp only [hns,cond_true,hs,hone,jn,rZ] at h
 by_cases h0:rows2.length=0
 ·have:rows2=[]:=List.length_eq_zero_iff.1 h0
  subst this
  cases hx<;>simp at h<;>rw [← h.2]<;>exact ok
 ·simp only [h0,decide_false,cond_false] at h
  cases hx with
  | nil =>
   simp only [List.length_nil,Nat.zero_add] at hb hn
   simp [hb,hn] at h
   rw [← h.2]
   exact sp ok _
  | sl hlt hg hsz =>
   have hl:=df hsz
   simp only [hg] at h
   simp [hb,hn,hl] at h
   rw [← h.2]
   exact hn' _ _
theorem LV.app2 {b a q r:Nat} {ts:List Tn} {bad:Bool} {dp:Int} {H0 H:Hp} {cs:List AV} (v:LV b ts H0 a bad dp q r cs H) {sz bytes:Nat} {x y:AV} {rows:List (List AV)} (hx:Gs sz H x rows) (hw:∀ j,own x j→H0.n≤j∧j≠q∧j≠r) (hl:y.cells.length=sz) (hone:y.cells.all AV.one=true) (hb:(rows.length+1)*bytes≤140737488355328) (hn:rows.length≤1000000)
  {K:AV × Hp→Prop} (hK:∀ x' H',LV b ts H0 a bad dp q r cs H'→Gs sz H' x' (rows++[y.cells])→Fr H x H' x'→K (x',H')):bnd (aT false sz bytes (H.new (.cells y.cells true)) x (.sl H.n 0 sz 1 (some 1))) K:=by
 have hk:Gs sz (H.new (.cells y.cells true)) x rows:=by
  refine hx.keep (fun j hj=>?_) (by simp)
  have:=hx.lt hj
  rw [az,if_neg (by omega)]
 have hsrc:gK (H.new (.cells y.cells true)) sz (.sl H.n 0 sz 1 (some 1))=some (([y.cells]:List (List AV)).length,([y.cells]:List (List AV)).flatten):=oM (row:=y.cells) (ex:=true) (by rw [az,if_pos rfl]) hl
 have ho1:(([y.cells]:List (List AV)).flatten).all AV.one=true:=by simpa using hone
 have h2:∀ row ∈ ([y.cells]:List (List AV)),row.length=sz:=fun row hrow=>by rw [List.mem_singleton.1 hrow]; exact hl
 obtain ⟨x',H',e,g,f⟩:=uH (bytes:=bytes) hk rfl hsrc h2 ho1 (by simpa using hb) (by simp; omega)
 have okn:=vB (bytes:=bytes) (sp v.s.ok _) hk rfl hsrc ho1 (by simpa using hb) (by simp; omega) e
 rw [e,aa]
 have fr:Fr H x H' x':=⟨fun j hj hne=>by rw [f.same j (by simp; omega) hne,az,if_neg (by omega)],by have:=f.grow; simp at this; omega,fun j hj=>by
  rcases f.mine j hj with h | ⟨h1,h2⟩
  ·exact .inl h
  ·right; simp at h1; exact ⟨by omega,h2⟩⟩
 obtain ⟨c0,gr,lr⟩:=v.gr
 have hbn:=v.hb
 have hkn:=v.pl.k.n
 have hq:=v.lt v.gq
 have hr:=v.lt gr
 have hbo:¬ own x b:=fun h=>by have:=(hw b h).1; omega
 refine hK x' H' ⟨⟨⟨by rw [fr.same b (by omega) hbo]; exact v.s.g,okn,by have:=fr.grow; omega⟩,⟨by have:=fr.grow; omega,fun j hj hjb=>?_⟩⟩,?_,⟨c0,?_,lr⟩,v.q0,v.r0,v.qr,v.hb⟩ g fr
 ·rw [fr.same j (by omega) fun h=>by have:=(hw j h).1; omega]
  exact v.pl.k.g j hj hjb
 ·rw [fr.same q hq fun h=>(hw q h).2.1 rfl]; exact v.gq
 ·rw [fr.same r hr fun h=>(hw r h).2.2 rfl]; exact gr
structure CpS (b:Nat) (ts:List Tn) (H0:Hp) (a:Nat) (bad:Bool) (dp:Int) (q r:Nat) (c:Cp) (xi xc xa xp:AV) (w:Nat→Nat) (H:Hp):Prop where
 v:LV b ts H0 a bad dp q r [Sx c.tag,xi,xc,xa,xp] H
 gi:Gs 1 H xi (c.ids.map fun s=>[Sx s])
 gc:Gs 1 H xc (c.classes.map fun s=>[Sx s])
 ga:Gs 3 H xa (c.attrs.map bR)
 gp:Gs 4 H xp (c.pseudos.map bI)
 wi:∀ j,own xi j→w j=1∧H0.n≤j∧j≠q∧j≠r
 wc:∀ j,own xc j→w j=2∧H0.n≤j∧j≠q∧j≠r
 wa:∀ j,own xa j→w j=3∧H0.n≤j∧j≠q∧j≠r
 wp:∀ j,own xp j→w j=4∧H0.n≤j∧j≠q∧j≠r
section
variable {b a a' q r:Nat} {ts:List Tn} {bad bad':Bool} {dp:Int} {H0 H H':Hp} {c:Cp} {xi xc xa xp:AV} {w:Nat→Nat}
theorem CpS.mv (s:CpS b ts H0 a bad dp q r c xi xc xa xp w H) (v:LV b ts H0 a' bad' dp q r [Sx c.tag,xi,xc,xa,xp] H') (hn:H.n≤H'.n) (hg:∀ j,H0.n≤j→j<H.n→j≠q→j≠r→H'.get j=H.get j):CpS b ts H0 a' bad' dp q r c xi xc xa xp w H' :=
 ⟨v,s.gi.keep (fun j hj=>hg j (s.wi j hj).2.1 (s.gi.lt hj) (s.wi j hj).2.2.1 (s.wi j hj).2.2.2) hn,s.gc.keep (fun j hj=>hg j (s.wc j hj).2.1 (s.gc.lt hj) (s.wc j hj).2.2.1 (s.wc j hj).2.2.2) hn,s.ga.keep (fun j hj=>hg j (s.wa j hj).2.1 (s.ga.lt hj) (s.wa j hj).2.2.1 (s.wa j hj).2.2.2) hn,s.gp.keep (fun j hj=>hg j (s.wp j hj).2.1 (s.gp.lt hj) (s.wp j hj).2.2.1 (s.wp j hj).2.2.2) hn,s.wi,s.wc,s.wa,s.wp⟩
theorem CpS.to (s:CpS b ts H0 a bad dp q r c xi xc xa xp w H) (s':PkS b ts a' bad' dp H') (w':Wb b H H'):CpS b ts H0 a' bad' dp q r c xi xc xa xp w H' :=
 s.mv (s.v.to s' w') w'.n fun j h0 _ _ _=>w'.g j (by have:=s.v.hb; omega)
end
end Go.Proofs.Ythmaggcfghjmfaa.Ev
namespace Go.Proofs.Ythmaggcfghjmfaa.Ev
set_option linter.unusedVariables false
set_option linter.unusedSimpArgs false
variable {σ:Sig}
section
variable {b a a' q r:Nat} {ts:List Tn} {bad bad':Bool} {dp:Int} {H0 H H':Hp} {c:Cp} {xi xc xa xp:AV} {w:Nat→Nat}
theorem CpS.appI (s:CpS b ts H0 a bad dp q r c xi xc xa xp w H) (hn:c.ids.length≤1000) (t:ByteArray) {K:Hp→Prop}
  (hK:∀ x' w' H',CpS b ts H0 a bad dp q r (.mk c.tag (c.ids++[t]) c.classes c.attrs c.pseudos) x' xc xa xp w' H'→K H') :
  bnd (aT false 1 16 (H.new (.cells [Sx t] true)) xi (.sl H.n 0 1 1 (some 1))) fun p=>bnd (ae (.ptr q 0) 1) fun z=>bnd (stA 1 p.2 z p.1) K:=by
 refine s.v.app2 (y:=Sx t) s.gi (fun j hj=>(s.wi j hj).2) rfl rfl (by rw [List.length_map]; omega) (by rw [List.length_map]; omega) fun x' H' v' g' fr=>?_
 have hq:=s.v.lt s.v.gq
 obtain ⟨c0,hgr,hlr⟩:=s.v.gr
 have hr:=s.v.lt hgr
 rw [bx,aa,fS v'.gq g'.cells.1 g'.cells.2 g'.one (by show 0+1<5; omega),aa]
 have v2:=v'.set ([Sx c.tag,xi,xc,xa,xp].set (0+1) x') (by rw [List.length_set])
 have keep:∀ {sz:Nat} {y:AV} {rows:List (List AV)},Gs sz H y rows→(∀ j,own y j→¬ own xi j∧j≠q)→Gs sz (H'.set q (some (.cells ([Sx c.tag,xi,xc,xa,xp].set (0+1) x') true))) y rows:=by
  intro sz y rows g h
  refine g.keep (fun j hj=>?_) (by have:=fr.grow; simpa using this)
  rw [ax,if_neg (h j hj).2]
  exact fr.same j (g.lt hj) (h j hj).1
 have wk:∀ {j:Nat} {n:Nat},j<H.n→w j=n→(if H.n≤j then 1 else w j)=n:=fun h1 h2=>by rw [if_neg (by omega)]; exact h2
 have mine:∀ j,own x' j→(if H.n≤j then 1 else w j)=1∧H0.n≤j∧j≠q∧j≠r:=by
  intro j hj
  have hkn:=s.v.pl.k.n
  rcases fr.mine j hj with h | h
  ·have:=s.wi j h
   exact ⟨wk (s.gi.lt h) this.1,this.2⟩
  ·exact ⟨by rw [if_pos h.1],by omega,by omega,by omega⟩
 have gx:Gs 1 (H'.set q (some (.cells ([Sx c.tag,xi,xc,xa,xp].set (0+1) x') true))) x' ((c.ids++[t]).map fun s=>[Sx s]):=by
  rw [List.map_append]
  exact g'.keep (fun j hj=>by rw [ax,if_neg (mine j hj).2.2.1]) (by simp)
 refine hK x' (fun j=>if H.n≤j then 1 else w j) _ ⟨v2,?_,?_,?_,?_,?_,?_,?_,?_⟩
 ·exact gx
 ·exact keep s.gc fun j hj=>⟨fun h=>by have h1:=(s.wi j h).1; have h2:=(s.wc j hj).1; omega,(s.wc j hj).2.2.1⟩
 ·exact keep s.ga fun j hj=>⟨fun h=>by have h1:=(s.wi j h).1; have h2:=(s.wa j hj).1; omega,(s.wa j hj).2.2.1⟩
 ·exact keep s.gp fun j hj=>⟨fun h=>by have h1:=(s.wi j h).1; have h2:=(s.wp j hj).1; omega,(s.wp j hj).2.2.1⟩
 ·exact mine
 ·exact fun j hj=>⟨wk (s.gc.lt hj) (s.wc j hj).1,(s.wc j hj).2⟩
 ·exact fun j hj=>⟨wk (s.ga.lt hj) (s.wa j hj).1,(s.wa j hj).2⟩
 ·exact fun j hj=>⟨wk (s.gp.lt hj) (s.wp j hj).1,(s.wp j hj).2⟩
theorem CpS.appC (s:CpS b ts H0 a bad dp q r c xi xc xa xp w H) (hn:c.classes.length≤1000) (t:ByteArray) {K:Hp→Prop}
  (hK:∀ x' w' H',CpS b ts H0 a bad dp q r (.mk c.tag c.ids (c.classes++[t]) c.attrs c.pseudos) xi x' xa xp w' H'→K H') :
  bnd (aT false 1 16 (H.new (.cells [Sx t] true)) xc (.sl H.n 0 1 1 (some 1))) fun p=>bnd (ae (.ptr q 0) 2) fun z=>bnd (stA 1 p.2 z p.1) K:=by
 refine s.v.app2 (y:=Sx t) s.gc (fun j hj=>(s.wc j hj).2) rfl rfl (by rw [List.length_map]; omega) (by rw [List.length_map]; omega) fun x' H' v' g' fr=>?_
 have hq:=s.v.lt s.v.gq
 obtain ⟨c0,hgr,hlr⟩:=s.v.gr
 have hr:=s.v.lt hgr
 rw [bx,aa,fS v'.gq g'.cells.1 g'.cells.2 g'.one (by show 0+2<5; omega),aa]
 have v2:=v'.set ([Sx c.tag,xi,xc,xa,xp].set (0+2) x') (by rw [List.length_set])
 have keep:∀ {sz:Nat} {y:AV} {rows:List (List AV)},Gs sz H y rows→(∀ j,own y j→¬ own xc j∧j≠q)→Gs sz (H'.set q (some (.cells ([Sx c.tag,xi,xc,xa,xp].set (0+2) x') true))) y rows:=by
  intro sz y rows g h
  refine g.keep (fun j hj=>?_) (by have:=fr.grow; simpa using this)
  rw [ax,if_neg (h j hj).2]
  exact fr.same j (g.lt hj) (h j hj).1
 have wk:∀ {j:Nat} {n:Nat},j<H.n→w j=n→(if H.n≤j then 2 else w j)=n:=fun h1 h2=>by rw [if_neg (by omega)]; exact h2
 have mine:∀ j,own x' j→(if H.n≤j then 2 else w j)=2∧H0.n≤j∧j≠q∧j≠r:=by
  intro j hj
  have hkn:=s.v.pl.k.n
  rcases fr.mine j hj with h | h
  ·have:=s.wc j h
   exact ⟨wk (s.gc.lt h) this.1,this.2⟩
  ·exact ⟨by rw [if_pos h.1],by omega,by omega,by omega⟩
 have gx:Gs 1 (H'.set q (some (.cells ([Sx c.tag,xi,xc,xa,xp].set (0+2) x') true))) x' ((c.classes++[t]).map fun s=>[Sx s]):=by
  rw [List.map_append]
  exact g'.keep (fun j hj=>by rw [ax,if_neg (mine j hj).2.2.1]) (by simp)
 refine hK x' (fun j=>if H.n≤j then 2 else w j) _ ⟨v2,?_,?_,?_,?_,?_,?_,?_,?_⟩
 ·exact keep s.gi fun j hj=>⟨fun h=>by have h1:=(s.wc j h).1; have h2:=(s.wi j hj).1; omega,(s.wi j hj).2.2.1⟩
 ·exact gx
 ·exact keep s.ga fun j hj=>⟨fun h=>by have h1:=(s.wc j h).1; have h2:=(s.wa j hj).1; omega,(s.wa j hj).2.2.1⟩
 ·exact keep s.gp fun j hj=>⟨fun h=>by have h1:=(s.wc j h).1; have h2:=(s.wp j hj).1; omega,(s.wp j hj).2.2.1⟩
 ·exact fun j hj=>⟨wk (s.gi.lt hj) (s.wi j hj).1,(s.wi j hj).2⟩
 ·exact mine
 ·exact fun j hj=>⟨wk (s.ga.lt hj) (s.wa j hj).1,(s.wa j hj).2⟩
 ·exact fun j hj=>⟨wk (s.gp.lt hj) (s.wp j hj).1,(s.wp j hj).2⟩
theorem CpS.appA (s:CpS b ts H0 a bad dp q r c xi xc xa xp w H) (hn:c.attrs.length≤1000) (t:At) {K:Hp→Prop}
  (hK:∀ x' w' H',CpS b ts H0 a bad dp q r (.mk c.tag c.ids c.classes (c.attrs++[t]) c.pseudos) xi xc x' xp w' H'→K H') :
  bnd (aT false 3 40 (H.new (.cells (bR t) true)) xa (.sl H.n 0 3 1 (some 1))) fun p=>bnd (ae (.ptr q 0) 3) fun z=>bnd (stA 1 p.2 z p.1) K:=by
 refine s.v.app2 (y:=.agg (bR t)) s.ga (fun j hj=>(s.wa j hj).2) rfl rfl (by rw [List.length_map]; omega) (by rw [List.length_map]; omega) fun x' H' v' g' fr=>?_
 have hq:=s.v.lt s.v.gq
 obtain ⟨c0,hgr,hlr⟩:=s.v.gr
 have hr:=s.v.lt hgr
 rw [bx,aa,fS v'.gq g'.cells.1 g'.cells.2 g'.one (by show 0+3<5; omega),aa]
 have v2:=v'.set ([Sx c.tag,xi,xc,xa,xp].set (0+3) x') (by rw [List.length_set])
 have keep:∀ {sz:Nat} {y:AV} {rows:List (List AV)},Gs sz H y rows→(∀ j,own y j→¬ own xa j∧j≠q)→Gs sz (H'.set q (some (.cells ([Sx c.tag,xi,xc,xa,xp].set (0+3) x') true))) y rows:=by
  intro sz y rows g h
  refine g.keep (fun j hj=>?_) (by have:=fr.grow; simpa using this)
  rw [ax,if_neg (h j hj).2]
  exact fr.same j (g.lt hj) (h j hj).1
 have wk:∀ {j:Nat} {n:Nat},j<H.n→w j=n→(if H.n≤j then 3 else w j)=n:=fun h1 h2=>by rw [if_neg (by omega)]; exact h2
 have mine:∀ j,own x' j→(if H.n≤j then 3 else w j)=3∧H0.n≤j∧j≠q∧j≠r:=by
  intro j hj
  have hkn:=s.v.pl.k.n
  rcases fr.mine j hj with h | h
  ·have:=s.wa j h
   exact ⟨wk (s.ga.lt h) this.1,this.2⟩
  ·exact ⟨by rw [if_pos h.1],by omega,by omega,by omega⟩
 have gx:Gs 3 (H'.set q (some (.cells ([Sx c.tag,xi,xc,xa,xp].set (0+3) x') true))) x' ((c.attrs++[t]).map bR):=by
  rw [List.map_append]
  exact g'.keep (fun j hj=>by rw [ax,if_neg (mine j hj).2.2.1]) (by simp)
 refine hK x' (fun j=>if H.n≤j then 3 else w j) _ ⟨v2,?_,?_,?_,?_,?_,?_,?_,?_⟩
 ·exact keep s.gi fun j hj=>⟨fun h=>by have h1:=(s.wa j h).1; have h2:=(s.wi j hj).1; omega,(s.wi j hj).2.2.1⟩
 ·exact keep s.gc fun j hj=>⟨fun h=>by have h1:=(s.wa j h).1; have h2:=(s.wc j hj).1; omega,(s.wc j hj).2.2.1⟩
 ·exact gx
 ·exact keep s.gp fun j hj=>⟨fun h=>by have h1:=(s.wa j h).1; have h2:=(s.wp j hj).1; omega,(s.wp j hj).2.2.1⟩
 ·exact fun j hj=>⟨wk (s.gi.lt hj) (s.wi j hj).1,(s.wi j hj).2⟩
 ·exact fun j hj=>⟨wk (s.gc.lt hj) (s.wc j hj).1,(s.wc j hj).2⟩
 ·exact mine
 ·exact fun j hj=>⟨wk (s.gp.lt hj) (s.wp j hj).1,(s.wp j hj).2⟩
theorem CpS.appP (s:CpS b ts H0 a bad dp q r c xi xc xa xp w H) (hn:c.pseudos.length≤1000) (t:Ps) {K:Hp→Prop}
  (hK:∀ x' w' H',CpS b ts H0 a bad dp q r (.mk c.tag c.ids c.classes c.attrs (c.pseudos++[t])) xi xc xa x' w' H'→K H') :
  bnd (aT false 4 48 (H.new (.cells (bI t) true)) xp (.sl H.n 0 4 1 (some 1))) fun p=>bnd (ae (.ptr q 0) 4) fun z=>bnd (stA 1 p.2 z p.1) K:=by
 refine s.v.app2 (y:=.agg (bI t)) s.gp (fun j hj=>(s.wp j hj).2) (fN t) (Ab t) (by rw [List.length_map]; omega) (by rw [List.length_map]; omega) fun x' H' v' g' fr=>?_
 have hq:=s.v.lt s.v.gq
 obtain ⟨c0,hgr,hlr⟩:=s.v.gr
 have hr:=s.v.lt hgr
 rw [bx,aa,fS v'.gq g'.cells.1 g'.cells.2 g'.one (by show 0+4<5; omega),aa]
 have v2:=v'.set ([Sx c.tag,xi,xc,xa,xp].set (0+4) x') (by rw [List.length_set])
 have keep:∀ {sz:Nat} {y:AV} {rows:List (List AV)},Gs sz H y rows→(∀ j,own y j→¬ own xp j∧j≠q)→Gs sz (H'.set q (some (.cells ([Sx c.tag,xi,xc,xa,xp].set (0+4) x') true))) y rows:=by
  intro sz y rows g h
  refine g.keep (fun j hj=>?_) (by have:=fr.grow; simpa using this)
  rw [ax,if_neg (h j hj).2]
  exact fr.same j (g.lt hj) (h j hj).1
 have wk:∀ {j:Nat} {n:Nat},j<H.n→w j=n→(if H.n≤j then 4 else w j)=n:=fun h1 h2=>by rw [if_neg (by omega)]; exact h2
 have mine:∀ j,own x' j→(if H.n≤j then 4 else w j)=4∧H0.n≤j∧j≠q∧j≠r:=by
  intro j hj
  have hkn:=s.v.pl.k.n
  rcases fr.mine j hj with h | h
  ·have:=s.wp j h
   exact ⟨wk (s.gp.lt h) this.1,this.2⟩
  ·exact ⟨by rw [if_pos h.1],by omega,by omega,by omega⟩
 have gx:Gs 4 (H'.set q (some (.cells ([Sx c.tag,xi,xc,xa,xp].set (0+4) x') true))) x' ((c.pseudos++[t]).map bI):=by
  rw [List.map_append]
  exact g'.keep (fun j hj=>by rw [ax,if_neg (mine j hj).2.2.1]) (by simp)
 refine hK x' (fun j=>if H.n≤j then 4 else w j) _ ⟨v2,?_,?_,?_,?_,?_,?_,?_,?_⟩
 ·exact keep s.gi fun j hj=>⟨fun h=>by have h1:=(s.wp j h).1; have h2:=(s.wi j hj).1; omega,(s.wi j hj).2.2.1⟩
 ·exact keep s.gc fun j hj=>⟨fun h=>by have h1:=(s.wp j h).1; have h2:=(s.wc j hj).1; omega,(s.wc j hj).2.2.1⟩
 ·exact keep s.ga fun j hj=>⟨fun h=>by have h1:=(s.wp j h).1; have h2:=(s.wa j hj).1; omega,(s.wa j hj).2.2.1⟩
 ·exact gx
 ·exact fun j hj=>⟨wk (s.gi.lt hj) (s.wi j hj).1,(s.wi j hj).2⟩
 ·exact fun j hj=>⟨wk (s.gc.lt hj) (s.wc j hj).1,(s.wc j hj).2⟩
 ·exact fun j hj=>⟨wk (s.ga.lt hj) (s.wa j hj).1,(s.wa j hj).2⟩
 ·exact mine
theorem CpS.tmp (s:CpS b ts H0 a bad dp q r c xi xc xa xp w H) (c0 c1:List AV):CpS b ts H0 a bad dp q r c xi xc xa xp w ((H.new (.cells c0 true)).set H.n (some (.cells c1 true))):=by
 have hq:=s.v.lt s.v.gq
 obtain ⟨d0,hgr,hlr⟩:=s.v.gr
 have hr:=s.v.lt hgr
 have hkn:=s.v.pl.k.n
 refine s.mv ((s.v.new (.cells c0 true)).other (.cells c1 true) hkn (by simp) (by omega) (by omega)) (by simp) fun j h0 h1 _ _=>?_
 rw [ax,if_neg (by omega),az,if_neg (by omega)]
theorem Gs.has {sz:Nat} {H:Hp} {x:AV} {rows:List (List AV)} (h:Gs sz H x rows) {j:Nat} (hj:own x j):∃ k,H.get j=some k:=by
 cases h with
 | nil=>exact hj.elim
 | sl hlt hg _=>simp only [own] at hj; subst hj; exact ⟨_,hg⟩
theorem CpS.fz (s:CpS b ts H0 a bad dp q r c xi xc xa xp w H) (Hd:Hp) (hn:H.n≤Hd.n) (hd:∀ j k,H.get j=some k→H0.n≤j→j≠r→Hd.get j=some k):FzE Hd (.agg [Sx c.tag,xi,xc,xa,xp]) (.agg (bZ c)):=by
 have keep:∀ {sz:Nat} {y:AV} {rows:List (List AV)} {n:Nat},Gs sz H y rows→(∀ j,own y j→w j=n∧H0.n≤j∧j≠q∧j≠r)→Gs sz Hd y rows:=by
  intro sz y rows n g h
  refine g.keep (fun j hj=>?_) hn
  obtain ⟨k,hk⟩:=g.has hj
  rw [hk]
  exact hd j k hk (h j hj).2.1 (h j hj).2.2.2
 rw [cR]
 exact .inr (.aggL (.cons (.refl rfl) (.cons ((keep s.gi s.wi).fz (a_ _ (fun _=>rfl) _)) (.cons ((keep s.gc s.wc).fz (a_ _ (fun _=>rfl) _)) (.cons ((keep s.ga s.wa).fz (a_ _ oC _)) (.cons ((keep s.gp s.wp).fz (a_ _ vU _)) .nil))))))
end
end Go.Proofs.Ythmaggcfghjmfaa.Ev
namespace Go.Proofs.Ythmaggcfghjmfaa.Ev
set_option linter.unusedVariables false
set_option linter.unusedSimpArgs false
variable {σ:Sig}
structure CpI (ts:List Tn) (a a1:Nat) (n:Nat) (c:Cp):Prop where
 le:a1≤ts.length
 wf:t8 cU c
 bk:bkL (bZ c)+(if n=0 then 0 else 80)≤5+1000*(a1 - a)
 l1:c.ids.length≤a1
 l2:c.classes.length≤a1
 l3:c.attrs.length≤a1
 l4:c.pseudos.length≤a1
 n0:n≤a1
theorem gG:∀ (l:List (List AV)) (x:List AV),cP (l++[x])=cP l+bkL x
 | [],x=>by simp [cP]
 | y::l,x=>by simp only [List.cons_append,cP,gG l x]; omega
theorem G4 (c:Cp) (t:ByteArray):bkL (bZ (.mk c.tag (c.ids++[t]) c.classes c.attrs c.pseudos))=bkL (bZ c)+(t.data.size+1):=by
 rw [kM,kM]
 simp only [Cp.tag,Cp.ids,Cp.classes,Cp.attrs,Cp.pseudos,List.map_append,List.map_cons,List.map_nil,gG,bkL,wU]
 omega
theorem HM (c:Cp) (t:ByteArray):bkL (bZ (.mk c.tag c.ids (c.classes++[t]) c.attrs c.pseudos))=bkL (bZ c)+(t.data.size+1):=by
 rw [kM,kM]
 simp only [Cp.tag,Cp.ids,Cp.classes,Cp.attrs,Cp.pseudos,List.map_append,List.map_cons,List.map_nil,gG,bkL,wU]
 omega
theorem HL (c:Cp) (t:At):bkL (bZ (.mk c.tag c.ids c.classes (c.attrs++[t]) c.pseudos))=bkL (bZ c)+bkL (bR t):=by
 rw [kM,kM]
 simp only [Cp.tag,Cp.ids,Cp.classes,Cp.attrs,Cp.pseudos,List.map_append,List.map_cons,List.map_nil,gG]
 omega
theorem Gz (c:Cp) (t:Ps):bkL (bZ (.mk c.tag c.ids c.classes c.attrs (c.pseudos++[t])))=bkL (bZ c)+bkL (bI t):=by
 rw [kM,kM]
 simp only [Cp.tag,Cp.ids,Cp.classes,Cp.attrs,Cp.pseudos,List.map_append,List.map_cons,List.map_nil,gG]
 omega
theorem Jo {ts:List Tn} {a a1 n:Nat} {c:Cp} (h:CpI ts a a1 n c) (hl:ts.length≤300) (ha:a≤a1) (t:ByteArray) (hs:t.data.size≤900) (a2:Nat) (h2:a1+1≤a2) (h3:a2≤ts.length):CpI ts a a2 (n+1) (.mk c.tag (c.ids++[t]) c.classes c.attrs c.pseudos):=by
 have hL:cU=9223372036854775807:=rfl
 have hb:=h.bk
 have q1:=h.l1
 have q2:=h.l2
 have q3:=h.l3
 have q4:=h.l4
 have q5:=h.n0
 refine ⟨h3,⟨h.wf.tag,⟨?_,fun s hs'=>?_⟩,h.wf.classes,h.wf.attrsL,h.wf.attrs,h.wf.psL,h.wf.ps⟩,?_,?_,?_,?_,?_,by omega⟩
 ·show (c.ids++[t]).length≤_; rw [List.length_append,List.length_singleton]; omega
 ·rcases List.mem_append.1 hs' with h' | h'
  ·exact h.wf.ids.2 s h'
  ·rw [List.mem_singleton.1 h']; omega
 ·rw [G4,if_neg (by omega)]
  split at hb<;>omega
 ·show (c.ids++[t]).length≤_; rw [List.length_append,List.length_singleton]; omega
 ·show c.classes.length≤_; omega
 ·show c.attrs.length≤_; omega
 ·show c.pseudos.length≤_; omega
theorem JA {ts:List Tn} {a a1 n:Nat} {c:Cp} (h:CpI ts a a1 n c) (hl:ts.length≤300) (ha:a≤a1) (t:ByteArray) (hs:t.data.size≤900) (a2:Nat) (h2:a1+1≤a2) (h3:a2≤ts.length):CpI ts a a2 (n+1) (.mk c.tag c.ids (c.classes++[t]) c.attrs c.pseudos):=by
 have hL:cU=9223372036854775807:=rfl
 have hb:=h.bk
 have q1:=h.l1
 have q2:=h.l2
 have q3:=h.l3
 have q4:=h.l4
 have q5:=h.n0
 refine ⟨h3,⟨h.wf.tag,h.wf.ids,⟨?_,fun s hs'=>?_⟩,h.wf.attrsL,h.wf.attrs,h.wf.psL,h.wf.ps⟩,?_,?_,?_,?_,?_,by omega⟩
 ·show (c.classes++[t]).length≤_; rw [List.length_append,List.length_singleton]; omega
 ·rcases List.mem_append.1 hs' with h' | h'
  ·exact h.wf.classes.2 s h'
  ·rw [List.mem_singleton.1 h']; omega
 ·rw [HM,if_neg (by omega)]
  split at hb<;>omega
 ·show c.ids.length≤_; omega
 ·show (c.classes++[t]).length≤_; rw [List.length_append,List.length_singleton]; omega
 ·show c.attrs.length≤_; omega
 ·show c.pseudos.length≤_; omega
theorem Jw {ts:List Tn} {a a1 n:Nat} {c:Cp} (h:CpI ts a a1 n c) (hl:ts.length≤300) (ha:a≤a1) (t:At) (hn:t.name.data.size≤900) (hx:t.text.data.size≤900) (ho:i64 t.op) (a2:Nat) (h2:a1+3≤a2) (h3:a2≤ts.length):CpI ts a a2 (n+1) (.mk c.tag c.ids c.classes (c.attrs++[t]) c.pseudos):=by
 have hL:cU=9223372036854775807:=rfl
 have hb:=h.bk
 have q1:=h.l1
 have q2:=h.l2
 have q3:=h.l3
 have q4:=h.l4
 have q5:=h.n0
 refine ⟨h3,⟨h.wf.tag,h.wf.ids,h.wf.classes,?_,fun s hs'=>?_,h.wf.psL,h.wf.ps⟩,?_,?_,?_,?_,?_,by omega⟩
 ·show (c.attrs++[t]).length≤_; rw [List.length_append,List.length_singleton]; omega
 ·rcases List.mem_append.1 hs' with h' | h'
  ·exact h.wf.attrs s h'
  ·rw [List.mem_singleton.1 h']; exact ⟨by omega,ho,by omega⟩
 ·rw [HL,yA,if_neg (by omega)]
  split at hb<;>omega
 ·show c.ids.length≤_; omega
 ·show c.classes.length≤_; omega
 ·show (c.attrs++[t]).length≤_; rw [List.length_append,List.length_singleton]; omega
 ·show c.pseudos.length≤_; omega
theorem Jj {ts:List Tn} {a a1 n:Nat} {c:Cp} (h:CpI ts a a1 n c) (hl:ts.length≤300) (ha:a≤a1) (t:Ps) (hw:Ps.wf cU t) (a2:Nat) (h2:a1+1≤a2) (h3:a2≤ts.length) (ht:bkL (bI t)+90≤1000*(a2 - a1)):CpI ts a a2 (n+1) (.mk c.tag c.ids c.classes c.attrs (c.pseudos++[t])):=by
 have hL:cU=9223372036854775807:=rfl
 have hb:=h.bk
 have q1:=h.l1
 have q2:=h.l2
 have q3:=h.l3
 have q4:=h.l4
 have q5:=h.n0
 refine ⟨h3,⟨h.wf.tag,h.wf.ids,h.wf.classes,h.wf.attrsL,h.wf.attrs,?_,fun s hs'=>?_⟩,?_,?_,?_,?_,?_,by omega⟩
 ·show (c.pseudos++[t]).length≤_; rw [List.length_append,List.length_singleton]; omega
 ·rcases List.mem_append.1 hs' with h' | h'
  ·exact h.wf.ps s h'
  ·rw [List.mem_singleton.1 h']; exact hw
 ·rw [Gz,if_neg (by omega)]
  split at hb<;>omega
 ·show c.ids.length≤_; omega
 ·show c.classes.length≤_; omega
 ·show c.attrs.length≤_; omega
 ·show (c.pseudos++[t]).length≤_; rw [List.length_append,List.length_singleton]; omega
def zCp:List AV:=[.lit (.string ⟨#[]⟩),.lit (.slice none 0 0),.lit (.slice none 0 0),.lit (.slice none 0 0),.lit (.slice none 0 0)]
section
attribute [local irreducible] ap.J0 ap.L1 ap.J2
theorem pCp {b a:Nat} {ts:List Tn} {dp:Int} (IL:mR σ dp) {H:Hp} {K:AV→Hp→Prop} (s:PkS b ts a false dp H) (hok:∀ t ∈ ts,g_ t) (hl:ts.length≤300) (ha:a≤ts.length)
  (hK:∀ (c:Cp) (a':Nat) (bad':Bool) (H':Hp),PkS b ts a' bad' dp H'→Wb b H H'→a≤a'→a'≤ts.length+2→(bad'=false→a+1≤a'∧a'≤ts.length∧t8 cU c∧bkL (bZ c)+75≤1000*(a' - a))→K (.agg (bZ c)) H') :
  ai Try.prog σ dA [.ptr b 0] H K:=by
 refine gV s ?_
 refine ap.run ?_
 rw [bl,bl]
 obtain ⟨r,hr⟩:∃ r,r=H.n:=⟨_,rfl⟩
 obtain ⟨q,hq⟩:∃ q,q=r+1:=⟨_,rfl⟩
 have ez:(Blk.cells [.lit (.string ⟨#[]⟩),.lit (.slice none 0 0),.lit (.slice none 0 0),.lit (.slice none 0 0),.lit (.slice none 0 0)] true)=.cells zCp true:=rfl
 have hbr:b<H.n:=s.lt
 have hL:cU=9223372036854775807:=rfl
 have n1:(H.new (.cells zCp true)).n=q:=by rw [hq,hr]; rfl
 rw [ez,← hr,n1]
 have p0:=(s.pl.new (.cells zCp true)).new (.cells zCp true)
 have gr0:((H.new (.cells zCp true)).new (.cells zCp true)).get r=some (.cells zCp true):=by rw [az,n1,if_neg (by omega),az,if_pos hr]
 have gq0:((H.new (.cells zCp true)).new (.cells zCp true)).get q=some (.cells zCp true):=by rw [az,n1,if_pos rfl]
 generalize (H.new (.cells zCp true)).new (.cells zCp true)=H1 at p0 gr0 gq0 ⊢
 have v0:LV b ts H a false dp q r zCp H1:=⟨p0,gq0,⟨_,gr0,rfl⟩,by omega,by omega,by omega,hbr⟩
 have c0:∀ (tag:ByteArray) (a1:Nat) (H2:Hp),LV b ts H a1 false dp q r [Sx tag,.lit (.slice none 0 0),.lit (.slice none 0 0),.lit (.slice none 0 0),.lit (.slice none 0 0)] H2→CpS b ts H a1 false dp q r (.mk tag [] [] [] []) (.lit (.slice none 0 0)) (.lit (.slice none 0 0)) (.lit (.slice none 0 0)) (.lit (.slice none 0 0)) (fun _=>0) H2 :=
  fun tag a1 H2 v=>⟨v,.nil,.nil,.nil,.nil,fun _ h=>h.elim,fun _ h=>h.elim,fun _ h=>h.elim,fun _ h=>h.elim⟩
 have ret:∀ (c:Cp) (xi xc xa xp:AV) (w:Nat→Nat) (a1:Nat) (bad1:Bool) (Hx:Hp),CpS b ts H a1 bad1 dp q r c xi xc xa xp w Hx→a≤a1→a1≤ts.length+2→(bad1=false→a+1≤a1∧a1≤ts.length∧t8 cU c∧bkL (bZ c)+75≤1000*(a1 - a)) →
   bnd (ldA true 5 Hx (.ptr q 0)) fun x91=>bnd (stA 5 Hx (.ptr r 0) x91) fun H92=>bnd (ldA true 5 H92 (.ptr r 0)) fun r93=>d6 b ts H K r93 H92:=by
  intro c xi xc xa xp w a1 bad1 Hx cs h1 h2 h3
  exact cs.v.ret (r':=.agg (bZ c)) rfl (by
   have e1:=cs.gi.one
   have e2:=cs.gc.one
   have e3:=cs.ga.one
   have e4:=cs.gp.one
   simp only [List.all_cons,List.all_nil,e1,e2,e3,e4,Bool.and_true]; rfl) (fun Hd hn hd=>cs.fz Hd hn hd) fun H' s' w'=>hK c a1 bad1 H' s' w' h1 h2 h3
 have L1:∀ (f:Nat) (c:Cp) (xi xc xa xp:AV) (w:Nat→Nat) (a1 n:Nat) (bad1:Bool) (Hx:Hp),1000 - a1=f→CpS b ts H a1 bad1 dp q r c xi xc xa xp w Hx→a≤a1→a1≤ts.length+2→(bad1=false→CpI ts a a1 n c)→ap.L1 σ (d6 b ts H K) (.ptr b 0) (.ptr r 0) (.ptr q 0) (I (n:Int)) Hx:=by
  intro f
  induction f using Nat.strongRecOn with
  | ind f ih =>
   intro c xi xc xa xp w a1 n bad1 Hx hf cs h1 h2 h3
   refine ap.L1_step ?_
   rw [fw,aa,bx,aa,cs.v.s.l2,aa,ep,aa,aj]
   cases bad1 with
   | true =>
    rw [if_neg (by decide)]
    exact ret c xi xc xa xp w a1 true Hx cs h1 h2 fun h=>by cases h
   | false =>
    rw [if_pos (by decide)]
    have hI:=h3 rfl
    have hle:=hI.le
    have J2:∀ (c2:Cp) (xi xc xa xp:AV) (w:Nat→Nat) (a2:Nat) (bad2:Bool) (H2:Hp),CpS b ts H a2 bad2 dp q r c2 xi xc xa xp w H2→a1<a2→a2≤ts.length+2→(bad2=false→CpI ts a a2 (n+1) c2)→ap.J2 σ (d6 b ts H K) (.ptr b 0) (.ptr r 0) (.ptr q 0) (I (n:Int)) H2:=by
     intro c2 xi xc xa xp w a2 bad2 H2 cs2 g1 g2 g3
     refine ap.J2_step ?_
     have:=hI.n0
     rw [co,aa,bW (by omega)]
     exact ih (1000 - a2) (by omega) c2 xi xc xa xp w a2 (n+1) bad2 H2 rfl cs2 (by omega) g2 g3
    have sw:∀ (k:Int) (Hx:Hp),(k=18→a1<ts.length)→(k=11→a1<ts.length)→CpS b ts H a1 false dp q r c xi xc xa xp w Hx→bnd (af .eql (I k) (.lit (.int .i64 18))) fun x47=>ifB x47 (bnd (ar (.ptr b 0)) fun x48=>bnd (ae x48 1) fun x49=>bnd (ldA false 1 Hx x49) fun x50=>bnd (af .add x50 (.lit (.int .i64 1))) fun x51=>bnd (ar (.ptr b 0)) fun x52=>bnd (ae x52 1) fun x53=>bnd (stA 1 Hx x53 x51) fun H54=>ai Try.prog σ da [.ptr b 0] H54 fun x55 H56=>bh [.lit (.string ⟨#[]⟩),.lit (.int .i64 0),.lit (.string ⟨#[]⟩)] H56 fun x57 H58=>bnd (stA 3 H58 x57 x55) fun H59=>bnd (ae (.ptr q 0) 3) fun x60=>bnd (ldA false 1 H59 x60) fun x61=>bnd (ldA true 3 H59 x57) fun x62=>bnd (au [.string ⟨#[]⟩,.int .i64 0,.string ⟨#[]⟩] 3 1 H59 [(0,3,x62)]) fun p63=>bnd (aT false 3 40 p63.2 x61 p63.1) fun p64=>bnd (ae (.ptr q 0) 3) fun x65=>bnd (stA 1 p64.2 x65 p64.1) fun H66=>ap.J2 σ (d6 b ts H K) (.ptr b 0) (.ptr r 0) (.ptr q 0) (I (n:Int)) H66) (bnd (af .eql (I k) (.lit (.int .i64 11))) fun x67=>ifB x67 (bnd (ar (.ptr b 0)) fun x68=>bnd (ae x68 1) fun x69=>bnd (ldA false 1 Hx x69) fun x70=>bnd (af .add x70 (.lit (.int .i64 1))) fun x71=>bnd (ar (.ptr b 0)) fun x72=>bnd (ae x72 1) fun x73=>bnd (stA 1 Hx x73 x71) fun H74=>ai Try.prog σ cK [.ptr b 0] H74 fun x75 H76=>bh [.lit (.int .i64 0),.lit (.int .i64 0),.lit (.int .i64 0),.lit (.slice none 0 0)] H76 fun x77 H78=>bnd (stA 4 H78 x77 x75) fun H79=>bnd (ae (.ptr q 0) 4) fun x80=>bnd (ldA false 1 H79 x80) fun x81=>bnd (ldA true 4 H79 x77) fun x82=>bnd (au [.int .i64 0,.int .i64 0,.int .i64 0,.slice none 0 0] 4 1 H79 [(0,4,x82)]) fun p83=>bnd (aT false 4 48 p83.2 x81 p83.1) fun p84=>bnd (ae (.ptr q 0) 4) fun x85=>bnd (stA 1 p84.2 x85 p84.1) fun H86=>ap.J2 σ (d6 b ts H K) (.ptr b 0) (.ptr r 0) (.ptr q 0) (I (n:Int)) H86) (bnd (af .eql (I (n:Int)) (.lit (.int .i64 0))) fun x87=>bnd (ar (.ptr b 0)) fun x88=>bnd (ae x88 2) fun x89=>bnd (stA 1 Hx x89 x87) fun H90=>bnd (ldA true 5 H90 (.ptr q 0)) fun x91=>bnd (stA 5 H90 (.ptr r 0) x91) fun H92=>bnd (ldA true 5 H92 (.ptr r 0)) fun r93=>(d6 b ts H K) r93 H92)):=by
     intro k Hx k18 k11 cs
     rw [bT,aa,aj]
     split
     ·rename_i hk
      have hlt:=k18 (of_decide_eq_true hk)
      refine kg 1 rfl cs.v.s (by omega) fun H2 s2 w2 _=>?_
      have cs2:=cs.to s2 w2
      refine Jq s2 hok hl (by omega) fun x a' bad' H3 s3 w3 g1 g2 g3=>?_
      have cs3:=cs2.to s3 w3
      rw [bl]
      have st:stA 3 (H3.new (.cells [.lit (.string ⟨#[]⟩),.lit (.int .i64 0),.lit (.string ⟨#[]⟩)] true)) (.ptr H3.n 0) (.agg (bR x))=some ((H3.new (.cells [.lit (.string ⟨#[]⟩),.lit (.int .i64 0),.lit (.string ⟨#[]⟩)] true)).set H3.n (some (.cells (bR x) true))):=by
       rw [fC,az,if_pos rfl,if_pos (show (bR x).length=3 from rfl),cp,if_pos ⟨by show 0+3≤3; omega,rfl⟩,aS (by rfl)]
      rw [st,aa]
      have cs4:=cs3.tmp [.lit (.string ⟨#[]⟩),.lit (.int .i64 0),.lit (.string ⟨#[]⟩)] (bR x)
      have lo:ldA true 3 ((H3.new (.cells [.lit (.string ⟨#[]⟩),.lit (.int .i64 0),.lit (.string ⟨#[]⟩)] true)).set H3.n (some (.cells (bR x) true))) (.ptr H3.n 0)=some (.agg (bR x)):=by
       rw [bA,ax,if_pos rfl,bK,List.drop_zero,cB (show (bR x).length=3 from rfl)]
      generalize ((H3.new (.cells [.lit (.string ⟨#[]⟩),.lit (.int .i64 0),.lit (.string ⟨#[]⟩)] true)).set H3.n (some (.cells (bR x) true)))=H4 at cs4 lo ⊢
      have la:ldA false 1 H4 (.ptr q (0+3))=some xa:=by rw [bA,cs4.v.gq]; rfl
      have eb:au [.string ⟨#[]⟩,.int .i64 0,.string ⟨#[]⟩] 3 1 H4 [(0,3,.agg (bR x))]=some (.sl H4.n 0 3 1 (some 1),H4.new (.cells (bR x) true)):=rfl
      rw [bx,aa,la,aa,lo,aa,eb,aa]
      refine cs4.appA (by have:=hI.l3; omega) x fun x' w' H5 cs5=>?_
      exact J2 _ _ _ _ _ _ a' bad' H5 cs5 (by omega) (by omega) fun hb=>by
       obtain ⟨g4,g5,g6,g7,g8⟩:=g3 hb
       exact Jw hI hl h1 x g6 g7 g8 a' (by omega) g5
     ·rw [bT,aa,aj]
      split
      ·rename_i hk
       have hlt:=k11 (of_decide_eq_true hk)
       refine kg 1 rfl cs.v.s (by omega) fun H2 s2 w2 _=>?_
       have cs2:=cs.to s2 w2
       refine Dv IL s2 hok hl (by omega) fun x a' bad' H3 s3 w3 g1 g2 g3=>?_
       have cs3:=cs2.to s3 w3
       rw [bl]
       have st:stA 4 (H3.new (.cells [.lit (.int .i64 0),.lit (.int .i64 0),.lit (.int .i64 0),.lit (.slice none 0 0)] true)) (.ptr H3.n 0) (.agg (bI x))=some ((H3.new (.cells [.lit (.int .i64 0),.lit (.int .i64 0),.lit (.int .i64 0),.lit (.slice none 0 0)] true)).set H3.n (some (.cells (bI x) true))):=by
        rw [fC,az,if_pos rfl,if_pos (fN x),cp,if_pos ⟨by rw [fN]; show 0+4≤4; omega,Ab x⟩,aS (by rw [fN]; rfl)]
       rw [st,aa]
       have cs4:=cs3.tmp [.lit (.int .i64 0),.lit (.int .i64 0),.lit (.int .i64 0),.lit (.slice none 0 0)] (bI x)
       have lo:ldA true 4 ((H3.new (.cells [.lit (.int .i64 0),.lit (.int .i64 0),.lit (.int .i64 0),.lit (.slice none 0 0)] true)).set H3.n (some (.cells (bI x) true))) (.ptr H3.n 0)=some (.agg (bI x)):=by
        rw [bA,ax,if_pos rfl,bK,List.drop_zero,cB (fN x)]
       generalize ((H3.new (.cells [.lit (.int .i64 0),.lit (.int .i64 0),.lit (.int .i64 0),.lit (.slice none 0 0)] true)).set H3.n (some (.cells (bI x) true)))=H4 at cs4 lo ⊢
       have la:ldA false 1 H4 (.ptr q (0+4))=some xp:=by rw [bA,cs4.v.gq]; rfl
       have eb:au [.int .i64 0,.int .i64 0,.int .i64 0,.slice none 0 0] 4 1 H4 [(0,4,.agg (bI x))]=some (.sl H4.n 0 4 1 (some 1),H4.new (.cells (bI x) true)):=kY (x:=.agg (bI x)) (fN x) rfl
       rw [bx,aa,la,aa,lo,aa,eb,aa]
       refine cs4.appP (by have:=hI.l4; omega) x fun x' w' H5 cs5=>?_
       exact J2 _ _ _ _ _ _ a' bad' H5 cs5 (by omega) (by omega) fun hb=>by
        obtain ⟨g4,g5,g6,g7⟩:=g3 hb
        exact Jj hI hl h1 x g6 a' (by omega) g5 (by omega)
      ·rw [bT,aa]
       refine ot _ cs.v.s fun H2 s2 w2 _=>?_
       refine ret c xi xc xa xp w a1 _ H2 (cs.to s2 w2) h1 (by omega) fun hb=>?_
       have hn0:n≠0:=by
        intro e
        rw [e] at hb
        cases hb
       have:=hI.bk
       rw [if_neg hn0] at this
       exact ⟨by omega,hI.le,hI.wf,by omega⟩
    refine jt 0 rfl cs.v.s (by omega) fun H2 s2 w2=>?_
    have cs2:=cs.to s2 w2
    rw [ij,aa]
    have hk2:(fZ ts (a1+0)).kind≠0→a1+0<ts.length:=fV
    rw [bT,aa,aj]
    split
    ·rename_i hk
     have hlt:=hk2 (by have:=of_decide_eq_true hk; omega)
     have la:ldA false 1 H2 (.ptr q (0+1))=some xi:=by rw [bA,cs2.v.gq]; rfl
     rw [bx,aa,la,aa]
     refine jt 0 rfl s2 (by omega) fun H3 s3 w3=>?_
     have cs3:=cs2.to s3 w3
     have hqb:q≠b:=by omega
     rw [pA]
     refine ⟨by rw [w3.g q hqb],?_⟩
     rw [qc,aa]
     have okt:=(l_ hok (a1+0)).text
     generalize (fZ ts (a1+0)).text=tx at okt ⊢
     have eb:au [.string ⟨#[]⟩] 1 1 H3 [(0,1,Sx tx)]=some (.sl H3.n 0 1 1 (some 1),H3.new (.cells [Sx tx] true)):=rfl
     rw [eb,aa]
     dsimp only
     rw [pA]
     refine ⟨by rw [az,if_neg (by have:=cs3.v.lt cs3.v.gq; omega)],?_⟩
     refine cs3.appI (by have:=hI.l1; omega) tx fun x' w' H5 cs5=>?_
     refine kg 1 rfl cs5.v.s (by omega) fun H6 s6 w6 _=>?_
     exact J2 _ _ _ _ _ _ (a1+1) false H6 (cs5.to s6 w6) (by omega) (by omega) fun _=>Jo hI hl h1 tx okt (a1+1) (by omega) (by omega)
    ·refine nM 0 rfl s2 (by omega) fun d H3 s3 w3 hd=>?_
     have cs3:=cs2.to s3 w3
     have k18:(fZ ts (a1+0)).kind=18→a1<ts.length:=fun h=>hk2 (by omega)
     have k11:(fZ ts (a1+0)).kind=11→a1<ts.length:=fun h=>hk2 (by omega)
     generalize (fZ ts (a1+0)).kind=k at k18 k11 ⊢
     rw [aj]
     split
     ·refine jt 1 rfl s3 (by omega) fun H4 s4 w4=>?_
      have cs4:=cs3.to s4 w4
      rw [ij,aa,bT,aa,aj]
      split
      ·rename_i hk
       have hlt:a1+1<ts.length:=fV (by have:=of_decide_eq_true hk; omega)
       have la:ldA false 1 H4 (.ptr q (0+2))=some xc:=by rw [bA,cs4.v.gq]; rfl
       rw [bx,aa,la,aa]
       refine jt 1 rfl s4 (by omega) fun H5 s5 w5=>?_
       have cs5:=cs4.to s5 w5
       have hqb:q≠b:=by omega
       rw [pA]
       refine ⟨by rw [w5.g q hqb],?_⟩
       rw [qc,aa]
       have okt:=(l_ hok (a1+1)).text
       generalize (fZ ts (a1+1)).text=tx at okt ⊢
       have eb:au [.string ⟨#[]⟩] 1 1 H5 [(0,1,Sx tx)]=some (.sl H5.n 0 1 1 (some 1),H5.new (.cells [Sx tx] true)):=rfl
       rw [eb,aa]
       dsimp only
       rw [pA]
       refine ⟨by rw [az,if_neg (by have:=cs5.v.lt cs5.v.gq; omega)],?_⟩
       refine cs5.appC (by have:=hI.l2; omega) tx fun x' w' H6 cs6=>?_
       refine kg 2 rfl cs6.v.s (by omega) fun H7 s7 w7 _=>?_
       exact J2 _ _ _ _ _ _ (a1+2) false H7 (cs6.to s7 w7) (by omega) (by omega) fun _=>JA hI hl h1 tx okt (a1+2) (by omega) (by omega)
      ·exact sw k H4 k18 k11 cs4
     ·exact sw k H3 k18 k11 cs3
 have J0:∀ (tag:ByteArray) (n a1:Nat) (H2:Hp),LV b ts H a1 false dp q r [Sx tag,.lit (.slice none 0 0),.lit (.slice none 0 0),.lit (.slice none 0 0),.lit (.slice none 0 0)] H2→a1=a+n→n≤1→a1≤ts.length→tag.data.size≤900*n→ap.J0 σ (d6 b ts H K) (.ptr b 0) (.ptr r 0) (.ptr q 0) (I (n:Int)) H2:=by
  intro tag n a1 H2 v e h1 h2 h3
  refine ap.J0_step ?_
  refine L1 (1000 - a1) (.mk tag [] [] [] []) _ _ _ _ _ a1 n false H2 rfl (c0 tag a1 H2 v) (by omega) (by omega) fun _=>⟨h2,⟨?_,⟨?_,fun _ h=>by cases h⟩,⟨?_,fun _ h=>by cases h⟩,?_,fun _ h=>(by cases h),?_,fun _ h=>(by cases h)⟩,?_,?_,?_,?_,?_,by omega⟩
  ·show tag.data.size≤cU; omega
  ·show (0:Nat)≤cU; omega
  ·show (0:Nat)≤cU; omega
  ·show (0:Nat)≤cU; omega
  ·show (0:Nat)≤cU; omega
  ·rw [kM]
   show (tag.data.size+1)+((0+1)+((0+1)+((0+1)+(0+1))))+_≤_
   split<;>omega
  ·show (0:Nat)≤_; omega
  ·show (0:Nat)≤_; omega
  ·show (0:Nat)≤_; omega
  ·show (0:Nat)≤_; omega
 refine jt 0 rfl v0.s (by omega) fun H2 s2 w2=>?_
 have v2:=v0.to s2 w2
 rw [ij,aa,bT,aa,aj]
 have hk2:(fZ ts (a+0)).kind≠0→a+0<ts.length:=fV
 split
 ·rename_i hk
  have hlt:=hk2 (by have:=of_decide_eq_true hk; omega)
  refine jt 0 rfl s2 (by omega) fun H3 s3 w3=>?_
  have v3:=v2.to s3 w3
  rw [qc,aa]
  have okt:=(l_ hok (a+0)).text
  generalize (fZ ts (a+0)).text=tx at okt ⊢
  refine aw (iA tx (by omega) H3) ?_
  have szn:(jB tx).data.size≤900:=by
   have:(jB tx).data.size=tx.data.size:=by simp [jB]
   omega
  generalize jB tx=nm at szn ⊢
  rw [bx,aa]
  refine v3.st (i:=0+0) (by show 0+0<5; omega) rfl rfl rfl fun H4 v4=>?_
  refine kg 1 rfl v4.s (by omega) fun H5 s5 w5 _=>?_
  rw [co,aa,show wr .i64 (0+1)=((1:Nat):Int) from rfl]
  exact J0 nm 1 (a+1) H5 (v4.to s5 w5) rfl (by omega) (by omega) (by omega)
 ·refine nM 0 rfl s2 (by omega) fun d H3 s3 w3 hd=>?_
  have v3:=v2.to s3 w3
  rw [aj]
  split
  ·rename_i h
   have hlt:=hd h
   refine kg 1 rfl s3 (by omega) fun H5 s5 w5 _=>?_
   rw [co,aa,show wr .i64 (0+1)=((1:Nat):Int) from rfl]
   exact J0 ⟨#[]⟩ 1 (a+1) H5 (v3.to s5 w5) rfl (by omega) (by omega) (by decide)
  ·exact J0 ⟨#[]⟩ 0 a H3 v3 rfl (by omega) ha (by decide)
end
end Go.Proofs.Ythmaggcfghjmfaa.Ev
namespace Go.Proofs.Ythmaggcfghjmfaa.Ev
set_option linter.unusedVariables false
set_option linter.unusedSimpArgs false
variable {σ:Sig}
theorem ur {b a:Nat} {ts:List Tn} {bad:Bool} {dp:Int} {H:Hp} {K:AV→Prop} (s:PkS b ts a bad dp H) (hK:K (Bo bad)):bnd (ar (.ptr b 0)) fun x1=>bnd (ae x1 2) fun x2=>bnd (ldA false 1 H x2) K:=by
 simp only [fw,bx,aa,s.l2]; exact hK
theorem Ea {b a:Nat} {ts:List Tn} {bad:Bool} {dp:Int} {H:Hp} {K:AV→Prop} (s:PkS b ts a bad dp H) (hK:K (I dp)):bnd (ar (.ptr b 0)) fun x1=>bnd (ae x1 3) fun x2=>bnd (ldA false 1 H x2) K:=by
 simp only [fw,bx,aa,s.l3]; exact hK
structure SlS (b:Nat) (ts:List Tn) (H0:Hp) (a:Nat) (bad:Bool) (dp:Int) (q r:Nat) (l:Sl) (x:AV) (H:Hp):Prop where
 v:LV b ts H0 a bad dp q r [x] H
 g:Gs 6 H x (l.map aZ)
 w:∀ j,own x j→H0.n≤j∧j≠q∧j≠r
section
variable {b a a' q r:Nat} {ts:List Tn} {bad bad':Bool} {dp:Int} {H0 H H':Hp} {l:Sl} {x:AV}
theorem SlS.to (s:SlS b ts H0 a bad dp q r l x H) (s':PkS b ts a' bad' dp H') (w':Wb b H H'):SlS b ts H0 a' bad' dp q r l x H' :=
 ⟨s.v.to s' w',s.g.keep (fun j hj=>w'.g j (by have:=s.v.hb; have:=(s.w j hj).1; omega)) w'.n,s.w⟩
theorem SlS.tmp (s:SlS b ts H0 a bad dp q r l x H) (c0 c1:List AV):SlS b ts H0 a bad dp q r l x ((H.new (.cells c0 true)).set H.n (some (.cells c1 true))):=by
 have hq:=s.v.lt s.v.gq
 obtain ⟨d0,hgr,hlr⟩:=s.v.gr
 have hr:=s.v.lt hgr
 have hkn:=s.v.pl.k.n
 refine ⟨(s.v.new (.cells c0 true)).other (.cells c1 true) hkn (by simp) (by omega) (by omega),s.g.keep (fun j hj=>?_) (by simp),s.w⟩
 have:=s.g.lt hj
 rw [ax,if_neg (by omega),az,if_neg (by omega)]
theorem SlS.app (s:SlS b ts H0 a bad dp q r l x H) (hn:l.length≤1000) (t:Pt) {K:Hp→Prop}
  (hK:∀ x' H',SlS b ts H0 a bad dp q r (l++[t]) x' H'→K H') :
  bnd (aT false 6 120 (H.new (.cells (aZ t) true)) x (.sl H.n 0 6 1 (some 1))) fun p=>bnd (ae (.ptr q 0) 0) fun z=>bnd (stA 1 p.2 z p.1) K:=by
 refine s.v.app2 (y:=.agg (aZ t)) s.g s.w (dt t) (B0 t) (by rw [List.length_map]; omega) (by rw [List.length_map]; omega) fun x' H' v' g' fr=>?_
 have hq:=s.v.lt s.v.gq
 obtain ⟨c0,hgr,hlr⟩:=s.v.gr
 have hr:=s.v.lt hgr
 have hkn:=s.v.pl.k.n
 rw [bx,aa,fS v'.gq g'.cells.1 g'.cells.2 g'.one (by show 0+0<1; omega),aa]
 have v2:=v'.set ([x].set (0+0) x') (by rw [List.length_set])
 have mine:∀ j,own x' j→H0.n≤j∧j≠q∧j≠r:=by
  intro j hj
  rcases fr.mine j hj with h | h
  ·exact s.w j h
  ·exact ⟨by omega,by omega,by omega⟩
 refine hK x' _ ⟨v2,?_,mine⟩
 rw [List.map_append]
 exact g'.keep (fun j hj=>by rw [ax,if_neg (mine j hj).2.1]) (by simp)
theorem SlS.fz (s:SlS b ts H0 a bad dp q r l x H) (Hd:Hp) (hn:H.n≤Hd.n) (hd:∀ j k,H.get j=some k→H0.n≤j→j≠r→Hd.get j=some k):FzE Hd (.agg [x]) (.agg (bc l)):=by
 have g:Gs 6 Hd x (l.map aZ):=by
  refine s.g.keep (fun j hj=>?_) hn
  obtain ⟨k,hk⟩:=s.g.has hj
  rw [hk]
  exact hd j k hk (s.w j hj).1 (s.w j hj).2.2
 exact .inr (.aggL (.cons (g.fz (a_ _ oN _)) .nil))
end
structure SlI (ts:List Tn) (a a1:Nat) (l:Sl):Prop where
 le:a1≤ts.length
 wf:∀ p ∈ l,Pt.wf cU p
 bk:cP (l.map aZ)+70*l.length≤1000*(a1 - a)
 l1:l.length≤a1
theorem EQ {ts:List Tn} {a a1:Nat} {l:Sl} (h:SlI ts a a1 l) (ha:a≤a1) (k:Int) (hk:i64 k) (c:Cp) (hc:t8 cU c) {a2:Nat} (h1:a1+1≤a2) (h2:a2≤ts.length) (hb:bkL (bZ c)+75≤1000*(a2 - a1)):SlI ts a a2 (l++[.mk k c]):=by
 have q1:=h.bk
 have q2:=h.l1
 refine ⟨h2,fun p hp=>?_,?_,?_⟩
 ·rcases List.mem_append.1 hp with h' | h'
  ·exact h.wf p h'
  ·rw [List.mem_singleton.1 h',Pt.wf_iff]; exact ⟨hk,hc⟩
 ·rw [List.map_append,List.length_append,List.map_cons,List.map_nil,gG,qJ]
  show _+(1+bkL (bZ c))+70*(l.length+1)≤_
  omega
 ·rw [List.length_append,List.length_singleton]; omega
section
attribute [local irreducible] bf.L0
theorem KG {b a:Nat} {ts:List Tn} {dp:Int} (IL:mR σ dp) {H:Hp} {K:AV→Hp→Prop} (s:PkS b ts a false dp H) (hok:∀ t ∈ ts,g_ t) (hl:ts.length≤300) (ha:a≤ts.length)
  (hK:∀ (m:Sl) (a':Nat) (bad':Bool) (H':Hp),PkS b ts a' bad' dp H'→Wb b H H'→a≤a'→a'≤ts.length+2→(bad'=false→a+1≤a'∧a'≤ts.length∧tQ cU m∧bkL (bc m)+65≤1000*(a' - a))→K (.agg (bc m)) H') :
  ai Try.prog σ dz [.ptr b 0] H K:=by
 refine gV s ?_
 refine bf.run ?_
 rw [bl,bl]
 obtain ⟨r,hr⟩:∃ r,r=H.n:=⟨_,rfl⟩
 obtain ⟨q,hq⟩:∃ q,q=r+1:=⟨_,rfl⟩
 have hbr:b<H.n:=s.lt
 have hL:cU=9223372036854775807:=rfl
 have n1:(H.new (.cells [.lit (.slice none 0 0)] true)).n=q:=by rw [hq,hr]; rfl
 rw [← hr,n1]
 have p0:=(s.pl.new (.cells [.lit (.slice none 0 0)] true)).new (.cells [.lit (.slice none 0 0)] true)
 have gr0:((H.new (.cells [.lit (.slice none 0 0)] true)).new (.cells [.lit (.slice none 0 0)] true)).get r=some (.cells [.lit (.slice none 0 0)] true):=by rw [az,n1,if_neg (by omega),az,if_pos hr]
 have gq0:((H.new (.cells [.lit (.slice none 0 0)] true)).new (.cells [.lit (.slice none 0 0)] true)).get q=some (.cells [.lit (.slice none 0 0)] true):=by rw [az,n1,if_pos rfl]
 generalize (H.new (.cells [.lit (.slice none 0 0)] true)).new (.cells [.lit (.slice none 0 0)] true)=H1 at p0 gr0 gq0 ⊢
 have s0:SlS b ts H a false dp q r [] (.lit (.slice none 0 0)) H1:=⟨⟨p0,gq0,⟨_,gr0,rfl⟩,by omega,by omega,by omega,hbr⟩,.nil,fun _ h=>h.elim⟩
 have ret:∀ (m:Sl) (x:AV) (a1:Nat) (bad1:Bool) (Hx:Hp),SlS b ts H a1 bad1 dp q r m x Hx→a≤a1→a1≤ts.length+2→(bad1=false→SlI ts a a1 m∧1≤m.length) →
   bnd (ldA true 1 Hx (.ptr q 0)) fun x21=>bnd (stA 1 Hx (.ptr r 0) x21) fun H22=>bnd (ldA true 1 H22 (.ptr r 0)) fun r23=>d6 b ts H K r23 H22:=by
  intro m x a1 bad1 Hx ss h1 h2 h3
  exact ss.v.ret (r':=.agg (bc m)) rfl (by
   have e1:=ss.g.one
   simp only [List.all_cons,List.all_nil,e1,Bool.and_true]) (fun Hd hn hd=>ss.fz Hd hn hd) fun H' s' w'=>hK m a1 bad1 H' s' w' h1 h2 fun hb=>by
    obtain ⟨hI,hlen⟩:=h3 hb
    have q1:=hI.bk
    have q2:=hI.l1
    have q3:=hI.le
    refine ⟨by omega,hI.le,⟨by omega,hI.wf⟩,?_⟩
    rw [pp]
    omega
 have L0:∀ (f:Nat) (m:Sl) (x:AV) (a1:Nat) (k:Int) (Hx:Hp),1000 - a1=f→SlS b ts H a1 false dp q r m x Hx→a≤a1→SlI ts a a1 m→0≤k→k≤4→bf.L0 σ (d6 b ts H K) (.ptr b 0) (.ptr r 0) (.ptr q 0) (I k) Hx:=by
  intro f
  induction f using Nat.strongRecOn with
  | ind f ih =>
   intro m x a1 k Hx hf ss h1 hI k0 k4
   have hle:=hI.le
   refine bf.L0_step ?_
   refine ur ss.v.s ?_
   rw [ep,aa,aj,if_pos (by decide)]
   refine pCp IL ss.v.s hok hl hle fun c a2 bad2 H2 s2 w2 g1 g2 g3=>?_
   have ss2:=ss.to s2 w2
   rw [bl]
   have ez:(Blk.cells [.lit (.string ⟨#[]⟩),.lit (.slice none 0 0),.lit (.slice none 0 0),.lit (.slice none 0 0),.lit (.slice none 0 0)] true)=.cells zCp true:=rfl
   rw [ez]
   have st:stA 5 (H2.new (.cells zCp true)) (.ptr H2.n 0) (.agg (bZ c))=some ((H2.new (.cells zCp true)).set H2.n (some (.cells (bZ c) true))):=by
    rw [fC,az,if_pos rfl,if_pos (jy c),cp,if_pos ⟨by rw [jy]; show 0+5≤5; omega,xZ c⟩,aS (by rw [jy]; rfl)]
   rw [st,aa]
   have ss4:=ss2.tmp zCp (bZ c)
   have lo:ldA true 5 ((H2.new (.cells zCp true)).set H2.n (some (.cells (bZ c) true))) (.ptr H2.n 0)=some (.agg (bZ c)):=by
    rw [bA,ax,if_pos rfl,bK,List.drop_zero,cB (jy c)]
   generalize ((H2.new (.cells zCp true)).set H2.n (some (.cells (bZ c) true)))=H4 at ss4 lo ⊢
   have la:ldA false 1 H4 (.ptr q (0+0))=some x:=by rw [bA,ss4.v.gq]; rfl
   have eb0:aY [.lit (.int .i64 0),.lit (.string ⟨#[]⟩),.lit (.slice none 0 0),.lit (.slice none 0 0),.lit (.slice none 0 0),.lit (.slice none 0 0)] [(0,1,I k),(1,5,.agg (bZ c))]=some (aZ (.mk k c)):=by
    rw [dy]
    show _=some (I k::bZ c)
    rw [cR]; rfl
   have eb:au [.int .i64 0,.string ⟨#[]⟩,.slice none 0 0,.slice none 0 0,.slice none 0 0,.slice none 0 0] 6 1 H4 [(0,6,.agg (aZ (.mk k c)))]=some (.sl H4.n 0 6 1 (some 1),H4.new (.cells (aZ (.mk k c)) true)):=kY (x:=.agg (aZ (.mk k c))) (dt _) rfl
   rw [bx,aa,la,aa,lo,aa,eb0,aa,eb,aa]
   refine ss4.app (by have:=hI.l1; omega) (.mk k c) fun x' H5 ss5=>?_
   refine ur ss5.v.s ?_
   rw [aj]
   cases bad2 with
   | true =>
    rw [if_pos rfl]
    exact ret _ x' a2 true H5 ss5 (by omega) g2 fun h=>by cases h
   | false =>
    rw [if_neg (by decide)]
    obtain ⟨g4,g5,g6,g7⟩:=g3 rfl
    have hI2:=EQ hI h1 k (by unfold i64; omega) c g6 g4 g5 g7
    have hlen:1≤(m++[Pt.mk k c]).length:=by rw [List.length_append,List.length_singleton]; omega
    generalize m++[Pt.mk k c]=m2 at ss5 hI2 hlen ⊢
    have up:∀ {a3:Nat},a2≤a3→a3≤ts.length→SlI ts a a3 m2:=fun h h'=>⟨h',hI2.wf,by have:=hI2.bk; omega,by have:=hI2.l1; omega⟩
    refine jY ss5.v.s (by omega) (by omega) fun wh a3 H6 s6 w6 ge3 le3=>?_
    have ss6:=ss5.to s6 w6
    refine IZ s6 (by omega) fun kc H7 s7 w7 c0 c4 hc=>?_
    have ss7:=ss6.to s7 w7
    rw [eT,aa,aj]
    split
    ·rename_i h
     have hlt:=hc (of_decide_eq_true h)
     refine kg 1 rfl s7 (by omega) fun H8 s8 w8 _=>?_
     have ss8:=ss7.to s8 w8
     refine jY s8 (by omega) (by omega) fun wh a4 H9 s9 w9 ge4 le4=>?_
     exact ih (1000 - a4) (by omega) m2 x' a4 kc H9 rfl (ss8.to s9 w9) (by omega) (up (by omega) (by omega)) c0 c4
    ·refine JN s7 (by omega) fun we H8 s8 w8=>?_
     have ss8:=ss7.to s8 w8
     rw [aj]
     split
     ·exact ret m2 x' a3 false H8 ss8 (by omega) (by omega) fun _=>⟨up ge3 (by omega),hlen⟩
     ·rw [ep,aa,aj]
      split
      ·refine ot true s8 fun H9 s9 w9 _=>?_
       exact ret m2 x' a3 true H9 (ss8.to s9 w9) (by omega) (by omega) fun h=>by cases h
      ·exact ih (1000 - a3) (by omega) m2 x' a3 1 H8 rfl ss8 (by omega) (up ge3 (by omega)) (by decide) (by decide)
 exact L0 _ [] _ a 0 H1 rfl s0 (Nat.le_refl _) ⟨ha,(fun _ h=>by cases h),(by simp [cP]),Nat.zero_le _⟩ (by decide) (by decide)
end
theorem PL.app2 {b a:Nat} {ts:List Tn} {bad:Bool} {dp:Int} {H0 H:Hp} (p:PL b ts H0 a bad dp H) {sz bytes:Nat} {x y:AV} {rows:List (List AV)} (hx:Gs sz H x rows) (hb0:b<H0.n) (hw:∀ j,own x j→H0.n≤j) (hl:y.cells.length=sz) (hone:y.cells.all AV.one=true) (hb:(rows.length+1)*bytes≤140737488355328) (hn:rows.length≤1000000)
  {K:AV × Hp→Prop} (hK:∀ x' H',PL b ts H0 a bad dp H'→Gs sz H' x' (rows++[y.cells])→(∀ j,own x' j→H0.n≤j)→K (x',H')):bnd (aT false sz bytes (H.new (.cells y.cells true)) x (.sl H.n 0 sz 1 (some 1))) K:=by
 have hk:Gs sz (H.new (.cells y.cells true)) x rows:=by
  refine hx.keep (fun j hj=>?_) (by simp)
  have:=hx.lt hj
  rw [az,if_neg (by omega)]
 have hsrc:gK (H.new (.cells y.cells true)) sz (.sl H.n 0 sz 1 (some 1))=some (([y.cells]:List (List AV)).length,([y.cells]:List (List AV)).flatten):=oM (row:=y.cells) (ex:=true) (by rw [az,if_pos rfl]) hl
 have ho1:(([y.cells]:List (List AV)).flatten).all AV.one=true:=by simpa using hone
 have h2:∀ row ∈ ([y.cells]:List (List AV)),row.length=sz:=fun row hrow=>by rw [List.mem_singleton.1 hrow]; exact hl
 obtain ⟨x',H',e,g,f⟩:=uH (bytes:=bytes) hk rfl hsrc h2 ho1 (by simpa using hb) (by simp; omega)
 have okn:=vB (bytes:=bytes) (sp p.s.ok _) hk rfl hsrc ho1 (by simpa using hb) (by simp; omega) e
 rw [e,aa]
 have hkn:=p.k.n
 have hgr:=f.grow
 simp at hgr
 have same:∀ j,j<H.n→¬ own x j→H'.get j=H.get j:=fun j hj hne=>by rw [f.same j (by simp; omega) hne,az,if_neg (by omega)]
 have hbo:¬ own x b:=fun h=>by have:=hw b h; omega
 refine hK x' H' ⟨⟨by rw [same b (by omega) hbo]; exact p.s.g,okn,by omega⟩,⟨by omega,fun j hj hjb=>?_⟩⟩ g fun j hj=>?_
 ·rw [same j (by omega) fun h=>by have:=hw j h; omega]
  exact p.k.g j hj hjb
 ·rcases f.mine j hj with h | ⟨h1,h2⟩
  ·exact hw j h
  ·simp at h1; omega
section
attribute [local irreducible] aN.L0
theorem tE {b a:Nat} {ts:List Tn} {dp:Int} {H:Hp} {K:AV→Hp→Prop} (s:PkS b ts a true dp H) (hK:∀ H',PkS b ts a true dp H'→Wb b H H'→K (sls []) H') :
  ai Try.prog σ c6 [.ptr b 0] H K:=by
 refine gV s ?_
 refine aN.run ?_
 refine aN.L0_step ?_
 refine ur s ?_
 rw [ep,aa,aj,if_neg (by decide)]
 exact s.pl.fin (.inr .nil) hK
theorem FV {b a:Nat} {ts:List Tn} {dp:Int} (IL:mR σ dp) {H:Hp} {K:AV→Hp→Prop} (s:PkS b ts a false dp H) (hok:∀ t ∈ ts,g_ t) (hl:ts.length≤300) (ha:a≤ts.length)
  (hK:∀ (m:List Sl) (a':Nat) (bad':Bool) (H':Hp),PkS b ts a' bad' dp H'→Wb b H H'→a≤a'→a'≤ts.length+2→(bad'=false→a+1≤a'∧a'≤ts.length∧gt cU m∧cP (m.map bc)≤1000*(a' - a))→K (sls m) H') :
  ai Try.prog σ c6 [.ptr b 0] H K:=by
 refine gV s ?_
 refine aN.run ?_
 have hbr:b<H.n:=s.lt
 have hL:cU=9223372036854775807:=rfl
 have bad:∀ (x:AV) (a1:Nat) (Hx:Hp),PL b ts H a1 true dp Hx→a≤a1→a1≤ts.length+2→aN.L0 σ (d6 b ts H K) (.ptr b 0) x Hx:=by
  intro x a1 Hx p h1 h2
  refine aN.L0_step ?_
  refine ur p.s ?_
  rw [ep,aa,aj,if_neg (by decide)]
  exact p.fin (r':=sls []) (.inr .nil) fun H' s' w'=>hK [] a1 true H' s' w' h1 h2 fun h=>by cases h
 have L0:∀ (f:Nat) (m:List Sl) (x:AV) (a1:Nat) (Hx:Hp),1000 - a1=f→PL b ts H a1 false dp Hx→Gs 1 Hx x (m.map bc)→(∀ j,own x j→H.n≤j)→a≤a1→a1≤ts.length→(∀ s ∈ m,tQ cU s)→cP (m.map bc)+60*m.length≤1000*(a1 - a)→m.length≤a1→aN.L0 σ (d6 b ts H K) (.ptr b 0) x Hx:=by
  intro f
  induction f using Nat.strongRecOn with
  | ind f ih =>
   intro m x a1 Hx hf p g hw h1 h2 hwf hbk hml
   refine aN.L0_step ?_
   refine ur p.s ?_
   rw [ep,aa,aj,if_pos (by decide)]
   have kp:∀ {H2 H3:Hp},Gs 1 H2 x (m.map bc)→Wb b H2 H3→Gs 1 H3 x (m.map bc):=fun g w=>g.keep (fun j hj=>w.g j (by have:=hw j hj; omega)) w.n
   refine jY p.s (by omega) (by omega) fun wh a2 H2 s2 w2 ge2 le2=>?_
   have p2:=p.to s2 w2
   have g2:=kp g w2
   refine KG IL s2 hok hl (by omega) fun t a3 bad3 H3 s3 w3 ge3 le3 h3=>?_
   have p3:=p2.to s3 w3
   have g3:=kp g2 w3
   rw [bl]
   have n3:H.n≤H3.n:=p3.k.n
   have st:stA 1 (H3.new (.cells [.lit (.slice none 0 0)] true)) (.ptr H3.n 0) (.agg (bc t))=some ((H3.new (.cells [.lit (.slice none 0 0)] true)).set H3.n (some (.cells (bc t) true))):=by
    rw [fC,az,if_pos rfl,if_pos (show (bc t).length=1 from rfl),cp,if_pos ⟨by show 0+1≤1; omega,rfl⟩,aS (by rfl)]
   rw [st,aa]
   have p4:PL b ts H a3 bad3 dp ((H3.new (.cells [.lit (.slice none 0 0)] true)).set H3.n (some (.cells (bc t) true))):=(p3.new (.cells [.lit (.slice none 0 0)] true)).set (.cells (bc t) true) n3 (by simp) (by omega)
   have g4:Gs 1 ((H3.new (.cells [.lit (.slice none 0 0)] true)).set H3.n (some (.cells (bc t) true))) x (m.map bc):=g3.keep (fun j hj=>by have:=g3.lt hj; rw [ax,if_neg (by omega),az,if_neg (by omega)]) (by simp)
   have lo:ldA true 1 ((H3.new (.cells [.lit (.slice none 0 0)] true)).set H3.n (some (.cells (bc t) true))) (.ptr H3.n 0)=some (.agg (bc t)):=by
    rw [bA,ax,if_pos rfl,bK,List.drop_zero,cB (show (bc t).length=1 from rfl)]
   generalize ((H3.new (.cells [.lit (.slice none 0 0)] true)).set H3.n (some (.cells (bc t) true)))=H4 at p4 g4 lo ⊢
   have eb:au [.slice none 0 0] 1 1 H4 [(0,1,.agg (bc t))]=some (.sl H4.n 0 1 1 (some 1),H4.new (.cells (bc t) true)):=kY (x:=.agg (bc t)) rfl rfl
   rw [lo,aa,eb,aa]
   refine p4.app2 (y:=.agg (bc t)) g4 hbr hw rfl rfl (by rw [List.length_map]; omega) (by rw [List.length_map]; omega) fun x' H5 p5 g5 hw5=>?_
   have g5:Gs 1 H5 x' ((m++[t]).map bc):=by rw [List.map_append]; exact g5
   have kp':∀ {H2 H3:Hp},Gs 1 H2 x' ((m++[t]).map bc)→Wb b H2 H3→Gs 1 H3 x' ((m++[t]).map bc):=fun g w=>g.keep (fun j hj=>w.g j (by have:=hw5 j hj; omega)) w.n
   dsimp only
   refine jt 0 rfl p5.s (by omega) fun H6 s6 w6=>?_
   have p6:=p5.to s6 w6
   have g6:=kp' g5 w6
   rw [ij,aa]
   refine FE s6 ?_
   refine ur s6 ?_
   rw [aj]
   cases bad3 with
   | true =>
    rw [if_pos rfl]
    exact bad x' a3 H6 p6 (by omega) le3
   | false =>
    rw [if_neg (by decide)]
    obtain ⟨q1,q2,q3,q4⟩:=h3 rfl
    have hwf':∀ s ∈ m++[t],tQ cU s:=fun s hs=>by
     rcases List.mem_append.1 hs with h | h
     ·exact hwf s h
     ·rw [List.mem_singleton.1 h]; exact q3
    have hbk':cP ((m++[t]).map bc)+60*(m++[t]).length≤1000*(a3 - a):=by
     rw [List.map_append,List.length_append,List.map_cons,List.map_nil,gG,List.length_singleton]
     omega
    have hml':(m++[t]).length≤a3:=by rw [List.length_append,List.length_singleton]; omega
    have hne:1≤(m++[t]).length:=by rw [List.length_append,List.length_singleton]; omega
    generalize m++[t]=m2 at hwf' hbk' hml' hne g6 kp' ⊢
    have hk2:(fZ ts (a3+0)).kind≠0→a3+0<ts.length:=fV
    generalize (fZ ts (a3+0)).kind=k at hk2 ⊢
    have fin:∀ (a4:Nat) (Hx:Hp),PL b ts H a4 false dp Hx→Gs 1 Hx x' (m2.map bc)→a3≤a4→a4≤ts.length→d6 b ts H K x' Hx:=by
     intro a4 Hx p7 g7 h7 h8
     refine p7.fin (r':=sls m2) (.inr (g7.lo (fun j hj=>hw5 j hj) (a_ _ oG _))) fun H' s' w'=>hK m2 a4 false H' s' w' (by omega) (by omega) fun _=>⟨by omega,h8,⟨by omega,hwf'⟩,by omega⟩
    have bb:bnd (ar (.ptr b 0)) fun x50=>bnd (ae x50 2) fun x51=>bnd (stA 1 H6 x51 (.lit (.bool true))) fun H52=>aN.L0 σ (d6 b ts H K) (.ptr b 0) x' H52 :=
     ot true s6 fun H7 s7 w7 _=>bad x' a3 H7 (p6.to s7 w7) (by omega) (by omega)
    have e17:bnd (af .eql (I k) (.lit (.int .i64 17))) fun x35=>ifB x35 (bnd (ar (.ptr b 0)) fun x36=>bnd (ae x36 3) fun x37=>bnd (ldA false 1 H6 x37) fun x38=>bnd (af .gtr x38 (.lit (.int .i64 0))) fun x39=>ifB x39 (bnd (ar (.ptr b 0)) fun x40=>bnd (ae x40 1) fun x41=>bnd (ldA false 1 H6 x41) fun x42=>bnd (af .add x42 (.lit (.int .i64 1))) fun x43=>bnd (ar (.ptr b 0)) fun x44=>bnd (ae x44 1) fun x45=>bnd (stA 1 H6 x45 x43) fun H46=>d6 b ts H K x' H46) (bnd (ar (.ptr b 0)) fun x47=>bnd (ae x47 2) fun x48=>bnd (stA 1 H6 x48 (.lit (.bool true))) fun H49=>aN.L0 σ (d6 b ts H K) (.ptr b 0) x' H49)) (bnd (ar (.ptr b 0)) fun x50=>bnd (ae x50 2) fun x51=>bnd (stA 1 H6 x51 (.lit (.bool true))) fun H52=>aN.L0 σ (d6 b ts H K) (.ptr b 0) x' H52):=by
     rw [bT,aa,aj]
     split
     ·rename_i hk
      have hlt:=hk2 (by have:=of_decide_eq_true hk; omega)
      refine Ea s6 ?_
      rw [eT,aa,aj]
      split
      ·exact kg 1 rfl s6 (by omega) fun H7 s7 w7 _=>fin (a3+1) H7 (p6.to s7 w7) (kp' g6 w7) (by omega) (by omega)
      ·exact bb
     ·exact bb
    rw [bT,aa,aj]
    split
    ·rename_i hk
     have hlt:=hk2 (by have:=of_decide_eq_true hk; omega)
     refine kg 1 rfl s6 (by omega) fun H7 s7 w7 _=>?_
     exact ih (1000 - (a3+1)) (by omega) m2 x' (a3+1) H7 rfl (p6.to s7 w7) (kp' g6 w7) hw5 (by omega) (by omega) hwf' (by omega) (by omega)
    ·rw [aj]
     split
     ·refine Ea s6 ?_
      rw [bT,aa,aj]
      split
      ·exact fin a3 H6 p6 g6 (Nat.le_refl _) q2
      ·exact e17
     ·exact e17
 exact L0 _ [] _ a H rfl s.pl .nil (fun _ h=>h.elim) (Nat.le_refl _) ha (fun _ h=>by cases h) (by simp [cP]) (Nat.zero_le _)
end
theorem ub {b a:Nat} {ts:List Tn} {bad:Bool} {dp:Int} {H:Hp} {K:Hp→Prop} {o:BinOp} {dp':Int} (ho:af o (I dp) (I 1)=some (I dp')) (s:PkS b ts a bad dp H) (hK:∀ H',PkS b ts a bad dp' H'→Wb b H H'→H'.n=H.n→K H') :
  bnd (ar (.ptr b 0)) fun x1=>bnd (ae x1 3) fun x2=>bnd (ldA false 1 H x2) fun x3=>bnd (af o x3 (I 1)) fun x4=>bnd (ar (.ptr b 0)) fun x5=>bnd (ae x5 3) fun x6=>bnd (stA 1 H x6 x4) K:=by
 have st:stA 1 H (.ptr b (0+3)) (I dp')=some (H.set b (some (.cells [kj ts,I (a:Int),Bo bad,I dp'] true))):=fS s.g rfl rfl rfl (by simp)
 simp only [fw,bx,aa,s.l3,ho,st]
 exact hK _ ⟨by rw [ax,if_pos rfl],fun j hj=>by have:=s.lt; simp at hj; rw [ax,if_neg (by omega)]; exact s.ok j hj,by simpa using s.lt⟩ ⟨by simp,fun j hj=>by rw [ax,if_neg hj]⟩ (by simp)
section
attribute [local irreducible] bu.J0
theorem sT:∀ (f:Nat) (dp:Int),0≤dp→dp≤100→9 - dp≤(f:Int)→mR σ dp
 | 0,dp,h0,h1,h=>by
  intros
  rename_i b a ts H K s hok hl ha hK
  refine bu.run ?_
  refine ub (dp':=dp+1) (by rw [co,fe (by omega) (by omega)]) s fun H1 s1 w1 _=>?_
  refine Ea s1 ?_
  rw [eT,aa,aj,if_pos (by rw [decide_eq_true_eq]; omega)]
  refine ot true s1 fun H2 s2 w2 _=>?_
  refine bu.J0_step ?_
  refine tE s2 fun H3 s3 w3=>?_
  refine ub (dp':=dp) (by rw [kK,fe (by omega) (by omega)]; congr 3; omega) s3 fun H4 s4 w4 _=>?_
  exact hK [] a true H4 s4 (((w1.trans w2).trans w3).trans w4) (Nat.le_refl _) (by omega) fun h=>by cases h
 | f+1,dp,h0,h1,h=>by
  intros
  rename_i b a ts H K s hok hl ha hK
  refine bu.run ?_
  refine ub (dp':=dp+1) (by rw [co,fe (by omega) (by omega)]) s fun H1 s1 w1 _=>?_
  refine Ea s1 ?_
  rw [eT,aa,aj]
  split
  ·refine ot true s1 fun H2 s2 w2 _=>?_
   refine bu.J0_step ?_
   refine tE s2 fun H3 s3 w3=>?_
   refine ub (dp':=dp) (by rw [kK,fe (by omega) (by omega)]; congr 3; omega) s3 fun H4 s4 w4 _=>?_
   exact hK [] a true H4 s4 (((w1.trans w2).trans w3).trans w4) (Nat.le_refl _) (by omega) fun h=>by cases h
  ·rename_i hd
   have hd:¬ 8<dp+1:=by simpa using hd
   refine bu.J0_step ?_
   refine FV (sT f (dp+1) (by omega) (by omega) (by omega)) s1 hok hl ha fun m a' bad' H3 s3 w3 g1 g2 g3=>?_
   refine ub (dp':=dp) (by rw [kK,fe (by omega) (by omega)]; congr 3; omega) s3 fun H4 s4 w4 _=>?_
   exact hK m a' bad' H4 s4 ((w1.trans w3).trans w4) g1 g2 g3
end
theorem rz (ts:List Tn) (hok:∀ t ∈ ts,g_ t) (hl:ts.length≤300):∃ (m:List Sl) (ok:Bool),(gt cU m∧cP (m.map bc)≤300000)∧∀ H,aH Try.prog σ ek [kj ts] H (.tup [sls m,Bo ok]) H:=by
 have hn:aU [kj ts]=true:=by simp only [aU,wH]; rfl
 have h:∃ r H1,aH Try.prog σ ek [kj ts] Hp.empty r H1∧∃ (m:List Sl) (ok:Bool),(gt cU m∧cP (m.map bc)≤300000)∧Fz H1 r (.tup [sls m,Bo ok]):=by
  refine iI.run ?_
  have e0:gt cU ([]:List Sl)∧cP (([]:List Sl).map bc)≤300000:=⟨⟨Nat.zero_le _,fun _ h=>by cases h⟩,by simp [cP]⟩
  rw [pe,aa,eT,aa,aj,if_neg (by rw [decide_eq_true_eq]; omega)]
  have eb:aY [.lit (.slice none 0 0),.lit (.int .i64 0),.lit (.bool false),.lit (.int .i64 0)] [(0,1,kj ts)]=some [kj ts,I ((0:Nat):Int),Bo false,I 0]:=rfl
  rw [eb,aa,iM]
  have s:PkS Hp.empty.n ts 0 false 0 (Hp.empty.new (.cells [kj ts,I ((0:Nat):Int),Bo false,I 0] true)):=⟨by rw [az,if_pos rfl],fun j hj=>by
   have hj:1≤j:=hj
   rw [az,if_neg (by show j≠0; omega)]; rfl,by simp⟩
  refine FV (sT 9 0 (by decide) (by decide) (by decide)) s hok hl (Nat.zero_le _) fun m a' bad' H' s' w' g1 g2 g3=>?_
  refine ur s' ?_
  rw [aj]
  cases bad' with
  | true =>
   rw [if_pos rfl]
   refine ⟨[],false,e0,.tup rfl fun j x y h1 h2=>?_⟩
   rcases j with _ | _ | j
   ·cases h1; cases h2; exact .nil
   ·cases h1; cases h2; exact .refl rfl
   ·cases h1
  | false =>
   rw [if_neg (by decide)]
   obtain ⟨q1,q2,q3,q4⟩:=g3 rfl
   refine ⟨m,true,⟨q3,by omega⟩,.refl ?_⟩
   simp only [bQ,aU,mI,Bool.and_self,Bool.and_true]
 obtain ⟨r,H1,hg,m,ok,hm,hf⟩:=h
 exact ⟨m,ok,hm,fun H=>hg.frzR hn hf H⟩
end Go.Proofs.Ythmaggcfghjmfaa.Ev
namespace Go.Proofs.Ythmaggcfghjmfaa.Ev
set_option linter.unusedVariables false
set_option linter.unusedSimpArgs false
set_option maxRecDepth 100000
variable {σ:Sig}
theorem FB (s:ByteArray) (hs:s.data.size≤200):∃ m:List Sl,gt cU m∧cP (m.map bc)≤300000∧∀ H,aH Try.prog σ iw [Sx s] H (sls m) H:=by
 have hsz:s.data.toList.length=s.data.size:=by simp
 obtain ⟨l,hl,hP⟩:=un (σ:=σ) s.data.toList (by omega)
 obtain ⟨ts,ht,hok,hT⟩:=xn (σ:=σ) l (by omega)
 obtain ⟨m,ok,hm,hS⟩:=rz (σ:=σ) ts hok (by omega)
 refine ⟨m,hm.1,hm.2,fun H=>sG (fun K hK=>lN.run ?_) (by simp [aU,bQ]) (mI m) H⟩
 have ec:fL Hp.empty (Sx s)=some (.sl Hp.empty.n 0 1 s.data.size none,Hp.empty.new (.cells (s.data.toList.map dh) false)):=rfl
 rw [ec,aa]
 dsimp only
 have fz:Fz (Hp.empty.new (.cells (s.data.toList.map dh) false)) (.sl Hp.empty.n 0 1 (B8 s.data.toList).length none) (.imm 1 (B8 s.data.toList)):=by
  refine .rows (by rw [az,if_pos rfl]) (fun row hrow=>?_) ?_ (a_ _ (fun _=>rfl) _)
  ·obtain ⟨c,_,rfl⟩:=List.mem_map.1 hrow
   rfl
  ·rw [mo,hO,List.drop_zero,Nat.mul_one]
   have:=List.take_length (l:=s.data.toList.map dh)
   rwa [List.length_map] at this
 rw [hO,hsz] at fz
 refine aw (aH.drop hP (.cons fz .nil)) ?_
 refine aw (hT _) ?_
 refine aw (hS _) ?_
 simp only [mE,List.getElem?_cons_zero,List.getElem?_cons_succ,aa]
 exact hK _
theorem lF.one {f:Nat} {l:List Sl} (h:lF f l) {s:Sl} (hs:s ∈ l):lF f [s]:=by
 refine ⟨⟨by show 1≤cU; decide,fun s' h'=>by rw [List.mem_singleton.1 h']; exact h.wf.2 s hs⟩,?_,h.nest.one hs,h.hf,?_⟩
 ·have:=h.ok
  revert this
  cases f with
  | zero=>exact fun h=>h.elim
  | succ f=>exact fun h=>⟨by show 1≤NB; decide,fun s' h'=>by rw [List.mem_singleton.1 h']; exact h.2 s hs⟩
 ·have hc:=h.cnt
  have:∀ l:List Sl,s ∈ l→eV f [s]≤eV f l:=by
   intro l
   induction l with
   | nil=>intro h; cases h
   | cons a r ih =>
    intro h
    have hcc:=qZ f a r
    rcases List.mem_cons.1 h with e | h
    ·rw [e]; omega
    ·have:=ih h; omega
  have:=this l hs
  omega
section
end
end Go.Proofs.Ythmaggcfghjmfaa.Ev

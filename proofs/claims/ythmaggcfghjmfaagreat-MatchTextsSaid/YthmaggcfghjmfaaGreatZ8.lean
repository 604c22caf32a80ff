/- The walks, part 8: the evaluator, the functions, the laws. Conditions: none. -/
import Derived.Test.YthmaggcfghjmfaaGreatZ7
namespace Go.Proofs.YthmaggcfghjmfaaGreat.Ev
set_option linter.unusedVariables false
set_option linter.unusedSimpArgs false
variable {σ:Sig}
def nv (k x y:Int):List AV:=[I k,I x,I y,.lit (.slice none 0 0)]
theorem HH (Hd:Hp) (k x y:Int):FzE Hd (.agg (nv k x y)) (.agg (bv (.mk k x y []))):=by
 rw [eJ]
 exact .inr (.aggL (.cons (.refl rfl) (.cons (.refl rfl) (.cons (.refl rfl) (.cons .nil .nil)))))
theorem KB {b a:Nat} {ts:List Tn} {bad:Bool} {dp:Int} {H:Hp} {K:Hp→Prop} (w:Bool) (s:PkS b ts a bad dp H) (hK:∀ H',PkS b ts a w dp H'→Wb b H H'→H'.n=H.n→K H') :
  bnd (stA 1 H (.ptr b (0+2)) (Bo w)) K:=by
 have:=qc (K:=K) w s hK
 simpa only [gH,bj,aa] using this
section
attribute [local irreducible] aD.J0 aD.J1
theorem Mm {b a:Nat} {ts:List Tn} {dp:Int} {H:Hp} {K:AV→Hp→Prop} (s:PkS b ts a false dp H) (hok:∀ t ∈ ts,jm t) (hl:ts.length≤300) (ha:a≤ts.length)
  (hK:∀ (k x y:Int) (a':Nat) (bad':Bool) (H':Hp),PkS b ts a' bad' dp H'→Wb b H H'→a≤a'→a'≤ts.length+2→(bad'=false→a+2≤a'∧a'≤ts.length∧i64 k∧i64 x∧i64 y)→K (.agg (bv (.mk k x y []))) H') :
  ai Tryz.prog σ fW [.ptr b 0] H K:=by
 refine ja s ?_
 refine aD.run ?_
 rw [bw]
 obtain ⟨r,hr⟩:∃ r,r=H.n:=⟨_,rfl⟩
 have ez:(Blk.cells [.lit (.int .i64 0),.lit (.int .i64 0),.lit (.int .i64 0),.lit (.slice none 0 0)] true)=.cells (nv 0 0 0) true:=rfl
 have eb:bi [.lit (.int .i64 0),.lit (.int .i64 0),.lit (.int .i64 0),.lit (.slice none 0 0)] [(0,1,.lit (.int .i64 6))]=some (nv 6 0 0):=rfl
 have opz:i64 0∧i64 1∧i64 2∧i64 6:=by unfold i64; decide
 rw [ez,← hr,eb,aa,bw,ez]
 have hbr:b<H.n:=s.lt
 have p0:=(s.pl.new (.cells (nv 0 0 0) true)).new (.cells (nv 0 0 0) true)
 have n1:(H.new (.cells (nv 0 0 0) true)).n=r+1:=by rw [hr]; rfl
 have gr0:((H.new (.cells (nv 0 0 0) true)).new (.cells (nv 0 0 0) true)).get r=some (.cells (nv 0 0 0) true):=by rw [aB,n1,if_neg (by omega),aB,if_pos hr]
 have gq0:((H.new (.cells (nv 0 0 0) true)).new (.cells (nv 0 0 0) true)).get (r+1)=some (.cells (nv 0 0 0) true):=by rw [aB,n1,if_pos rfl]
 rw [n1]
 generalize (H.new (.cells (nv 0 0 0) true)).new (.cells (nv 0 0 0) true)=H1 at p0 gr0 gq0 ⊢
 have v0:LV b ts H a false dp (r+1) r (nv 0 0 0) H1:=⟨p0,gq0,⟨_,gr0,rfl⟩,by omega,by omega,by omega,hbr⟩
 have st1:stA 4 H1 (.ptr (r+1) 0) (.agg (nv 6 0 0))=some (H1.set (r+1) (some (.cells (nv 6 0 0) true))):=by
  rw [gU,gq0,if_pos (show (nv 6 0 0).length=4 from rfl),cC,if_pos ⟨by show 0+4≤4; omega,rfl⟩,a8 (by rfl)]
 rw [st1,aa]
 have v1:=v0.set (nv 6 0 0) rfl
 generalize H1.set (r+1) (some (.cells (nv 6 0 0) true))=H2 at v1 ⊢
 have J1:∀ (x y:Int) (a4:Nat) (bad4:Bool) (H7:Hp),LV b ts H a4 bad4 dp (r+1) r (nv 6 x y) H7→a+1≤a4→a4≤ts.length+1→(bad4=false→a4<ts.length)→i64 x→i64 y→aD.J1 σ (e_ b ts H K) (.ptr b 0) (.ptr r 0) (.ptr (r+1) 0) H7:=by
  intro x y a4 bad4 H7 v h1 h2 h3 hx hy
  refine aD.J1_step ?_
  refine lP 1 rfl v.s (by omega) fun H8 s8 w8 _=>?_
  exact (v.to s8 w8).ret rfl rfl (fun Hd _ _=>HH Hd 6 x y) fun H' s' w'=>hK 6 x y (a4+1) bad4 H' s' w' (by omega) (by omega) fun hb=>⟨by omega,by have:=h3 hb; omega,opz.2.2.2,hx,hy⟩
 have J0:∀ (x y:Int) (a3:Nat) (bad3:Bool) (H7:Hp),LV b ts H a3 bad3 dp (r+1) r (nv 6 x y) H7→a+1≤a3→a3≤ts.length+1→i64 x→i64 y→aD.J0 σ (e_ b ts H K) (.ptr b 0) (.ptr r 0) (.ptr (r+1) 0) H7:=by
  intro x y a3 bad3 H7 v h1 h2 hx hy
  refine aD.J0_step ?_
  refine kZ v.s (by omega) (by omega) fun w a4 H8 s8 w8 ge4 le4=>?_
  have v8:=v.to s8 w8
  refine kG 0 rfl s8 (by omega) fun H9 s9 w9=>?_
  have v9:=v8.to s9 w9
  rw [jl,aa,ki,aa,ah]
  split
  ·refine qc true s9 fun H10 s10 w10 _=>?_
   exact J1 x y a4 true H10 (v9.to s10 w10) (by omega) (by omega) (fun h=>by cases h) hx hy
  ·rename_i hk
   have hk:(ia ts (a4+0)).kind=17:=by simpa using hk
   have:=iq (ts:=ts) (i:=a4+0) (by omega)
   exact J1 x y a4 bad3 H9 v9 (by omega) (by omega) (fun _=>by omega) hx hy
 refine kZ v1.s (by omega) (by omega) fun w a1 H3 s3 w3 ge1 le1=>?_
 have v3:=v1.to s3 w3
 refine kG 0 rfl s3 (by omega) fun H4 s4 w4=>?_
 have v4:=v3.to s4 w4
 rw [bw,Nat.add_zero]
 obtain ⟨o,ho⟩:∃ o,o=H4.n:=⟨_,rfl⟩
 have hqo:r+1<o:=by rw [ho]; exact v4.lt v4.gq
 have ez5:(Blk.cells [.lit (.int .i64 0),.lit (.string ⟨#[]⟩),.lit (.int .i64 0),.lit (.bool false),.lit (.int .i64 0)] true)=.cells zTn true:=rfl
 rw [ez5,← ho]
 have v5:=v4.new (.cells zTn true)
 have go:(H4.new (.cells zTn true)).get o=some (.cells zTn true):=by rw [aB,if_pos ho]
 have no:(H4.new (.cells zTn true)).n=o+1:=by rw [ho]; rfl
 generalize H4.new (.cells zTn true)=H5 at v5 go no ⊢
 have hk2:(ia ts a1).kind≠0→a1<ts.length:=iq
 have okt:=nq hok a1
 generalize ia ts a1=t at hk2 okt ⊢
 have st:stA 5 H5 (.ptr o 0) (.agg (bV t))=some (H5.set o (some (.cells (bV t) true))):=by
  rw [gU,go,if_pos (show (bV t).length=5 from rfl),cC,if_pos ⟨by show 0+5≤5; omega,rfl⟩,a8 (by rfl)]
 rw [st,aa]
 have v6:=v5.other (.cells (bV t) true) (j:=o) (by omega) (by omega) (by omega) (by omega)
 have go6:(H5.set o (some (.cells (bV t) true))).get o=some (.cells (bV t) true):=by rw [ay,if_pos rfl]
 generalize H5.set o (some (.cells (bV t) true))=H6 at v6 go6 ⊢
 refine lP 1 rfl v6.s (by omega) fun H7 s7 w7 _=>?_
 have v7:=v6.to s7 w7
 have go7:H7.get o=some (.cells (bV t) true):=by rw [w7.g o (by omega)]; exact go6
 have lt:ldA false 1 H7 (.ptr o (0+1))=some (Sx t.text):=by rw [bE,go7]; rfl
 rw [bj,aa,lt,aa]
 have szt:=okt.text
 refine am (jE t.text (by omega) H7) ?_
 generalize kP t.text=w
 have lk:ldA false 1 H7 (.ptr o (0+0))=some (I t.kind):=by rw [bE,go7]; rfl
 have ln:ldA false 1 H7 (.ptr o (0+2))=some (I t.n):=by rw [bE,go7]; rfl
 have lw:ldA false 1 H7 (.ptr o (0+3))=some (Bo t.whole):=by rw [bE,go7]; rfl
 have l1:t.kind=1→bnd (stA 1 H7 (.ptr (r+1) (0+1)) (.lit (.int .i64 2))) fun H30=>bnd (stA 1 H30 (.ptr (r+1) (0+2)) (.lit (.int .i64 1))) fun H32=>aD.J0 σ (e_ b ts H K) (.ptr b 0) (.ptr r 0) (.ptr (r+1) 0) H32:=by
  intro hk
  have:=hk2 (by omega)
  refine v7.st (i:=0+1) (by show 0+1<4; omega) rfl rfl rfl fun H8 v8=>?_
  have v8:LV b ts H (a1+1) false dp (r+1) r (nv 6 2 0) H8:=v8
  refine v8.st (i:=0+2) (by show 0+2<4; omega) rfl rfl rfl fun H9 v9=>?_
  exact J0 2 1 (a1+1) false H9 v9 (by omega) (by omega) opz.2.2.1 opz.2.1
 have l2:t.kind=1→bnd (stA 1 H7 (.ptr (r+1) (0+1)) (.lit (.int .i64 2))) fun H38=>aD.J0 σ (e_ b ts H K) (.ptr b 0) (.ptr r 0) (.ptr (r+1) 0) H38:=by
  intro hk
  have:=hk2 (by omega)
  refine v7.st (i:=0+1) (by show 0+1<4; omega) rfl rfl rfl fun H8 v8=>?_
  exact J0 2 0 (a1+1) false H8 v8 (by omega) (by omega) opz.2.2.1 opz.1
 have l3:t.kind=6→bnd (stA 1 H7 (.ptr (r+1) (0+2)) (.lit (.int .i64 (wr .i64 (t.n.tdiv 1000))))) fun H48=>aD.J0 σ (e_ b ts H K) (.ptr b 0) (.ptr r 0) (.ptr (r+1) 0) H48:=by
  intro hk
  have:=hk2 (by omega)
  refine v7.st (i:=0+2) (by show 0+2<4; omega) rfl rfl rfl fun H8 v8=>?_
  have hn:=okt.n
  have hd:-2147483647≤t.n.tdiv 1000∧t.n.tdiv 1000≤2147483647:=by
   rcases Int.lt_or_le t.n 0 with h | h
   ·have e:t.n.tdiv 1000=-((-t.n) / 1000):=by
     rw [show t.n=-(-t.n) by omega,Int.neg_tdiv,Int.tdiv_eq_ediv_of_nonneg (by omega)]
     simp
    omega
   ·rw [Int.tdiv_eq_ediv_of_nonneg h]; omega
  refine J0 0 _ (a1+1) false H8 v8 (by omega) (by omega) opz.1 ?_
  rw [eh (by omega) (by omega)]
  unfold i64; omega
 have l4:bnd (stA 1 H7 (.ptr b (0+2)) (.lit (.bool true))) fun H51=>aD.J0 σ (e_ b ts H K) (.ptr b 0) (.ptr r 0) (.ptr (r+1) 0) H51 :=
  KB true v7.s fun H8 s8 w8 _=>J0 0 0 (a1+1) true H8 (v7.to s8 w8) (by omega) (by omega) opz.1 opz.1
 simp only [bj,gH,aa,lk,ln,lw,bD,gD,ah,decide_eq_true_eq,zQ _ 1000 .i64 (by decide)]
 repeat' split
 all_goals first | exact l4 | exact l1 (by assumption) | exact l2 (by assumption) | exact l3 (by assumption)
end
def oC (σ:Sig) (dp:Int):Prop:=∀ {b a:Nat} {ts:List Tn} {H:Hp} {K:AV→Hp→Prop},PkS b ts a false dp H→(∀ t ∈ ts,jm t)→ts.length≤300→a≤ts.length →
 (∀ (m:List Sl) (a':Nat) (bad':Bool) (H':Hp),PkS b ts a' bad' dp H'→Wb b H H'→a≤a'→a'≤ts.length+2→(bad'=false→a+1≤a'∧a'≤ts.length∧i6 dF m∧dz (m.map aU)≤1000*(a' - a))→K (sls m) H')→ai Tryz.prog σ fc [.ptr b 0] H K
section
attribute [local irreducible] aQ.J0 aQ.J1
theorem E4 {b a:Nat} {ts:List Tn} {dp:Int} (IL:oC σ dp) {H:Hp} {K:AV→Hp→Prop} (s:PkS b ts a false dp H) (hok:∀ t ∈ ts,jm t) (hl:ts.length≤300) (ha:a≤ts.length)
  (hK:∀ (q:Ps) (a':Nat) (bad':Bool) (H':Hp),PkS b ts a' bad' dp H'→Wb b H H'→a≤a'→a'≤ts.length+2→(bad'=false→a+1≤a'∧a'≤ts.length∧Ps.wf dF q∧bkL (bv q)+90≤1000*(a' - a))→K (.agg (bv q)) H') :
  ai Tryz.prog σ dk [.ptr b 0] H K:=by
 refine ja s ?_
 refine aQ.run ?_
 rw [bw]
 obtain ⟨r,hr⟩:∃ r,r=H.n:=⟨_,rfl⟩
 have ez:(Blk.cells [.lit (.int .i64 0),.lit (.int .i64 0),.lit (.int .i64 0),.lit (.slice none 0 0)] true)=.cells (nv 0 0 0) true:=rfl
 have hbr:b<H.n:=s.lt
 have hL:dF=9223372036854775807:=rfl
 rw [ez,← hr]
 have p0:=s.pl.new (.cells (nv 0 0 0) true)
 have gr0:(H.new (.cells (nv 0 0 0) true)).get r=some (.cells (nv 0 0 0) true):=by rw [aB,if_pos hr]
 generalize H.new (.cells (nv 0 0 0) true)=H1 at p0 gr0 ⊢
 refine kG 0 rfl p0.s (by omega) fun H4 s4 w4=>?_
 have p4:=p0.to s4 w4
 have gr4:H4.get r=some (.cells (nv 0 0 0) true):=by rw [w4.g r (by omega)]; exact gr0
 rw [bw,Nat.add_zero]
 obtain ⟨o,ho⟩:∃ o,o=H4.n:=⟨_,rfl⟩
 have hro:r<o:=by
  rcases Nat.lt_or_ge r H4.n with h1 | h1
  ·omega
  ·rw [s4.ok r h1] at gr4; cases gr4
 have ez5:(Blk.cells [.lit (.int .i64 0),.lit (.string ⟨#[]⟩),.lit (.int .i64 0),.lit (.bool false),.lit (.int .i64 0)] true)=.cells zTn true:=rfl
 rw [ez5,← ho]
 have p5:=p4.new (.cells zTn true)
 have go:(H4.new (.cells zTn true)).get o=some (.cells zTn true):=by rw [aB,if_pos ho]
 have gr5:(H4.new (.cells zTn true)).get r=some (.cells (nv 0 0 0) true):=by rw [aB,if_neg (by omega)]; exact gr4
 have no:(H4.new (.cells zTn true)).n=o+1:=by rw [ho]; rfl
 generalize H4.new (.cells zTn true)=H5 at p5 go no gr5 ⊢
 have hk2:(ia ts a).kind≠0→a<ts.length:=iq
 have okt:=nq hok a
 generalize ia ts a=t at hk2 okt ⊢
 have st:stA 5 H5 (.ptr o 0) (.agg (bV t))=some (H5.set o (some (.cells (bV t) true))):=by
  rw [gU,go,if_pos (show (bV t).length=5 from rfl),cC,if_pos ⟨by show 0+5≤5; omega,rfl⟩,a8 (by rfl)]
 rw [st,aa]
 have p6:=p5.set (i:=o) (.cells (bV t) true) (by omega) (by omega) (by omega)
 have go6:(H5.set o (some (.cells (bV t) true))).get o=some (.cells (bV t) true):=by rw [ay,if_pos rfl]
 have gr6:(H5.set o (some (.cells (bV t) true))).get r=some (.cells (nv 0 0 0) true):=by rw [ay,if_neg (by omega)]; exact gr5
 generalize H5.set o (some (.cells (bV t) true))=H6 at p6 go6 gr6 ⊢
 refine lP 1 rfl p6.s (by omega) fun H7 s7 w7 _=>?_
 have p7:=p6.to s7 w7
 have go7:H7.get o=some (.cells (bV t) true):=by rw [w7.g o (by omega)]; exact go6
 have gr7:H7.get r=some (.cells (nv 0 0 0) true):=by rw [w7.g r (by omega)]; exact gr6
 have lt:ldA false 1 H7 (.ptr o (0+1))=some (Sx t.text):=by rw [bE,go7]; rfl
 have lk:ldA false 1 H7 (.ptr o (0+0))=some (I t.kind):=by rw [bE,go7]; rfl
 rw [bj,aa,lt,aa]
 have szt:=okt.text
 refine am (jE t.text (by omega) H7) ?_
 generalize kP t.text=w
 have fin0:∀ (k:Int) (bad':Bool) (H8:Hp),PL b ts H (a+1) bad' dp H8→H8.get r=some (.cells (nv 0 0 0) true)→(bad'=false→a+1≤ts.length∧i64 k)→bnd (stA 4 H8 (.ptr r 0) (.agg (nv k 0 0))) fun H9=>bnd (ldA true 4 H9 (.ptr r 0)) fun r10=>e_ b ts H K r10 H9:=by
  intro k bad' H8 p8 g8 h8
  refine p8.ret (cs:=nv k 0 0) g8 rfl (by omega) hbr rfl rfl (fun Hd=>HH Hd k 0 0) fun H' s' w'=>hK (.mk k 0 0 []) (a+1) bad' H' s' w' (by omega) (by omega) fun hb=>?_
  have:=h8 hb
  refine ⟨by omega,this.1,?_,?_⟩
  ·rw [Ps.wf_iff]
   exact ⟨this.2,(by show i64 0; unfold i64; decide),(by show i64 0; unfold i64; decide),by show (0:Nat)≤dF; omega,fun s h=>by cases h⟩
  ·rw [sN]
   show 1+(1+(1+(0+1)))+90≤_
   omega
 have eb0:bi [.lit (.int .i64 0),.lit (.int .i64 0),.lit (.int .i64 0),.lit (.slice none 0 0)] []=some (nv 0 0 0):=rfl
 have eb1:∀ k:Int,bi [.lit (.int .i64 0),.lit (.int .i64 0),.lit (.int .i64 0),.lit (.slice none 0 0)] [(0,1,.lit (.int .i64 k))]=some (nv k 0 0):=fun _=>rfl
 have zb:∀ (H8:Hp),PL b ts H (a+1) false dp H8→H8.get r=some (.cells (nv 0 0 0) true)→bnd (au (.ptr b 0)) fun x31=>bnd (ae x31 2) fun x32=>bnd (stA 1 H8 x32 (.lit (.bool true))) fun H33=>bnd (bi [.lit (.int .i64 0),.lit (.int .i64 0),.lit (.int .i64 0),.lit (.slice none 0 0)] []) fun l34=>bnd (stA 4 H33 (.ptr r 0) (.agg l34)) fun H35=>bnd (ldA true 4 H35 (.ptr r 0)) fun r36=>e_ b ts H K r36 H35:=by
  intro H8 p8 g8
  refine qc true p8.s fun H9 s9 w9 _=>?_
  rw [eb0,aa]
  exact fin0 0 true H9 (p8.to s9 w9) (by rw [w9.g r (by omega)]; exact g8) fun h=>by cases h
 have J1:∀ (k:Int) (y4 y49:AV) (q:Nat) (H8:Hp),LV b ts H (a+1) false dp q r (nv k 0 0) H8→a+1≤ts.length→i64 k→aQ.J1 σ (e_ b ts H K) (.ptr b 0) (.ptr r 0) y4 (.ptr q 0) y49 H8:=by
  intro k y4 y49 q H8 v8 hlen hk
  refine aQ.J1_step ?_
  refine IL v8.s hok hl hlen fun m a' bad' H9 s9 w9 ge9 le9 h9=>?_
  have v9:=v8.to s9 w9
  rw [bj,aa]
  refine v9.st (i:=0+3) (by show 0+3<4; omega) rfl rfl rfl fun H10 v10=>?_
  have v10:LV b ts H a' bad' dp q r [I k,I 0,I 0,sls m] H10:=v10
  refine v10.ret (r':=.agg (bv (.mk k 0 0 m))) rfl rfl (fun Hd _ _=>.inl (by rw [eJ]; rfl)) fun H' s' w'=>hK _ a' bad' H' s' w' (by omega) (by omega) fun hb=>?_
  obtain ⟨q1,q2,q3,q4⟩:=h9 hb
  refine ⟨by omega,q2,?_,?_⟩
  ·rw [Ps.wf_iff]
   exact ⟨hk,(by show i64 0; unfold i64; decide),(by show i64 0; unfold i64; decide),q3⟩
  ·rw [sN]
   show 1+(1+(1+(dz (m.map aU)+1)))+90≤_
   omega
 have J0:∀ (c:Bool) (y7:AV),(c=true→a+1≤ts.length)→aQ.J0 σ (e_ b ts H K) (.ptr b 0) (.ptr r 0) (Sx w) y7 (Bo c) H7:=by
  intro c y7 hc
  refine aQ.J0_step ?_
  rw [ah]
  split
  ·rename_i h
   have hlen:=hc h
   rw [eb1,aa,bw,ez]
   obtain ⟨q,hq⟩:∃ q,q=H7.n:=⟨_,rfl⟩
   have hor:o<H7.n:=by
    rcases Nat.lt_or_ge o H7.n with h1 | h1
    ·exact h1
    ·rw [s7.ok o h1] at go7; cases go7
   rw [← hq]
   have p8:=p7.new (.cells (nv 0 0 0) true)
   have gq8:(H7.new (.cells (nv 0 0 0) true)).get q=some (.cells (nv 0 0 0) true):=by rw [aB,if_pos hq]
   have gr8:(H7.new (.cells (nv 0 0 0) true)).get r=some (.cells (nv 0 0 0) true):=by rw [aB,if_neg (by omega)]; exact gr7
   generalize H7.new (.cells (nv 0 0 0) true)=H8 at p8 gq8 gr8 ⊢
   have v8:LV b ts H (a+1) false dp q r (nv 0 0 0) H8:=⟨p8,gq8,⟨_,gr8,rfl⟩,by have:=p7.k.n; omega,by omega,by omega,hbr⟩
   have st1:stA 4 H8 (.ptr q 0) (.agg (nv 7 0 0))=some (H8.set q (some (.cells (nv 7 0 0) true))):=by
    rw [gU,gq8,if_pos (show (nv 7 0 0).length=4 from rfl),cC,if_pos ⟨by show 0+4≤4; omega,rfl⟩,a8 (by rfl)]
   rw [st1,aa]
   have v9:=v8.set (nv 7 0 0) rfl
   rw [gD,aa,ah]
   split
   ·rw [bj,aa]
    refine v9.st (i:=0+0) (by show 0+0<4; omega) rfl rfl rfl fun H10 v10=>?_
    exact J1 8 _ _ q H10 v10 hlen (by unfold i64; decide)
   ·exact J1 7 _ _ q _ v9 hlen (by unfold i64; decide)
  ·exact zb H7 p7 gr7
 rw [bj,aa,lk,aa,bD,aa,ah]
 split
 ·rename_i hk
  have hk:=of_decide_eq_true hk
  have hlt:=hk2 (by omega)
  obtain ⟨L5,hL5⟩:∃ L5:List ByteArray,L5=[⟨#[114,111,111,116]⟩,⟨#[102,105,114,115,116,45,99,104,105,108,100]⟩,⟨#[108,97,115,116,45,99,104,105,108,100]⟩,⟨#[111,110,108,121,45,99,104,105,108,100]⟩,⟨#[101,109,112,116,121]⟩]:=⟨_,rfl⟩
  have eb:aw [.string ⟨#[]⟩] 1 5 H7 [(0,1,(.lit (.string ⟨#[114,111,111,116]⟩))),(1,1,(.lit (.string ⟨#[102,105,114,115,116,45,99,104,105,108,100]⟩))),(2,1,(.lit (.string ⟨#[108,97,115,116,45,99,104,105,108,100]⟩))),(3,1,(.lit (.string ⟨#[111,110,108,121,45,99,104,105,108,100]⟩))),(4,1,(.lit (.string ⟨#[101,109,112,116,121]⟩)))]=some (.sl H7.n 0 1 5 (some 5),H7.new (.cells (L5.map fun s=>Sx s) true)):=by rw [hL5]; rfl
  rw [eb,aa]
  have l5:L5.length=5:=by rw [hL5]; rfl
  refine Ew (by rw [aB,if_pos rfl]) l5.symm (by omega) fun k ok hk5=>?_
  have ex:∀ x y:AV,exR (.tup [x,y]) 0=some x∧exR (.tup [x,y]) 1=some y:=fun _ _=>⟨rfl,rfl⟩
  rw [(ex _ _).1,aa,(ex _ _).2,aa,ah]
  have p8:=p7.new (.cells (L5.map fun s=>Sx s) true)
  have hrn:r<H7.n:=by
   rcases Nat.lt_or_ge r H7.n with h1 | h1
   ·exact h1
   ·rw [s7.ok r h1] at gr7; cases gr7
  have gr8:(H7.new (.cells (L5.map fun s=>Sx s) true)).get r=some (.cells (nv 0 0 0) true):=by rw [aB,if_neg (by omega)]; exact gr7
  split
  ·rw [bN,aa,eb1,aa]
   refine fin0 _ false _ p8 gr8 fun _=>⟨by omega,?_⟩
   rw [eh (by omega) (by omega)]
   unfold i64; omega
  ·exact zb _ p8 gr8
 ·rw [aa,lk,aa,ki,aa,ah]
  split
  ·exact zb H7 p7 gr7
  ·rename_i hk
   have hk:t.kind=20:=by simpa using hk
   have hlt:=hk2 (by omega)
   rw [gD,aa,ah]
   split
   ·refine Mm s7 hok hl (by omega) fun k x y a' bad' H8 s8 w8 ge8 le8 h8=>?_
    have p8:=p7.to s8 w8
    refine p8.ret (r':=.agg (bv (.mk k x y []))) (by rw [w8.g r (by omega)]; exact gr7) rfl (by omega) hbr (by rw [eJ]; rfl) (by rw [eJ]; rfl) (fun Hd=>.inl rfl) fun H' s' w'=>hK _ a' bad' H' s' w' (by omega) (by omega) fun hb=>?_
    obtain ⟨q1,q2,q3,q4,q5⟩:=h8 hb
    refine ⟨by omega,q2,?_,?_⟩
    ·rw [Ps.wf_iff]
     exact ⟨q3,q4,q5,by show (0:Nat)≤dF; omega,fun s h=>by cases h⟩
    ·rw [sN]
     show 1+(1+(1+(0+1)))+90≤_
     omega
   ·rw [gD,aa,ah]
    split
    ·rename_i h
     rw [h]
     exact J0 true _ fun _=>by omega
    ·rw [gD,aa]
     exact J0 _ _ fun _=>by omega
end
end Go.Proofs.YthmaggcfghjmfaaGreat.Ev
namespace Go.Proofs.YthmaggcfghjmfaaGreat.Ev
set_option linter.unusedVariables false
set_option linter.unusedSimpArgs false
variable {σ:Sig}
theorem tt {H:Hp} (ok:∀ j,H.n≤j→H.get j=none) (b:Blk):∀ j,(H.new b).n≤j→(H.new b).get j=none:=by
 intro j hj
 simp only [aB,Hp.n_new] at hj ⊢
 rw [if_neg (by omega)]
 exact ok j (by omega)
theorem xM {sz bytes:Nat} {H H':Hp} {x y x':AV} {rows rows2:List (List AV)} (ok:∀ j,H.n≤j→H.get j=none) (hx:Gs sz H x rows) (hns:kJ y=true) (hs:iW H sz y=some (rows2.length,rows2.flatten)) (hone:rows2.flatten.all AV.one=true)
  (hb:(rows.length+rows2.length)*bytes≤140737488355328) (hn:rows.length+rows2.length≤4611686018427387904) (h:bc false sz bytes H x y=some (x',H')):∀ j,H'.n≤j→H'.get j=none:=by
 have hn':∀ (id:Nat) (b:Blk) j,((H.set id none).new b).n≤j→((H.set id none).new b).get j=none:=by
  intro id b j hj
  simp only [aB,Hp.n_new,ay,Hp.n_set] at hj ⊢
  rw [if_neg (by omega)]
  split
  ·rfl
  ·exact ok j (by omega)
 unfold bc at h
 simp only [hns,cond_true,hs,hone,kE,rW] at h
 by_cases h0:rows2.length=0
 ·have:rows2=[]:=List.length_eq_zero_iff.1 h0
  subst this
  cases hx<;>simp at h<;>rw [← h.2]<;>exact ok
 ·simp only [h0,decide_false,cond_false] at h
  cases hx with
  | nil =>
   simp only [List.length_nil,Nat.zero_add] at hb hn
   simp [hb,hn] at h
   rw [← h.2]
   exact tt ok _
  | sl hlt hg hsz =>
   have hl:=dO hsz
   simp only [hg] at h
   simp [hb,hn,hl] at h
   rw [← h.2]
   exact hn' _ _
theorem LV.app2 {b a q r:Nat} {ts:List Tn} {bad:Bool} {dp:Int} {H0 H:Hp} {cs:List AV} (v:LV b ts H0 a bad dp q r cs H) {sz bytes:Nat} {x y:AV} {rows:List (List AV)} (hx:Gs sz H x rows) (hw:∀ j,own x j→H0.n≤j∧j≠q∧j≠r) (hl:y.cells.length=sz) (hone:y.cells.all AV.one=true) (hb:(rows.length+1)*bytes≤140737488355328) (hn:rows.length≤1000000)
  {K:AV × Hp→Prop} (hK:∀ x' H',LV b ts H0 a bad dp q r cs H'→Gs sz H' x' (rows++[y.cells])→Fr H x H' x'→K (x',H')):bnd (bc false sz bytes (H.new (.cells y.cells true)) x (.sl H.n 0 sz 1 (some 1))) K:=by
 have hk:Gs sz (H.new (.cells y.cells true)) x rows:=by
  refine hx.keep (fun j hj=>?_) (by simp)
  have:=hx.lt hj
  rw [aB,if_neg (by omega)]
 have hsrc:iW (H.new (.cells y.cells true)) sz (.sl H.n 0 sz 1 (some 1))=some (([y.cells]:List (List AV)).length,([y.cells]:List (List AV)).flatten):=ui (row:=y.cells) (ex:=true) (by rw [aB,if_pos rfl]) hl
 have ho1:(([y.cells]:List (List AV)).flatten).all AV.one=true:=by simpa using hone
 have h2:∀ row ∈ ([y.cells]:List (List AV)),row.length=sz:=fun row hrow=>by rw [List.mem_singleton.1 hrow]; exact hl
 obtain ⟨x',H',e,g,f⟩:=wv (bytes:=bytes) hk rfl hsrc h2 ho1 (by simpa using hb) (by simp; omega)
 have okn:=xM (bytes:=bytes) (tt v.s.ok _) hk rfl hsrc ho1 (by simpa using hb) (by simp; omega) e
 rw [e,aa]
 have fr:Fr H x H' x':=⟨fun j hj hne=>by rw [f.same j (by simp; omega) hne,aB,if_neg (by omega)],by have:=f.grow; simp at this; omega,fun j hj=>by
  rcases f.mine j hj with h | ⟨h1,h2⟩
  ·exact .inl h
  ·right; simp at h1; exact ⟨by omega,h2⟩⟩
 obtain ⟨c0,gr,lr⟩:=v.gr
 have hbn:=v.hb
 have hkn:=v.pl.k.n
 have hq:=v.lt v.gq
 have hr:=v.lt gr
 have hbo:¬ own x b:=fun h=>by have:=(hw b h).1; omega
 refine hK x' H' ⟨⟨⟨by rw [fr.same b (by omega) hbo]; exact v.s.g,okn,by have:=fr.grow; omega⟩,⟨by have:=fr.grow; omega,fun j hj hjb=>?_⟩⟩,?_,⟨c0,?_,lr⟩,v.q0,v.r0,v.qr,v.hb⟩ g fr
 ·rw [fr.same j (by omega) fun h=>by have:=(hw j h).1; omega]
  exact v.pl.k.g j hj hjb
 ·rw [fr.same q hq fun h=>(hw q h).2.1 rfl]; exact v.gq
 ·rw [fr.same r hr fun h=>(hw r h).2.2 rfl]; exact gr
structure CpS (b:Nat) (ts:List Tn) (H0:Hp) (a:Nat) (bad:Bool) (dp:Int) (q r:Nat) (c:Cp) (xi xc xa xp:AV) (w:Nat→Nat) (H:Hp):Prop where
 v:LV b ts H0 a bad dp q r [Sx c.tag,xi,xc,xa,xp] H
 gi:Gs 1 H xi (c.ids.map fun s=>[Sx s])
 gc:Gs 1 H xc (c.classes.map fun s=>[Sx s])
 ga:Gs 3 H xa (c.attrs.map cg)
 gp:Gs 4 H xp (c.pseudos.map bv)
 wi:∀ j,own xi j→w j=1∧H0.n≤j∧j≠q∧j≠r
 wc:∀ j,own xc j→w j=2∧H0.n≤j∧j≠q∧j≠r
 wa:∀ j,own xa j→w j=3∧H0.n≤j∧j≠q∧j≠r
 wp:∀ j,own xp j→w j=4∧H0.n≤j∧j≠q∧j≠r
section
variable {b a a' q r:Nat} {ts:List Tn} {bad bad':Bool} {dp:Int} {H0 H H':Hp} {c:Cp} {xi xc xa xp:AV} {w:Nat→Nat}
theorem CpS.mv (s:CpS b ts H0 a bad dp q r c xi xc xa xp w H) (v:LV b ts H0 a' bad' dp q r [Sx c.tag,xi,xc,xa,xp] H') (hn:H.n≤H'.n) (hg:∀ j,H0.n≤j→j<H.n→j≠q→j≠r→H'.get j=H.get j):CpS b ts H0 a' bad' dp q r c xi xc xa xp w H' :=
 ⟨v,s.gi.keep (fun j hj=>hg j (s.wi j hj).2.1 (s.gi.lt hj) (s.wi j hj).2.2.1 (s.wi j hj).2.2.2) hn,s.gc.keep (fun j hj=>hg j (s.wc j hj).2.1 (s.gc.lt hj) (s.wc j hj).2.2.1 (s.wc j hj).2.2.2) hn,s.ga.keep (fun j hj=>hg j (s.wa j hj).2.1 (s.ga.lt hj) (s.wa j hj).2.2.1 (s.wa j hj).2.2.2) hn,s.gp.keep (fun j hj=>hg j (s.wp j hj).2.1 (s.gp.lt hj) (s.wp j hj).2.2.1 (s.wp j hj).2.2.2) hn,s.wi,s.wc,s.wa,s.wp⟩
theorem CpS.to (s:CpS b ts H0 a bad dp q r c xi xc xa xp w H) (s':PkS b ts a' bad' dp H') (w':Wb b H H'):CpS b ts H0 a' bad' dp q r c xi xc xa xp w H' :=
 s.mv (s.v.to s' w') w'.n fun j h0 _ _ _=>w'.g j (by have:=s.v.hb; omega)
end
end Go.Proofs.YthmaggcfghjmfaaGreat.Ev
namespace Go.Proofs.YthmaggcfghjmfaaGreat.Ev
set_option linter.unusedVariables false
set_option linter.unusedSimpArgs false
variable {σ:Sig}
section
variable {b a a' q r:Nat} {ts:List Tn} {bad bad':Bool} {dp:Int} {H0 H H':Hp} {c:Cp} {xi xc xa xp:AV} {w:Nat→Nat}
theorem CpS.appI (s:CpS b ts H0 a bad dp q r c xi xc xa xp w H) (hn:c.ids.length≤1000) (t:ByteArray) {K:Hp→Prop}
  (hK:∀ x' w' H',CpS b ts H0 a bad dp q r (.mk c.tag (c.ids++[t]) c.classes c.attrs c.pseudos) x' xc xa xp w' H'→K H') :
  bnd (bc false 1 16 (H.new (.cells [Sx t] true)) xi (.sl H.n 0 1 1 (some 1))) fun p=>bnd (ae (.ptr q 0) 1) fun z=>bnd (stA 1 p.2 z p.1) K:=by
 refine s.v.app2 (y:=Sx t) s.gi (fun j hj=>(s.wi j hj).2) rfl rfl (by rw [List.length_map]; omega) (by rw [List.length_map]; omega) fun x' H' v' g' fr=>?_
 have hq:=s.v.lt s.v.gq
 obtain ⟨c0,hgr,hlr⟩:=s.v.gr
 have hr:=s.v.lt hgr
 rw [bj,aa,jd v'.gq g'.cells.1 g'.cells.2 g'.one (by show 0+1<5; omega),aa]
 have v2:=v'.set ([Sx c.tag,xi,xc,xa,xp].set (0+1) x') (by rw [List.length_set])
 have keep:∀ {sz:Nat} {y:AV} {rows:List (List AV)},Gs sz H y rows→(∀ j,own y j→¬ own xi j∧j≠q)→Gs sz (H'.set q (some (.cells ([Sx c.tag,xi,xc,xa,xp].set (0+1) x') true))) y rows:=by
  intro sz y rows g h
  refine g.keep (fun j hj=>?_) (by have:=fr.grow; simpa using this)
  rw [ay,if_neg (h j hj).2]
  exact fr.same j (g.lt hj) (h j hj).1
 have wk:∀ {j:Nat} {n:Nat},j<H.n→w j=n→(if H.n≤j then 1 else w j)=n:=fun h1 h2=>by rw [if_neg (by omega)]; exact h2
 have mine:∀ j,own x' j→(if H.n≤j then 1 else w j)=1∧H0.n≤j∧j≠q∧j≠r:=by
  intro j hj
  have hkn:=s.v.pl.k.n
  rcases fr.mine j hj with h | h
  ·have:=s.wi j h
   exact ⟨wk (s.gi.lt h) this.1,this.2⟩
  ·exact ⟨by rw [if_pos h.1],by omega,by omega,by omega⟩
 have gx:Gs 1 (H'.set q (some (.cells ([Sx c.tag,xi,xc,xa,xp].set (0+1) x') true))) x' ((c.ids++[t]).map fun s=>[Sx s]):=by
  rw [List.map_append]
  exact g'.keep (fun j hj=>by rw [ay,if_neg (mine j hj).2.2.1]) (by simp)
 refine hK x' (fun j=>if H.n≤j then 1 else w j) _ ⟨v2,?_,?_,?_,?_,?_,?_,?_,?_⟩
 ·exact gx
 ·exact keep s.gc fun j hj=>⟨fun h=>by have h1:=(s.wi j h).1; have h2:=(s.wc j hj).1; omega,(s.wc j hj).2.2.1⟩
 ·exact keep s.ga fun j hj=>⟨fun h=>by have h1:=(s.wi j h).1; have h2:=(s.wa j hj).1; omega,(s.wa j hj).2.2.1⟩
 ·exact keep s.gp fun j hj=>⟨fun h=>by have h1:=(s.wi j h).1; have h2:=(s.wp j hj).1; omega,(s.wp j hj).2.2.1⟩
 ·exact mine
 ·exact fun j hj=>⟨wk (s.gc.lt hj) (s.wc j hj).1,(s.wc j hj).2⟩
 ·exact fun j hj=>⟨wk (s.ga.lt hj) (s.wa j hj).1,(s.wa j hj).2⟩
 ·exact fun j hj=>⟨wk (s.gp.lt hj) (s.wp j hj).1,(s.wp j hj).2⟩
theorem CpS.appC (s:CpS b ts H0 a bad dp q r c xi xc xa xp w H) (hn:c.classes.length≤1000) (t:ByteArray) {K:Hp→Prop}
  (hK:∀ x' w' H',CpS b ts H0 a bad dp q r (.mk c.tag c.ids (c.classes++[t]) c.attrs c.pseudos) xi x' xa xp w' H'→K H') :
  bnd (bc false 1 16 (H.new (.cells [Sx t] true)) xc (.sl H.n 0 1 1 (some 1))) fun p=>bnd (ae (.ptr q 0) 2) fun z=>bnd (stA 1 p.2 z p.1) K:=by
 refine s.v.app2 (y:=Sx t) s.gc (fun j hj=>(s.wc j hj).2) rfl rfl (by rw [List.length_map]; omega) (by rw [List.length_map]; omega) fun x' H' v' g' fr=>?_
 have hq:=s.v.lt s.v.gq
 obtain ⟨c0,hgr,hlr⟩:=s.v.gr
 have hr:=s.v.lt hgr
 rw [bj,aa,jd v'.gq g'.cells.1 g'.cells.2 g'.one (by show 0+2<5; omega),aa]
 have v2:=v'.set ([Sx c.tag,xi,xc,xa,xp].set (0+2) x') (by rw [List.length_set])
 have keep:∀ {sz:Nat} {y:AV} {rows:List (List AV)},Gs sz H y rows→(∀ j,own y j→¬ own xc j∧j≠q)→Gs sz (H'.set q (some (.cells ([Sx c.tag,xi,xc,xa,xp].set (0+2) x') true))) y rows:=by
  intro sz y rows g h
  refine g.keep (fun j hj=>?_) (by have:=fr.grow; simpa using this)
  rw [ay,if_neg (h j hj).2]
  exact fr.same j (g.lt hj) (h j hj).1
 have wk:∀ {j:Nat} {n:Nat},j<H.n→w j=n→(if H.n≤j then 2 else w j)=n:=fun h1 h2=>by rw [if_neg (by omega)]; exact h2
 have mine:∀ j,own x' j→(if H.n≤j then 2 else w j)=2∧H0.n≤j∧j≠q∧j≠r:=by
  intro j hj
  have hkn:=s.v.pl.k.n
  rcases fr.mine j hj with h | h
  ·have:=s.wc j h
   exact ⟨wk (s.gc.lt h) this.1,this.2⟩
  ·exact ⟨by rw [if_pos h.1],by omega,by omega,by omega⟩
 have gx:Gs 1 (H'.set q (some (.cells ([Sx c.tag,xi,xc,xa,xp].set (0+2) x') true))) x' ((c.classes++[t]).map fun s=>[Sx s]):=by
  rw [List.map_append]
  exact g'.keep (fun j hj=>by rw [ay,if_neg (mine j hj).2.2.1]) (by simp)
 refine hK x' (fun j=>if H.n≤j then 2 else w j) _ ⟨v2,?_,?_,?_,?_,?_,?_,?_,?_⟩
 ·exact keep s.gi fun j hj=>⟨fun h=>by have h1:=(s.wc j h).1; have h2:=(s.wi j hj).1; omega,(s.wi j hj).2.2.1⟩
 ·exact gx
 ·exact keep s.ga fun j hj=>⟨fun h=>by have h1:=(s.wc j h).1; have h2:=(s.wa j hj).1; omega,(s.wa j hj).2.2.1⟩
 ·exact keep s.gp fun j hj=>⟨fun h=>by have h1:=(s.wc j h).1; have h2:=(s.wp j hj).1; omega,(s.wp j hj).2.2.1⟩
 ·exact fun j hj=>⟨wk (s.gi.lt hj) (s.wi j hj).1,(s.wi j hj).2⟩
 ·exact mine
 ·exact fun j hj=>⟨wk (s.ga.lt hj) (s.wa j hj).1,(s.wa j hj).2⟩
 ·exact fun j hj=>⟨wk (s.gp.lt hj) (s.wp j hj).1,(s.wp j hj).2⟩
theorem CpS.appA (s:CpS b ts H0 a bad dp q r c xi xc xa xp w H) (hn:c.attrs.length≤1000) (t:At) {K:Hp→Prop}
  (hK:∀ x' w' H',CpS b ts H0 a bad dp q r (.mk c.tag c.ids c.classes (c.attrs++[t]) c.pseudos) xi xc x' xp w' H'→K H') :
  bnd (bc false 3 40 (H.new (.cells (cg t) true)) xa (.sl H.n 0 3 1 (some 1))) fun p=>bnd (ae (.ptr q 0) 3) fun z=>bnd (stA 1 p.2 z p.1) K:=by
 refine s.v.app2 (y:=.agg (cg t)) s.ga (fun j hj=>(s.wa j hj).2) rfl rfl (by rw [List.length_map]; omega) (by rw [List.length_map]; omega) fun x' H' v' g' fr=>?_
 have hq:=s.v.lt s.v.gq
 obtain ⟨c0,hgr,hlr⟩:=s.v.gr
 have hr:=s.v.lt hgr
 rw [bj,aa,jd v'.gq g'.cells.1 g'.cells.2 g'.one (by show 0+3<5; omega),aa]
 have v2:=v'.set ([Sx c.tag,xi,xc,xa,xp].set (0+3) x') (by rw [List.length_set])
 have keep:∀ {sz:Nat} {y:AV} {rows:List (List AV)},Gs sz H y rows→(∀ j,own y j→¬ own xa j∧j≠q)→Gs sz (H'.set q (some (.cells ([Sx c.tag,xi,xc,xa,xp].set (0+3) x') true))) y rows:=by
  intro sz y rows g h
  refine g.keep (fun j hj=>?_) (by have:=fr.grow; simpa using this)
  rw [ay,if_neg (h j hj).2]
  exact fr.same j (g.lt hj) (h j hj).1
 have wk:∀ {j:Nat} {n:Nat},j<H.n→w j=n→(if H.n≤j then 3 else w j)=n:=fun h1 h2=>by rw [if_neg (by omega)]; exact h2
 have mine:∀ j,own x' j→(if H.n≤j then 3 else w j)=3∧H0.n≤j∧j≠q∧j≠r:=by
  intro j hj
  have hkn:=s.v.pl.k.n
  rcases fr.mine j hj with h | h
  ·have:=s.wa j h
   exact ⟨wk (s.ga.lt h) this.1,this.2⟩
  ·exact ⟨by rw [if_pos h.1],by omega,by omega,by omega⟩
 have gx:Gs 3 (H'.set q (some (.cells ([Sx c.tag,xi,xc,xa,xp].set (0+3) x') true))) x' ((c.attrs++[t]).map cg):=by
  rw [List.map_append]
  exact g'.keep (fun j hj=>by rw [ay,if_neg (mine j hj).2.2.1]) (by simp)
 refine hK x' (fun j=>if H.n≤j then 3 else w j) _ ⟨v2,?_,?_,?_,?_,?_,?_,?_,?_⟩
 ·exact keep s.gi fun j hj=>⟨fun h=>by have h1:=(s.wa j h).1; have h2:=(s.wi j hj).1; omega,(s.wi j hj).2.2.1⟩
 ·exact keep s.gc fun j hj=>⟨fun h=>by have h1:=(s.wa j h).1; have h2:=(s.wc j hj).1; omega,(s.wc j hj).2.2.1⟩
 ·exact gx
 ·exact keep s.gp fun j hj=>⟨fun h=>by have h1:=(s.wa j h).1; have h2:=(s.wp j hj).1; omega,(s.wp j hj).2.2.1⟩
 ·exact fun j hj=>⟨wk (s.gi.lt hj) (s.wi j hj).1,(s.wi j hj).2⟩
 ·exact fun j hj=>⟨wk (s.gc.lt hj) (s.wc j hj).1,(s.wc j hj).2⟩
 ·exact mine
 ·exact fun j hj=>⟨wk (s.gp.lt hj) (s.wp j hj).1,(s.wp j hj).2⟩
theorem CpS.appP (s:CpS b ts H0 a bad dp q r c xi xc xa xp w H) (hn:c.pseudos.length≤1000) (t:Ps) {K:Hp→Prop}
  (hK:∀ x' w' H',CpS b ts H0 a bad dp q r (.mk c.tag c.ids c.classes c.attrs (c.pseudos++[t])) xi xc xa x' w' H'→K H') :
  bnd (bc false 4 48 (H.new (.cells (bv t) true)) xp (.sl H.n 0 4 1 (some 1))) fun p=>bnd (ae (.ptr q 0) 4) fun z=>bnd (stA 1 p.2 z p.1) K:=by
 refine s.v.app2 (y:=.agg (bv t)) s.gp (fun j hj=>(s.wp j hj).2) (g_ t) (Ej t) (by rw [List.length_map]; omega) (by rw [List.length_map]; omega) fun x' H' v' g' fr=>?_
 have hq:=s.v.lt s.v.gq
 obtain ⟨c0,hgr,hlr⟩:=s.v.gr
 have hr:=s.v.lt hgr
 rw [bj,aa,jd v'.gq g'.cells.1 g'.cells.2 g'.one (by show 0+4<5; omega),aa]
 have v2:=v'.set ([Sx c.tag,xi,xc,xa,xp].set (0+4) x') (by rw [List.length_set])
 have keep:∀ {sz:Nat} {y:AV} {rows:List (List AV)},Gs sz H y rows→(∀ j,own y j→¬ own xp j∧j≠q)→Gs sz (H'.set q (some (.cells ([Sx c.tag,xi,xc,xa,xp].set (0+4) x') true))) y rows:=by
  intro sz y rows g h
  refine g.keep (fun j hj=>?_) (by have:=fr.grow; simpa using this)
  rw [ay,if_neg (h j hj).2]
  exact fr.same j (g.lt hj) (h j hj).1
 have wk:∀ {j:Nat} {n:Nat},j<H.n→w j=n→(if H.n≤j then 4 else w j)=n:=fun h1 h2=>by rw [if_neg (by omega)]; exact h2
 have mine:∀ j,own x' j→(if H.n≤j then 4 else w j)=4∧H0.n≤j∧j≠q∧j≠r:=by
  intro j hj
  have hkn:=s.v.pl.k.n
  rcases fr.mine j hj with h | h
  ·have:=s.wp j h
   exact ⟨wk (s.gp.lt h) this.1,this.2⟩
  ·exact ⟨by rw [if_pos h.1],by omega,by omega,by omega⟩
 have gx:Gs 4 (H'.set q (some (.cells ([Sx c.tag,xi,xc,xa,xp].set (0+4) x') true))) x' ((c.pseudos++[t]).map bv):=by
  rw [List.map_append]
  exact g'.keep (fun j hj=>by rw [ay,if_neg (mine j hj).2.2.1]) (by simp)
 refine hK x' (fun j=>if H.n≤j then 4 else w j) _ ⟨v2,?_,?_,?_,?_,?_,?_,?_,?_⟩
 ·exact keep s.gi fun j hj=>⟨fun h=>by have h1:=(s.wp j h).1; have h2:=(s.wi j hj).1; omega,(s.wi j hj).2.2.1⟩
 ·exact keep s.gc fun j hj=>⟨fun h=>by have h1:=(s.wp j h).1; have h2:=(s.wc j hj).1; omega,(s.wc j hj).2.2.1⟩
 ·exact keep s.ga fun j hj=>⟨fun h=>by have h1:=(s.wp j h).1; have h2:=(s.wa j hj).1; omega,(s.wa j hj).2.2.1⟩
 ·exact gx
 ·exact fun j hj=>⟨wk (s.gi.lt hj) (s.wi j hj).1,(s.wi j hj).2⟩
 ·exact fun j hj=>⟨wk (s.gc.lt hj) (s.wc j hj).1,(s.wc j hj).2⟩
 ·exact fun j hj=>⟨wk (s.ga.lt hj) (s.wa j hj).1,(s.wa j hj).2⟩
 ·exact mine
theorem CpS.tmp (s:CpS b ts H0 a bad dp q r c xi xc xa xp w H) (c0 c1:List AV):CpS b ts H0 a bad dp q r c xi xc xa xp w ((H.new (.cells c0 true)).set H.n (some (.cells c1 true))):=by
 have hq:=s.v.lt s.v.gq
 obtain ⟨d0,hgr,hlr⟩:=s.v.gr
 have hr:=s.v.lt hgr
 have hkn:=s.v.pl.k.n
 refine s.mv ((s.v.new (.cells c0 true)).other (.cells c1 true) hkn (by simp) (by omega) (by omega)) (by simp) fun j h0 h1 _ _=>?_
 rw [ay,if_neg (by omega),aB,if_neg (by omega)]
theorem Gs.has {sz:Nat} {H:Hp} {x:AV} {rows:List (List AV)} (h:Gs sz H x rows) {j:Nat} (hj:own x j):∃ k,H.get j=some k:=by
 cases h with
 | nil=>exact hj.elim
 | sl hlt hg _=>simp only [own] at hj; subst hj; exact ⟨_,hg⟩
theorem CpS.fz (s:CpS b ts H0 a bad dp q r c xi xc xa xp w H) (Hd:Hp) (hn:H.n≤Hd.n) (hd:∀ j k,H.get j=some k→H0.n≤j→j≠r→Hd.get j=some k):FzE Hd (.agg [Sx c.tag,xi,xc,xa,xp]) (.agg (bR c)):=by
 have keep:∀ {sz:Nat} {y:AV} {rows:List (List AV)} {n:Nat},Gs sz H y rows→(∀ j,own y j→w j=n∧H0.n≤j∧j≠q∧j≠r)→Gs sz Hd y rows:=by
  intro sz y rows n g h
  refine g.keep (fun j hj=>?_) hn
  obtain ⟨k,hk⟩:=g.has hj
  rw [hk]
  exact hd j k hk (h j hj).2.1 (h j hj).2.2.2
 rw [cX]
 exact .inr (.aggL (.cons (.refl rfl) (.cons ((keep s.gi s.wi).fz (bm _ (fun _=>rfl) _)) (.cons ((keep s.gc s.wc).fz (bm _ (fun _=>rfl) _)) (.cons ((keep s.ga s.wa).fz (bm _ oh _)) (.cons ((keep s.gp s.wp).fz (bm _ tI _)) .nil))))))
end
end Go.Proofs.YthmaggcfghjmfaaGreat.Ev
namespace Go.Proofs.YthmaggcfghjmfaaGreat.Ev
set_option linter.unusedVariables false
set_option linter.unusedSimpArgs false
variable {σ:Sig}
structure CpI (ts:List Tn) (a a1:Nat) (n:Nat) (c:Cp):Prop where
 le:a1≤ts.length
 wf:tL dF c
 bk:bkL (bR c)+(if n=0 then 0 else 80)≤5+1000*(a1 - a)
 l1:c.ids.length≤a1
 l2:c.classes.length≤a1
 l3:c.attrs.length≤a1
 l4:c.pseudos.length≤a1
 n0:n≤a1
theorem iG:∀ (l:List (List AV)) (x:List AV),dz (l++[x])=dz l+bkL x
 | [],x=>by simp [dz]
 | y::l,x=>by simp only [List.cons_append,dz,iG l x]; omega
theorem I7 (c:Cp) (t:ByteArray):bkL (bR (.mk c.tag (c.ids++[t]) c.classes c.attrs c.pseudos))=bkL (bR c)+(t.data.size+1):=by
 rw [mo,mo]
 simp only [Cp.tag,Cp.ids,Cp.classes,Cp.attrs,Cp.pseudos,List.map_append,List.map_cons,List.map_nil,iG,bkL,zI]
 omega
theorem Ie (c:Cp) (t:ByteArray):bkL (bR (.mk c.tag c.ids (c.classes++[t]) c.attrs c.pseudos))=bkL (bR c)+(t.data.size+1):=by
 rw [mo,mo]
 simp only [Cp.tag,Cp.ids,Cp.classes,Cp.attrs,Cp.pseudos,List.map_append,List.map_cons,List.map_nil,iG,bkL,zI]
 omega
theorem Ij (c:Cp) (t:At):bkL (bR (.mk c.tag c.ids c.classes (c.attrs++[t]) c.pseudos))=bkL (bR c)+bkL (cg t):=by
 rw [mo,mo]
 simp only [Cp.tag,Cp.ids,Cp.classes,Cp.attrs,Cp.pseudos,List.map_append,List.map_cons,List.map_nil,iG]
 omega
theorem It (c:Cp) (t:Ps):bkL (bR (.mk c.tag c.ids c.classes c.attrs (c.pseudos++[t])))=bkL (bR c)+bkL (bv t):=by
 rw [mo,mo]
 simp only [Cp.tag,Cp.ids,Cp.classes,Cp.attrs,Cp.pseudos,List.map_append,List.map_cons,List.map_nil,iG]
 omega
theorem Ly {ts:List Tn} {a a1 n:Nat} {c:Cp} (h:CpI ts a a1 n c) (hl:ts.length≤300) (ha:a≤a1) (t:ByteArray) (hs:t.data.size≤900) (a2:Nat) (h2:a1+1≤a2) (h3:a2≤ts.length):CpI ts a a2 (n+1) (.mk c.tag (c.ids++[t]) c.classes c.attrs c.pseudos):=by
 have hL:dF=9223372036854775807:=rfl
 have hb:=h.bk
 have q1:=h.l1
 have q2:=h.l2
 have q3:=h.l3
 have q4:=h.l4
 have q5:=h.n0
 refine ⟨h3,⟨h.wf.tag,⟨?_,fun s hs'=>?_⟩,h.wf.classes,h.wf.attrsL,h.wf.attrs,h.wf.psL,h.wf.ps⟩,?_,?_,?_,?_,?_,by omega⟩
 ·show (c.ids++[t]).length≤_; rw [List.length_append,List.length_singleton]; omega
 ·rcases List.mem_append.1 hs' with h' | h'
  ·exact h.wf.ids.2 s h'
  ·rw [List.mem_singleton.1 h']; omega
 ·rw [I7,if_neg (by omega)]
  split at hb<;>omega
 ·show (c.ids++[t]).length≤_; rw [List.length_append,List.length_singleton]; omega
 ·show c.classes.length≤_; omega
 ·show c.attrs.length≤_; omega
 ·show c.pseudos.length≤_; omega
theorem K_ {ts:List Tn} {a a1 n:Nat} {c:Cp} (h:CpI ts a a1 n c) (hl:ts.length≤300) (ha:a≤a1) (t:ByteArray) (hs:t.data.size≤900) (a2:Nat) (h2:a1+1≤a2) (h3:a2≤ts.length):CpI ts a a2 (n+1) (.mk c.tag c.ids (c.classes++[t]) c.attrs c.pseudos):=by
 have hL:dF=9223372036854775807:=rfl
 have hb:=h.bk
 have q1:=h.l1
 have q2:=h.l2
 have q3:=h.l3
 have q4:=h.l4
 have q5:=h.n0
 refine ⟨h3,⟨h.wf.tag,h.wf.ids,⟨?_,fun s hs'=>?_⟩,h.wf.attrsL,h.wf.attrs,h.wf.psL,h.wf.ps⟩,?_,?_,?_,?_,?_,by omega⟩
 ·show (c.classes++[t]).length≤_; rw [List.length_append,List.length_singleton]; omega
 ·rcases List.mem_append.1 hs' with h' | h'
  ·exact h.wf.classes.2 s h'
  ·rw [List.mem_singleton.1 h']; omega
 ·rw [Ie,if_neg (by omega)]
  split at hb<;>omega
 ·show c.ids.length≤_; omega
 ·show (c.classes++[t]).length≤_; rw [List.length_append,List.length_singleton]; omega
 ·show c.attrs.length≤_; omega
 ·show c.pseudos.length≤_; omega
theorem KW {ts:List Tn} {a a1 n:Nat} {c:Cp} (h:CpI ts a a1 n c) (hl:ts.length≤300) (ha:a≤a1) (t:At) (hn:t.name.data.size≤900) (hx:t.text.data.size≤900) (ho:i64 t.op) (a2:Nat) (h2:a1+3≤a2) (h3:a2≤ts.length):CpI ts a a2 (n+1) (.mk c.tag c.ids c.classes (c.attrs++[t]) c.pseudos):=by
 have hL:dF=9223372036854775807:=rfl
 have hb:=h.bk
 have q1:=h.l1
 have q2:=h.l2
 have q3:=h.l3
 have q4:=h.l4
 have q5:=h.n0
 refine ⟨h3,⟨h.wf.tag,h.wf.ids,h.wf.classes,?_,fun s hs'=>?_,h.wf.psL,h.wf.ps⟩,?_,?_,?_,?_,?_,by omega⟩
 ·show (c.attrs++[t]).length≤_; rw [List.length_append,List.length_singleton]; omega
 ·rcases List.mem_append.1 hs' with h' | h'
  ·exact h.wf.attrs s h'
  ·rw [List.mem_singleton.1 h']; exact ⟨by omega,ho,by omega⟩
 ·rw [Ij,Cu,if_neg (by omega)]
  split at hb<;>omega
 ·show c.ids.length≤_; omega
 ·show c.classes.length≤_; omega
 ·show (c.attrs++[t]).length≤_; rw [List.length_append,List.length_singleton]; omega
 ·show c.pseudos.length≤_; omega
theorem Lf {ts:List Tn} {a a1 n:Nat} {c:Cp} (h:CpI ts a a1 n c) (hl:ts.length≤300) (ha:a≤a1) (t:Ps) (hw:Ps.wf dF t) (a2:Nat) (h2:a1+1≤a2) (h3:a2≤ts.length) (ht:bkL (bv t)+90≤1000*(a2 - a1)):CpI ts a a2 (n+1) (.mk c.tag c.ids c.classes c.attrs (c.pseudos++[t])):=by
 have hL:dF=9223372036854775807:=rfl
 have hb:=h.bk
 have q1:=h.l1
 have q2:=h.l2
 have q3:=h.l3
 have q4:=h.l4
 have q5:=h.n0
 refine ⟨h3,⟨h.wf.tag,h.wf.ids,h.wf.classes,h.wf.attrsL,h.wf.attrs,?_,fun s hs'=>?_⟩,?_,?_,?_,?_,?_,by omega⟩
 ·show (c.pseudos++[t]).length≤_; rw [List.length_append,List.length_singleton]; omega
 ·rcases List.mem_append.1 hs' with h' | h'
  ·exact h.wf.ps s h'
  ·rw [List.mem_singleton.1 h']; exact hw
 ·rw [It,if_neg (by omega)]
  split at hb<;>omega
 ·show c.ids.length≤_; omega
 ·show c.classes.length≤_; omega
 ·show c.attrs.length≤_; omega
 ·show (c.pseudos++[t]).length≤_; rw [List.length_append,List.length_singleton]; omega
def zCp:List AV:=[.lit (.string ⟨#[]⟩),.lit (.slice none 0 0),.lit (.slice none 0 0),.lit (.slice none 0 0),.lit (.slice none 0 0)]
section
attribute [local irreducible] ap.J0 ap.L1 ap.J2
theorem pCp {b a:Nat} {ts:List Tn} {dp:Int} (IL:oC σ dp) {H:Hp} {K:AV→Hp→Prop} (s:PkS b ts a false dp H) (hok:∀ t ∈ ts,jm t) (hl:ts.length≤300) (ha:a≤ts.length)
  (hK:∀ (c:Cp) (a':Nat) (bad':Bool) (H':Hp),PkS b ts a' bad' dp H'→Wb b H H'→a≤a'→a'≤ts.length+2→(bad'=false→a+1≤a'∧a'≤ts.length∧tL dF c∧bkL (bR c)+75≤1000*(a' - a))→K (.agg (bR c)) H') :
  ai Tryz.prog σ eg [.ptr b 0] H K:=by
 refine ja s ?_
 refine ap.run ?_
 rw [bw,bw]
 obtain ⟨r,hr⟩:∃ r,r=H.n:=⟨_,rfl⟩
 obtain ⟨q,hq⟩:∃ q,q=r+1:=⟨_,rfl⟩
 have ez:(Blk.cells [.lit (.string ⟨#[]⟩),.lit (.slice none 0 0),.lit (.slice none 0 0),.lit (.slice none 0 0),.lit (.slice none 0 0)] true)=.cells zCp true:=rfl
 have hbr:b<H.n:=s.lt
 have hL:dF=9223372036854775807:=rfl
 have n1:(H.new (.cells zCp true)).n=q:=by rw [hq,hr]; rfl
 rw [ez,← hr,n1]
 have p0:=(s.pl.new (.cells zCp true)).new (.cells zCp true)
 have gr0:((H.new (.cells zCp true)).new (.cells zCp true)).get r=some (.cells zCp true):=by rw [aB,n1,if_neg (by omega),aB,if_pos hr]
 have gq0:((H.new (.cells zCp true)).new (.cells zCp true)).get q=some (.cells zCp true):=by rw [aB,n1,if_pos rfl]
 generalize (H.new (.cells zCp true)).new (.cells zCp true)=H1 at p0 gr0 gq0 ⊢
 have v0:LV b ts H a false dp q r zCp H1:=⟨p0,gq0,⟨_,gr0,rfl⟩,by omega,by omega,by omega,hbr⟩
 have c0:∀ (tag:ByteArray) (a1:Nat) (H2:Hp),LV b ts H a1 false dp q r [Sx tag,.lit (.slice none 0 0),.lit (.slice none 0 0),.lit (.slice none 0 0),.lit (.slice none 0 0)] H2→CpS b ts H a1 false dp q r (.mk tag [] [] [] []) (.lit (.slice none 0 0)) (.lit (.slice none 0 0)) (.lit (.slice none 0 0)) (.lit (.slice none 0 0)) (fun _=>0) H2 :=
  fun tag a1 H2 v=>⟨v,.nil,.nil,.nil,.nil,fun _ h=>h.elim,fun _ h=>h.elim,fun _ h=>h.elim,fun _ h=>h.elim⟩
 have ret:∀ (c:Cp) (xi xc xa xp:AV) (w:Nat→Nat) (a1:Nat) (bad1:Bool) (Hx:Hp),CpS b ts H a1 bad1 dp q r c xi xc xa xp w Hx→a≤a1→a1≤ts.length+2→(bad1=false→a+1≤a1∧a1≤ts.length∧tL dF c∧bkL (bR c)+75≤1000*(a1 - a)) →
   bnd (ldA true 5 Hx (.ptr q 0)) fun x91=>bnd (stA 5 Hx (.ptr r 0) x91) fun H92=>bnd (ldA true 5 H92 (.ptr r 0)) fun r93=>e_ b ts H K r93 H92:=by
  intro c xi xc xa xp w a1 bad1 Hx cs h1 h2 h3
  exact cs.v.ret (r':=.agg (bR c)) rfl (by
   have e1:=cs.gi.one
   have e2:=cs.gc.one
   have e3:=cs.ga.one
   have e4:=cs.gp.one
   simp only [List.all_cons,List.all_nil,e1,e2,e3,e4,Bool.and_true]; rfl) (fun Hd hn hd=>cs.fz Hd hn hd) fun H' s' w'=>hK c a1 bad1 H' s' w' h1 h2 h3
 have L1:∀ (f:Nat) (c:Cp) (xi xc xa xp:AV) (w:Nat→Nat) (a1 n:Nat) (bad1:Bool) (Hx:Hp),1000 - a1=f→CpS b ts H a1 bad1 dp q r c xi xc xa xp w Hx→a≤a1→a1≤ts.length+2→(bad1=false→CpI ts a a1 n c)→ap.L1 σ (e_ b ts H K) (.ptr b 0) (.ptr r 0) (.ptr q 0) (I (n:Int)) Hx:=by
  intro f
  induction f using Nat.strongRecOn with
  | ind f ih =>
   intro c xi xc xa xp w a1 n bad1 Hx hf cs h1 h2 h3
   refine ap.L1_step ?_
   rw [gH,aa,bj,aa,cs.v.s.l2,aa,dQ,aa,ah]
   cases bad1 with
   | true =>
    rw [if_neg (by decide)]
    exact ret c xi xc xa xp w a1 true Hx cs h1 h2 fun h=>by cases h
   | false =>
    rw [if_pos (by decide)]
    have hI:=h3 rfl
    have hle:=hI.le
    have J2:∀ (c2:Cp) (xi xc xa xp:AV) (w:Nat→Nat) (a2:Nat) (bad2:Bool) (H2:Hp),CpS b ts H a2 bad2 dp q r c2 xi xc xa xp w H2→a1<a2→a2≤ts.length+2→(bad2=false→CpI ts a a2 (n+1) c2)→ap.J2 σ (e_ b ts H K) (.ptr b 0) (.ptr r 0) (.ptr q 0) (I (n:Int)) H2:=by
     intro c2 xi xc xa xp w a2 bad2 H2 cs2 g1 g2 g3
     refine ap.J2_step ?_
     have:=hI.n0
     rw [bN,aa,bz (by omega)]
     exact ih (1000 - a2) (by omega) c2 xi xc xa xp w a2 (n+1) bad2 H2 rfl cs2 (by omega) g2 g3
    have sw:∀ (k:Int) (Hx:Hp),(k=18→a1<ts.length)→(k=11→a1<ts.length)→CpS b ts H a1 false dp q r c xi xc xa xp w Hx→bnd (af .eql (I k) (.lit (.int .i64 18))) fun x47=>ifB x47 (bnd (au (.ptr b 0)) fun x48=>bnd (ae x48 1) fun x49=>bnd (ldA false 1 Hx x49) fun x50=>bnd (af .add x50 (.lit (.int .i64 1))) fun x51=>bnd (au (.ptr b 0)) fun x52=>bnd (ae x52 1) fun x53=>bnd (stA 1 Hx x53 x51) fun H54=>ai Tryz.prog σ dA [.ptr b 0] H54 fun x55 H56=>bq [.lit (.string ⟨#[]⟩),.lit (.int .i64 0),.lit (.string ⟨#[]⟩)] H56 fun x57 H58=>bnd (stA 3 H58 x57 x55) fun H59=>bnd (ae (.ptr q 0) 3) fun x60=>bnd (ldA false 1 H59 x60) fun x61=>bnd (ldA true 3 H59 x57) fun x62=>bnd (aw [.string ⟨#[]⟩,.int .i64 0,.string ⟨#[]⟩] 3 1 H59 [(0,3,x62)]) fun p63=>bnd (bc false 3 40 p63.2 x61 p63.1) fun p64=>bnd (ae (.ptr q 0) 3) fun x65=>bnd (stA 1 p64.2 x65 p64.1) fun H66=>ap.J2 σ (e_ b ts H K) (.ptr b 0) (.ptr r 0) (.ptr q 0) (I (n:Int)) H66) (bnd (af .eql (I k) (.lit (.int .i64 11))) fun x67=>ifB x67 (bnd (au (.ptr b 0)) fun x68=>bnd (ae x68 1) fun x69=>bnd (ldA false 1 Hx x69) fun x70=>bnd (af .add x70 (.lit (.int .i64 1))) fun x71=>bnd (au (.ptr b 0)) fun x72=>bnd (ae x72 1) fun x73=>bnd (stA 1 Hx x73 x71) fun H74=>ai Tryz.prog σ dk [.ptr b 0] H74 fun x75 H76=>bq [.lit (.int .i64 0),.lit (.int .i64 0),.lit (.int .i64 0),.lit (.slice none 0 0)] H76 fun x77 H78=>bnd (stA 4 H78 x77 x75) fun H79=>bnd (ae (.ptr q 0) 4) fun x80=>bnd (ldA false 1 H79 x80) fun x81=>bnd (ldA true 4 H79 x77) fun x82=>bnd (aw [.int .i64 0,.int .i64 0,.int .i64 0,.slice none 0 0] 4 1 H79 [(0,4,x82)]) fun p83=>bnd (bc false 4 48 p83.2 x81 p83.1) fun p84=>bnd (ae (.ptr q 0) 4) fun x85=>bnd (stA 1 p84.2 x85 p84.1) fun H86=>ap.J2 σ (e_ b ts H K) (.ptr b 0) (.ptr r 0) (.ptr q 0) (I (n:Int)) H86) (bnd (af .eql (I (n:Int)) (.lit (.int .i64 0))) fun x87=>bnd (au (.ptr b 0)) fun x88=>bnd (ae x88 2) fun x89=>bnd (stA 1 Hx x89 x87) fun H90=>bnd (ldA true 5 H90 (.ptr q 0)) fun x91=>bnd (stA 5 H90 (.ptr r 0) x91) fun H92=>bnd (ldA true 5 H92 (.ptr r 0)) fun r93=>(e_ b ts H K) r93 H92)):=by
     intro k Hx k18 k11 cs
     rw [bD,aa,ah]
     split
     ·rename_i hk
      have hlt:=k18 (of_decide_eq_true hk)
      refine lP 1 rfl cs.v.s (by omega) fun H2 s2 w2 _=>?_
      have cs2:=cs.to s2 w2
      refine KE s2 hok hl (by omega) fun x a' bad' H3 s3 w3 g1 g2 g3=>?_
      have cs3:=cs2.to s3 w3
      rw [bw]
      have st:stA 3 (H3.new (.cells [.lit (.string ⟨#[]⟩),.lit (.int .i64 0),.lit (.string ⟨#[]⟩)] true)) (.ptr H3.n 0) (.agg (cg x))=some ((H3.new (.cells [.lit (.string ⟨#[]⟩),.lit (.int .i64 0),.lit (.string ⟨#[]⟩)] true)).set H3.n (some (.cells (cg x) true))):=by
       rw [gU,aB,if_pos rfl,if_pos (show (cg x).length=3 from rfl),cC,if_pos ⟨by show 0+3≤3; omega,rfl⟩,a8 (by rfl)]
      rw [st,aa]
      have cs4:=cs3.tmp [.lit (.string ⟨#[]⟩),.lit (.int .i64 0),.lit (.string ⟨#[]⟩)] (cg x)
      have lo:ldA true 3 ((H3.new (.cells [.lit (.string ⟨#[]⟩),.lit (.int .i64 0),.lit (.string ⟨#[]⟩)] true)).set H3.n (some (.cells (cg x) true))) (.ptr H3.n 0)=some (.agg (cg x)):=by
       rw [bE,ay,if_pos rfl,br,List.drop_zero,dm (show (cg x).length=3 from rfl)]
      generalize ((H3.new (.cells [.lit (.string ⟨#[]⟩),.lit (.int .i64 0),.lit (.string ⟨#[]⟩)] true)).set H3.n (some (.cells (cg x) true)))=H4 at cs4 lo ⊢
      have la:ldA false 1 H4 (.ptr q (0+3))=some xa:=by rw [bE,cs4.v.gq]; rfl
      have eb:aw [.string ⟨#[]⟩,.int .i64 0,.string ⟨#[]⟩] 3 1 H4 [(0,3,.agg (cg x))]=some (.sl H4.n 0 3 1 (some 1),H4.new (.cells (cg x) true)):=rfl
      rw [bj,aa,la,aa,lo,aa,eb,aa]
      refine cs4.appA (by have:=hI.l3; omega) x fun x' w' H5 cs5=>?_
      exact J2 _ _ _ _ _ _ a' bad' H5 cs5 (by omega) (by omega) fun hb=>by
       obtain ⟨g4,g5,g6,g7,g8⟩:=g3 hb
       exact KW hI hl h1 x g6 g7 g8 a' (by omega) g5
     ·rw [bD,aa,ah]
      split
      ·rename_i hk
       have hlt:=k11 (of_decide_eq_true hk)
       refine lP 1 rfl cs.v.s (by omega) fun H2 s2 w2 _=>?_
       have cs2:=cs.to s2 w2
       refine E4 IL s2 hok hl (by omega) fun x a' bad' H3 s3 w3 g1 g2 g3=>?_
       have cs3:=cs2.to s3 w3
       rw [bw]
       have st:stA 4 (H3.new (.cells [.lit (.int .i64 0),.lit (.int .i64 0),.lit (.int .i64 0),.lit (.slice none 0 0)] true)) (.ptr H3.n 0) (.agg (bv x))=some ((H3.new (.cells [.lit (.int .i64 0),.lit (.int .i64 0),.lit (.int .i64 0),.lit (.slice none 0 0)] true)).set H3.n (some (.cells (bv x) true))):=by
        rw [gU,aB,if_pos rfl,if_pos (g_ x),cC,if_pos ⟨by rw [g_]; show 0+4≤4; omega,Ej x⟩,a8 (by rw [g_]; rfl)]
       rw [st,aa]
       have cs4:=cs3.tmp [.lit (.int .i64 0),.lit (.int .i64 0),.lit (.int .i64 0),.lit (.slice none 0 0)] (bv x)
       have lo:ldA true 4 ((H3.new (.cells [.lit (.int .i64 0),.lit (.int .i64 0),.lit (.int .i64 0),.lit (.slice none 0 0)] true)).set H3.n (some (.cells (bv x) true))) (.ptr H3.n 0)=some (.agg (bv x)):=by
        rw [bE,ay,if_pos rfl,br,List.drop_zero,dm (g_ x)]
       generalize ((H3.new (.cells [.lit (.int .i64 0),.lit (.int .i64 0),.lit (.int .i64 0),.lit (.slice none 0 0)] true)).set H3.n (some (.cells (bv x) true)))=H4 at cs4 lo ⊢
       have la:ldA false 1 H4 (.ptr q (0+4))=some xp:=by rw [bE,cs4.v.gq]; rfl
       have eb:aw [.int .i64 0,.int .i64 0,.int .i64 0,.slice none 0 0] 4 1 H4 [(0,4,.agg (bv x))]=some (.sl H4.n 0 4 1 (some 1),H4.new (.cells (bv x) true)):=nY (x:=.agg (bv x)) (g_ x) rfl
       rw [bj,aa,la,aa,lo,aa,eb,aa]
       refine cs4.appP (by have:=hI.l4; omega) x fun x' w' H5 cs5=>?_
       exact J2 _ _ _ _ _ _ a' bad' H5 cs5 (by omega) (by omega) fun hb=>by
        obtain ⟨g4,g5,g6,g7⟩:=g3 hb
        exact Lf hI hl h1 x g6 a' (by omega) g5 (by omega)
      ·rw [bD,aa]
       refine qc _ cs.v.s fun H2 s2 w2 _=>?_
       refine ret c xi xc xa xp w a1 _ H2 (cs.to s2 w2) h1 (by omega) fun hb=>?_
       have hn0:n≠0:=by
        intro e
        rw [e] at hb
        cases hb
       have:=hI.bk
       rw [if_neg hn0] at this
       exact ⟨by omega,hI.le,hI.wf,by omega⟩
    refine kG 0 rfl cs.v.s (by omega) fun H2 s2 w2=>?_
    have cs2:=cs.to s2 w2
    rw [jl,aa]
    have hk2:(ia ts (a1+0)).kind≠0→a1+0<ts.length:=iq
    rw [bD,aa,ah]
    split
    ·rename_i hk
     have hlt:=hk2 (by have:=of_decide_eq_true hk; omega)
     have la:ldA false 1 H2 (.ptr q (0+1))=some xi:=by rw [bE,cs2.v.gq]; rfl
     rw [bj,aa,la,aa]
     refine kG 0 rfl s2 (by omega) fun H3 s3 w3=>?_
     have cs3:=cs2.to s3 w3
     have hqb:q≠b:=by omega
     rw [nI]
     refine ⟨by rw [w3.g q hqb],?_⟩
     rw [rm,aa]
     have okt:=(nq hok (a1+0)).text
     generalize (ia ts (a1+0)).text=tx at okt ⊢
     have eb:aw [.string ⟨#[]⟩] 1 1 H3 [(0,1,Sx tx)]=some (.sl H3.n 0 1 1 (some 1),H3.new (.cells [Sx tx] true)):=rfl
     rw [eb,aa]
     dsimp only
     rw [nI]
     refine ⟨by rw [aB,if_neg (by have:=cs3.v.lt cs3.v.gq; omega)],?_⟩
     refine cs3.appI (by have:=hI.l1; omega) tx fun x' w' H5 cs5=>?_
     refine lP 1 rfl cs5.v.s (by omega) fun H6 s6 w6 _=>?_
     exact J2 _ _ _ _ _ _ (a1+1) false H6 (cs5.to s6 w6) (by omega) (by omega) fun _=>Ly hI hl h1 tx okt (a1+1) (by omega) (by omega)
    ·refine pI 0 rfl s2 (by omega) fun d H3 s3 w3 hd=>?_
     have cs3:=cs2.to s3 w3
     have k18:(ia ts (a1+0)).kind=18→a1<ts.length:=fun h=>hk2 (by omega)
     have k11:(ia ts (a1+0)).kind=11→a1<ts.length:=fun h=>hk2 (by omega)
     generalize (ia ts (a1+0)).kind=k at k18 k11 ⊢
     rw [ah]
     split
     ·refine kG 1 rfl s3 (by omega) fun H4 s4 w4=>?_
      have cs4:=cs3.to s4 w4
      rw [jl,aa,bD,aa,ah]
      split
      ·rename_i hk
       have hlt:a1+1<ts.length:=iq (by have:=of_decide_eq_true hk; omega)
       have la:ldA false 1 H4 (.ptr q (0+2))=some xc:=by rw [bE,cs4.v.gq]; rfl
       rw [bj,aa,la,aa]
       refine kG 1 rfl s4 (by omega) fun H5 s5 w5=>?_
       have cs5:=cs4.to s5 w5
       have hqb:q≠b:=by omega
       rw [nI]
       refine ⟨by rw [w5.g q hqb],?_⟩
       rw [rm,aa]
       have okt:=(nq hok (a1+1)).text
       generalize (ia ts (a1+1)).text=tx at okt ⊢
       have eb:aw [.string ⟨#[]⟩] 1 1 H5 [(0,1,Sx tx)]=some (.sl H5.n 0 1 1 (some 1),H5.new (.cells [Sx tx] true)):=rfl
       rw [eb,aa]
       dsimp only
       rw [nI]
       refine ⟨by rw [aB,if_neg (by have:=cs5.v.lt cs5.v.gq; omega)],?_⟩
       refine cs5.appC (by have:=hI.l2; omega) tx fun x' w' H6 cs6=>?_
       refine lP 2 rfl cs6.v.s (by omega) fun H7 s7 w7 _=>?_
       exact J2 _ _ _ _ _ _ (a1+2) false H7 (cs6.to s7 w7) (by omega) (by omega) fun _=>K_ hI hl h1 tx okt (a1+2) (by omega) (by omega)
      ·exact sw k H4 k18 k11 cs4
     ·exact sw k H3 k18 k11 cs3
 have J0:∀ (tag:ByteArray) (n a1:Nat) (H2:Hp),LV b ts H a1 false dp q r [Sx tag,.lit (.slice none 0 0),.lit (.slice none 0 0),.lit (.slice none 0 0),.lit (.slice none 0 0)] H2→a1=a+n→n≤1→a1≤ts.length→tag.data.size≤900*n→ap.J0 σ (e_ b ts H K) (.ptr b 0) (.ptr r 0) (.ptr q 0) (I (n:Int)) H2:=by
  intro tag n a1 H2 v e h1 h2 h3
  refine ap.J0_step ?_
  refine L1 (1000 - a1) (.mk tag [] [] [] []) _ _ _ _ _ a1 n false H2 rfl (c0 tag a1 H2 v) (by omega) (by omega) fun _=>⟨h2,⟨?_,⟨?_,fun _ h=>by cases h⟩,⟨?_,fun _ h=>by cases h⟩,?_,fun _ h=>(by cases h),?_,fun _ h=>(by cases h)⟩,?_,?_,?_,?_,?_,by omega⟩
  ·show tag.data.size≤dF; omega
  ·show (0:Nat)≤dF; omega
  ·show (0:Nat)≤dF; omega
  ·show (0:Nat)≤dF; omega
  ·show (0:Nat)≤dF; omega
  ·rw [mo]
   show (tag.data.size+1)+((0+1)+((0+1)+((0+1)+(0+1))))+_≤_
   split<;>omega
  ·show (0:Nat)≤_; omega
  ·show (0:Nat)≤_; omega
  ·show (0:Nat)≤_; omega
  ·show (0:Nat)≤_; omega
 refine kG 0 rfl v0.s (by omega) fun H2 s2 w2=>?_
 have v2:=v0.to s2 w2
 rw [jl,aa,bD,aa,ah]
 have hk2:(ia ts (a+0)).kind≠0→a+0<ts.length:=iq
 split
 ·rename_i hk
  have hlt:=hk2 (by have:=of_decide_eq_true hk; omega)
  refine kG 0 rfl s2 (by omega) fun H3 s3 w3=>?_
  have v3:=v2.to s3 w3
  rw [rm,aa]
  have okt:=(nq hok (a+0)).text
  generalize (ia ts (a+0)).text=tx at okt ⊢
  refine am (jE tx (by omega) H3) ?_
  have szn:(kP tx).data.size≤900:=by
   have:(kP tx).data.size=tx.data.size:=by simp [kP]
   omega
  generalize kP tx=nm at szn ⊢
  rw [bj,aa]
  refine v3.st (i:=0+0) (by show 0+0<5; omega) rfl rfl rfl fun H4 v4=>?_
  refine lP 1 rfl v4.s (by omega) fun H5 s5 w5 _=>?_
  rw [bN,aa,show wr .i64 (0+1)=((1:Nat):Int) from rfl]
  exact J0 nm 1 (a+1) H5 (v4.to s5 w5) rfl (by omega) (by omega) (by omega)
 ·refine pI 0 rfl s2 (by omega) fun d H3 s3 w3 hd=>?_
  have v3:=v2.to s3 w3
  rw [ah]
  split
  ·rename_i h
   have hlt:=hd h
   refine lP 1 rfl s3 (by omega) fun H5 s5 w5 _=>?_
   rw [bN,aa,show wr .i64 (0+1)=((1:Nat):Int) from rfl]
   exact J0 ⟨#[]⟩ 1 (a+1) H5 (v3.to s5 w5) rfl (by omega) (by omega) (by decide)
  ·exact J0 ⟨#[]⟩ 0 a H3 v3 rfl (by omega) ha (by decide)
end
end Go.Proofs.YthmaggcfghjmfaaGreat.Ev
namespace Go.Proofs.YthmaggcfghjmfaaGreat.Ev
set_option linter.unusedVariables false
set_option linter.unusedSimpArgs false
variable {σ:Sig}
theorem wd {b a:Nat} {ts:List Tn} {bad:Bool} {dp:Int} {H:Hp} {K:AV→Prop} (s:PkS b ts a bad dp H) (hK:K (Bo bad)):bnd (au (.ptr b 0)) fun x1=>bnd (ae x1 2) fun x2=>bnd (ldA false 1 H x2) K:=by
 simp only [gH,bj,aa,s.l2]; exact hK
theorem GJ {b a:Nat} {ts:List Tn} {bad:Bool} {dp:Int} {H:Hp} {K:AV→Prop} (s:PkS b ts a bad dp H) (hK:K (I dp)):bnd (au (.ptr b 0)) fun x1=>bnd (ae x1 3) fun x2=>bnd (ldA false 1 H x2) K:=by
 simp only [gH,bj,aa,s.l3]; exact hK
structure SlS (b:Nat) (ts:List Tn) (H0:Hp) (a:Nat) (bad:Bool) (dp:Int) (q r:Nat) (l:Sl) (x:AV) (H:Hp):Prop where
 v:LV b ts H0 a bad dp q r [x] H
 g:Gs 6 H x (l.map bx)
 w:∀ j,own x j→H0.n≤j∧j≠q∧j≠r
section
variable {b a a' q r:Nat} {ts:List Tn} {bad bad':Bool} {dp:Int} {H0 H H':Hp} {l:Sl} {x:AV}
theorem SlS.to (s:SlS b ts H0 a bad dp q r l x H) (s':PkS b ts a' bad' dp H') (w':Wb b H H'):SlS b ts H0 a' bad' dp q r l x H' :=
 ⟨s.v.to s' w',s.g.keep (fun j hj=>w'.g j (by have:=s.v.hb; have:=(s.w j hj).1; omega)) w'.n,s.w⟩
theorem SlS.tmp (s:SlS b ts H0 a bad dp q r l x H) (c0 c1:List AV):SlS b ts H0 a bad dp q r l x ((H.new (.cells c0 true)).set H.n (some (.cells c1 true))):=by
 have hq:=s.v.lt s.v.gq
 obtain ⟨d0,hgr,hlr⟩:=s.v.gr
 have hr:=s.v.lt hgr
 have hkn:=s.v.pl.k.n
 refine ⟨(s.v.new (.cells c0 true)).other (.cells c1 true) hkn (by simp) (by omega) (by omega),s.g.keep (fun j hj=>?_) (by simp),s.w⟩
 have:=s.g.lt hj
 rw [ay,if_neg (by omega),aB,if_neg (by omega)]
theorem SlS.app (s:SlS b ts H0 a bad dp q r l x H) (hn:l.length≤1000) (t:Pt) {K:Hp→Prop}
  (hK:∀ x' H',SlS b ts H0 a bad dp q r (l++[t]) x' H'→K H') :
  bnd (bc false 6 120 (H.new (.cells (bx t) true)) x (.sl H.n 0 6 1 (some 1))) fun p=>bnd (ae (.ptr q 0) 0) fun z=>bnd (stA 1 p.2 z p.1) K:=by
 refine s.v.app2 (y:=.agg (bx t)) s.g s.w (kY t) (JZ t) (by rw [List.length_map]; omega) (by rw [List.length_map]; omega) fun x' H' v' g' fr=>?_
 have hq:=s.v.lt s.v.gq
 obtain ⟨c0,hgr,hlr⟩:=s.v.gr
 have hr:=s.v.lt hgr
 have hkn:=s.v.pl.k.n
 rw [bj,aa,jd v'.gq g'.cells.1 g'.cells.2 g'.one (by show 0+0<1; omega),aa]
 have v2:=v'.set ([x].set (0+0) x') (by rw [List.length_set])
 have mine:∀ j,own x' j→H0.n≤j∧j≠q∧j≠r:=by
  intro j hj
  rcases fr.mine j hj with h | h
  ·exact s.w j h
  ·exact ⟨by omega,by omega,by omega⟩
 refine hK x' _ ⟨v2,?_,mine⟩
 rw [List.map_append]
 exact g'.keep (fun j hj=>by rw [ay,if_neg (mine j hj).2.1]) (by simp)
theorem SlS.fz (s:SlS b ts H0 a bad dp q r l x H) (Hd:Hp) (hn:H.n≤Hd.n) (hd:∀ j k,H.get j=some k→H0.n≤j→j≠r→Hd.get j=some k):FzE Hd (.agg [x]) (.agg (aU l)):=by
 have g:Gs 6 Hd x (l.map bx):=by
  refine s.g.keep (fun j hj=>?_) hn
  obtain ⟨k,hk⟩:=s.g.has hj
  rw [hk]
  exact hd j k hk (s.w j hj).1 (s.w j hj).2.2
 exact .inr (.aggL (.cons (g.fz (bm _ tF _)) .nil))
end
structure SlI (ts:List Tn) (a a1:Nat) (l:Sl):Prop where
 le:a1≤ts.length
 wf:∀ p ∈ l,Pt.wf dF p
 bk:dz (l.map bx)+70*l.length≤1000*(a1 - a)
 l1:l.length≤a1
theorem GI {ts:List Tn} {a a1:Nat} {l:Sl} (h:SlI ts a a1 l) (ha:a≤a1) (k:Int) (hk:i64 k) (c:Cp) (hc:tL dF c) {a2:Nat} (h1:a1+1≤a2) (h2:a2≤ts.length) (hb:bkL (bR c)+75≤1000*(a2 - a1)):SlI ts a a2 (l++[.mk k c]):=by
 have q1:=h.bk
 have q2:=h.l1
 refine ⟨h2,fun p hp=>?_,?_,?_⟩
 ·rcases List.mem_append.1 hp with h' | h'
  ·exact h.wf p h'
  ·rw [List.mem_singleton.1 h',Pt.wf_iff]; exact ⟨hk,hc⟩
 ·rw [List.map_append,List.length_append,List.map_cons,List.map_nil,iG,xS]
  show _+(1+bkL (bR c))+70*(l.length+1)≤_
  omega
 ·rw [List.length_append,List.length_singleton]; omega
section
attribute [local irreducible] bo.L0
theorem Mt {b a:Nat} {ts:List Tn} {dp:Int} (IL:oC σ dp) {H:Hp} {K:AV→Hp→Prop} (s:PkS b ts a false dp H) (hok:∀ t ∈ ts,jm t) (hl:ts.length≤300) (ha:a≤ts.length)
  (hK:∀ (m:Sl) (a':Nat) (bad':Bool) (H':Hp),PkS b ts a' bad' dp H'→Wb b H H'→a≤a'→a'≤ts.length+2→(bad'=false→a+1≤a'∧a'≤ts.length∧w_ dF m∧bkL (aU m)+65≤1000*(a' - a))→K (.agg (aU m)) H') :
  ai Tryz.prog σ ek [.ptr b 0] H K:=by
 refine ja s ?_
 refine bo.run ?_
 rw [bw,bw]
 obtain ⟨r,hr⟩:∃ r,r=H.n:=⟨_,rfl⟩
 obtain ⟨q,hq⟩:∃ q,q=r+1:=⟨_,rfl⟩
 have hbr:b<H.n:=s.lt
 have hL:dF=9223372036854775807:=rfl
 have n1:(H.new (.cells [.lit (.slice none 0 0)] true)).n=q:=by rw [hq,hr]; rfl
 rw [← hr,n1]
 have p0:=(s.pl.new (.cells [.lit (.slice none 0 0)] true)).new (.cells [.lit (.slice none 0 0)] true)
 have gr0:((H.new (.cells [.lit (.slice none 0 0)] true)).new (.cells [.lit (.slice none 0 0)] true)).get r=some (.cells [.lit (.slice none 0 0)] true):=by rw [aB,n1,if_neg (by omega),aB,if_pos hr]
 have gq0:((H.new (.cells [.lit (.slice none 0 0)] true)).new (.cells [.lit (.slice none 0 0)] true)).get q=some (.cells [.lit (.slice none 0 0)] true):=by rw [aB,n1,if_pos rfl]
 generalize (H.new (.cells [.lit (.slice none 0 0)] true)).new (.cells [.lit (.slice none 0 0)] true)=H1 at p0 gr0 gq0 ⊢
 have s0:SlS b ts H a false dp q r [] (.lit (.slice none 0 0)) H1:=⟨⟨p0,gq0,⟨_,gr0,rfl⟩,by omega,by omega,by omega,hbr⟩,.nil,fun _ h=>h.elim⟩
 have ret:∀ (m:Sl) (x:AV) (a1:Nat) (bad1:Bool) (Hx:Hp),SlS b ts H a1 bad1 dp q r m x Hx→a≤a1→a1≤ts.length+2→(bad1=false→SlI ts a a1 m∧1≤m.length) →
   bnd (ldA true 1 Hx (.ptr q 0)) fun x21=>bnd (stA 1 Hx (.ptr r 0) x21) fun H22=>bnd (ldA true 1 H22 (.ptr r 0)) fun r23=>e_ b ts H K r23 H22:=by
  intro m x a1 bad1 Hx ss h1 h2 h3
  exact ss.v.ret (r':=.agg (aU m)) rfl (by
   have e1:=ss.g.one
   simp only [List.all_cons,List.all_nil,e1,Bool.and_true]) (fun Hd hn hd=>ss.fz Hd hn hd) fun H' s' w'=>hK m a1 bad1 H' s' w' h1 h2 fun hb=>by
    obtain ⟨hI,hlen⟩:=h3 hb
    have q1:=hI.bk
    have q2:=hI.l1
    have q3:=hI.le
    refine ⟨by omega,hI.le,⟨by omega,hI.wf⟩,?_⟩
    rw [u5]
    omega
 have L0:∀ (f:Nat) (m:Sl) (x:AV) (a1:Nat) (k:Int) (Hx:Hp),1000 - a1=f→SlS b ts H a1 false dp q r m x Hx→a≤a1→SlI ts a a1 m→0≤k→k≤4→bo.L0 σ (e_ b ts H K) (.ptr b 0) (.ptr r 0) (.ptr q 0) (I k) Hx:=by
  intro f
  induction f using Nat.strongRecOn with
  | ind f ih =>
   intro m x a1 k Hx hf ss h1 hI k0 k4
   have hle:=hI.le
   refine bo.L0_step ?_
   refine wd ss.v.s ?_
   rw [dQ,aa,ah,if_pos (by decide)]
   refine pCp IL ss.v.s hok hl hle fun c a2 bad2 H2 s2 w2 g1 g2 g3=>?_
   have ss2:=ss.to s2 w2
   rw [bw]
   have ez:(Blk.cells [.lit (.string ⟨#[]⟩),.lit (.slice none 0 0),.lit (.slice none 0 0),.lit (.slice none 0 0),.lit (.slice none 0 0)] true)=.cells zCp true:=rfl
   rw [ez]
   have st:stA 5 (H2.new (.cells zCp true)) (.ptr H2.n 0) (.agg (bR c))=some ((H2.new (.cells zCp true)).set H2.n (some (.cells (bR c) true))):=by
    rw [gU,aB,if_pos rfl,if_pos (kO c),cC,if_pos ⟨by rw [kO]; show 0+5≤5; omega,A0 c⟩,a8 (by rw [kO]; rfl)]
   rw [st,aa]
   have ss4:=ss2.tmp zCp (bR c)
   have lo:ldA true 5 ((H2.new (.cells zCp true)).set H2.n (some (.cells (bR c) true))) (.ptr H2.n 0)=some (.agg (bR c)):=by
    rw [bE,ay,if_pos rfl,br,List.drop_zero,dm (kO c)]
   generalize ((H2.new (.cells zCp true)).set H2.n (some (.cells (bR c) true)))=H4 at ss4 lo ⊢
   have la:ldA false 1 H4 (.ptr q (0+0))=some x:=by rw [bE,ss4.v.gq]; rfl
   have eb0:bi [.lit (.int .i64 0),.lit (.string ⟨#[]⟩),.lit (.slice none 0 0),.lit (.slice none 0 0),.lit (.slice none 0 0),.lit (.slice none 0 0)] [(0,1,I k),(1,5,.agg (bR c))]=some (bx (.mk k c)):=by
    rw [d6]
    show _=some (I k::bR c)
    rw [cX]; rfl
   have eb:aw [.int .i64 0,.string ⟨#[]⟩,.slice none 0 0,.slice none 0 0,.slice none 0 0,.slice none 0 0] 6 1 H4 [(0,6,.agg (bx (.mk k c)))]=some (.sl H4.n 0 6 1 (some 1),H4.new (.cells (bx (.mk k c)) true)):=nY (x:=.agg (bx (.mk k c))) (kY _) rfl
   rw [bj,aa,la,aa,lo,aa,eb0,aa,eb,aa]
   refine ss4.app (by have:=hI.l1; omega) (.mk k c) fun x' H5 ss5=>?_
   refine wd ss5.v.s ?_
   rw [ah]
   cases bad2 with
   | true =>
    rw [if_pos rfl]
    exact ret _ x' a2 true H5 ss5 (by omega) g2 fun h=>by cases h
   | false =>
    rw [if_neg (by decide)]
    obtain ⟨g4,g5,g6,g7⟩:=g3 rfl
    have hI2:=GI hI h1 k (by unfold i64; omega) c g6 g4 g5 g7
    have hlen:1≤(m++[Pt.mk k c]).length:=by rw [List.length_append,List.length_singleton]; omega
    generalize m++[Pt.mk k c]=m2 at ss5 hI2 hlen ⊢
    have up:∀ {a3:Nat},a2≤a3→a3≤ts.length→SlI ts a a3 m2:=fun h h'=>⟨h',hI2.wf,by have:=hI2.bk; omega,by have:=hI2.l1; omega⟩
    refine kZ ss5.v.s (by omega) (by omega) fun wh a3 H6 s6 w6 ge3 le3=>?_
    have ss6:=ss5.to s6 w6
    refine KD s6 (by omega) fun kc H7 s7 w7 c0 c4 hc=>?_
    have ss7:=ss6.to s7 w7
    rw [eF,aa,ah]
    split
    ·rename_i h
     have hlt:=hc (of_decide_eq_true h)
     refine lP 1 rfl s7 (by omega) fun H8 s8 w8 _=>?_
     have ss8:=ss7.to s8 w8
     refine kZ s8 (by omega) (by omega) fun wh a4 H9 s9 w9 ge4 le4=>?_
     exact ih (1000 - a4) (by omega) m2 x' a4 kc H9 rfl (ss8.to s9 w9) (by omega) (up (by omega) (by omega)) c0 c4
    ·refine Ls s7 (by omega) fun we H8 s8 w8=>?_
     have ss8:=ss7.to s8 w8
     rw [ah]
     split
     ·exact ret m2 x' a3 false H8 ss8 (by omega) (by omega) fun _=>⟨up ge3 (by omega),hlen⟩
     ·rw [dQ,aa,ah]
      split
      ·refine qc true s8 fun H9 s9 w9 _=>?_
       exact ret m2 x' a3 true H9 (ss8.to s9 w9) (by omega) (by omega) fun h=>by cases h
      ·exact ih (1000 - a3) (by omega) m2 x' a3 1 H8 rfl ss8 (by omega) (up ge3 (by omega)) (by decide) (by decide)
 exact L0 _ [] _ a 0 H1 rfl s0 (Nat.le_refl _) ⟨ha,(fun _ h=>by cases h),(by simp [dz]),Nat.zero_le _⟩ (by decide) (by decide)
end
theorem PL.app2 {b a:Nat} {ts:List Tn} {bad:Bool} {dp:Int} {H0 H:Hp} (p:PL b ts H0 a bad dp H) {sz bytes:Nat} {x y:AV} {rows:List (List AV)} (hx:Gs sz H x rows) (hb0:b<H0.n) (hw:∀ j,own x j→H0.n≤j) (hl:y.cells.length=sz) (hone:y.cells.all AV.one=true) (hb:(rows.length+1)*bytes≤140737488355328) (hn:rows.length≤1000000)
  {K:AV × Hp→Prop} (hK:∀ x' H',PL b ts H0 a bad dp H'→Gs sz H' x' (rows++[y.cells])→(∀ j,own x' j→H0.n≤j)→K (x',H')):bnd (bc false sz bytes (H.new (.cells y.cells true)) x (.sl H.n 0 sz 1 (some 1))) K:=by
 have hk:Gs sz (H.new (.cells y.cells true)) x rows:=by
  refine hx.keep (fun j hj=>?_) (by simp)
  have:=hx.lt hj
  rw [aB,if_neg (by omega)]
 have hsrc:iW (H.new (.cells y.cells true)) sz (.sl H.n 0 sz 1 (some 1))=some (([y.cells]:List (List AV)).length,([y.cells]:List (List AV)).flatten):=ui (row:=y.cells) (ex:=true) (by rw [aB,if_pos rfl]) hl
 have ho1:(([y.cells]:List (List AV)).flatten).all AV.one=true:=by simpa using hone
 have h2:∀ row ∈ ([y.cells]:List (List AV)),row.length=sz:=fun row hrow=>by rw [List.mem_singleton.1 hrow]; exact hl
 obtain ⟨x',H',e,g,f⟩:=wv (bytes:=bytes) hk rfl hsrc h2 ho1 (by simpa using hb) (by simp; omega)
 have okn:=xM (bytes:=bytes) (tt p.s.ok _) hk rfl hsrc ho1 (by simpa using hb) (by simp; omega) e
 rw [e,aa]
 have hkn:=p.k.n
 have hgr:=f.grow
 simp at hgr
 have same:∀ j,j<H.n→¬ own x j→H'.get j=H.get j:=fun j hj hne=>by rw [f.same j (by simp; omega) hne,aB,if_neg (by omega)]
 have hbo:¬ own x b:=fun h=>by have:=hw b h; omega
 refine hK x' H' ⟨⟨by rw [same b (by omega) hbo]; exact p.s.g,okn,by omega⟩,⟨by omega,fun j hj hjb=>?_⟩⟩ g fun j hj=>?_
 ·rw [same j (by omega) fun h=>by have:=hw j h; omega]
  exact p.k.g j hj hjb
 ·rcases f.mine j hj with h | ⟨h1,h2⟩
  ·exact hw j h
  ·simp at h1; omega
section
attribute [local irreducible] aT.L0
theorem vf {b a:Nat} {ts:List Tn} {dp:Int} {H:Hp} {K:AV→Hp→Prop} (s:PkS b ts a true dp H) (hK:∀ H',PkS b ts a true dp H'→Wb b H H'→K (sls []) H') :
  ai Tryz.prog σ dB [.ptr b 0] H K:=by
 refine ja s ?_
 refine aT.run ?_
 refine aT.L0_step ?_
 refine wd s ?_
 rw [dQ,aa,ah,if_neg (by decide)]
 exact s.pl.fin (.inr .nil) hK
theorem HC {b a:Nat} {ts:List Tn} {dp:Int} (IL:oC σ dp) {H:Hp} {K:AV→Hp→Prop} (s:PkS b ts a false dp H) (hok:∀ t ∈ ts,jm t) (hl:ts.length≤300) (ha:a≤ts.length)
  (hK:∀ (m:List Sl) (a':Nat) (bad':Bool) (H':Hp),PkS b ts a' bad' dp H'→Wb b H H'→a≤a'→a'≤ts.length+2→(bad'=false→a+1≤a'∧a'≤ts.length∧i6 dF m∧dz (m.map aU)≤1000*(a' - a))→K (sls m) H') :
  ai Tryz.prog σ dB [.ptr b 0] H K:=by
 refine ja s ?_
 refine aT.run ?_
 have hbr:b<H.n:=s.lt
 have hL:dF=9223372036854775807:=rfl
 have bad:∀ (x:AV) (a1:Nat) (Hx:Hp),PL b ts H a1 true dp Hx→a≤a1→a1≤ts.length+2→aT.L0 σ (e_ b ts H K) (.ptr b 0) x Hx:=by
  intro x a1 Hx p h1 h2
  refine aT.L0_step ?_
  refine wd p.s ?_
  rw [dQ,aa,ah,if_neg (by decide)]
  exact p.fin (r':=sls []) (.inr .nil) fun H' s' w'=>hK [] a1 true H' s' w' h1 h2 fun h=>by cases h
 have L0:∀ (f:Nat) (m:List Sl) (x:AV) (a1:Nat) (Hx:Hp),1000 - a1=f→PL b ts H a1 false dp Hx→Gs 1 Hx x (m.map aU)→(∀ j,own x j→H.n≤j)→a≤a1→a1≤ts.length→(∀ s ∈ m,w_ dF s)→dz (m.map aU)+60*m.length≤1000*(a1 - a)→m.length≤a1→aT.L0 σ (e_ b ts H K) (.ptr b 0) x Hx:=by
  intro f
  induction f using Nat.strongRecOn with
  | ind f ih =>
   intro m x a1 Hx hf p g hw h1 h2 hwf hbk hml
   refine aT.L0_step ?_
   refine wd p.s ?_
   rw [dQ,aa,ah,if_pos (by decide)]
   have kp:∀ {H2 H3:Hp},Gs 1 H2 x (m.map aU)→Wb b H2 H3→Gs 1 H3 x (m.map aU):=fun g w=>g.keep (fun j hj=>w.g j (by have:=hw j hj; omega)) w.n
   refine kZ p.s (by omega) (by omega) fun wh a2 H2 s2 w2 ge2 le2=>?_
   have p2:=p.to s2 w2
   have g2:=kp g w2
   refine Mt IL s2 hok hl (by omega) fun t a3 bad3 H3 s3 w3 ge3 le3 h3=>?_
   have p3:=p2.to s3 w3
   have g3:=kp g2 w3
   rw [bw]
   have n3:H.n≤H3.n:=p3.k.n
   have st:stA 1 (H3.new (.cells [.lit (.slice none 0 0)] true)) (.ptr H3.n 0) (.agg (aU t))=some ((H3.new (.cells [.lit (.slice none 0 0)] true)).set H3.n (some (.cells (aU t) true))):=by
    rw [gU,aB,if_pos rfl,if_pos (show (aU t).length=1 from rfl),cC,if_pos ⟨by show 0+1≤1; omega,rfl⟩,a8 (by rfl)]
   rw [st,aa]
   have p4:PL b ts H a3 bad3 dp ((H3.new (.cells [.lit (.slice none 0 0)] true)).set H3.n (some (.cells (aU t) true))):=(p3.new (.cells [.lit (.slice none 0 0)] true)).set (.cells (aU t) true) n3 (by simp) (by omega)
   have g4:Gs 1 ((H3.new (.cells [.lit (.slice none 0 0)] true)).set H3.n (some (.cells (aU t) true))) x (m.map aU):=g3.keep (fun j hj=>by have:=g3.lt hj; rw [ay,if_neg (by omega),aB,if_neg (by omega)]) (by simp)
   have lo:ldA true 1 ((H3.new (.cells [.lit (.slice none 0 0)] true)).set H3.n (some (.cells (aU t) true))) (.ptr H3.n 0)=some (.agg (aU t)):=by
    rw [bE,ay,if_pos rfl,br,List.drop_zero,dm (show (aU t).length=1 from rfl)]
   generalize ((H3.new (.cells [.lit (.slice none 0 0)] true)).set H3.n (some (.cells (aU t) true)))=H4 at p4 g4 lo ⊢
   have eb:aw [.slice none 0 0] 1 1 H4 [(0,1,.agg (aU t))]=some (.sl H4.n 0 1 1 (some 1),H4.new (.cells (aU t) true)):=nY (x:=.agg (aU t)) rfl rfl
   rw [lo,aa,eb,aa]
   refine p4.app2 (y:=.agg (aU t)) g4 hbr hw rfl rfl (by rw [List.length_map]; omega) (by rw [List.length_map]; omega) fun x' H5 p5 g5 hw5=>?_
   have g5:Gs 1 H5 x' ((m++[t]).map aU):=by rw [List.map_append]; exact g5
   have kp':∀ {H2 H3:Hp},Gs 1 H2 x' ((m++[t]).map aU)→Wb b H2 H3→Gs 1 H3 x' ((m++[t]).map aU):=fun g w=>g.keep (fun j hj=>w.g j (by have:=hw5 j hj; omega)) w.n
   dsimp only
   refine kG 0 rfl p5.s (by omega) fun H6 s6 w6=>?_
   have p6:=p5.to s6 w6
   have g6:=kp' g5 w6
   rw [jl,aa]
   refine Ht s6 ?_
   refine wd s6 ?_
   rw [ah]
   cases bad3 with
   | true =>
    rw [if_pos rfl]
    exact bad x' a3 H6 p6 (by omega) le3
   | false =>
    rw [if_neg (by decide)]
    obtain ⟨q1,q2,q3,q4⟩:=h3 rfl
    have hwf':∀ s ∈ m++[t],w_ dF s:=fun s hs=>by
     rcases List.mem_append.1 hs with h | h
     ·exact hwf s h
     ·rw [List.mem_singleton.1 h]; exact q3
    have hbk':dz ((m++[t]).map aU)+60*(m++[t]).length≤1000*(a3 - a):=by
     rw [List.map_append,List.length_append,List.map_cons,List.map_nil,iG,List.length_singleton]
     omega
    have hml':(m++[t]).length≤a3:=by rw [List.length_append,List.length_singleton]; omega
    have hne:1≤(m++[t]).length:=by rw [List.length_append,List.length_singleton]; omega
    generalize m++[t]=m2 at hwf' hbk' hml' hne g6 kp' ⊢
    have hk2:(ia ts (a3+0)).kind≠0→a3+0<ts.length:=iq
    generalize (ia ts (a3+0)).kind=k at hk2 ⊢
    have fin:∀ (a4:Nat) (Hx:Hp),PL b ts H a4 false dp Hx→Gs 1 Hx x' (m2.map aU)→a3≤a4→a4≤ts.length→e_ b ts H K x' Hx:=by
     intro a4 Hx p7 g7 h7 h8
     refine p7.fin (r':=sls m2) (.inr (g7.lo (fun j hj=>hw5 j hj) (bm _ lA _))) fun H' s' w'=>hK m2 a4 false H' s' w' (by omega) (by omega) fun _=>⟨by omega,h8,⟨by omega,hwf'⟩,by omega⟩
    have bb:bnd (au (.ptr b 0)) fun x50=>bnd (ae x50 2) fun x51=>bnd (stA 1 H6 x51 (.lit (.bool true))) fun H52=>aT.L0 σ (e_ b ts H K) (.ptr b 0) x' H52 :=
     qc true s6 fun H7 s7 w7 _=>bad x' a3 H7 (p6.to s7 w7) (by omega) (by omega)
    have e17:bnd (af .eql (I k) (.lit (.int .i64 17))) fun x35=>ifB x35 (bnd (au (.ptr b 0)) fun x36=>bnd (ae x36 3) fun x37=>bnd (ldA false 1 H6 x37) fun x38=>bnd (af .gtr x38 (.lit (.int .i64 0))) fun x39=>ifB x39 (bnd (au (.ptr b 0)) fun x40=>bnd (ae x40 1) fun x41=>bnd (ldA false 1 H6 x41) fun x42=>bnd (af .add x42 (.lit (.int .i64 1))) fun x43=>bnd (au (.ptr b 0)) fun x44=>bnd (ae x44 1) fun x45=>bnd (stA 1 H6 x45 x43) fun H46=>e_ b ts H K x' H46) (bnd (au (.ptr b 0)) fun x47=>bnd (ae x47 2) fun x48=>bnd (stA 1 H6 x48 (.lit (.bool true))) fun H49=>aT.L0 σ (e_ b ts H K) (.ptr b 0) x' H49)) (bnd (au (.ptr b 0)) fun x50=>bnd (ae x50 2) fun x51=>bnd (stA 1 H6 x51 (.lit (.bool true))) fun H52=>aT.L0 σ (e_ b ts H K) (.ptr b 0) x' H52):=by
     rw [bD,aa,ah]
     split
     ·rename_i hk
      have hlt:=hk2 (by have:=of_decide_eq_true hk; omega)
      refine GJ s6 ?_
      rw [eF,aa,ah]
      split
      ·exact lP 1 rfl s6 (by omega) fun H7 s7 w7 _=>fin (a3+1) H7 (p6.to s7 w7) (kp' g6 w7) (by omega) (by omega)
      ·exact bb
     ·exact bb
    rw [bD,aa,ah]
    split
    ·rename_i hk
     have hlt:=hk2 (by have:=of_decide_eq_true hk; omega)
     refine lP 1 rfl s6 (by omega) fun H7 s7 w7 _=>?_
     exact ih (1000 - (a3+1)) (by omega) m2 x' (a3+1) H7 rfl (p6.to s7 w7) (kp' g6 w7) hw5 (by omega) (by omega) hwf' (by omega) (by omega)
    ·rw [ah]
     split
     ·refine GJ s6 ?_
      rw [bD,aa,ah]
      split
      ·exact fin a3 H6 p6 g6 (Nat.le_refl _) q2
      ·exact e17
     ·exact e17
 exact L0 _ [] _ a H rfl s.pl .nil (fun _ h=>h.elim) (Nat.le_refl _) ha (fun _ h=>by cases h) (by simp [dz]) (Nat.zero_le _)
end
theorem uy {b a:Nat} {ts:List Tn} {bad:Bool} {dp:Int} {H:Hp} {K:Hp→Prop} {o:BinOp} {dp':Int} (ho:af o (I dp) (I 1)=some (I dp')) (s:PkS b ts a bad dp H) (hK:∀ H',PkS b ts a bad dp' H'→Wb b H H'→H'.n=H.n→K H') :
  bnd (au (.ptr b 0)) fun x1=>bnd (ae x1 3) fun x2=>bnd (ldA false 1 H x2) fun x3=>bnd (af o x3 (I 1)) fun x4=>bnd (au (.ptr b 0)) fun x5=>bnd (ae x5 3) fun x6=>bnd (stA 1 H x6 x4) K:=by
 have st:stA 1 H (.ptr b (0+3)) (I dp')=some (H.set b (some (.cells [lX ts,I (a:Int),Bo bad,I dp'] true))):=jd s.g rfl rfl rfl (by simp)
 simp only [gH,bj,aa,s.l3,ho,st]
 exact hK _ ⟨by rw [ay,if_pos rfl],fun j hj=>by have:=s.lt; simp at hj; rw [ay,if_neg (by omega)]; exact s.ok j hj,by simpa using s.lt⟩ ⟨by simp,fun j hj=>by rw [ay,if_neg hj]⟩ (by simp)
section
attribute [local irreducible] bM.J0
theorem vA:∀ (f:Nat) (dp:Int),0≤dp→dp≤100→9 - dp≤(f:Int)→oC σ dp
 | 0,dp,h0,h1,h=>by
  intros
  rename_i b a ts H K s hok hl ha hK
  refine bM.run ?_
  refine uy (dp':=dp+1) (by rw [bN,eh (by omega) (by omega)]) s fun H1 s1 w1 _=>?_
  refine GJ s1 ?_
  rw [eF,aa,ah,if_pos (by rw [decide_eq_true_eq]; omega)]
  refine qc true s1 fun H2 s2 w2 _=>?_
  refine bM.J0_step ?_
  refine vf s2 fun H3 s3 w3=>?_
  refine uy (dp':=dp) (by rw [ik,eh (by omega) (by omega)]; congr 3; omega) s3 fun H4 s4 w4 _=>?_
  exact hK [] a true H4 s4 (((w1.trans w2).trans w3).trans w4) (Nat.le_refl _) (by omega) fun h=>by cases h
 | f+1,dp,h0,h1,h=>by
  intros
  rename_i b a ts H K s hok hl ha hK
  refine bM.run ?_
  refine uy (dp':=dp+1) (by rw [bN,eh (by omega) (by omega)]) s fun H1 s1 w1 _=>?_
  refine GJ s1 ?_
  rw [eF,aa,ah]
  split
  ·refine qc true s1 fun H2 s2 w2 _=>?_
   refine bM.J0_step ?_
   refine vf s2 fun H3 s3 w3=>?_
   refine uy (dp':=dp) (by rw [ik,eh (by omega) (by omega)]; congr 3; omega) s3 fun H4 s4 w4 _=>?_
   exact hK [] a true H4 s4 (((w1.trans w2).trans w3).trans w4) (Nat.le_refl _) (by omega) fun h=>by cases h
  ·rename_i hd
   have hd:¬ 8<dp+1:=by simpa using hd
   refine bM.J0_step ?_
   refine HC (vA f (dp+1) (by omega) (by omega) (by omega)) s1 hok hl ha fun m a' bad' H3 s3 w3 g1 g2 g3=>?_
   refine uy (dp':=dp) (by rw [ik,eh (by omega) (by omega)]; congr 3; omega) s3 fun H4 s4 w4 _=>?_
   exact hK m a' bad' H4 s4 ((w1.trans w3).trans w4) g1 g2 g3
end
theorem tz (ts:List Tn) (hok:∀ t ∈ ts,jm t) (hl:ts.length≤300):∃ (m:List Sl) (ok:Bool),(i6 dF m∧dz (m.map aU)≤300000)∧∀ H,az Tryz.prog σ fi [lX ts] H (.tup [sls m,Bo ok]) H:=by
 have hn:aP [lX ts]=true:=by simp only [aP,yB]; rfl
 have h:∃ r H1,az Tryz.prog σ fi [lX ts] Hp.empty r H1∧∃ (m:List Sl) (ok:Bool),(i6 dF m∧dz (m.map aU)≤300000)∧Fz H1 r (.tup [sls m,Bo ok]):=by
  refine jF.run ?_
  have e0:i6 dF ([]:List Sl)∧dz (([]:List Sl).map aU)≤300000:=⟨⟨Nat.zero_le _,fun _ h=>by cases h⟩,by simp [dz]⟩
  rw [qp,aa,eF,aa,ah,if_neg (by rw [decide_eq_true_eq]; omega)]
  have eb:bi [.lit (.slice none 0 0),.lit (.int .i64 0),.lit (.bool false),.lit (.int .i64 0)] [(0,1,lX ts)]=some [lX ts,I ((0:Nat):Int),Bo false,I 0]:=rfl
  rw [eb,aa,d7]
  have s:PkS Hp.empty.n ts 0 false 0 (Hp.empty.new (.cells [lX ts,I ((0:Nat):Int),Bo false,I 0] true)):=⟨by rw [aB,if_pos rfl],fun j hj=>by
   have hj:1≤j:=hj
   rw [aB,if_neg (by show j≠0; omega)]; rfl,by simp⟩
  refine HC (vA 9 0 (by decide) (by decide) (by decide)) s hok hl (Nat.zero_le _) fun m a' bad' H' s' w' g1 g2 g3=>?_
  refine wd s' ?_
  rw [ah]
  cases bad' with
  | true =>
   rw [if_pos rfl]
   refine ⟨[],false,e0,.tup rfl fun j x y h1 h2=>?_⟩
   rcases j with _ | _ | j
   ·cases h1; cases h2; exact .nil
   ·cases h1; cases h2; exact .refl rfl
   ·cases h1
  | false =>
   rw [if_neg (by decide)]
   obtain ⟨q1,q2,q3,q4⟩:=g3 rfl
   refine ⟨m,true,⟨q3,by omega⟩,.refl ?_⟩
   simp only [bF,aP,kM,Bool.and_self,Bool.and_true]
 obtain ⟨r,H1,hg,m,ok,hm,hf⟩:=h
 exact ⟨m,ok,hm,fun H=>hg.frzR hn hf H⟩
end Go.Proofs.YthmaggcfghjmfaaGreat.Ev
namespace Go.Proofs.YthmaggcfghjmfaaGreat.Ev
set_option linter.unusedVariables false
set_option linter.unusedSimpArgs false
set_option maxRecDepth 100000
variable {σ:Sig}
theorem FT (s:ByteArray) (hs:s.data.size≤200):∃ m:List Sl,i6 dF m∧dz (m.map aU)≤300000∧∀ H,az Tryz.prog σ jv [Sx s] H (sls m) H:=by
 have hsz:s.data.toList.length=s.data.size:=by simp
 obtain ⟨l,hl,hP⟩:=wQ (σ:=σ) s.data.toList (by omega)
 obtain ⟨ts,ht,hok,hT⟩:=ze (σ:=σ) l (by omega)
 obtain ⟨m,ok,hm,hS⟩:=tz (σ:=σ) ts hok (by omega)
 refine ⟨m,hm.1,hm.2,fun H=>vD (fun K hK=>nb.run ?_) (by simp [aP,bF]) (kM m) H⟩
 have ec:gZ Hp.empty (Sx s)=some (.sl Hp.empty.n 0 1 s.data.size none,Hp.empty.new (.cells (s.data.toList.map dN) false)):=rfl
 rw [ec,aa]
 dsimp only
 have fz:Fz (Hp.empty.new (.cells (s.data.toList.map dN) false)) (.sl Hp.empty.n 0 1 (B8 s.data.toList).length none) (.imm 1 (B8 s.data.toList)):=by
  refine .rows (by rw [aB,if_pos rfl]) (fun row hrow=>?_) ?_ (bm _ (fun _=>rfl) _)
  ·obtain ⟨c,_,rfl⟩:=List.mem_map.1 hrow
   rfl
  ·rw [oF,jf,List.drop_zero,Nat.mul_one]
   have:=List.take_length (l:=s.data.toList.map dN)
   rwa [List.length_map] at this
 rw [jf,hsz] at fz
 refine am (az.drop hP (.cons fz .nil)) ?_
 refine am (hT _) ?_
 refine am (hS _) ?_
 simp only [oz,List.getElem?_cons_zero,List.getElem?_cons_succ,aa]
 exact hK _
theorem oe.one {f:Nat} {l:List Sl} (h:oe f l) {s:Sl} (hs:s ∈ l):oe f [s]:=by
 refine ⟨⟨by show 1≤dF; decide,fun s' h'=>by rw [List.mem_singleton.1 h']; exact h.wf.2 s hs⟩,?_,h.nest.one hs,h.hf,?_⟩
 ·have:=h.ok
  revert this
  cases f with
  | zero=>exact fun h=>h.elim
  | succ f=>exact fun h=>⟨by show 1≤NB; decide,fun s' h'=>by rw [List.mem_singleton.1 h']; exact h.2 s hs⟩
 ·have hc:=h.cnt
  have:∀ l:List Sl,s ∈ l→gd f [s]≤gd f l:=by
   intro l
   induction l with
   | nil=>intro h; cases h
   | cons a r ih =>
    intro h
    have hcc:=sJ f a r
    rcases List.mem_cons.1 h with e | h
    ·rw [e]; omega
    ·have:=ih h; omega
  have:=this l hs
  omega
def uL (L:List Nd) (e:Int) (l:List Sl):Bool:=l.any fun s=>sa L 11 s e
theorem Aw {L:List Nd} {e:Nat} (he:e<L.length) (l:List Sl):uL L (e:Int) l=kF L 11 l e:=by
 unfold uL sa kF
 have i1:(0:Int)≤(e:Int):=by omega
 have i2:(e:Int)<(L.length:Int):=by omega
 simp only [i1,i2,decide_true,Bool.and_self,Bool.true_and,Int.toNat_natCast,List.any_cons,List.any_nil,Bool.or_false]
section
attribute [local irreducible] cA.L0
theorem Bh {L:List Nd} {d:List Nat} (M:McT σ L d) {l:List Sl} (S:oe 11 l) (X:TxL 11 l) (hlen:l.length≤2000000) (e:Int) (H:Hp):az Tryz.prog σ gM [dZ L d,I e,sls l] H (Bo (uL L e l)) H:=by
 refine bl (fun K hK=>cA.run ?_) (by simp [aP,bF,ey,kM]) rfl H
 have L0:∀ (f k:Nat) (H:Hp),l.length - k=f→k≤l.length→(∀ H,K (Bo (uL L e (l.drop k))) H)→cA.L0 σ K (dZ L d) (I e) (sls l) (I (k:Int)) H:=by
  intro f
  induction f with
  | zero =>
   intro k H hf hk hK
   have:k=l.length:=by omega
   subst this
   refine cA.L0_step ?_
   simp only [nL,aa,bA,Int.lt_irrefl,decide_false,ah,Bool.false_eq_true,if_false]
   simpa [uL] using hK H
  | succ f ih =>
   intro k H hf hk hK
   have hlt:k<l.length:=by omega
   have hlt':(k:Int)<l.length:=by omega
   obtain ⟨s,hs⟩:=cb hlt
   have hsm:=List.mem_of_getElem? hs
   have hix:aJ 1 (sls l) (I (k:Int))=some (.ip (aU s)):=bS hs
   have ha:uL L e (l.drop k)=(sa L 11 s e||uL L e (l.drop (k+1))):=by unfold uL; rw [cm hs,List.any_cons]
   rw [ha] at hK
   refine cA.L0_step ?_
   simp only [nL,aa,bA,hlt',decide_true,ah,if_true,hix,e8,nG]
   refine am (qY M (f:=10) (S.one hsm) (X.one hsm) _ _) ?_
   simp only [ah]
   cases hb:sa L 11 s e with
   | true=>rw [hb] at hK; simpa using hK H
   | false =>
    rw [hb] at hK
    simp only [Bool.false_eq_true,if_false,bN,aa]
    rw [bz (by omega)]
    exact ih (k+1) H (by omega) (by omega) (by simpa using hK)
 exact L0 _ 0 _ rfl (Nat.zero_le _) (by simpa using hK)
end
end Go.Proofs.YthmaggcfghjmfaaGreat.Ev

/- Parts of the proof. -/
import Derived.Test.YtkeplokjplkcmaaGreatM3
set_option linter.all false
set_option maxRecDepth 100000
set_option maxHeartbeats 4000000
open Go.RowKit
namespace Go.Proofs.YtkeplokjplkcmaaGreat.Sym
section
section
variable {p:A9}{s t:Nat}
def repsU(n:Nat)(up:A2):Nat:=(List.range n).countP λ(q:Nat)=>decide (up[q]?=some (q:Int))
def UpF.reps{n:Nat}{tp dp:Nat->Nat}{up:A2}(U:UpF n tp dp up):repsU n up=Y9 n tp:=by
 unfold repsU Y9;refine List.countP_congr λq hq=>?_;have hq:=K6.1 hq;obtain⟨w,w1,w2,w3,w4⟩:=U.at_ q hq;by_cases h:tp q=q
 ·rw[w2,E9 h,E9 (by rw[w3 h])]
 ·rw[w2,I3 h,I3 (λg=>by
   injection g with g
   obtain⟨_,k2⟩:=w4 h
   rw[show w=q by omega]at k2
   omega)]
def loop_evf(H:H7 p){tp dp:Nat->Nat}{up:A2}{mem:A4}{W:List T_A2}(F:EvF p s t tp dp up mem W) :
  ∃r,iter (λ(q:A2×A4×List T_A2)=>L6.s34 p q.1 q.2.1 q.2.2) fuel (up,mem,W)=some r /\
   ((r=.inr ([],false)/\P8 p s t)\/∃up' mem' tp' dp',r=.inl up'/\EvF p s t tp' dp' up' mem' []):=by
 have hn:=H.n2;refine aZ (step:=λ(q:A2×A4×List T_A2)=>L6.s34 p q.1 q.2.1 q.2.2) (λq=>∃tp dp,EvF p s t tp dp q.1 q.2.1 q.2.2) (λq=>65*repsU p.N.length q.1+q.2.2.length) (λr=>(r=.inr ([],false)/\P8 p s t)\/∃up' mem' tp' dp',r=.inl up'/\EvF p s t tp' dp' up' mem' []) (λ⟨up,mem,W⟩ ⟨tp,dp,F⟩=>?_) fuel _ ⟨tp,dp,F⟩ ?_
 ·simp only at F;simp only;rcases ev_step H F with⟨e1,e2⟩|⟨e1,e2⟩|⟨up',mem',W',tp',dp',e1,F',e2⟩
  ·rw[e1]at F;exact .inr ⟨_,e2,.inr ⟨up,mem,tp,dp,rfl,F⟩⟩
  ·exact .inr ⟨_,e1,.inl ⟨rfl,e2⟩⟩
  ·exact .inl ⟨(up',mem',W'),e1,⟨tp',dp',F'⟩,by simp only;rw[F.up.reps,F'.up.reps];exact e2⟩
 ·have h1:=F.up.reps;have h2:=F.few;have:=Y0;simp only;omega
def EvF.done(H:H7 p)(hs:s<p.N.length)(ht:t<p.N.length){tp dp:Nat->Nat}{up:A2}{mem:A4}(F:EvF p s t tp dp up mem []):(∀q r,q<p.N.length->r<p.N.length->(tp q=tp r↔Cong p s t q r))/\¬P8 p s t:=by
 have a3:Lab p.N.length tp [] tp:=⟨λ_ _ _ _ h=>h,λ_ _ h=>by cases h⟩
 have a2:∀{q r:Nat},Cong p s t q r->q=r\/(q<p.N.length/\r<p.N.length/\tp q=tp r):=λh=>vC H hs ht (F.st tp a3) (λq r a u v hq hr e hu hv=>by
  have:=(F.cong q r a hq hr e (by rw[hu];omega) (by rw[hv];omega)).2 tp a3
  rwa [hu,hv,H6,H6]at this) h
 refine⟨λq r hq hr=>⟨λh=>?_,λh=>?_⟩,λ⟨q,r,a,h,h1,h2,h3⟩=>?_⟩
 ·have k1:=F.sound q hq;have k2:=F.sound r hr;rw[h]at k1;exact k1.trans k2.symm
 ·rcases a2 h with rfl|⟨_,_,k⟩
  ·rfl
  ·exact k
 ·rcases a2 h with rfl|⟨hq,hr,k⟩
  ·exact h3 rfl
  ·exact h3 (F.cong q r a hq hr k h1 h2).1
def loop_flat(H:H7 p){tp dp:Nat->Nat}{up:A2}(U:UpF p.N.length tp dp up)(hz:∀q,q<p.N.length->tp q≠q->dp (tp q)<dp q):iter (λ(s:A2×Nat)=>L6.s36 up s.1 s.2) fuel (up,0)=some ((List.range p.N.length).map λ(q:Nat)=>(↑(tp q):Int)):=by
 have hn:=H.n2;have hl:=U.len
 have key:=J2 (step:=λ(s:A2×Nat)=>L6.s36 up s.1 s.2) (λs=>s.2<=p.N.length/\UpF p.N.length tp dp s.1/\Wrt (λq=>(↑(tp q):Int)) up s.2 s.1) (λs=>p.N.length-s.2) (λr=>r=(List.range p.N.length).map λ(q:Nat)=>(↑(tp q):Int)) (λ⟨y,q⟩ ⟨g1,g2,g3⟩=>by
  simp only at g1 g2 g3
  simp only[L6.s36]
  have a2:=g2.len
  by_cases h:q<p.N.length
  ·left
   refine⟨(y.set q (↑(tp q):Int),q+1),?_,⟨h,g2.flat hz h,g3.step (by omega) rfl⟩,by simp only;omega⟩
   rw[C2,top_eq g2 (by omega) h,A5,B8 (get_at (l:=y) (i:=q) (by omega))]
  ·right
   have e1:q=p.N.length:=by omega
   subst e1
   refine⟨_,by rw[B1],?_⟩
   rw[g3.done (by omega),hl]) (up,0) ⟨D8 _,U,Wrt.zero _ _⟩
 obtain⟨r,e1,rfl⟩:=key;exact e1
def loop_start(H:H7 p):iter (λ(s:A2×A4×Nat)=>L6.s2 p s.1 s.2.1 s.2.2) fuel ((List.replicate p.N.length (0:Int)),(List.replicate p.N.length ([]:A2)),0)=some ((List.range p.N.length).map (λ(q:Nat)=>(q:Int)),(List.range p.N.length).map λ(q:Nat)=>[(q:Int)]):=by
 have hn:=H.n2
 have key:=J2 (step:=λ(s:A2×A4×Nat)=>L6.s2 p s.1 s.2.1 s.2.2) (λs=>s.2.2<=p.N.length/\s.1.length=p.N.length/\s.2.1.length=p.N.length/\(∀b,b<s.2.2->s.1[b]?=some (b:Int)/\s.2.1[b]?=some [(b:Int)])) (λs=>p.N.length-s.2.2) (λr=>r=((List.range p.N.length).map (λ(q:Nat)=>(q:Int)),(List.range p.N.length).map λ(q:Nat)=>[(q:Int)])) (λ⟨y,z,q⟩ ⟨g1,g2,g3,g4⟩=>by
  simp only at g1 g2 g3 g4
  simp only[L6.s2,K7]
  by_cases h:q<p.N.length
  ·left
   refine⟨(y.set q (q:Int),z.set q [(q:Int)],q+1),?_,⟨h,by rw[P2];exact g2,by rw[P2];exact g3,λb hb=>?_⟩,by simp only;omega⟩
   ·rw[C2,B8 (get_at (l:=y) (i:=q) (by omega)),B8 (get_at (l:=z) (i:=q) (by omega)),L3]
   ·simp only
    by_cases e:b=q
    ·subst e
     exact⟨P5 (by omega),P5 (by omega)⟩
    ·rw[O3 (λh=>e h.symm),O3 (λh=>e h.symm)]
     exact g4 b (iH (Nat.le_of_lt_succ hb) e)
  ·right
   have e1:q=p.N.length:=by omega
   subst e1
   refine⟨_,by rw[B1],?_⟩
   refine Prod.ext (aA λb=>?_) (aA λb=>?_)
   ·simp only
    by_cases hb:b<p.N.length
    ·rw[(g4 b hb).1,H1,P4 hb];rfl
    ·rw[L0 (by omega),L0 (by rw[B7,M5];omega)]
   ·simp only
    by_cases hb:b<p.N.length
    ·rw[(g4 b hb).2,H1,P4 hb];rfl
    ·rw[L0 (by omega),L0 (by rw[B7,M5];omega)]) ((List.replicate p.N.length (0:Int)),(List.replicate p.N.length ([]:A2)),0) ⟨D8 _,K7 ..,K7 ..,λb hb=>absurd hb (O4 _)⟩
 obtain⟨r,e1,rfl⟩:=key;exact e1
def ev_fold(H:H7 p)(hs:s<p.N.length)(ht:t<p.N.length):(P8 p s t/\L6 p (s:Int) (t:Int)=some ([],false))\/(¬P8 p s t/\∃tp:Nat->Nat,L6 p (s:Int) (t:Int)=some ((List.range p.N.length).map (λ(q:Nat)=>(↑(tp q):Int)),true)/\(∀q,q<p.N.length->tp q<p.N.length)/\∀q r,q<p.N.length->r<p.N.length->(tp q=tp r↔Cong p s t q r)):=by
 have hn:=H.n2
 have F0:EvF p s t (λq=>q) (λ_=>0) ((List.range p.N.length).map λ(q:Nat)=>(q:Int)) ((List.range p.N.length).map λ(q:Nat)=>[(q:Int)]) [⟨(s:Int),(t:Int)⟩]:=by
  refine⟨⟨by rw[B7,M5],λq hq=>hq,λq _=>rfl,λq hq=>⟨q,hq,by rw[H1,P4 hq];rfl,λ_=>rfl,λh=>absurd rfl h⟩,λq hq=>?_⟩,λq _ _=>rfl,⟨by rw[B7,M5],λc hc _=>⟨[c],by rw[H1,P4 hc];rfl,by simp,λq=>⟨λh=>?_,λh=>I7.2 h.2⟩⟩⟩,λq _=>.refl q,λw hw=>⟨s,t,I7.1 hw,hs,ht,.base⟩,λf hf=>hf.2 s t (I7.2 rfl),λq r a hq hr e h1 h2=>?_,?_⟩
  ·have:=pG p.N.length λq=>q;omega
  ·rw[I7.1 h];exact⟨hc,rfl⟩
  ·have e:q=r:=e;subst e;exact⟨rfl,λf _=>rfl⟩
  ·have:=pG p.N.length λq=>q;rw[O8];omega
 obtain⟨r,e1,hr⟩:=loop_evf H F0;unfold L6;rw[H9 ⟨by omega,by omega,by unfold B4;omega⟩,H9 ⟨by omega,by omega,by unfold B4;omega⟩,loop_start H,A5];unfold L6.k37;simp only;rw[e1,A5];rcases hr with⟨rfl,hc⟩|⟨up,mem,tp,dp,rfl,F⟩
 ·exact .inl ⟨hc,by rw[eC]⟩
 ·obtain⟨d1,d2⟩:=F.done H hs ht;refine .inr ⟨d2,tp,?_,F.up.lt,d1⟩;rw[T6,loop_flat H F.up (λq hq h=>?_),A5];obtain⟨w,w1,w2,w3,w4⟩:=F.up.at_ q hq;have:=(w4 h).2;rw[F.z _ (F.up.lt q hq) (F.up.idem q hq)];omega
end
end
def sumN:Nat->(Nat->Nat)->Nat
 |0,_=>0
 |n+1,f=>sumN n f+f n
def vQ{f g:Nat->Nat}:∀{n:Nat},(∀i,i<n->f i=g i)->sumN n f=sumN n g
 |0,_=>rfl
 |n+1,h=>by unfold sumN;rw[vQ λi hi=>h i (by omega),h n (by omega)]
def sumN_le{f:Nat->Nat}{k:Nat}:∀{n:Nat},(∀i,i<n->f i<=k)->sumN n f<=n*k
 |0,_=>by unfold sumN;omega
 |n+1,h=>by
  have:=sumN_le (n:=n) λi hi=>h i (by omega);have:=h n (by omega);unfold sumN;rw[cM];omega
def conf(p:A9)(tp:Nat->Nat)(q a:Nat):Nat:=if pnx p q a≠-1/\(List.range q).any (λq'=>decide (tp q'=tp q)&&decide (pnx p q' a≠-1))=true then 1 else 0
def any_iff{p:A9}{tp:Nat->Nat}{q c a:Nat}:(List.range q).any (λq'=>decide (tp q'=c)&&decide (pnx p q' a≠-1))=true↔∃q',q'<q/\tp q'=c/\pnx p q' a≠-1:=by
 rw[eE];constructor
 ·rintro⟨x,h1,h2⟩;rw[O2]at h2;exact⟨x,K6.1 h1,of_decide_eq_true h2.1,of_decide_eq_true h2.2⟩
 ·rintro⟨x,h1,h2,h3⟩;exact⟨x,K6.2 h1,by rw[E9 h2,E9 h3];rfl⟩
def conf_le(p:A9)(tp:Nat->Nat)(q a:Nat):conf p tp q a<=1:=by unfold conf;split<;>omega
def scP(p:A9)(tp:Nat->Nat):Nat:=sumN p.N.length λq=>sumN p.I.toNat λa=>conf p tp q a
def scP_congr{p:A9}{tp cl:Nat->Nat}(h:∀q r,q<p.N.length->r<p.N.length->(tp q=tp r↔cl q=cl r)):scP p tp=scP p cl:=by
 refine vQ λq hq=>vQ λa _=>?_;unfold conf
 have:(pnx p q a≠-1/\(List.range q).any (λq'=>decide (tp q'=tp q)&&decide (pnx p q' a≠-1))=true)↔(pnx p q a≠-1/\(List.range q).any (λq'=>decide (cl q'=cl q)&&decide (pnx p q' a≠-1))=true):=by
  rw[any_iff,any_iff];refine and_congr_right λ_=>⟨λ⟨x,h1,h2,h3⟩=>⟨x,h1,(h x q (by omega) hq).1 h2,h3⟩,λ⟨x,h1,h2,h3⟩=>⟨x,h1,(h x q (by omega) hq).2 h2,h3⟩⟩
 by_cases g:pnx p q a≠-1/\(List.range q).any (λq'=>decide (tp q'=tp q)&&decide (pnx p q' a≠-1))=true
 ·rw[if_pos g,if_pos (this.1 g)]
 ·rw[if_neg g,if_neg λk=>g (this.2 k)]
def wS:lA=some true:=by decide +kernel
section
def mset_keys{O Z:Type}[BEq O]{k:O}{v:Z}{Q:O->Prop}(hk:Q k):∀{m:List (O×Z)},(∀x∈m,Q x.1)->∀x∈mset k v m,Q x.1
 |[],_,x,hx=>by
  unfold mset at hx;rw[I7.1 hx];exact hk
 |p::m,h,x,hx=>by
  unfold mset at hx;split at hx
  ·rcases M4.1 hx with rfl|hx
   ·exact hk
   ·exact h x (M7 _ hx)
  ·rcases M4.1 hx with rfl|hx
   ·exact h _ U9
   ·exact mset_keys hk (λy hy=>h y (M7 _ hy)) x hx
structure cR(p:A9)(tp:Nat->Nat)(q a:Nat)(m:List (A2×Bool)):Prop where
 keys:∀x∈m,List.length x.1=2
 at_:∀c b:Nat,(mget [(c:Int),(b:Int)] m).getD false=true↔∃r,(r<q\/r=q/\b<a)/\tp r=c/\pnx p r b≠-1
def cR.skip{p:A9}{tp:Nat->Nat}{q a:Nat}{m:List (A2×Bool)}(S:cR p tp q a m)(h:pnx p q a=-1):cR p tp q (a+1) m:=by
 refine⟨S.keys,λc b=>?_⟩;rw[S.at_];refine⟨λ⟨r,h1,h2,h3⟩=>⟨r,h1.imp id λk=>⟨k.1,by omega⟩,h2,h3⟩,λ⟨r,h1,h2,h3⟩=>⟨r,?_,h2,h3⟩⟩;rcases h1 with k|⟨k1,k2⟩
 ·exact .inl k
 ·refine .inr ⟨k1,iH (by omega) λe=>h3 (by rw[k1,e];exact h)⟩
def cR.put{p:A9}{tp:Nat->Nat}{q a:Nat}{m:List (A2×Bool)}(S:cR p tp q a m)(h:pnx p q a≠-1):cR p tp q (a+1) (mset [(↑(tp q):Int),(a:Int)] true m):=by
 refine⟨λx hx=>mset_keys (Q:=λk:A2=>k.length=2) (k:=[(↑(tp q):Int),(a:Int)]) rfl S.keys x hx,λc b=>?_⟩;have hb:∀x y:A2,(x==y)=true↔x=y:=λx y=>beq_iff_eq;by_cases e:c=tp q/\b=a
 ·rw[e.1,e.2,tP hb];exact⟨λ_=>⟨q,.inr ⟨rfl,by omega⟩,rfl,h⟩,λ_=>rfl⟩
 ·rw[nQ hb (λg=>e (by
   injection g with g1 g2
   injection g2 with g2 _
   exact⟨by omega,by omega⟩)),S.at_]
  refine⟨λ⟨r,h1,h2,h3⟩=>⟨r,h1.imp id λk=>⟨k.1,by omega⟩,h2,h3⟩,λ⟨r,h1,h2,h3⟩=>⟨r,?_,h2,h3⟩⟩;rcases h1 with k|⟨k1,k2⟩
  ·exact .inl k
  ·refine .inr ⟨k1,iH (by omega) λe2=>e ⟨by rw[<- h2,k1],e2⟩⟩
def cR.row{p:A9}(H:H7 p){tp:Nat->Nat}{q:Nat}(hq:q<p.N.length){m:List (A2×Bool)}(S:cR p tp q p.I.toNat m):cR p tp (q+1) 0 m:=by
 refine⟨S.keys,λc b=>?_⟩;rw[S.at_];refine⟨λ⟨r,h1,h2,h3⟩=>⟨r,.inl ?_,h2,h3⟩,λ⟨r,h1,h2,h3⟩=>⟨r,?_,h2,h3⟩⟩
 ·rcases h1 with k|k<;>omega
 ·rcases h1 with k|k
  ·by_cases e:r=q
   ·refine .inr ⟨e,Q9 λg=>h3 ?_⟩;obtain⟨xr,yr,k1,k2,k3,k4,_⟩:=H.row r (by omega);unfold pnx;rw[k1,E7,L0 (by omega),yH]
   ·exact .inl (by omega)
  ·omega
section
variable {p:A9}
def loop_srow(H:H7 p){tp:Nat->Nat}{ok:Bool}{C:A2}(hat:∀q,q<p.N.length->C[q]?=some (↑(tp q):Int)){q:Nat}(hq:q<p.N.length){e:A2}(he:p.N[q]?=some e){n0:Nat}(hn0:n0<=1000000000000){m0:List (A2×Bool)}(S0:cR p tp q 0 m0) :
  ∃m,iter (λ(s:Nat×(List (A2×Bool))×Nat)=>Q5.s54 (C,ok) q e s.1 s.2.1 s.2.2) fuel (n0,m0,0)=some (n0+sumN p.I.toNat (λa=>conf p tp q a),m)/\cR p tp (q+1) 0 m:=by
 have hi:=H.i2;have a5:=H.i1
 have key:=J2 (step:=λ(s:Nat×(List (A2×Bool))×Nat)=>Q5.s54 (C,ok) q e s.1 s.2.1 s.2.2) (λs=>s.2.2<=p.I.toNat/\s.1=n0+sumN s.2.2 (λa=>conf p tp q a)/\cR p tp q s.2.2 s.2.1) (λs=>p.I.toNat-s.2.2) (λr=>∃m,r=(n0+sumN p.I.toNat (λa=>conf p tp q a),m)/\cR p tp (q+1) 0 m) (λ⟨n,m,a⟩ ⟨g1,g2,S⟩=>by
  simp only at g1 g2 S
  subst g2
  simp only[Q5.s54]
  have a7:e.length=p.I.toNat:=by
   obtain⟨xr,yr,k1,k2,k3,k4,_⟩:=H.row q hq
   rw[he]at k1
   injection k1 with k1
   rw[k1]
   omega
  have hb:(sumN a λa=>conf p tp q a)<=a*1:=sumN_le λi _=>conf_le p tp q i
  by_cases h:a<p.I.toNat
  ·left
   obtain⟨n1,n2,n3,n4,n5,xr,yr,a2,a6,a3,a4,_,_⟩:=H.at hq h
   rw[he]at a2
   injection a2 with a2
   subst a2
   have es:(sumN (a+1) λa=>conf p tp q a)=(sumN a λa=>conf p tp q a)+conf p tp q a:=rfl
   rw[C2,B8 a3]
   by_cases t0:pnx p q a=-1
   ·refine⟨(n0+sumN (a+1) (λa=>conf p tp q a),m,a+1),?_,⟨h,rfl,S.skip t0⟩,by simp only;omega⟩
    rw[C2 t0,A5]
    unfold Q5.k53
    rw[es,conf,if_neg (λk=>k.1 t0)]
    rfl
   ·refine⟨(n0+sumN (a+1) (λa=>conf p tp q a),mset [(↑(tp q):Int),(a:Int)] true m,a+1),?_,⟨h,rfl,S.put t0⟩,by simp only;omega⟩
    rw[B1 t0,B8 (hat q hq),H9 S.keys]
    have hs:=S.at_ (tp q) a
    by_cases g:(mget [(↑(tp q):Int),(a:Int)] m).getD false=true
    ·obtain⟨r,r1,r2,r3⟩:=hs.1 g
     rw[g,F7,L3,A5,B8 (hat q hq),H9 S.keys,A5]
     unfold Q5.k53
     rw[es,conf,if_pos ⟨t0,any_iff.2 ⟨r,by omega,r2,r3⟩⟩]
     rfl
    ·have g':(mget [(↑(tp q):Int),(a:Int)] m).getD false=false:=by
      cases k:(mget [(↑(tp q):Int),(a:Int)] m).getD false with
      |true=>exact absurd k g
      |false=>rfl
     rw[g',G5,A5,B8 (hat q hq),H9 S.keys,A5]
     unfold Q5.k53
     rw[es,conf,if_neg (λk=>g (hs.2 (by
      obtain⟨r,r1,r2,r3⟩:=any_iff.1 k.2
      exact⟨r,.inl r1,r2,r3⟩)))]
     rfl
  ·right
   have e1:a=p.I.toNat:=by omega
   subst e1
   exact⟨_,by rw[B1],m,rfl,S.row H hq⟩) (n0,m0,0) ⟨D8 _,rfl,S0⟩
 obtain⟨r,e1,m,rfl,h⟩:=key;exact⟨m,e1,h⟩
def ev_score(H:H7 p){s t:Nat}(hs:s<p.N.length)(ht:t<p.N.length):(P8 p s t/\Q5 p (s:Int) (t:Int)=some (0,false))\/(¬P8 p s t/\Q5 p (s:Int) (t:Int)=some ((↑(scP p (clsOf p s t)):Int),true)):=by
 have hn:=H.n2;unfold Q5;rcases ev_fold H hs ht with⟨h1,h2⟩|⟨h1,tp,h2,h3,h4⟩
 ·refine .inl ⟨h1,?_⟩;rw[h2,A5];rfl
 ·refine .inr ⟨h1,?_⟩;rw[h2,A5];generalize hC:(List.range p.N.length).map (λ(q:Nat)=>(↑(tp q):Int))=C;have a2:∀q,q<p.N.length->C[q]?=some (↑(tp q):Int):=λq hq=>by rw[<- hC,H1,P4 hq];rfl
  simp only;rw[Z9,G5]
  have key:=J2 (step:=λ(s:Nat×(List (A2×Bool))×Nat)=>Q5.s56 p (C,true) s.1 s.2.1 s.2.2) (λs=>s.2.2<=p.N.length/\s.1=sumN s.2.2 (λq=>sumN p.I.toNat λa=>conf p tp q a)/\cR p tp s.2.2 0 s.2.1) (λs=>p.N.length-s.2.2) (λr=>r=scP p tp) (λ⟨n,m,q⟩ ⟨g1,g2,S⟩=>by
   simp only at g1 g2 S
   subst g2
   simp only[Q5.s56]
   have hi:=H.i2
   have hb:(sumN q λq=>sumN p.I.toNat λa=>conf p tp q a)<=q*64:=sumN_le λi _=>aP (sumN_le (k:=1) λa _=>conf_le p tp i a) (by omega)
   by_cases h:q<p.N.length
   ·left
    obtain⟨xr,yr,k1,k2,k3,k4,_⟩:=H.row q h
    obtain⟨m',e1,S'⟩:=loop_srow (ok:=true) H a2 h k1 (n0:=sumN q λq=>sumN p.I.toNat λa=>conf p tp q a) (by omega) S
    refine⟨(sumN (q+1) (λq=>sumN p.I.toNat λa=>conf p tp q a),m',q+1),?_,⟨h,rfl,S'⟩,by simp only;omega⟩
    rw[C2,B8 k1,e1,A5]
    rfl
   ·right
    have e1:q=p.N.length:=by omega
    subst e1
    exact⟨scP p tp,by rw[B1];rfl,rfl⟩) (0,[],0) ⟨D8 _,rfl,⟨λx hx=>(by cases hx),λc b=>⟨λh=>(by cases h),λ⟨r,h1,_⟩=>h1.elim (λk=>absurd k (O4 _)) λk=>absurd k.2 (O4 _)⟩⟩⟩
  obtain⟨r,e1,rfl⟩:=key;rw[e1,A5,scP_congr (tp:=tp) (cl:=clsOf p s t) λq r hq hr=>(h4 q r hq hr).trans zF]
end
end
def scan_idx{V:Type}{p:V->Bool}:∀(l:List V) (j:Nat),scan (λi x=>if p x=true then some (i:Int) else none) j l=if l.any p=true then some (↑(j+l.findIdx p):Int) else none
 |[],_=>rfl
 |x::l,j=>by
  unfold scan;by_cases h:p x=true
  ·simp[h,List.findIdx_cons]
  ·have hf:p x=false:=by simpa using h
   rw[if_neg h];simp only;rw[scan_idx l (j+1)];simp only[List.any_cons,hf,rB,List.findIdx_cons,G5];split
   ·congr 2;omega
   ·rfl
def tindex_eq{l:List C7}{f:C7->Option Bool}{p:C7->Bool}(hl:l.length<=100000000000000)(hf:∀x∈l,f x=some (p x)) :
  fZ l f=some (if l.any p=true then(↑(l.findIdx p):Int) else -1):=by
 unfold fZ
 have key:=aJ (step:=λs=>fZ.s2 l f s) (l:=l) (λi x=>if p x=true then some (i:Int) else none) (λi x hx=>by
  simp only[fZ.s2]
  rw[M6 hx,F7,B8 hx,hf x (G6 hx),A5]
  cases p x<;>rfl) (by
  simp only[fZ.s2]
  rw[X6]
  rfl) hl
 rw[key,scan_idx,A5];by_cases h:l.any p=true
 ·rw[if_pos h,if_pos h,E8];rfl
 ·rw[if_neg h,if_neg h];rfl
def cindex_eq{l:A2}{f:Int->Option Bool}{p:Int->Bool}(hl:l.length<=100000000000000)(hf:∀x∈l,f x=some (p x)) :
  rA l f=some (l.any p):=by
 unfold rA iD
 have key:=aJ (step:=λs=>iD.s2 l f s) (l:=l) (λi x=>if p x=true then some (i:Int) else none) (λi x hx=>by
  simp only[iD.s2]
  rw[M6 hx,F7,B8 hx,hf x (G6 hx),A5]
  cases p x<;>rfl) (by
  simp only[iD.s2]
  rw[X6]
  rfl) hl
 rw[key,scan_idx];by_cases h:l.any p=true
 ·rw[if_pos h,h];simp
 ·have h':l.any p=false:=by simpa using h
  rw[if_neg h,h'];rfl
def gE(t:C7)(n:Int):Int :=
 if R8 t.In n≠0 then R8 t.In n else if t.O.length≠t.In.length then 1 else if(t.O.all λy=>decide (0<=y/\y<=1048576))=true then 0 else 2
def vS{t:C7}{n:Int}:gE t n=0↔gD n t:=by
 unfold gE gD;by_cases h1:R8 t.In n=0
 ·rw[if_neg (by simpa using h1)];by_cases h2:t.O.length=t.In.length
  ·rw[if_neg (by simpa using h2)];by_cases h3:(t.O.all λy=>decide (0<=y/\y<=1048576))=true
   ·rw[if_pos h3];exact⟨λ_=>⟨h1,h2,λy hy=>of_decide_eq_true (R3.1 h3 y hy)⟩,λ_=>rfl⟩
   ·rw[if_neg h3];exact⟨λh=>(by cases h),λh=>absurd (R3.2 λy hy=>E9 (h.2.2 y hy)) h3⟩
  ·rw[if_pos h2];exact⟨λh=>(by cases h),λh=>absurd h.2.1 h2⟩
 ·rw[if_pos h1];exact⟨λh=>absurd h h1,λh=>absurd h.1 h1⟩
def R16_Proper_eq(t:C7)(n:Int)(h1:SmW t.In)(h2:SmW t.O):fR t n=some (gE t n):=by
 unfold fR gE;rw[wT _ _ h1,A5];by_cases g1:R8 t.In n=0
 ·rw[B1 (by simpa using g1),if_neg (by simpa using g1)];by_cases g2:t.O.length=t.In.length
  ·rw[B1,if_neg (by simpa using g2)]
   have key:=aJ (step:=λs=>fR.s2 t s) (l:=t.O) (λ_ y=>if decide (0<=y/\y<=1048576)=true then none else some (2:Int)) (λi y hy=>by
    simp only[fR.s2]
    rw[M6 hy,F7,B8 hy,B8 hy]
    by_cases a1:y<0
    ·rw[C2 a1,A5,F7,I3 (show ¬(0<=y/\y<=1048576) by omega)];rfl
    ·by_cases a2:1048576<y
     ·rw[B1 a1,E9 a2,A5,F7,I3 (show ¬(0<=y/\y<=1048576) by omega)];rfl
     ·rw[B1 a1,I3 a2,A5,G5,E9 (show(0<=y/\y<=1048576) by omega)];rfl) (by
    simp only[fR.s2]
    rw[X6]
    rfl) (by unfold SmW at h2;omega)
   rw[key,scan_all (p:=λy=>decide (0<=y/\y<=1048576)),A5];by_cases h:(t.O.all λy=>decide (0<=y/\y<=1048576))=true
   ·rw[if_pos h,if_pos h];rfl
   ·rw[if_neg h,if_neg h];rfl
  ·rw[C2,if_pos g2]
 ·rw[C2 g1,if_pos g1]
def zpx(t:C7)(n:Int)(h1:SmW t.In)(h2:SmW t.O):qN t n=some (gE t n):=by
 unfold qN gE;rw[CN _ _ h1,A5];by_cases g1:R8 t.In n=0
 ·rw[B1 (by simpa using g1),if_neg (by simpa using g1)];by_cases g2:t.O.length=t.In.length
  ·rw[B1,if_neg (by simpa using g2)]
   rw[cindex_eq (p:=λy=>!decide (0<=y/\y<=1048576)) (by unfold SmW at h2;omega) λy _=>by
    unfold qS
    by_cases a1:y<0
    ·rw[C2 a1,A5,I3 (show ¬(0<=y/\y<=1048576) by omega)];rfl
    ·by_cases a2:1048576<y
     ·rw[B1 a1,E9 a2,A5,I3 (show ¬(0<=y/\y<=1048576) by omega)];rfl
     ·rw[B1 a1,I3 a2,A5,E9 (show(0<=y/\y<=1048576) by omega)];rfl,A5]
   by_cases h:(t.O.all λy=>decide (0<=y/\y<=1048576))=true
   ·have h':(t.O.any λy=>!decide (0<=y/\y<=1048576))=false:=by
     rw[yL];intro y hy;have:=R3.1 h y hy;simp only[this,Z9];exact rR
    rw[h',G5,if_pos h]
   ·have h':(t.O.any λy=>!decide (0<=y/\y<=1048576))=true:=by
     refine Q9 λhn=>h (R3.2 λy hy=>?_);refine Q9 λhm=>hn (eE.2 ⟨y,hy,?_⟩);have:decide (0<=y/\y<=1048576)=false:=by simpa only[Bool.not_eq_true]using hm
     rw[this];rfl
    rw[h',F7,if_neg h]
  ·rw[C2,if_pos g2]
 ·rw[C2 g1,if_pos g1]
def BH:∀a b:A2,F8 a b=F8 b a
 |[],[]=>rfl
 |[],_::_=>rfl
 |_::_,[]=>rfl
 |x::a,y::b=>by
  unfold F8;by_cases h:x=y
  ·rw[if_pos h,if_pos h.symm,BH a b]
  ·rw[if_neg h,if_neg λe=>h e.symm]
def Agree.symm{a b:C7}(h:Agree a b):Agree b a:=by
 unfold Agree at h ⊢;rw[BH];exact h.symm
def zum(a b:C7){n:Int}(ha:gD n a)(hb:gD n b)(h1:SmW a.In):∃d,gX a b=some d/\(0<=d↔¬Agree a b):=by
 have a2:a.In.length<=2000000:=h1;have hc:=mZ a.In b.In;have la:=ha.2.1;have lb:=hb.2.1;unfold gX;rw[tM _ _ h1,A5]
 have key:=J2 (step:=λk=>gX.s2 a b (↑(F8 a.In b.In):Int) k) (λk=>k<=F8 a.In b.In/\a.O.take k=b.O.take k) (λk=>F8 a.In b.In-k) (λr=>match r with|.inl ()=>Agree a b|.inr d=>0<=d/\¬Agree a b) (λk ⟨g1,g2⟩=>by
  simp only[gX.s2]
  by_cases g3:k<F8 a.In b.In
  ·have hx:=get_at (l:=a.O) (i:=k) (by omega)
   have hy:=get_at (l:=b.O) (i:=k) (by omega)
   rw[C2,B8 hx,B8 hy]
   by_cases e:a.O[k]'(by omega)=b.O[k]'(by omega)
   ·left
    refine⟨k+1,by rw[B1 (by simpa using e),L3],⟨g3,?_⟩,by omega⟩
    rw[W4 hx,W4 hy,g2,e]
   ·right
    refine⟨.inr (k:Int),by rw[C2 e],by simp,λhA=>e ?_⟩
    have h3:(a.O.take (F8 a.In b.In))[k]?=(b.O.take (F8 a.In b.In))[k]?:=by rw[hA]
    rw[aC,aC,if_pos g3,if_pos g3,hx,hy]at h3
    injection h3
  ·right
   have e:k=F8 a.In b.In:=by omega
   subst e
   exact⟨.inl (),by rw[B1],g2⟩) 0 ⟨D8 _,by simp⟩
 obtain⟨r,e,hq⟩:=key;rw[e];cases r with
 |inl u=>exact⟨-1,rfl,λh=>absurd h (by decide),λh=>absurd hq h⟩
 |inr d=>exact⟨d,rfl,λ_=>hq.2,λ_=>hq.1⟩
def common_eq_iff{x y:A2}(h:x.length=y.length):F8 x y=y.length↔x=y:=by
 rw[tA];exact⟨λhp=>(hp.eq_of_length h.symm).symm,λe=>e ▸ W9 _⟩
def DV(a b:C7){n:Int}(ha:gD n a)(hb:gD n b)(h1:SmW a.In):∃d,nV a b=some d/\(0<=d↔¬Agree a b):=by
 have a4:a.In.length<=2000000:=h1;have hc:=mZ a.In b.In;have la:=ha.2.1;have lb:=hb.2.1;unfold nV;rw[xG _ _ h1,A5];have hm:min (min (↑(F8 a.In b.In):Int) (a.O.length:Int)) (b.O.length:Int)=↑(F8 a.In b.In):=by omega
 rw[hm,H9 (by omega),H9 (by omega),H6,xG _ _ (by unfold SmW;rw[M3];omega),A5];have l1:(a.O.take (F8 a.In b.In)).length=F8 a.In b.In:=by rw[M3];omega
 have l2:(b.O.take (F8 a.In b.In)).length=F8 a.In b.In:=by rw[M3];omega
 have a3:=mZ (a.O.take (F8 a.In b.In)) (b.O.take (F8 a.In b.In));have a2:=common_eq_iff (x:=a.O.take (F8 a.In b.In)) (y:=b.O.take (F8 a.In b.In)) (by omega);by_cases h:F8 (a.O.take (F8 a.In b.In)) (b.O.take (F8 a.In b.In))<F8 a.In b.In
 ·rw[C2];exact⟨_,rfl,λ_ hA=>by have:=a2.2 hA;omega,λ_=>by omega⟩
 ·rw[B1];exact⟨-1,rfl,λh=>absurd h (by decide),λhA=>absurd (a2.1 (by omega)) hA⟩
def clashO(l:List C7)(t:C7):Prop:=∃u∈l,¬Agree u t
def bT(l:List C7)(w:A2):Bool:=l.any λu=>decide (w <+: u.In)
def insT:List C7->C7->List C7
 |[],t=>[t]
 |x::r,t=>if cmpW t.In x.In=-1 then t::x::r else x::insT r t
def restT(l:List C7)(t:C7):List C7:=l.filter λu=>!decide (u.In <+: t.In)
def addL(l:List C7)(t:C7):List C7:=if bT l t.In=true\/t.In=[] then l else insT (restT l t) t
instance (a b:C7):Decidable (Agree a b):=by unfold Agree;infer_instance
instance (l:List C7) (t:C7):Decidable (clashO l t):=by unfold clashO;infer_instance
def addO(o:G7)(t:C7):G7×Int :=
 if gE t o.I≠0 then(o,gE t o.I) else if clashO o.T t then(o,13) else if 10000<(addL o.T t).length then(o,11) else(⟨o.I,addL o.T t⟩,0)
def kV{l:List C7}{t x:C7}:x∈insT l t↔x=t\/x∈l:=by
 induction l with
 |nil=>simp[insT]
 |cons y r ih =>
  unfold insT;split
  ·simp
  ·simp only[M4,ih];constructor
   ·rintro (h|h|h)
    ·exact .inr (.inl h)
    ·exact .inl h
    ·exact .inr (.inr h)
   ·rintro (h|h|h)
    ·exact .inr (.inl h)
    ·exact .inl h
    ·exact .inr (.inr h)
def insT_pair{S:C7->C7->Prop}{t:C7}:∀{l:List C7},l.Pairwise S->(∀x∈l,S x t/\S t x)->(insT l t).Pairwise S
 |[],_,_=>by simp[insT]
 |x::r,h,ht=>by
  unfold insT;have hx:=bW.1 h;split
  ·exact bW.2 ⟨λy hy=>(ht y hy).2,h⟩
  ·refine bW.2 ⟨λy hy=>?_,insT_pair hx.2 λy hy=>ht y (by simp[hy])⟩;rcases kV.1 hy with e|e
   ·subst e;exact(ht x (by simp)).1
   ·exact hx.1 y e
def insT_asc{t:C7}:∀{l:List C7},l.Pairwise (λa b=>cmpW a.In b.In=-1)->(∀x∈l,x.In≠t.In)->(insT l t).Pairwise (λa b=>cmpW a.In b.In=-1)
 |[],_,_=>by simp[insT]
 |x::r,h,hn=>by
  unfold insT;have hx:=bW.1 h;split
  ·rename_i h1;refine bW.2 ⟨λy hy=>?_,h⟩;rcases M4.1 hy with e|e
   ·rw[e];exact h1
   ·exact jX _ _ _ h1 (hx.1 y e)
  ·rename_i h1;refine bW.2 ⟨λy hy=>?_,insT_asc hx.2 λy hy=>hn y (by simp[hy])⟩;rcases kV.1 hy with e|e
   ·subst e;have r1:=pX x.In y.In;have z1:=sN x.In y.In;have s1:=sH x.In y.In;have h6:¬cmpW x.In y.In=0:=λe=>hn x (by simp) (z1.1 e);omega
   ·exact hx.1 y e
def X0.pw{o:G7}(hv:X0 o):o.T.Pairwise (λa b=>cmpW a.In b.In=-1)/\o.T.Pairwise (λa b=>¬a.In <+: b.In/\Agree a b) :=
 ⟨dL.2 λi j hi hj hij=>hv.asc i j _ _ hij (get_at hi) (get_at hj),dL.2 λi j hi hj hij=>hv.apart i j _ _ hij (get_at hi) (get_at hj)⟩
def obsOk_of{o:G7}(h1:1<=o.I/\o.I<=64)(h2:o.T.length<=10000)(h3:∀t∈o.T,gD o.I t/\t.In≠[])(h4:o.T.Pairwise (λa b=>cmpW a.In b.In=-1))(h5:o.T.Pairwise (λa b=>¬a.In <+: b.In/\Agree a b)):X0 o:=by
 refine⟨h1,h2,h3,λi j a b a2 ha hb=>?_,λi j a b a2 ha hb=>?_⟩
 all_goals
  obtain⟨hi,rfl⟩:=E0.1 ha;obtain⟨hj,rfl⟩:=E0.1 hb
 ·exact dL.1 h4 i j hi hj a2
 ·exact dL.1 h5 i j hi hj a2
def insideO_false{l:List C7}{w:A2}(h:¬bT l w=true):∀u∈l,¬w <+: u.In:=λu hu hp=>h (eE.2 ⟨u,hu,E9 hp⟩)
def addO_ok{o:G7}{t:C7}(hv:X0 o):X0 (addO o t).1:=by
 unfold addO;split
 ·exact hv
 rename_i hp;have hp:gD o.I t:=vS.1 (by simpa using hp);split
 ·exact hv
 rename_i hc;split
 ·exact hv
 rename_i hn;have hn:(addL o.T t).length<=10000:=by omega
 unfold addL at hn ⊢;by_cases h:bT o.T t.In=true\/t.In=[]
 ·rw[if_pos h];exact hv
 ·rw[if_neg h]at hn ⊢;have h1:=insideO_false λe=>h (.inl e);have h2:t.In≠[]:=λe=>h (.inr e);have a3:(restT o.T t).Sublist o.T:=List.filter_sublist
  have a2:∀x∈restT o.T t,x∈o.T/\¬x.In <+: t.In:=λx hx=>by
   have:=yE.1 hx;refine⟨this.1,λe=>?_⟩;rw[E9 e]at this;exact rR this.2
  have a4:∀x∈o.T,Agree x t:=λx hx=>Q9 λe=>hc ⟨x,hx,e⟩;refine obsOk_of hv.inp hn (λx hx=>?_) (insT_asc (hv.pw.1.sublist a3) λx hx e=>(a2 x hx).2 (e ▸ W9 _)) (insT_pair (hv.pw.2.sublist a3) λx hx=>⟨⟨(a2 x hx).2,a4 x (a2 x hx).1⟩,h1 x (a2 x hx).1,(a4 x (a2 x hx).1).symm⟩);rcases kV.1 hx with e|e
  ·rw[e];exact⟨hp,h2⟩
  ·exact hv.prop x (a2 x e).1
def lG{w:A2}{n:Int}(h:R8 w n=0):w.length<=1024/\∀a∈w,0<=a/\a<n:=by
 unfold R8 at h;split at h
 ·split at h
  ·cases h
  ·split at h
   ·rename_i g1 g2 g3;exact⟨by omega,λa ha=>by simpa using R3.1 g3 a ha⟩
   ·cases h
 ·cases h
def scan_nil{V R:Type}:∀(l:List V) (j:Nat),scan (λ_ _=>(none:Option R)) j l=none
 |[],_=>rfl
 |_::l,j=>by
  unfold scan;exact scan_nil l (j+1)
def fits_tot{l:List C7}(hl:l.length<=1000000)(hw:∀t∈l,t.In.length<=1000000){n:Int}(hp:∀t∈l,gD n t)(hd:∀a∈l,∀b∈l,a.In=b.In->a=b):∃b,iA l=some b:=by
 have hf:∀a∈l,∀b∈l,iB a b=some (lexI a.In b.In):=λa ha b _=>by
  unfold iB;rw[BA _ _ (by have:=hw a ha;omega),A5]
 have ht:totB (λu0 u1=>iB u0 u1) l=true:=by
  refine R3.2 λa ha=>R3.2 λb hb=>?_;simp only;rw[hf a ha b hb,hf b hb a ha];simp only[O2];have hz:=uV a.In b.In;have hs:=uT a.In b.In;refine⟨⟨⟨?_,?_⟩,?_⟩,R3.2 λc hc=>?_⟩
  ·rw[beq_iff_eq];by_cases h:a=b
   ·have:lexI a.In b.In=0:=hz.2 (by rw[h]);rw[E9 this,E9 h]
   ·have h2:¬lexI a.In b.In=0:=λe=>h (hd a ha b hb (hz.1 e));rw[I3 h2,I3 h]
  ·rw[beq_iff_eq];by_cases h:lexI a.In b.In<0
   ·rw[E9 h,E9 (by omega)]
   ·rw[I3 h,I3 (by omega)]
  ·have:=pY a.In b.In;exact E9 (by omega)
  ·rw[hf b hb c hc,hf a ha c hc];have r1:=pY a.In b.In;have r2:=pY b.In c.In;by_cases h1:lexI a.In b.In<0
   ·by_cases h2:lexI b.In c.In<0
    ·have:=wE a.In b.In c.In (by omega) (by omega);simp[h1,h2,this]
    ·simp[h1,h2]
   ·simp[h1]
 have a2:=gY (λu0 u1=>iB u0 u1) l;generalize hS:eP (λu0 u1=>iB u0 u1) l=S at a2;have a4:S.length=l.length:=a2.length_eq;unfold iA xL mW xX mJ;rw[O6,A5,H9 (by omega),ht,F7,hS,A5]
 have key:=J2 (step:=λ(s:Nat)=>iA.s2 S s) (λi=>1<=i) (λi=>S.length+1-i) (λ_=>True) (λi g1=>by
  simp only[iA.s2]
  by_cases h:i<S.length
  ·have hx:=get_at h
   have hy:=get_at (l:=S) (i:=i-1) (by omega)
   have mx:S[i]∈l:=a2.mem_iff.1 (M8 h)
   have my:S[i-1]∈l:=a2.mem_iff.1 (M8 _)
   obtain⟨d,a3,_⟩:=DV S[i-1] S[i] (hp _ my) (hp _ mx) (by have:=hw _ my;unfold SmW;omega)
   rw[M6 hx,F7,B8 hx,D7 (i:=i-1) (by omega) hy,DO _ _ (by have:=hw _ mx;unfold SmW;omega),A5]
   by_cases q:S[i-1].In <+: S[i].In
   ·rw[C2 q,A5,F7]
    exact .inr ⟨_,rfl,trivial⟩
   ·rw[B1 q,D7 (i:=i-1) (by omega) hy,B8 hx,a3,A5,A5]
    by_cases z:0<=d
    ·rw[C2 z]
     exact .inr ⟨_,rfl,trivial⟩
    ·rw[B1 z]
     exact .inl ⟨_,rfl,by omega,by omega⟩
  ·rw[B1]
   exact .inr ⟨_,rfl,trivial⟩) 1 (F9 _)
 obtain⟨r,e,-⟩:=key;rw[e,A5];cases r with
 |inl u=>exact⟨true,rfl⟩
 |inr b=>exact⟨b,rfl⟩
def X0.dist{o:G7}(hv:X0 o):∀a∈o.T,∀b∈o.T,a.In=b.In->a=b:=λa ha b hb e=>by
 obtain⟨i,hi,rfl⟩:=aQ ha;obtain⟨j,hj,rfl⟩:=aQ hb;rcases jH i j with h|h|h
 ·exact absurd (e ▸ W9 _) (hv.apart i j _ _ h (get_at hi) (get_at hj)).1
 ·subst h;rfl
 ·exact absurd (e ▸ W9 _) (hv.apart j i _ _ h (get_at hj) (get_at hi)).1
def CI{l:List C7}{f:C7->Option Bool}(hl:l.length<=100000000000000)(hf:∀x∈l,f x=some false):oB l f=some false:=by
 unfold oB
 have h:¬l.any (λ_=>false)=true:=λh=>by
  obtain⟨x,_,hx⟩:=eE.1 h;cases hx
 rw[tindex_eq (p:=λ_=>false) hl hf,if_neg h,A5];rfl
def zrl{o:G7}(ho:SmO o)(hv:X0 o):bN o=some 0:=by
 obtain⟨i1,i2⟩:=hv.inp;have hn:=hv.num;have hs:=ho.2;unfold bN;rw[B1,I3 (by omega),A5,G5,B1]
 have key:=aJ (step:=λs=>bN.s2 o s) (l:=o.T) (R:=Int) (λ_ _=>none) (λi x hx=>by
  obtain⟨hi,a5⟩:=E0.1 hx
  have mx:x∈o.T:=G6 hx
  obtain⟨p1,p2⟩:=hv.prop x mx
  have sx:SmW x.In:=by have:=(hs x mx).1;unfold SmW;omega
  have a4:gE x o.I=0:=vS.2 p1
  have a6:x.In.length≠0:=λe=>p2 (V0 e)
  simp only[bN.s2]
  rw[M6 hx,F7,B8 hx,CN _ _ sx,A5,p1.1,B1 (by decide),B1,zpx _ _ sx (hs x mx).2,A5,a4,B1 (by decide)]
  by_cases h0:0<i
  ·have hy:=get_at (l:=o.T) (i:=i-1) (by omega)
   have hc:=hv.asc (i-1) i _ _ (by omega) hy hx
   have my:=G6 hy
   unfold tN
   rw[C2,D7 (i:=i-1) (by omega) hy,xK _ _ (by have:=(hs _ my).1;omega),A5,A5,hc,I3 (by decide),A5,G5]
  ·rw[B1,A5,G5]) (by
  simp only[bN.s2]
  rw[X6,G5]) (by omega)
 rw[key,scan_nil,A5];simp only[T6];obtain⟨b,hb⟩:=fits_tot (l:=o.T) (by omega) (λt ht=>by have:=(lG (hv.prop t ht).1.1).1;omega) (λt ht=>(hv.prop t ht).1) hv.dist;rw[hb,A5];cases b with
 |true=>rfl
 |false =>
  rw[G5]
  have a3:=aJ (step:=λs=>bN.s4 o s) (l:=o.T) (R:=Int) (λ_ _=>none) (λi x hx=>by
   obtain⟨hi,a5⟩:=E0.1 hx
   have mx:x∈o.T:=G6 hx
   have hl:(o.T.drop (i+1)).length<=100000000000000:=by rw[V7];omega
   have a2:∀u∈o.T.drop (i+1),u∈o.T/\¬x.In <+: u.In/\Agree x u:=λu hu=>by
    refine⟨bX hu,?_⟩
    obtain⟨k,hk,e⟩:=aQ hu
    rw[List.getElem_drop]at e
    rw[V7]at hk
    exact hv.apart i (i+1+k) x u (by omega) hx (by rw[get_at (by omega),e])
   simp only[bN.s4]
   rw[M6 hx,F7,B8 hx,H9 (by omega),CI hl (λu hu=>by
    unfold qT
    rw[DO _ _ (by have:=(hs u (a2 u hu).1).1;unfold SmW;omega),A5,I3 (a2 u hu).2.1]),A5,G5,CI hl (λu hu=>by
    unfold qU
    obtain⟨d,d1,d2⟩:=DV x u (hv.prop x mx).1 (hv.prop u (a2 u hu).1).1 (by have:=(hs x mx).1;unfold SmW;omega)
    rw[d1,A5,I3 (λh=>d2.1 h (a2 u hu).2.2)]),A5,G5]) (by
   simp only[bN.s4]
   rw[X6,G5]) (by omega)
  rw[a3,scan_nil,A5];rfl
def addT_pre(L:List Nat)(t:Int):L <+: addT L t:=by
 unfold addT;split
 ·exact W9 _
 ·exact yN _ _
def pQ:∀(x:A2) (L:List Nat),L <+: x.foldl addT L
 |[],L=>W9 _
 |t::x,L=>by
  rw[gA];exact(addT_pre L t).trans (pQ x _)
def foldl_mem:∀(x:A2) (L:List Nat) (t:Int),t∈x->t=-1\/t.toNat∈x.foldl addT L
 |u::x,L,t,h=>by
  rw[gA];rcases M4.1 h with rfl|h
  ·by_cases t0:t=-1
   ·exact .inl t0
   ·refine .inr ((pQ x _).subset ?_);unfold addT;split
    ·rename_i g;exact g.resolve_left t0
    ·exact L2 _ (I7.2 rfl)
  ·exact foldl_mem x _ t h
def oU(R:Nat->A2):∀(f i:Nat) (L:List Nat),L <+: bfsL R f i L
 |0,_,L=>W9 _
 |f+1,i,L=>by
  unfold bfsL;cases L[i]? with
  |none=>exact W9 _
  |some c=>exact(pQ (R c) L).trans (oU R f (i+1) _)
def AB(R:Nat->A2):∀(f i:Nat) (L:List Nat),(∀c,c∈L.take i->∀t,t∈R c->t=-1\/t.toNat∈L)->(bfsL R f i L).length<=f+i->∀c,c∈bfsL R f i L->∀t,t∈R c->t=-1\/t.toNat∈bfsL R f i L
 |0,i,L,h,hl=>by
  unfold bfsL at hl ⊢;rw[fG (by omega)]at h;exact h
 |f+1,i,L,h,hl=>by
  unfold bfsL at hl ⊢;cases e:L[i]? with
  |none =>
   have:L.length<=i:=rN.1 e;rw[fG this]at h;exact h
  |some c =>
   rw[e]at hl;refine AB R f (i+1) _ (λd hd t ht=>?_) (by simp only at hl;omega);obtain⟨hi,hc⟩:=E0.1 e;have hp:=pQ (R c) L
   have htk:((R c).foldl addT L).take (i+1)=L.take i++[c]:=by
    obtain⟨T,hT⟩:=hp;rw[<- hT,uK (by omega),kF hi,hc]
   rw[htk]at hd;rcases I2.1 hd with k|k
   ·exact(h d k t ht).elim .inl λk=>.inr (hp.subset k)
   ·rw[I7.1 k]at ht;exact foldl_mem _ _ _ ht
def nO{Q:A9}(R:fJ Q){c a:Nat}(hc:c∈ordP Q)(ha:a<Q.I.toNat):gx Q.N c a=-1\/(gx Q.N c a).toNat∈ordP Q:=by
 obtain⟨nums,_,A⟩:=jA R;have a2:=A.le;obtain⟨x,x1,x2,x3⟩:=R.gn.at (A.lt c hc) ha;refine AB (λc=>(Q.N[c]?).getD []) (Q.N.length+1) 0 [Q.S.toNat] (λd hd=>by simp at hd) (by have:(bfsL (λc=>(Q.N[c]?).getD []) (Q.N.length+1) 0 [Q.S.toNat]).length<=Q.N.length:=a2;omega) c hc _ ?_;rw[x1,E7];exact G6 x2
def renP_ok{Q:A9}(R:fJ Q)(hi:1<=Q.I)(hn:Q.N.length<=4096)(ho:∀c a,c∈ordP Q->a<Q.I.toNat->gx Q.N c a≠-1->0<=gx Q.O c a/\gx Q.O c a<=1048576):H7 (renP Q):=by
 obtain⟨nums,_,A⟩:=jA R;have a3:=A.le
 have a2:0<(ordP Q).length:=by
  have:=(oU (λc=>(Q.N[c]?).getD []) (Q.N.length+1) 0 [Q.S.toNat]).length_le;exact this
 unfold renP;refine⟨hi,R.i2,by simp only[B7];exact a2,by simp only[B7];omega,by simp only[B7];omega,by simp only[B7],λs hs=>?_⟩;simp only[B7]at hs ⊢;have hx:=get_at hs;have hc:(ordP Q)[s]∈ordP Q:=M8 hs;refine⟨U0 Q (ordP Q) (ordP Q)[s],Z0 Q (ordP Q)[s],by rw[H1,hx];rfl,by rw[H1,hx];rfl,?_,?_,λa t o h1 h2=>?_⟩
 ·unfold U0;rw[B7,M5];omega
 ·unfold Z0;rw[B7,M5];omega
 ·unfold U0 at h1;unfold Z0 at h2;rw[H1]at h1 h2;by_cases ha:a<Q.I.toNat
  ·rw[P4 ha]at h1 h2;have h1:numT (ordP Q) (gx Q.N (ordP Q)[s] a)=t:=by injection h1
   have h2:(if gx Q.N (ordP Q)[s] a=-1 then(-1:Int) else gx Q.O (ordP Q)[s] a)=o:=by injection h2
   rw[<- h1,<- h2];unfold numT;by_cases t0:gx Q.N (ordP Q)[s] a=-1
   ·rw[if_neg (λg=>g.1 t0),if_pos t0];omega
   ·have hm:=(nO R hc ha).resolve_left t0;have a4:=cP hm;obtain⟨o1,o2⟩:=ho _ a hc ha t0;rw[if_pos ⟨t0,hm⟩,if_neg t0];omega
  ·rw[L0 (by rw[M5];omega)]at h1;cases h1
section
section
variable {p:A9}
def bG(p:A9)(red:List Bool)(r a b:Nat):Prop:=red[r]?=some true/\pnx p r a=(b:Int)/\red[b]?=some false
end
end
section
section
variable {p:A9}
end
end
inductive RS(p:A9):Nat->Prop
 |st:RS p p.S.toNat
 |step {q:Nat} (a u:Nat) (h:RS p q) (hu:pnx p q a=(u:Int)):RS p u
def Conn(p:A9):Prop:=∀q,q<p.N.length->RS p q
def vY(Q:A9):Q.S.toNat∈ordP Q:=(oU (λc=>(Q.N[c]?).getD []) (Q.N.length+1) 0 [Q.S.toNat]).subset (I7.2 rfl)
def eK.mem{p Q:A9}{cl:Nat->Nat}(H:H7 p)(K:eK p Q cl){q:Nat}(h:RS p q):cl q∈ordP Q:=by
 induction h with
 |st =>
  have:=vY Q
  rwa [K.st,H6]at this
 |step a u h hu ih =>
  obtain⟨h1,h2,h3⟩:=Q4 H hu;rename_i q;have hc:=K.lt q h1;have a3:=K.idem q h1;have a2:pnx p q a≠-1:=by omega
  obtain⟨r1,r2⟩:=K.row (cl q) a hc h2 a3;by_cases k:gx Q.N (cl q) a=-1
  ·exact absurd (r1 k q h1 rfl) a2
  ·obtain⟨e,_⟩:=(r2 k).2 q h1 rfl a2;rw[hu,H6]at e;have:=(nO K.ren ih (a:=a) (by rw[K.inp];exact h2)).resolve_left k
   rwa [e,H6]at this
def BN(P:Nat->Prop):∀(x:A2) (L:List Nat),(∀c,c∈L->P c)->(∀t,t∈x->t≠-1->P t.toNat)->∀c,c∈x.foldl addT L->P c
 |[],L,h,_,c,hc=>h c hc
 |t::x,L,h,hx,c,hc=>by
  rw[gA]at hc;refine BN P x _ (λd hd=>?_) (λu hu=>hx u (M7 _ hu)) c hc;unfold addT at hd;split at hd
  ·exact h d hd
  ·rename_i g;rcases I2.1 hd with k|k
   ·exact h d k
   ·rw[I7.1 k];exact hx t U9 λe=>g (.inl e)
def vM(R:Nat->A2)(P:Nat->Prop)(hR:∀c,P c->∀t,t∈R c->t≠-1->P t.toNat):∀(f i:Nat) (L:List Nat),(∀c,c∈L->P c)->∀c,c∈bfsL R f i L->P c
 |0,_,L,h,c,hc=>h c hc
 |f+1,i,L,h,c,hc=>by
  unfold bfsL at hc;cases e:L[i]? with
  |none =>
   rw[e]at hc;exact h c hc
  |some d =>
   rw[e]at hc;exact vM R P hR f (i+1) _ (BN P _ _ h (hR d (h d (G6 e)))) c hc
def renP_conn{Q:A9}(R:fJ Q):Conn (renP Q):=by
 obtain⟨nums,_,A⟩:=jA R
 have a5:∀c a,c∈ordP Q->a<Q.I.toNat->gx Q.N c a≠-1->pnx (renP Q) ((ordP Q).idxOf c) a=(↑((ordP Q).idxOf (gx Q.N c a).toNat):Int):=λc a hc ha h=>by
  have hm:=(nO R hc ha).resolve_left h;have a2:=cP hc;unfold pnx renP;rw[H1,get_at a2,J4,E7,iG a2];unfold U0;rw[H1,P4 ha,J4,E7];unfold numT;rw[if_pos ⟨h,hm⟩]
 have h0:(ordP Q).idxOf Q.S.toNat=0:=by
  obtain⟨T,hT⟩:=oU (λc=>(Q.N[c]?).getD []) (Q.N.length+1) 0 [Q.S.toNat];unfold ordP;rw[<- hT];simp
 have key:∀c,c∈ordP Q->c∈ordP Q/\RS (renP Q) ((ordP Q).idxOf c):=by
  refine vM (λc=>(Q.N[c]?).getD []) (λc=>c∈ordP Q/\RS (renP Q) ((ordP Q).idxOf c)) (λc hc t ht t0=>?_) (Q.N.length+1) 0 [Q.S.toNat] λc hc=>?_
  ·obtain⟨h1,h2⟩:=hc;obtain⟨x,x1,x2⟩:=R.gn.row c (A.lt c h1);simp only[x1,E7]at ht;obtain⟨a,ha,a4⟩:=cQ.1 ht
   have hg:gx Q.N c a=t:=by
    unfold gx;rw[x1,E7,get_at ha,E7,a4]
   have a3:gx Q.N c a≠-1:=by rw[hg];exact t0
   have hm:=(nO R h1 (a:=a) (by omega)).resolve_left a3;have hp:=a5 c a h1 (by omega) a3;rw[hg]at hm hp;exact⟨hm,.step a _ h2 hp⟩
  ·rw[I7.1 hc];refine⟨vY Q,?_⟩;rw[h0];exact .st
 intro s hs
 have hs:s<(ordP Q).length:=by
  unfold renP at hs;simpa using hs
 have h1:=(key (ordP Q)[s] (M8 hs)).2
 rwa [A.nd.idxOf_getElem s hs]at h1
section
section
variable {p:A9}
end
end
section
section
variable {p:A9}
end
end
def kP(red:List Bool):Nat:=red.countP λb=>!b
def whites_set{red:List Bool}:∀{b:Nat},red[b]?=some false->kP (red.set b true)<kP red:=by
 induction red with
 |nil=>intro b h;cases h
 |cons x red ih =>
  intro b h;cases b with
  |zero =>
   have h:x=false:=by injection h
   subst h;unfold kP;simp
  |succ b =>
   have h:=ih (b:=b) h;unfold kP at h ⊢;rw[yO,kG,kG];omega
structure LrnI(p:A9)(red:List Bool):Prop where
 ok:H7 p
 con:Conn p
 len:red.length=p.N.length
section
def kids(R:Nat->A2)(c t:Nat):Prop:=(t:Int)∈R c
section
variable {R:Nat->A2}{lt:Nat->Nat->Prop}{st:Nat}
def zS{c:Nat}(hrow:∀(i j:Nat) (u v:Nat),i<j->(R c)[i]?=some (u:Int)->(R c)[j]?=some (v:Int)->lt u v)(hrng:∀t,t∈R c->t=-1\/0<=t){L:List Nat}(hL:L.Pairwise lt)(hk:∀w t,w∈L->kids R c t->lt w t) :
  ∀k,k<=(R c).length->(((R c).take k).foldl addT L).Pairwise lt/\∀w,w∈((R c).take k).foldl addT L->w∈L\/∃i,i<k/\(R c)[i]?=some (w:Int)
 |0,_=>by
  rw[rC];exact⟨hL,λw h=>.inl h⟩
 |k+1,hk1=>by
  obtain⟨h1,h2⟩:=zS hrow hrng hL hk k (by omega);have hx:=get_at (l:=R c) (i:=k) (by omega);rw[kF (by omega),oJ];generalize ((R c).take k).foldl addT L=A at h1 h2;show(addT A (R c)[k]).Pairwise lt/\∀w,w∈addT A (R c)[k]->_;have hkeep:∀w,w∈A->w∈L\/∃i,i<k+1/\(R c)[i]?=some (w:Int):=λw h=>(h2 w h).elim .inl λ⟨i,q1,q2⟩=>.inr ⟨i,by omega,q2⟩;unfold addT;split
  ·exact⟨h1,hkeep⟩
  ·rename_i g;have hne:(R c)[k]≠-1:=λe=>g (.inl e);have hge:0<=(R c)[k]:=(hrng _ (M8 _)).resolve_left hne;have hto:(↑(R c)[k].toNat:Int)=(R c)[k]:=by omega
   refine⟨rJ.2 ⟨h1,by simp,λu hu v hv=>?_⟩,λw hw=>?_⟩
   ·rw[I7.1 hv];rcases h2 u hu with q|⟨i,q1,q2⟩
    ·exact hk u _ q (by unfold kids;rw[hto];exact M8 _)
    ·exact hrow i k u _ q1 q2 (by rw[hto];exact hx)
   ·rcases I2.1 hw with q|q
    ·exact hkeep w q
    ·refine .inr ⟨k,jG _,?_⟩;rw[I7.1 q,hto];exact hx
def zJ(hrow:∀(c i j u v:Nat),i<j->(R c)[i]?=some (u:Int)->(R c)[j]?=some (v:Int)->lt u v)(hrng:∀c t,t∈R c->t=-1\/0<=t)(hst:∀c t,kids R c t->lt st t)(hch:∀u v c d,lt u v->kids R u c->kids R v d->lt c d) :
  ∀(f i:Nat) (L:List Nat),L.Pairwise lt->(∀w,w∈L->w=st\/∃j u,j<i/\L[j]?=some u/\kids R u w)->(bfsL R f i L).Pairwise lt
 |0,_,L,h1,_=>h1
 |f+1,i,L,h1,h2=>by
  unfold bfsL;cases e:L[i]? with
  |none=>exact h1
  |some c =>
   obtain⟨hi,hc⟩:=E0.1 e
   obtain⟨q1,q2⟩:=zS (c:=c) (λi j u v=>hrow c i j u v) (hrng c) h1 (λw t hw ht=>by
    rcases h2 w hw with h|⟨j,u,j1,j2,j3⟩
    ·rw[h];exact hst c t ht
    ·obtain⟨hj,hu⟩:=E0.1 j2
     have:=(dL.1 h1) j i hj hi j1
     rw[hu,hc]at this
     exact hch u c w t this j3 ht) (R c).length (F9 _)
   rw[R5]at q1 q2;refine zJ hrow hrng hst hch f (i+1) _ q1 λw hw=>?_
   have hget:∀(j u:Nat),L[j]?=some u->((R c).foldl addT L)[j]?=some u:=λj u h=>by
    have h3:=pQ (R c) L;generalize (R c).foldl addT L=A at h3;obtain⟨T,rfl⟩:=h3;rw[N6 (E0.1 h).1];exact h
   rcases q2 w hw with h|⟨k,_,hk⟩
   ·rcases h2 w h with g|⟨j,u,j1,j2,j3⟩
    ·exact .inl g
    ·exact .inr ⟨j,u,by omega,hget j u j2,j3⟩
   ·exact .inr ⟨i,c,jG _,hget i c e,G6 hk⟩
end
end
def pT{W:A4}(hn:W.Nodup){i:Nat}{w:A2}(h:W[i]?=some w):W.idxOf w=i:=by
 obtain⟨hi,e⟩:=E0.1 h;have hm:w∈W:=G6 h;have a2:=cP hm;refine(tZ (h₀:=a2) (h₁:=hi) hn).1 ?_;rw[iG a2,e]
def gI{W:A4}{w:A2}(h:w∈W):W[W.idxOf w]?=some w:=by
 have a2:=cP h;rw[get_at a2,iG a2]
structure V9(W:A4)(I:Nat)(D:A2->Prop)(ov:A2->Int)(N O:A4):Prop where
 gn:Grid W.length I N
 go:Grid W.length I O
 yes:∀q (a:Nat) w,W[q]?=some w->a<I->D (w++[(a:Int)])->gx N q a=(↑(W.idxOf (w++[(a:Int)])):Int)/\gx O q a=ov (w++[(a:Int)])
 no:∀q (a:Nat) w,W[q]?=some w->a<I->¬D (w++[(a:Int)])->gx N q a=-1/\gx O q a=-1
def V9.congr{W:A4}{I:Nat}{D D':A2->Prop}{ov:A2->Int}{N O:A4}(T:V9 W I D ov N O)(h:∀w∈W,∀a:Nat,a<I->(D (w++[(a:Int)])↔D' (w++[(a:Int)]))):V9 W I D' ov N O :=
 ⟨T.gn,T.go,λq a w hw ha hd=>T.yes q a w hw ha ((h w (G6 hw) a ha).2 hd),λq a w hw ha hd=>T.no q a w hw ha λg=>hd ((h w (G6 hw) a ha).1 g)⟩
def V9.put{W:A4}{I:Nat}{D:A2->Prop}{ov:A2->Int}{N O:A4}(T:V9 W I D ov N O)(hnd:W.Nodup){q a:Nat}{w x y:A2}(hw:W[q]?=some w)(ha:a<I)(hx:N[q]?=some x)(hy:O[q]?=some y) :
  V9 W I (λv=>D v\/v=w++[(a:Int)]) ov (N.set q (x.set a (↑(W.idxOf (w++[(a:Int)])):Int))) (O.set q (y.set a (ov (w++[(a:Int)])))):=by
 have hq:q<W.length:=(E0.1 hw).1;obtain⟨g1,g2⟩:=T.gn.put hq ha hx (↑(W.idxOf (w++[(a:Int)])):Int);obtain⟨k1,k2⟩:=T.go.put hq ha hy (ov (w++[(a:Int)]))
 have a5:∀(q' b:Nat) (w':A2),W[q']?=some w'->w'++[(b:Int)]=w++[(a:Int)]->q'=q/\b=a:=λq' b w' a2 e=>by
  obtain⟨e1,e2⟩:=List.append_inj' e rfl;subst e1;have h1:=pT hnd a2;have h2:=pT hnd hw;refine⟨by omega,?_⟩;injection e2 with e2 _
  omega
 refine⟨g1,k1,λq' b w' a2 hb hd=>?_,λq' b w' a2 hb hd=>?_⟩
 ·have a3:q'<W.length:=(E0.1 a2).1;rw[g2 q' b a3 hb,k2 q' b a3 hb];by_cases e:w'++[(b:Int)]=w++[(a:Int)]
  ·obtain⟨e1,e2⟩:=a5 q' b w' a2 e;rw[if_pos ⟨e1,e2⟩,if_pos ⟨e1,e2⟩,e];exact⟨rfl,rfl⟩
  ·have a4:¬(q'=q/\b=a):=λ⟨e1,e2⟩=>e (by
    subst e1;subst e2
    rw[hw]at a2
    injection a2 with a2
    rw[a2])
   rw[if_neg a4,if_neg a4];exact T.yes q' b w' a2 hb (hd.resolve_right e)
 ·have a3:q'<W.length:=(E0.1 a2).1;rw[g2 q' b a3 hb,k2 q' b a3 hb]
  have a4:¬(q'=q/\b=a):=λ⟨e1,e2⟩=>hd (.inr (by
   subst e1;subst e2
   rw[hw]at a2
   injection a2 with a2
   rw[a2]))
  rw[if_neg a4,if_neg a4];exact T.no q' b w' a2 hb λh=>hd (.inl h)
def tH{N:A4}{r:A2}{q:Nat}(h:q<N.length)(a:Nat):gx (N++[r]) q a=gx N q a:=by
 unfold gx;rw[N6 h]
def wV{N:A4}{I:Nat}(a:Nat):gx (N++[List.replicate I (-1)]) N.length a=-1:=by
 unfold gx;rw[S7 (F9 _),T7];simp only[yW,E7,Y8];split<;>rfl
def Grid.snoc{n I:Nat}{N:A4}(G:Grid n I N):Grid (n+1) I (N++[List.replicate I (-1)]):=by
 have hl:=G.len;refine⟨by rw[H4,hl];rfl,λq hq=>?_⟩;by_cases h:q<n
 ·rw[N6 (by omega)];exact G.row q h
 ·have e:q=N.length:=by omega
  rw[e,S7 (F9 _),T7];exact⟨_,rfl,K7⟩
def V9.grow{W:A4}{I:Nat}{D:A2->Prop}{ov:A2->Int}{N O:A4}(T:V9 W I D ov N O){v:A2}(hD:∀u,D u->u∈W)(hv:∀a:Nat,¬D (v++[(a:Int)])) :
  V9 (W++[v]) I D ov (N++[List.replicate I (-1)]) (O++[List.replicate I (-1)]):=by
 have l1:=T.gn.len;have l2:=T.go.len;have a2:(W++[v]).length=W.length+1:=by rw[H4];rfl
 refine⟨a2 ▸ T.gn.snoc,a2 ▸ T.go.snoc,λq a w hw ha hd=>?_,λq a w hw ha hd=>?_⟩
 ·have hq:q<W.length:=by
   rcases J3 q W.length with h|h
   ·exact h
   ·rw[S7 h]at hw
    have:v=w:=by
     obtain⟨h1,h2⟩:=E0.1 hw;simp only[O8]at h1;have e:q-W.length=0:=by omega
     simpa[e]using h2
    subst this;exact absurd hd (hv a)
  rw[N6 hq]at hw;rw[tH (by omega),tH (by omega),oK,if_pos (hD _ hd)];exact T.yes q a w hw ha hd
 ·rcases J3 q W.length with h|h
  ·rw[N6 h]at hw;rw[tH (by omega),tH (by omega)];exact T.no q a w hw ha hd
  ·obtain⟨h1,h2⟩:=E0.1 hw;have e:q=W.length:=by omega
   constructor
   ·rw[e,<- l1];exact wV a
   ·rw[e,<- l2];exact wV a
def V9.start{I:Nat}{ov:A2->Int}:V9 [[]] I (λv=>v∈[([]:A2)]) ov [List.replicate I (-1)] [List.replicate I (-1)]:=by
 have g:Grid 1 I [List.replicate I (-1:Int)]:=⟨rfl,λq hq=>by
  have e:q=0:=by omega
  subst e
  exact⟨_,rfl,K7⟩⟩
 refine⟨g,g,λq a w hw ha hd=>?_,λq a w hw ha hd=>?_⟩
 ·rw[I7]at hd;exact absurd hd (by simp)
 ·have h1:=(E0.1 hw).1;have e:q=0:=by simp only[O8]at h1;omega
  subst e;have:=wV (N:=[]) (I:=I) a;exact⟨this,this⟩
structure Stem(W:A4):Prop where
 nd:W.Nodup
 hd:W[0]?=some []
 pc:∀w x,w++[x]∈W->w∈W
def Stem.grow{W:A4}(H:Stem W){w:A2}{x:Int}(hw:w∈W)(h:w++[x]∉W):Stem (W++[w++[x]]):=by
 refine⟨V5.2 ⟨H.nd,by simp,λu hu v hv e=>?_⟩,?_,λu y hu=>?_⟩
 ·rw[I7.1 hv]at e;exact h (e ▸ hu)
 ·have:=(E0.1 H.hd).1;rw[N6 this];exact H.hd
 ·rcases I2.1 hu with g|g
  ·exact K9 _ (H.pc u y g)
  ·obtain⟨e,_⟩:=List.append_inj' (I7.1 g) rfl;exact K9 _ (e ▸ hw)
def common_ge:∀(u a b:A2),u <+: a->u <+: b->u.length<=F8 a b
 |[],_,_,_,_=>D8 _
 |x::u,[],_,h,_=>by simp at h
 |x::u,_::_,[],_,h=>by simp at h
 |x::u,y::a,z::b,h1,h2=>by
  rw[List.cons_prefix_cons]at h1 h2;obtain⟨rfl,h1⟩:=h1;obtain⟨rfl,h2⟩:=h2;have:=common_ge u a b h1 h2;simp only[F8,if_pos,G8];omega
def ovT(l:List C7)(w:A2):Int:=((l.find? λt=>decide (w <+: t.In)).map λt=>(t.O[w.length-1]?).getD 0).getD 0
def agree_at{a b:C7}(h:Agree a b){u:A2}(h1:u <+: a.In)(h2:u <+: b.In){k:Nat}(hk:k<u.length):a.O[k]?=b.O[k]?:=by
 have hc:=common_ge u a.In b.In h1 h2;unfold Agree at h;have:=congrArg (λl=>l[k]?) h;simp only[List.getElem?_take_of_lt (show k<F8 a.In b.In by omega)]at this;exact this
def ovT_eq{o:G7}(hv:X0 o){t:C7}(ht:t∈o.T){k:Nat}(hk:k<t.In.length):t.O[k]?=some (ovT o.T (t.In.take (k+1))):=by
 have a2:(t.In.take (k+1)).length=k+1:=by rw[M3];omega
 have hl:=(hv.prop t ht).1.2.1;unfold ovT;cases e:o.T.find? λu=>decide (t.In.take (k+1) <+: u.In) with
 |none=>exact absurd (rF _ _) (by simpa using List.find?_eq_none.1 e t ht)
 |some u =>
  have hu:u∈o.T:=List.mem_of_find?_eq_some e;have hp:t.In.take (k+1) <+: u.In:=by simpa using List.find?_some e
  have hA:Agree t u:=by
   by_cases g:t=u
   ·rw[g];rfl
   ·obtain⟨i,hi,rfl⟩:=aQ ht;obtain⟨j,hj,rfl⟩:=aQ hu;rcases jH i j with h|h|h
    ·exact(hv.apart i j _ _ h (get_at hi) (get_at hj)).2
    ·subst h;exact absurd rfl g
    ·exact(hv.apart j i _ _ h (get_at hj) (get_at hi)).2.symm
  have:=agree_at hA (rF _ _) hp (k:=k) (by omega);rw[J4,E7,a2,uE,<- this,get_at (by omega),E7]
def allP(o:G7):A4:=preL ([]::o.T.map λt=>t.In)
def qK{x w:A2}:w∈gP x↔w <+: x:=by
 unfold gP;rw[H0];constructor
 ·rintro⟨k,_,rfl⟩;exact rF _ _
 ·intro h;refine⟨w.length,K6.2 (by have:=h.length_le;omega),(yU.1 h).symm⟩
def dX{o:G7}{w:A2}:w∈allP o↔w=[]\/∃t∈o.T,w <+: t.In:=by
 unfold allP preL;rw[fE];constructor
 ·rintro⟨x,hx,hw⟩;rcases M4.1 hx with rfl|hx
  ·exact .inl (yD.1 (qK.1 hw))
  ·obtain⟨t,ht,rfl⟩:=H0.1 hx;exact .inr ⟨t,ht,qK.1 hw⟩
 ·rintro (rfl|⟨t,ht,hw⟩)
  ·exact⟨[],U9,qK.2 (W9 _)⟩
  ·exact⟨t.In,M7 _ (H0.2 ⟨t,ht,rfl⟩),qK.2 hw⟩
structure TrI(o:G7)(W:A4)(N O:A4):Prop where
 st:Stem W
 tm:V9 W o.I.toNat (λv=>v∈W) (ovT o.T) N O
 sub:∀v∈W,v∈allP o
def TrI.le{o:G7}{W N O:A4}(K:TrI o W N O):W.length<=(allP o).length:=eV K.st.nd K.sub
def TrI.take{o:G7}{W N O:A4}(K:TrI o W N O){w:A2}(h:w∈W):∀n k,k+n=w.length->w.take k∈W
 |0,k,e=>by rw[fG (by omega)];exact h
 |n+1,k,e=>by
  have:=K.take h n (k+1) (by omega);rw[kF (by omega)]at this;exact K.st.pc _ _ this
def tree_s54{o:G7}(hv:X0 o)(hP:(allP o).length<=4090){t:C7}(ht:t∈o.T){W N O:A4}(K:TrI o W N O){q k:Nat}(hk:k<t.In.length)(hq:W[q]?=some (t.In.take k)) :
  ∃(W' N' O':A4) (q':Nat),P3.s54 o t N O (q:Int) k=some (.inl (N',O',(q':Int),k+1))/\TrI o W' N' O'/\W'[q']?=some (t.In.take (k+1))/\∀v∈W,v∈W':=by
 obtain⟨i1,i2⟩:=hv.inp;have b5:=K.le;have a5:=(lG (hv.prop t ht).1.1).2;have a9:=get_at hk;obtain⟨c1,c2⟩:=a5 _ (M8 hk);have hx:=a9;generalize t.In[k]=e at c1 c2 hx;obtain⟨a,rfl⟩:=yT c1;have ha:a<o.I.toNat:=by omega
 have a2:t.In.take (k+1)=t.In.take k++[(a:Int)]:=by
  rw[List.take_add_one,hx];rfl
 have a3:q<W.length:=(E0.1 hq).1;have lN:=K.tm.gn.len;have lO:=K.tm.go.len;obtain⟨x,x1,x2,x3⟩:=K.tm.gn.at a3 ha;obtain⟨y,y1,y2,y3⟩:=K.tm.go.at a3 ha;have a8:=ovT_eq hv ht hk
 have a7:Z7 o.I=some (List.replicate o.I.toNat (-1)):=by
  have:=tJ (x:=o.I.toNat) (by omega)
  rwa [oO (by omega)]at this
 simp only[P3.s54];rw[M6 hx,F7,B8 hx,D7 rfl x1,D7 rfl x2];by_cases hm:t.In.take k++[(a:Int)]∈W
 ·obtain⟨g1,g2⟩:=K.tm.yes q a _ hq ha hm;rw[B1,A5];simp only[T6,P3.k53];rw[D7 rfl x1,D7 rfl x2,g1];refine⟨W,N,O,_,rfl,K,?_,λv h=>h⟩;rw[a2];exact gI hm
 ·obtain⟨g1,g2⟩:=K.tm.no q a _ hq ha hm;have a4:=K.st.grow (G6 hq) hm;have b2:∀b:Nat,¬(t.In.take k++[(a:Int)])++[(b:Int)]∈W:=λb h=>hm (K.st.pc _ _ h);have T1:=K.tm.grow (v:=t.In.take k++[(a:Int)]) (λu h=>h) b2;have b3:(W++[t.In.take k++[(a:Int)]])[q]?=some (t.In.take k):=by rw[N6 a3];exact hq
  have T2:=T1.put a4.nd b3 ha (by rw[N6 (by omega)];exact x1) (by rw[N6 (by omega)];exact y1)
  have a6:(W++[t.In.take k++[(a:Int)]]).idxOf (t.In.take k++[(a:Int)])=N.length:=by
   rw[oK,if_neg hm,lN];simp
  rw[a6,List.set_append_left _ _ (by omega),List.set_append_left _ _ (by omega)]at T2;rw[a2]at a8;rw[C2 g1,B1,D7 rfl x1,D7 rfl y1,B8 a8,D7 rfl x2,D7 rfl y2,a7,A5,H9 (by rw[P2];unfold B4;simp only[O8];omega),A5,H9 (by rw[P2];unfold B4;simp only[O8];omega),A5];simp only[T6,P3.k53,H6];rw[D7 (i:=q) (x:=x.set a (N.length:Int)) rfl (by rw[N6 (by rw[P2];omega),P5 (by omega)]),D7 (i:=a) (x:=(N.length:Int)) rfl (P5 (by omega))];refine⟨W++[t.In.take k++[(a:Int)]],_,_,N.length,rfl,⟨a4,T2.congr λw hw b hb=>?_,λv b4=>?_⟩,?_,λv h=>K9 _ h⟩
  ·rw[I2,I7]
  ·rcases I2.1 b4 with h|h
   ·exact K.sub v h
   ·rw[I7.1 h,<- a2];exact dX.2 (.inr ⟨t,ht,rF _ _⟩)
  ·rw[lN,a2,S7 (F9 _),T7];rfl
def tree_loop54{o:G7}(hv:X0 o)(hP:(allP o).length<=4090){t:C7}(ht:t∈o.T){W N O:A4}(K:TrI o W N O) :
  ∃(W' N' O':A4),iter (λ(s:A4×A4×Int×Nat)=>P3.s54 o t s.1 s.2.1 s.2.2.1 s.2.2.2) fuel (N,O,0,0)=some (.inl (N',O'))/\TrI o W' N' O'/\t.In∈W'/\∀v∈W,v∈W':=by
 have hl:=(lG (hv.prop t ht).1.1).1
 have key:=aZ (step:=λ(s:A4×A4×Int×Nat)=>P3.s54 o t s.1 s.2.1 s.2.2.1 s.2.2.2) (λs=>∃(W':A4) (q:Nat),s.2.2.1=(q:Int)/\s.2.2.2<=t.In.length/\W'[q]?=some (t.In.take s.2.2.2)/\TrI o W' s.1 s.2.1/\∀v∈W,v∈W') (λs=>t.In.length-s.2.2.2)
  (λr=>∃(W' N' O':A4),r=.inl (N',O')/\TrI o W' N' O'/\t.In∈W'/\∀v∈W,v∈W') (λ⟨N,O,s,k⟩ ⟨W1,q,h1,h2,h3,h4,h5⟩=>by
  simp only at h1 h2 h3 h4 h5 ⊢
  subst h1
  by_cases hk:k<t.In.length
  ·obtain⟨W',N',O',q',e,k1,k2,k3⟩:=tree_s54 hv hP ht h4 hk h3
   exact .inl ⟨_,e,⟨W',q',rfl,hk,k2,k1,λv hv=>k3 v (h5 v hv)⟩,by simp only;omega⟩
  ·right
   simp only[P3.s54]
   rw[B1]
   refine⟨_,rfl,W1,N,O,rfl,h4,?_,h5⟩
   rw[fG (by omega)]at h3
   exact G6 h3) fuel (N,O,0,0) ⟨W,0,rfl,D8 _,by rw[rC];exact K.st.hd,K,λv h=>h⟩ (by have:=Y0;simp only;omega)
 obtain⟨r,e,W',N',O',rfl,q⟩:=key;exact⟨W',N',O',e,q⟩
def tree_loop56{o:G7}(hv:X0 o)(hP:(allP o).length<=4090) :
  ∃(W N O:A4),iter (λ(s:A4×A4×Nat)=>P3.s56 o s.1 s.2.1 s.2.2) fuel ([List.replicate o.I.toNat (-1)],[List.replicate o.I.toNat (-1)],0)=some (.inl (N,O))/\TrI o W N O/\∀v,v∈W↔v∈allP o:=by
 have hn:=hv.num
 have K0:TrI o [[]] [List.replicate o.I.toNat (-1)] [List.replicate o.I.toNat (-1)] :=
  ⟨⟨by simp,rfl,λw x h=>by simp at h⟩,V9.start,λv h=>by
   rw[I7]at h
   exact dX.2 (.inl h)⟩
 have key:=aZ (step:=λ(s:A4×A4×Nat)=>P3.s56 o s.1 s.2.1 s.2.2) (λs=>∃W,s.2.2<=o.T.length/\TrI o W s.1 s.2.1/\∀j t,j<s.2.2->o.T[j]?=some t->t.In∈W) (λs=>o.T.length-s.2.2)
  (λr=>∃(W N O:A4),r=.inl (N,O)/\TrI o W N O/\∀t∈o.T,t.In∈W) (λ⟨N,O,i⟩ ⟨W,h1,h2,h3⟩=>by
  simp only at h1 h2 h3 ⊢
  simp only[P3.s56]
  by_cases hi:i<o.T.length
  ·have hx:=get_at hi
   obtain⟨W',N',O',e,k1,k2,k3⟩:=tree_loop54 hv hP (M8 hi) h2
   rw[M6 hx,F7,B8 hx,e,A5]
   refine .inl ⟨_,rfl,⟨W',hi,k1,λj t hj ht=>?_⟩,by simp only;omega⟩
   rcases J3 j i with h|h
   ·exact k3 _ (h3 j t h ht)
   ·have ej:j=i:=by simp only at hj;omega
    subst ej
    rw[hx]at ht
    injection ht with ht
    subst ht
    exact k2
  ·rw[B1]
   refine .inr ⟨_,rfl,W,N,O,rfl,h2,λt ht=>?_⟩
   obtain⟨j,hj,e⟩:=aQ ht
   exact h3 j t (by omega) (by rw[get_at hj,e])) fuel ([List.replicate o.I.toNat (-1)],[List.replicate o.I.toNat (-1)],0) ⟨[[]],D8 _,K0,λj t hj=>absurd hj (O4 _)⟩ (by have:=Y0;simp only;omega)
 obtain⟨r,e,W,N,O,rfl,K,a2⟩:=key;refine⟨W,N,O,e,K,λv=>⟨K.sub v,λh=>?_⟩⟩;rcases dX.1 h with rfl|⟨t,ht,hp⟩
 ·exact G6 K.st.hd
 ·have:=K.take (a2 t ht) (t.In.length-v.length) v.length (by have:=hp.length_le;omega)
  rwa [<- yU.1 hp]at this
section
def vG:∀(x y:A2) (a b:Int),x.length=y.length->(lexI x y=-1\/x=y/\a<b)->lexI (x++[a]) (y++[b])=-1
 |[],[],a,b,_,h=>by
  rcases h with h|⟨_,h⟩
  ·simp[lexI]at h
  ·simp[lexI,h]
 |[],_::_,_,_,h,_=>by simp at h
 |_::_,[],_,_,h,_=>by simp at h
 |u::x,v::y,a,b,hl,h=>by
  have ih:=vG x y a b (by simpa using hl);simp only[kH,lexI];by_cases h1:u<v
  ·rw[if_pos h1]
  ·rw[if_neg h1];rcases h with h|⟨h,h2⟩
   ·simp only[lexI,if_neg h1]at h;by_cases h3:v<u
    ·rw[if_pos h3]at h;exact absurd h (by decide)
    ·rw[if_neg h3]at h ⊢;exact ih (.inl h)
   ·injection h with e1 e2
    rw[if_neg (by omega)];exact ih (.inr ⟨e2,h2⟩)
def nA{x y:A2}{a b:Int}(h:cmpW x y=-1\/x=y/\a<b):cmpW (x++[a]) (y++[b])=-1:=by
 unfold cmpW at h ⊢;simp only[H4,O8];by_cases h1:x.length<y.length
 ·rw[if_pos (by omega)]
 ·rcases h with h|⟨rfl,h⟩
  ·rw[if_neg h1]at h;by_cases h2:y.length<x.length
   ·rw[if_pos h2]at h;exact absurd h (by decide)
   ·rw[if_neg h2]at h;rw[if_neg (by omega),if_neg (by omega)];exact vG x y a b (by omega) (.inl h)
  ·rw[if_neg (by omega),if_neg (by omega)];exact vG x x a b rfl (.inr ⟨rfl,h⟩)
def wd(W:A4)(c:Nat):A2:=(W[c]?).getD []
def fK{W:A4}{c:Nat}{w:A2}(h:W[c]?=some w):wd W c=w:=by
 unfold wd;rw[h,E7]
section
variable {W N O:A4}{I:Nat}{ov:A2->Int}
def tree_kid(T:V9 W I (λv=>v∈W) ov N O){c i u:Nat}(h:((N[c]?).getD [])[i]?=some (u:Int)) :
  c<W.length/\i<I/\W[u]?=some (wd W c++[(i:Int)]):=by
 have hl:=T.gn.len
 have hc:c<W.length:=by
  rcases J3 c W.length with g|g
  ·exact g
  ·rw[L0 (l:=N) (by omega)]at h;simp at h
 have hi:i<I:=by
  obtain⟨x,x1,x2⟩:=T.gn.row c hc;rw[x1,E7]at h;have:=(E0.1 h).1;omega
 refine⟨hc,hi,?_⟩
 have hg:gx N c i=(u:Int):=by
  unfold gx;rw[h,E7]
 have hw:=get_at hc;rw[fK hw];by_cases d:W[c]++[(i:Int)]∈W
 ·have:=(T.yes c i _ hw hi d).1;have e:u=W.idxOf (W[c]++[(i:Int)]):=by omega
  rw[e];exact gI d
 ·have:=(T.no c i _ hw hi d).1;omega
def tree_ren(H:Stem W)(T:V9 W I (λv=>v∈W) ov N O)(hI:I<=64)(hn:W.length<=1000000):fJ (⟨(I:Int),0,N,O⟩:A9):=by
 have hl:=T.gn.len;have h0:=(E0.1 H.hd).1;refine⟨by simp,by simp only;omega,by simp only;omega,⟨0,rfl,by simp only;omega⟩,?_,?_,λq a hq ha=>?_⟩
 ·simp only[H6,hl];exact T.gn
 ·simp only[H6,hl];exact T.go
 ·simp only[H6]at hq ha ⊢;rw[hl]at hq;have hw:=get_at hq;by_cases d:W[q]++[(a:Int)]∈W
  ·refine .inr ⟨_,(T.yes q a _ hw ha d).1,?_⟩;rw[hl];exact cP d
  ·exact .inl (T.no q a _ hw ha d).1
def tree_ord(H:Stem W)(T:V9 W I (λv=>v∈W) ov N O)(hI:I<=64)(hn:W.length<=1000000)(hlet:∀w x,w++[x]∈W->∃a:Nat,x=(a:Int)/\a<I) :
  (ordP (⟨(I:Int),0,N,O⟩:A9)).map (wd W)=sortW W:=by
 have R:=tree_ren H T hI hn;have hl:=T.gn.len;obtain⟨nums,_,A⟩:=jA R;have h0:=H.hd
 have a2:∀{c t:Nat},kids (λc=>(N[c]?).getD []) c t->∃i,W[t]?=some (wd W c++[(i:Int)]):=λ{c t} h=>by
  obtain⟨i,hi,e⟩:=aQ h;exact⟨i,(tree_kid T (by rw[get_at hi,e])).2.2⟩
 have hs:(ordP (⟨(I:Int),0,N,O⟩:A9)).Pairwise (λu v=>cmpW (wd W u) (wd W v)=-1):=by
  unfold ordP;simp only;refine zJ (R:=λc=>(N[c]?).getD []) (lt:=λu v=>cmpW (wd W u) (wd W v)=-1) (st:=Int.toNat 0) (λc i j u v a7 h1 h2=>?_) (λc t ht=>?_) (λc t ht=>?_) (λu v c d a6 hu hv=>?_) _ 0 [Int.toNat 0] (by simp) (λw hw=>.inl (I7.1 hw))
  ·rw[fK (tree_kid T h1).2.2,fK (tree_kid T h2).2.2];exact nA (.inr ⟨rfl,by omega⟩)
  ·obtain⟨i,hi,e⟩:=aQ ht
   have hc:c<N.length:=by
    rcases J3 c N.length with g|g
    ·exact g
    ·rw[L0 g]at hi;simp at hi
   have hx:=get_at hc
   have a5:i<I:=by
    obtain⟨x,x1,x2⟩:=T.gn.row c (by omega);rw[x1]at hi;simp only[E7]at hi;omega
   have hg:gx N c i=t:=by
    unfold gx;rw[get_at (l:=(N[c]?).getD []) hi,E7,e]
   rcases R.rng c i (by simp only;omega) (by simpa using a5) with q|⟨u,q,_⟩
   ·simp only at q;exact .inl (by omega)
   ·simp only at q;exact .inr (by omega)
  ·obtain⟨i,hi⟩:=a2 ht;rw[fK hi,fK (c:=Int.toNat 0) h0];unfold cmpW;rw[if_pos (by simp)]
  ·obtain⟨i,hi⟩:=a2 hu;obtain⟨j,hj⟩:=a2 hv;rw[fK hi,fK hj];exact nA (.inl a6)
 have a3:∀(n:Nat) (w:A2),w.length=n->w∈W->W.idxOf w∈ordP (⟨(I:Int),0,N,O⟩:A9):=by
  intro n
  induction n with
  |zero =>
   intro w hw hm;have:w=[]:=V0 hw;subst this;rw[pT H.nd h0];exact vY _
  |succ n ih =>
   intro w hw hm;rcases zB w with rfl|⟨v,x,rfl⟩
   ·simp at hw
   rw[zA]at hw hm ⊢;obtain⟨a,rfl,ha⟩:=hlet v x hm;have hv:=H.pc v _ hm;have h1:=ih v (by simpa using hw) hv;have hy:=(T.yes _ a v (gI hv) ha hm).1;have h2:=(nO R h1 (a:=a) (by simpa using ha)).resolve_left (by simp only;omega);simp only[hy,H6]at h2;exact h2
 refine mK (lR.2 hs) (dC W) λw=>?_;rw[Q3];constructor
 ·intro h;obtain⟨c,hc,rfl⟩:=H0.1 h;have a4:c<W.length:=by have:=A.lt c hc;simp only at this;omega
  rw[fK (get_at a4)];exact M8 a4
 ·intro h;exact H0.2 ⟨_,a3 _ w rfl h,fK (gI h)⟩
def tree_sorted(H:Stem W)(T:V9 W I (λv=>v∈W) ov N O)(hI:I<=64)(hn:W.length<=1000000)(hlet:∀w x,w++[x]∈W->∃a:Nat,x=(a:Int)/\a<I) :
  V9 (sortW W) I (λv=>v∈sortW W) ov (renP (⟨(I:Int),0,N,O⟩:A9)).N (renP (⟨(I:Int),0,N,O⟩:A9)).O:=by
 have R:=tree_ren H T hI hn;have hl:=T.gn.len;obtain⟨nums,_,A⟩:=jA R;have a2:=tree_ord H T hI hn hlet
 have b2:(sortW W).Nodup:=(dC W).imp λ{a b} h e=>by
  rw[e,eQ]at h;exact absurd h (by decide)
 have a7:=A.lt;unfold renP;simp only;generalize ordP (⟨(I:Int),0,N,O⟩:A9)=F at a2 a7;have b3:F.length=(sortW W).length:=by rw[<- a2,B7]
 have hF:∀(q:Nat) (w:A2),(sortW W)[q]?=some w->∃c,F[q]?=some c/\W[c]?=some w:=λq w h=>by
  rw[<- a2,H1]at h;cases e:F[q]? with
  |none=>rw[e]at h;simp at h
  |some c =>
   rw[e]at h;simp only[J4,D6]at h;have hc:=a7 c (G6 e);simp only at hc;have hw:=get_at (l:=W) (i:=c) (by omega);rw[fK hw]at h;exact⟨c,rfl,by rw[hw,h]⟩
 have a6:∀v,v∈W->F.idxOf (W.idxOf v)=(sortW W).idxOf v/\W.idxOf v∈F:=λv hv=>by
  have hm:v∈sortW W:=(Q3 W v).2 hv;obtain⟨c,h1,h2⟩:=hF _ v (gI hm);have hc:=pT H.nd h2;have a8:W.idxOf v∈F:=by rw[hc];exact G6 h1
  refine⟨?_,a8⟩;have a5:=cP a8
  have h3:(sortW W)[F.idxOf (W.idxOf v)]?=some v:=by
   rw[<- a2,H1,get_at a5,iG a5,J4,fK (gI hv)]
  exact(pT b2 h3).symm
 have a4:∀(f:Nat->A2) (g:Nat->Nat->Int),(∀c,f c=(List.range I).map (g c))->∀q a c,F[q]?=some c->a<I->gx (F.map f) q a=g c a:=λf g hf q a c hq ha=>by
  unfold gx;rw[H1,hq,J4,E7,hf,H1,P4 ha,J4,E7]
 have a3:∀(f:Nat->A2),(∀c,(f c).length=I)->Grid (sortW W).length I (F.map f):=λf hf=>⟨by rw[B7,b3],λq hq=>by
  rw[H1,get_at (l:=F) (by omega),J4]
  exact⟨_,rfl,hf _⟩⟩
 refine⟨a3 _ λc=>by unfold U0;simp,a3 _ λc=>by unfold Z0;simp,λq a w hw ha hd=>?_,λq a w hw ha hd=>?_⟩
 ·obtain⟨c,h1,h2⟩:=hF q w hw;have a9:=(Q3 W _).1 hd;obtain⟨y1,y2⟩:=T.yes c a w h2 ha a9;obtain⟨z1,z2⟩:=a6 _ a9;rw[a4 _ (λc a=>numT F (gx N c a)) (λc=>by unfold U0;simp) q a c h1 ha,a4 _ (λc a=>if gx N c a=-1 then(-1:Int) else gx O c a) (λc=>by unfold Z0;simp) q a c h1 ha];rw[y1,y2];refine⟨?_,if_neg (by omega)⟩;unfold numT;rw[if_pos ⟨by omega,by rw[H6];exact z2⟩,H6,z1]
 ·obtain⟨c,h1,h2⟩:=hF q w hw;obtain⟨y1,y2⟩:=T.no c a w h2 ha λh=>hd ((Q3 W _).2 h);rw[a4 _ (λc a=>numT F (gx N c a)) (λc=>by unfold U0;simp) q a c h1 ha,a4 _ (λc a=>if gx N c a=-1 then(-1:Int) else gx O c a) (λc=>by unfold Z0;simp) q a c h1 ha];rw[y1];refine⟨?_,if_pos rfl⟩;unfold numT;rw[if_neg λh=>h.1 rfl]
end
end
section
section
variable {o:G7}{S:A4}
end
def ovT_rng{o:G7}(hv:X0 o){v:A2}{x:Int}(h:v++[x]∈allP o):(∃a:Nat,x=(a:Int)/\a<o.I.toNat)/\0<=ovT o.T (v++[x])/\ovT o.T (v++[x])<=1048576:=by
 obtain⟨i1,i2⟩:=hv.inp;obtain⟨t,ht,hp⟩:=(dX.1 h).resolve_left (by simp);have a2:=hp.length_le;rw[H4,O8]at a2;have he:=yU.1 hp;rw[H4,O8]at he;have hx:x∈t.In:=hp.subset (L2 _ (I7.2 rfl));obtain⟨c1,c2⟩:=(lG (hv.prop t ht).1.1).2 x hx;have a3:=ovT_eq hv ht (k:=v.length) (by omega);rw[<- he]at a3;obtain⟨o1,o2⟩:=(hv.prop t ht).1.2.2 _ (G6 a3);exact⟨⟨x.toNat,by omega,by omega⟩,o1,o2⟩
end
def red0(p:A9):List Bool:=List.set (List.replicate p.N.length false) 0 true
def learn_start{P:A9}(H:H7 P)(G:Conn P):LrnI P (red0 P):=⟨H,G,by unfold red0;rw[P2,K7]⟩
def H7.valid{p:A9}(H:H7 p):iM p=0:=by
 have h1:=H.i1;have h2:=H.i2;have h3:=H.n1;have h4:=H.n2;have h5:=H.st;have h6:=H.ol
 have hs:scan (rowG p) 0 p.N=none:=dD.2 λs x hx=>by
  have a2:=(E0.1 hx).1;obtain⟨x',y,e1,e2,e3,e4,e5⟩:=H.row s a2;rw[hx]at e1;injection e1 with e1
  subst e1;unfold rowG;rw[E8,e2,E7,if_neg (by omega)];refine dD.2 λa t ht=>?_;have a3:=(E0.1 ht).1;have ho:=get_at (l:=y) (i:=a) (by omega);obtain⟨k1,k2,k3,k4,k5⟩:=e5 a t _ ht ho
  have hc:bZ p.N.length t y[a]=0:=by
   unfold bZ;rw[if_neg (by omega),if_neg (λh=>h (propext k5))]
  unfold cellP;rw[E8,ho,E7,hc,if_neg (λh=>h rfl)]
 unfold iM;rw[if_neg (by omega),if_neg (by omega),if_neg (by omega),if_neg (by omega),if_neg (by omega),hs]
def Goes(p:A9):Nat->A2->A2->Nat->Prop
 |q,[],y,c=>y=[]/\c=q
 |q,x::w,y,c=>∃(a u:Nat) (y':A2),x=(a:Int)/\pnx p q a=(u:Int)/\y=pot p q a::y'/\Goes p u w y' c
def Goes.snoc{p:A9}:∀{w y:A2} {q c:Nat},Goes p q w y c->∀{a u:Nat},pnx p c a=(u:Int)->Goes p q (w++[(a:Int)]) (y++[pot p c a]) u
 |[],y,q,c,h,a,u,hu=>by
  obtain⟨rfl,rfl⟩:=h;exact⟨a,u,[],rfl,hu,rfl,rfl,rfl⟩
 |x::w,y,q,c,h,a,u,hu=>by
  obtain⟨b,v,y',h1,h2,rfl,h4⟩:=h;exact⟨b,v,_,h1,h2,rfl,h4.snoc hu⟩
def Goes.split{p:A9}:∀{w w' y:A2} {q d:Nat},Goes p q (w++w') y d->∃c y1 y2,y=y1++y2/\Goes p q w y1 c/\Goes p c w' y2 d
 |[],w',y,q,d,h=>⟨q,[],y,rfl,⟨rfl,rfl⟩,h⟩
 |x::w,w',y,q,d,h=>by
  obtain⟨b,v,z,h1,h2,rfl,h4⟩:=h;obtain⟨c,y1,y2,rfl,h5,h6⟩:=h4.split;exact⟨c,_,y2,rfl,⟨b,v,y1,h1,h2,rfl,h5⟩,h6⟩
def Goes.det{p:A9}:∀{w y y':A2} {q c c':Nat},Goes p q w y c->Goes p q w y' c'->y=y'/\c=c'
 |[],y,y',q,c,c',h,k=>by
  obtain⟨rfl,rfl⟩:=h;obtain⟨rfl,rfl⟩:=k;exact⟨rfl,rfl⟩
 |x::w,y,y',q,c,c',h,k=>by
  obtain⟨b,v,z,h1,h2,rfl,h4⟩:=h;obtain⟨b',v',z',k1,k2,rfl,k4⟩:=k;have e:b=b':=by omega
  subst e;have e:v=v':=by omega
  subst e;obtain⟨rfl,rfl⟩:=h4.det k4;exact⟨rfl,rfl⟩
def Goes.lt{p:A9}(H:H7 p):∀{w y:A2} {q c:Nat},q<p.N.length->Goes p q w y c->c<p.N.length
 |[],y,q,c,hq,h=>by rw[h.2];exact hq
 |x::w,y,q,c,hq,h=>by
  obtain⟨b,v,z,h1,h2,rfl,h4⟩:=h;exact h4.lt H (Q4 H h2).2.2
def Goes.rs{p:A9}:∀{w y:A2} {q c:Nat},RS p q->Goes p q w y c->RS p c
 |[],y,q,c,hq,h=>by rw[h.2];exact hq
 |x::w,y,q,c,hq,h=>by
  obtain⟨b,v,z,h1,h2,rfl,h4⟩:=h;exact h4.rs (.step b v hq h2)
structure Hom(p p':A9)(h:Nat->Nat):Prop where
 inp:p'.I=p.I
 st:p'.S.toNat=h p.S.toNat
 mv:∀q a (u:Nat),RS p q->pnx p q a=(u:Int)->pnx p' (h q) a=(↑(h u):Int)/\pot p' (h q) a=pot p q a
def Hom.goes{p p':A9}{h:Nat->Nat}(K:Hom p p' h):∀{w y:A2} {q c:Nat},RS p q->Goes p q w y c->Goes p' (h q) w y (h c)
 |[],y,q,c,hq,g=>by
  obtain⟨rfl,rfl⟩:=g;exact⟨rfl,rfl⟩
 |x::w,y,q,c,hq,g=>by
  obtain⟨b,v,z,h1,h2,rfl,h4⟩:=g;obtain⟨k1,k2⟩:=K.mv q b v hq h2;exact⟨b,h v,z,h1,k1,by rw[k2],K.goes (.step b v hq h2) h4⟩
def renP_at{Q:A9}(R:fJ Q){c a:Nat}(hc:c∈ordP Q)(ha:a<Q.I.toNat)(h:gx Q.N c a≠-1):pnx (renP Q) ((ordP Q).idxOf c) a=(↑((ordP Q).idxOf (gx Q.N c a).toNat):Int)/\pot (renP Q) ((ordP Q).idxOf c) a=gx Q.O c a:=by
 have hm:=(nO R hc ha).resolve_left h;have a2:=cP hc;constructor
 ·unfold pnx renP;rw[H1,get_at a2,J4,E7,iG a2];unfold U0;rw[H1,P4 ha,J4,E7];unfold numT;rw[if_pos ⟨h,hm⟩]
 ·unfold pot renP;rw[H1,get_at a2,J4,E7,iG a2];unfold Z0;rw[H1,P4 ha,J4,E7,if_neg h]
def fold_hom{p Q:A9}{cl:Nat->Nat}(H:H7 p)(K:eK p Q cl):Hom p (renP Q) λq=>(ordP Q).idxOf (cl q):=by
 refine⟨K.inp,?_,λq a u hq hu=>?_⟩
 ·have h0:(ordP Q).idxOf Q.S.toNat=0:=by
   obtain⟨T,hT⟩:=oU (λc=>(Q.N[c]?).getD []) (Q.N.length+1) 0 [Q.S.toNat];unfold ordP;rw[<- hT];simp
  rw[K.st,H6]at h0;rw[h0];rfl
 ·obtain⟨h1,h2,h3⟩:=Q4 H hu;have hc:=K.lt q h1;obtain⟨r1,r2⟩:=K.row (cl q) a hc h2 (K.idem q h1);have a2:pnx p q a≠-1:=by omega
  have hg:gx Q.N (cl q) a≠-1:=λe=>a2 (r1 e q h1 rfl);obtain⟨k1,k2⟩:=(r2 hg).2 q h1 rfl a2;obtain⟨l1,l2⟩:=renP_at K.ren (K.mem H hq) (by rw[K.inp];exact h2) hg;rw[l1,l2,k1,k2,H6,hu,H6];exact⟨rfl,rfl⟩
def tree_goes{S:A4}{I:Nat}{ov:A2->Int}{P:A9}(T:V9 S I (λv=>v∈S) ov P.N P.O){t:C7}(hl:t.O.length=t.In.length)(hS:∀k,t.In.take k∈S)(hlet:∀x∈t.In,∃a:Nat,x=(a:Int)/\a<I)(hov:∀k,k<t.In.length->t.O[k]?=some (ov (t.In.take (k+1)))) :
  ∀n k,k+n=t.In.length->Goes P (S.idxOf (t.In.take k)) (t.In.drop k) (t.O.drop k) (S.idxOf t.In)
 |0,k,e=>by
  rw[rM (by omega),rM (by omega),fG (by omega)];exact⟨rfl,rfl⟩
 |n+1,k,e=>by
  have hk:k<t.In.length:=by omega
  obtain⟨a,ha,hI⟩:=hlet _ (M8 hk);have hx:=get_at hk
  have a2:t.In.take (k+1)=t.In.take k++[(a:Int)]:=by
   rw[List.take_add_one,hx,ha];rfl
  have hm:=hS (k+1);rw[a2]at hm;obtain⟨h1,h2⟩:=T.yes _ a _ (gI (hS k)) hI hm;have ho:=hov k hk;have a3:=get_at (l:=t.O) (i:=k) (by omega);rw[a3]at ho;injection ho with ho
  rw[fI hk,fI (by omega:k<t.O.length)];refine⟨a,S.idxOf (t.In.take (k+1)),t.O.drop (k+1),ha,by rw[a2];exact h1,?_,tree_goes T hl hS hlet hov n (k+1) (by omega)⟩;rw[ho,a2,<- h2];rfl
def sort_nil{l:A4}(h:[]∈l):(sortW l).idxOf []=0:=by
 have hm:[]∈sortW l:=(Q3 l []).2 h;have hi:=gI hm;rcases dJ ((sortW l).idxOf []) with e|e
 ·exact e
 ·have a2:=cP hm;have:=(dC l).get e (get_at (by omega)) hi;unfold cmpW at this;rw[if_neg (by simp)]at this;split at this
  ·exact absurd this (by decide)
  ·rename_i g;have e0:(sortW l)[0]'(by omega)=[]:=V0 (by simpa using g);rw[e0]at this;exact absurd this (by decide)
def tree_run{o:G7}(hv:X0 o){P:A9}(h0:P.S=0)(T:V9 (sortW (allP o)) o.I.toNat (λv=>v∈sortW (allP o)) (ovT o.T) P.N P.O){t:C7}(ht:t∈o.T):Goes P P.S.toNat t.In t.O ((sortW (allP o)).idxOf t.In):=by
 obtain⟨i1,i2⟩:=hv.inp
 have:=tree_goes T (hv.prop t ht).1.2.1 (λk=>(Q3 _ _).2 (dX.2 (.inr ⟨t,ht,rF _ _⟩))) (λx hx=>by
  obtain⟨c1,c2⟩:=(lG (hv.prop t ht).1.1).2 x hx
  exact⟨x.toNat,by omega,by omega⟩) (λk hk=>ovT_eq hv ht hk) t.In.length 0 (by omega)
 rw[rC,rD,rD,sort_nil (dX.2 (.inl rfl))]at this;rw[h0];exact this
section
def tree_prog{o:G7}(ho:SmO o)(hv:X0 o)(hP:(allP o).length<=4090) :
  ∃P:A9,P3 o=some (P,0)/\H7 P/\Conn P/\P.S=0/\P.I=o.I/\V9 (sortW (allP o)) o.I.toNat (λv=>v∈sortW (allP o)) (ovT o.T) P.N P.O/\∃Q,P=renP Q/\fJ Q:=by
 obtain⟨i1,i2⟩:=hv.inp;have hn:=hv.num;obtain⟨W,N,O,e1,K,hW⟩:=tree_loop56 hv hP;have a9:=K.le;have a2:(o.I.toNat:Int)=o.I:=oO (by omega);have hI:o.I.toNat<=64:=by omega
 have a5:∀w x,w++[x]∈W->∃a:Nat,x=(a:Int)/\a<o.I.toNat:=λw x h=>(ovT_rng hv (K.sub _ h)).1;have R:=tree_ren K.st K.tm hI (by omega);have TS:=tree_sorted K.st K.tm hI (by omega) a5;have a7:sortW W=sortW (allP o):=mK (dC _) (dC _) λx=>by rw[Q3,Q3];exact hW x
 rw[a7,a2]at TS;rw[a2]at R;obtain⟨nums,e2,A⟩:=jA R;have hl:=K.tm.gn.len
 have a6:H7 (renP (⟨o.I,0,N,O⟩:A9)):=renP_ok R i1 (by simp only;omega) λc a hc ha a3=>by
  have a8:c<W.length:=by have:=A.lt c hc;simp only at this;omega
  have hw:=get_at a8;simp only at ha a3 ⊢;by_cases d:W[c]++[(a:Int)]∈W
  ·rw[(K.tm.yes c a _ hw ha d).2];exact(ovT_rng hv (K.sub _ d)).2
  ·exact absurd (K.tm.no c a _ hw ha d).1 a3
 have a4:Z7 o.I=some (List.replicate o.I.toNat (-1)):=by
  have:=tJ (x:=o.I.toNat) (by omega)
  rwa [a2]at this
 refine⟨renP ⟨o.I,0,N,O⟩,?_,a6,renP_conn R,rfl,rfl,TS,_,rfl,R⟩;unfold P3;rw[zrl ho hv,A5,B1 (by decide),a4,A5,A5,e1,A5];simp only[T6,P3.k57];rw[e2,A5]
section
variable {p:A9}
def eK.ord{Q:A9}{cl:Nat->Nat}(H:H7 p)(K:eK p Q cl):OrdI p.N.length cl (ordP Q):=by
 obtain⟨nums,_,A⟩:=jA K.ren;refine⟨A.nd,λc hc=>⟨by have:=A.lt c hc;rwa [K.len]at this,?_⟩⟩;have a4:=H.st
 have key:=vM (λc=>(Q.N[c]?).getD []) (λc=>c<p.N.length/\cl c=c) (λc ⟨h1,h2⟩ t ht a3=>by
  obtain⟨i,hi,e⟩:=aQ ht
  obtain⟨x,x1,x2⟩:=K.ren.gn.row c (by rw[K.len];exact h1)
  have a2:i<p.I.toNat:=by
   rw[x1,E7,x2,K.inp]at hi
   exact hi
  have hg:gx Q.N c i=t:=by
   unfold gx
   rw[get_at (l:=(Q.N[c]?).getD []) hi,E7,e]
  obtain⟨⟨r,r1,r2,r3⟩,h4⟩:=(K.row c i h1 a2 h2).2 (by rw[hg];exact a3)
  obtain⟨h5,_⟩:=h4 r r1 r2 r3
  rw[hg]at h5
  obtain⟨b1,b2,_⟩:=H.at r1 a2
  rw[h5,H6]
  exact⟨K.lt _ (by omega),K.idem _ (by omega)⟩) (Q.N.length+1) 0 [Q.S.toNat] (λc hc=>by
  rw[I7.1 hc,K.st,H6]
  exact⟨K.lt _ (by omega),K.idem _ (by omega)⟩) c hc
 exact key.2
def quo_part{Q:A9}{cl:Nat->Nat}(H:H7 p)(K:eK p Q cl):H7 (renP Q)/\(renP Q).N.length<=p.N.length/\((∃x,x<p.N.length/\cl x≠x)->(renP Q).N.length<p.N.length):=by
 have hO:=K.ord H;have a2:(renP Q).N.length=(ordP Q).length:=by unfold renP;simp only[B7]
 refine⟨renP_ok K.ren (by rw[K.inp];exact H.i1) (by rw[K.len];exact H.n2) λc a hc ha h=>?_,by rw[a2];exact hO.le,λ⟨x,x1,x2⟩=>?_⟩
 ·obtain⟨c1,c2⟩:=hO.lt c hc;rw[K.inp]at ha;obtain⟨⟨r,r1,r2,r3⟩,h3⟩:=(K.row c a c1 ha c2).2 h;obtain⟨_,h4⟩:=h3 r r1 r2 r3;obtain⟨b1,b2,b3,b4,b5,_⟩:=H.at r1 ha;rw[<- h4];exact⟨by omega,b4⟩
 ·rw[a2]
  have:=eV (a:=x::ordP Q) (b:=List.range p.N.length) (aR.2 ⟨λh=>x2 (hO.lt x h).2,hO.nd⟩) λy hy=>by
   rcases M4.1 hy with rfl|hy
   ·exact K6.2 x1
   ·exact K6.2 (hO.lt y hy).1
  rw[G8,M5]at this;omega
structure BlueB(p:A9)(red:List Bool)(b:Nat):Prop where
 lt:b<p.N.length
 wh:red[b]?=some false
 ex:∃r a,bG p red r a b
 le:∀r a c,bG p red r a c->b<=c
structure FoldB(p:A9)(red:List Bool)(r0 b:Nat)(Q:A9)(cl:Nat->Nat)(red':List Bool):Prop where
 rd0:red[r0]?=some true
 no:¬P8 p r0 b
 quo:eK p Q cl
 cls:∀q,q<p.N.length->cl q=clsOf p r0 b q
 rds:∀i,red'[i]?=some true↔∃q,red[q]?=some true/\(ordP Q).idxOf (cl q)=i
 ok:LrnI (renP Q) red'
 lt:(renP Q).N.length<p.N.length
end
end
section
section
variable {p:A9}
noncomputable def scF(p:A9)(r b:Nat):Nat:=scP p (clsOf p r b)
noncomputable def bestF(p:A9)(red:List Bool)(b:Nat):Nat->Option (Nat×Nat)
 |0=>none
 |k+1=>by
  classical
  exact if red[k]?=some true/\¬P8 p k b/\∀x,bestF p red b k=some x->x.2<scF p k b then some (k,scF p k b) else bestF p red b k
def sZ{red:List Bool}{b k:Nat}(h:red[k]?=some true/\¬P8 p k b/\∀x,bestF p red b k=some x->x.2<scF p k b):bestF p red b (k+1)=some (k,scF p k b):=by
 rw[bestF,if_pos h]
def nH{red:List Bool}{b k:Nat}(h:¬(red[k]?=some true/\¬P8 p k b/\∀x,bestF p red b k=some x->x.2<scF p k b)):bestF p red b (k+1)=bestF p red b k:=by
 rw[bestF,if_neg h]
def zX{red:List Bool}{b:Nat}:∀{k:Nat} {x:Nat×Nat},bestF p red b k=some x->x.1<k/\red[x.1]?=some true/\¬P8 p x.1 b/\x.2=scF p x.1 b
 |0,x,h=>by rw[bestF]at h;cases h
 |k+1,x,h=>by
  by_cases g:red[k]?=some true/\¬P8 p k b/\∀x,bestF p red b k=some x->x.2<scF p k b
  ·rw[sZ g]at h;injection h with h
   subst h;exact⟨jG _,g.1,g.2.1,rfl⟩
  ·rw[nH g]at h;obtain⟨h1,h2⟩:=zX h;exact⟨by omega,h2⟩
def zO{red:List Bool}{b:Nat}:∀{k:Nat},bestF p red b k=none->∀r,r<k->red[r]?=some true->P8 p r b
 |0,_,r,hr,_=>absurd hr (O4 _)
 |k+1,h,r,hr,hred=>by
  by_cases g:red[k]?=some true/\¬P8 p k b/\∀x,bestF p red b k=some x->x.2<scF p k b
  ·rw[sZ g]at h;cases h
  ·rw[nH g]at h;by_cases e:r=k
   ·subst e;refine Q9 λc=>g ⟨hred,c,λx hx=>?_⟩;rw[h]at hx;cases hx
   ·exact zO h r (by omega) hred
def encB(b:Nat):Option (Nat×Nat)->Int×Int×Nat
 |none=>(0,0,0)
 |some x=>((x.2:Int),(b:Int),x.1)
def encBC(b:Nat):Option (Nat×Nat)->X7
 |none=>⟨0,0,0⟩
 |some x=>⟨(x.2:Int),(b:Int),(x.1:Int)⟩
def cz_false{c:X7}(h:c.blue≠0):(decide (c.score=0)&&(decide (c.blue=0)&&(decide (c.red=0)&&true)))=false:=by
 rw[I3 h];simp
def ev_best(H:H7 p){red:List Bool}(hr:red.length=p.N.length){b:Nat}(hb:b<p.N.length)(h0:b≠0):aN p red (b:Int)=some (encBC b (bestF p red b p.N.length)):=by
 have hn:=H.n2
 have key:=J2 (step:=λ(s:Int×Int×Nat×Nat)=>aN.s10 p red (b:Int) s.1 s.2.1 s.2.2.1 s.2.2.2) (λs=>s.2.2.2<=p.N.length/\(s.1,s.2.1,s.2.2.1)=encB b (bestF p red b s.2.2.2)) (λs=>p.N.length-s.2.2.2) (λr=>r=encB b (bestF p red b p.N.length)) (λ⟨x,y,z,k⟩ ⟨g1,g2⟩=>by
  simp only at g1 g2
  simp only[aN.s10]
  by_cases h:k<p.N.length
  ·left
   have hx:=get_at (l:=red) (i:=k) (by omega)
   rw[C2,B8 hx]
   cases hc:red[k]with
   |false =>
    have hs:bestF p red b (k+1)=bestF p red b k:=nH λg=>by rw[hx,hc]at g;cases g.1
    exact⟨(x,y,z,k+1),by rw[cN,F7,A5];rfl,⟨h,by simp only;rw[hs,g2]⟩,by simp only;omega⟩
   |true =>
    rw[hc]at hx
    rw[Z9,G5]
    rcases ev_score H h hb with⟨f1,f2⟩|⟨f1,f2⟩
    ·have hs:bestF p red b (k+1)=bestF p red b k:=nH λg=>g.2.1 f1
     exact⟨(x,y,z,k+1),by rw[f2,A5,G5,A5,G5,A5];rfl,⟨h,by simp only;rw[hs,g2]⟩,by simp only;omega⟩
    ·have f2:Q5 p (k:Int) (b:Int)=some ((↑(scF p k b):Int),true):=f2
     rw[f2,A5,F7]
     cases hB:bestF p red b k with
     |none =>
      rw[hB]at g2
      simp only[encB,H5]at g2
      obtain⟨rfl,rfl,rfl⟩:=g2
      have hs:bestF p red b (k+1)=some (k,scF p k b):=sZ ⟨hx,f1,λx h=>by rw[hB]at h;cases h⟩
      exact⟨((↑(scF p k b):Int),(b:Int),k,k+1),by rw[show(decide ((0:Int)=0)&&(decide ((0:Int)=0)&&(decide ((↑(0:Nat):Int)=0)&&true)))=true from rfl,F7,A5,F7,A5];rfl,⟨h,by simp only;rw[hs];rfl⟩,by simp only;omega⟩
     |some w =>
      rw[hB]at g2
      simp only[encB,H5]at g2
      obtain⟨rfl,rfl,rfl⟩:=g2
      have hz:(decide ((w.2:Int)=0)&&(decide ((b:Int)=0)&&(decide ((w.1:Int)=0)&&true)))=false:=by
       rw[I3 (by omega:¬(b:Int)=0)]
       simp
      rw[hz,G5,A5]
      by_cases a2:w.2<scF p k b
      ·have hs:bestF p red b (k+1)=some (k,scF p k b):=sZ ⟨hx,f1,λx h=>by rw[hB]at h;injection h with h;rw[<- h];exact a2⟩
       exact⟨((↑(scF p k b):Int),(b:Int),k,k+1),by rw[C2 (by simp only;omega),A5];rfl,⟨h,by simp only;rw[hs];rfl⟩,by simp only;omega⟩
      ·have hs:bestF p red b (k+1)=some w:=(nH λg=>a2 (g.2.2 w hB)).trans hB
       exact⟨((w.2:Int),(b:Int),w.1,k+1),by rw[B1 (by simp only;omega),A5];rfl,⟨h,by simp only;rw[hs];rfl⟩,by simp only;omega⟩
  ·right
   have e1:k=p.N.length:=by omega
   subst e1
   exact⟨(x,y,z),by rw[B1],g2⟩) (0,0,0,0) ⟨D8 _,rfl⟩
 obtain⟨r,e1,rfl⟩:=key;unfold aN;rw[e1,A5];cases bestF p red b p.N.length<;>rfl
noncomputable def clsL(p:A9)(r b:Nat):A2:=(List.range p.N.length).map λq=>(↑(clsOf p r b q):Int)
end
end
section
section
variable {p:A9}
structure BlM(p:A9)(red:List Bool)(r k:Nat)(is:List Bool):Prop where
 len:is.length=p.N.length
 at_:∀b,is[b]?=some true↔∃r' a,(r'<r\/r'=r/\a<k)/\bG p red r' a b
def BlM.skip{red is:List Bool}{r k:Nat}(B:BlM p red r k is)(h:∀b,¬bG p red r k b):BlM p red r (k+1) is:=by
 refine⟨B.len,λb=>?_⟩;rw[B.at_];refine⟨λ⟨r',a,h1,h2⟩=>⟨r',a,by omega,h2⟩,λ⟨r',a,h1,h2⟩=>⟨r',a,?_,h2⟩⟩;rcases h1 with h1|⟨h1,h3⟩
 ·exact .inl h1
 ·exact .inr ⟨h1,iH (by omega) λe=>h b (by rw[<- h1,<- e];exact h2)⟩
def BlM.put{red is:List Bool}{r k b:Nat}(B:BlM p red r k is)(hb:b<p.N.length)(h:bG p red r k b):BlM p red r (k+1) (is.set b true):=by
 refine⟨by rw[P2];exact B.len,λc=>?_⟩;by_cases e:c=b
 ·rw[e,P5 (by rw[B.len];exact hb)];exact⟨λ_=>⟨r,k,.inr ⟨rfl,by omega⟩,h⟩,λ_=>rfl⟩
 ·rw[O3 (λg=>e g.symm),B.at_];refine⟨λ⟨r',a,h1,h2⟩=>⟨r',a,by omega,h2⟩,λ⟨r',a,h1,h2⟩=>⟨r',a,?_,h2⟩⟩;rcases h1 with h1|⟨h1,h3⟩
  ·exact .inl h1
  ·refine .inr ⟨h1,iH (by omega) λe2=>e ?_⟩;have q1:=h2.2.1;have q2:=h.2.1;rw[h1,e2]at q1;omega
def BlM.row(H:H7 p){red is:List Bool}{r:Nat}(B:BlM p red r p.I.toNat is):BlM p red (r+1) 0 is:=by
 refine⟨B.len,λb=>?_⟩;rw[B.at_];refine⟨λ⟨r',a,h1,h2⟩=>⟨r',a,by omega,h2⟩,λ⟨r',a,h1,h2⟩=>⟨r',a,?_,h2⟩⟩;have:=(Q4 H h2.2.1).2.1;omega
def loop_brow(H:H7 p){red:List Bool}(hr:red.length=p.N.length){r:Nat}(hrl:r<p.N.length){e:Bool}(he:red[r]?=some e){x:A2}(hx:p.N[r]?=some x){is0:List Bool}(B0:BlM p red r 0 is0) :
  ∃is,iter (λ(s:List Bool×Nat)=>V3.s13 red e x s.1 s.2) fuel (is0,0)=some is/\BlM p red (r+1) 0 is:=by
 have hi:=H.i2;have b2:=H.i1
 have key:=J2 (step:=λ(s:List Bool×Nat)=>V3.s13 red e x s.1 s.2) (λs=>s.2<=p.I.toNat/\BlM p red r s.2 s.1) (λs=>p.I.toNat-s.2) (λis=>BlM p red (r+1) 0 is) (λ⟨is,k⟩ ⟨g1,B⟩=>by
  simp only at g1 B
  simp only[V3.s13]
  have a8:x.length=p.I.toNat:=by
   obtain⟨xr,yr,k1,k2,k3,k4,_⟩:=H.row r hrl
   rw[hx]at k1
   injection k1 with k1
   rw[k1];omega
  by_cases h:k<p.I.toNat
  ·left
   obtain⟨n1,n2,n3,n4,n5,xr,yr,a2,a7,a6,a9,_,_⟩:=H.at hrl h
   rw[hx]at a2
   injection a2 with a2
   subst a2
   rw[C2,B8 a6]
   cases e with
   |false =>
    exact⟨(is,k+1),by rw[G5,A5,G5],⟨h,B.skip λb c=>(by have:=c.1;rw[he]at this;cases this)⟩,by simp only;omega⟩
   |true =>
    rw[F7]
    by_cases t0:pnx p r k=-1
    ·exact⟨(is,k+1),by rw[B1 (λg=>g t0),A5,G5],⟨h,B.skip λb c=>(by have:=c.2.1;omega)⟩,by simp only;omega⟩
    ·obtain⟨b,hb⟩:∃b:Nat,pnx p r k=(b:Int):=⟨(pnx p r k).toNat,by omega⟩
     have a5:=(Q4 H hb).2.2
     have a3:=get_at (l:=red) (i:=b) (by omega)
     rw[C2 t0,D7 (i:=b) hb a3,A5]
     cases hc:red[b]with
     |true =>
      exact⟨(is,k+1),by rw[Z9,G5],⟨h,B.skip λc a4=>(by
       have q1:=a4.2.1
       have q2:=a4.2.2
       rw[show c=b by omega,a3,hc]at q2
       cases q2)⟩,by simp only;omega⟩
     |false =>
      exact⟨(is.set b true,k+1),by rw[cN,F7,D7 (i:=b) hb (get_at (l:=is) (i:=b) (by rw[B.len];exact a5)),hb,H6],⟨h,B.put a5 ⟨he,hb,by rw[a3,hc]⟩⟩,by simp only;omega⟩
  ·right
   have e1:k=p.I.toNat:=by omega
   subst e1
   exact⟨_,by rw[B1],B.row H⟩) (is0,0) ⟨D8 _,B0⟩
 exact key
def ev_bluesP(H:H7 p){red:List Bool}(hr:red.length=p.N.length):∃L:List Nat,V3 p red=some (I0 L)/\(∀b,b∈L↔∃r a,bG p red r a b)/\L.length<=p.N.length/\L.Pairwise (·<·):=by
 have hn:=H.n2
 have k1:=J2 (step:=λ(s:List Bool×Nat)=>V3.s14 p red s.1 s.2) (λs=>s.2<=p.N.length/\BlM p red s.2 0 s.1) (λs=>p.N.length-s.2) (λis=>BlM p red p.N.length 0 is) (λ⟨is,r⟩ ⟨g1,B⟩=>by
  simp only at g1 B
  simp only[V3.s14]
  by_cases h:r<p.N.length
  ·left
   have hx:=get_at (l:=red) (i:=r) (by omega)
   have hp:=get_at (l:=p.N) (i:=r) h
   obtain⟨a3,e1,B'⟩:=loop_brow H hr h hx hp B
   exact⟨(a3,r+1),by rw[C2,B8 hx,B8 hp,e1,A5],⟨h,B'⟩,by simp only;omega⟩
  ·right
   have e1:r=p.N.length:=by omega
   subst e1
   exact⟨_,by rw[B1],B⟩) (List.replicate red.length false,0) ⟨D8 _,⟨by rw[K7,hr],λb=>⟨λh=>(by
   simp only[Y8]at h
   split at h
   ·injection h with h;cases h
   ·cases h),λ⟨r',a,h1,_⟩=>absurd h1 (by simp only;omega)⟩⟩⟩
 obtain⟨is,e1,B⟩:=k1;have a4:=B.len
 have k2:=J2 (step:=λ(s:A2×Nat)=>V3.s16 is s.1 s.2) (λs=>s.2<=p.N.length/\∃L:List Nat,s.1=I0 L/\L.length<=s.2/\(∀b,b∈L↔b<s.2/\is[b]?=some true)/\L.Pairwise (·<·)) (λs=>p.N.length-s.2) (λq=>∃L:List Nat,q=I0 L/\L.length<=p.N.length/\(∀b,b∈L↔b<p.N.length/\is[b]?=some true)/\L.Pairwise (·<·)) (λ⟨y,b⟩ ⟨g1,L,g2,g3,g4,g5⟩=>by
  simp only at g1 g2 g3 g4
  subst g2
  have a2:(I0 L).length=L.length:=by unfold I0;rw[B7]
  simp only[V3.s16]
  by_cases h:b<p.N.length
  ·left
   have hx:=get_at (l:=is) (i:=b) (by omega)
   rw[C2,B8 hx]
   cases hb:is[b]with
   |false =>
    refine⟨(I0 L,b+1),by rw[G5],⟨h,L,rfl,by simp only;omega,λd=>?_,g5⟩,by simp only;omega⟩
    simp only
    rw[g4 d]
    exact⟨λq=>⟨by omega,q.2⟩,λq=>⟨iH (by omega) λe=>(by have q2:=q.2;rw[e,hx,hb]at q2;cases q2),q.2⟩⟩
   |true =>
    refine⟨(I0 (L++[b]),b+1),?_,⟨h,L++[b],rfl,by simp only[H4,O8];omega,λd=>?_,?_⟩,by simp only;omega⟩
    ·rw[F7,O6]
     unfold I0
     rw[L1]
     rfl
    ·simp only
     rw[I2,I7,g4 d]
     constructor
     ·rintro (q|q)
      ·exact⟨by omega,q.2⟩
      ·rw[q];exact⟨by omega,by rw[hx,hb]⟩
     ·intro q
      by_cases e:d=b
      ·exact .inr e
      ·exact .inl ⟨by omega,q.2⟩
    ·refine rJ.2 ⟨g5,by simp,λu hu v hv=>?_⟩
     rw[I7.1 hv]
     exact((g4 u).1 hu).1
  ·right
   have e1:b=p.N.length:=by omega
   subst e1
   exact⟨_,by rw[B1],L,rfl,g3,g4,g5⟩) ([],0) ⟨D8 _,[],rfl,D8 _,λb=>⟨λh=>(by cases h),λh=>absurd h.1 (O4 _)⟩,List.Pairwise.nil⟩
 obtain⟨q,e2,L,rfl,c0,c1,c2⟩:=k2
 have hm:∀b,b∈L↔∃r a,bG p red r a b:=λb=>by
  rw[c1,B.at_];constructor
  ·rintro⟨_,r',a,_,h⟩;exact⟨r',a,h⟩
  ·rintro⟨r',a,h⟩;obtain⟨q1,q2,q3⟩:=Q4 H h.2.1;exact⟨q3,r',a,.inl q1,h⟩
 refine⟨L,?_,hm,c0,c2⟩;unfold V3;rw[H9 ⟨by omega,eF _,by unfold B4;omega⟩,e1,A5,e2,A5]
noncomputable def chF(p:A9)(red:List Bool):Option (Nat×Nat×Nat)->List Nat->Nat⊕Option (Nat×Nat×Nat)
 |acc,[]=>.inr acc
 |acc,b::l=>match bestF p red b p.N.length with
  |none=>.inl b
  |some w=>chF p red (match acc with|none=>some (w.2,b,w.1)|some x=>if x.1<w.2 then some (w.2,b,w.1) else acc) l
def encC:Option (Nat×Nat×Nat)->X7
 |none=>⟨0,0,0⟩
 |some x=>⟨(x.1:Int),(x.2.1:Int),(x.2.2:Int)⟩
def outCh:Nat⊕Option (Nat×Nat×Nat)->X7×Int
 | .inl b=>(⟨0,0,0⟩,(b:Int))
 | .inr x=>(encC x,-1)
def chF_inl{red:List Bool}{b:Nat}:∀{L:List Nat} {acc:Option (Nat×Nat×Nat)},chF p red acc L=.inl b->b∈L/\bestF p red b p.N.length=none
 |[],acc,h=>by cases h
 |c::L,acc,h=>by
  rw[chF]at h;cases hB:bestF p red c p.N.length with
  |none =>
   rw[hB]at h;injection h with h
   rw[<- h];exact⟨U9,hB⟩
  |some w =>
   rw[hB]at h;obtain⟨h1,h2⟩:=chF_inl h;exact⟨M7 _ h1,h2⟩
def chF_inr{red:List Bool}{r:Option (Nat×Nat×Nat)}:∀{L:List Nat} {acc:Option (Nat×Nat×Nat)},chF p red acc L=.inr r->(r=acc/\(L=[]\/acc≠none))\/∃n b q,r=some (n,b,q)/\b∈L/\bestF p red b p.N.length=some (q,n)
 |[],acc,h=>by
  injection h with h
  exact .inl ⟨h.symm,.inl rfl⟩
 |c::L,acc,h=>by
  rw[chF]at h;cases hB:bestF p red c p.N.length with
  |none=>rw[hB]at h;cases h
  |some w =>
   rw[hB]at h;rcases chF_inr h with⟨h1,_⟩|⟨n,b,q,h1,h2,h3⟩
   ·cases acc with
    |none=>exact .inr ⟨w.2,c,w.1,h1,U9,hB⟩
    |some x =>
     simp only at h1;split at h1
     ·exact .inr ⟨w.2,c,w.1,h1,U9,hB⟩
     ·exact .inl ⟨h1,.inr (by simp)⟩
   ·exact .inr ⟨n,b,q,h1,M7 _ h2,h3⟩
def ev_choose(H:H7 p){red:List Bool}(hr:red.length=p.N.length){L:List Nat}(hL:∀b,b∈L->b<p.N.length/\b≠0)(hl:L.length<=1000000):bB p red (I0 L)=some (outCh (chF p red none L)):=by
 have a4:(I0 L).length=L.length:=by unfold I0;rw[B7]
 have key:=J2 (step:=λ(s:Int×Int×Int×Nat)=>bB.s2 p red (I0 L) s.1 s.2.1 s.2.2.1 s.2.2.2) (λs=>s.2.2.2<=L.length/\∃acc,(⟨s.1,s.2.1,s.2.2.1⟩:X7)=encC acc/\chF p red acc (L.drop s.2.2.2)=chF p red none L/\∀x,acc=some x->x.2.1≠0) (λs=>L.length-s.2.2.2) (λr=>(∃x y z,r=.inl (x,y,z)/\((⟨x,y,z⟩:X7),-1)=outCh (chF p red none L))\/r=.inr (outCh (chF p red none L))) (λ⟨x,y,z,i⟩ ⟨g1,acc,g2,g3,g4⟩=>by
  simp only at g1 g2 g3
  simp only[bB.s2]
  by_cases h:i<L.length
  ·have hx:=get_at (l:=L) (i:=i) h
   generalize hb:L[i]=b at hx
   obtain⟨b1,b2⟩:=hL b (G6 hx)
   have hc:(I0 L)[i]?=some (b:Int):=by unfold I0;rw[H1,hx];rfl
   have hd:L.drop i=b::L.drop (i+1):=by rw[fI h,hb]
   rw[hd,chF]at g3
   rw[C2,B8 hc,ev_best H hr b1 b2,A5]
   cases hB:bestF p red b p.N.length with
   |none =>
    right
    rw[hB]at g3
    refine⟨.inr (outCh (chF p red none L)),?_,.inr rfl⟩
    rw[<- g3]
    rfl
   |some w =>
    left
    rw[hB]at g3
    have hz:(decide ((encBC b (some w)).score=0)&&(decide ((encBC b (some w)).blue=0)&&(decide ((encBC b (some w)).red=0)&&true)))=false:=cz_false (show(b:Int)≠0 by omega)
    rw[hz,G5]
    cases acc with
    |none =>
     simp only[encC,X7.mk.injEq]at g2
     obtain⟨rfl,rfl,rfl⟩:=g2
     exact⟨((w.2:Int),(b:Int),(w.1:Int),i+1),by rw[show(decide ((0:Int)=0)&&(decide ((0:Int)=0)&&(decide ((0:Int)=0)&&true)))=true from rfl,F7,A5,F7];rfl,⟨h,some (w.2,b,w.1),rfl,g3,λx hx=>(by injection hx with hx;rw[<- hx];exact b2)⟩,by simp only;omega⟩
    |some v =>
     have hv:=g4 v rfl
     simp only[encC,X7.mk.injEq]at g2
     obtain⟨rfl,rfl,rfl⟩:=g2
     have a2:=cz_false (c:=⟨(v.1:Int),(v.2.1:Int),(v.2.2:Int)⟩) (show(v.2.1:Int)≠0 by omega)
     simp only at a2
     rw[a2,G5,A5]
     simp only at g3
     by_cases a3:v.1<w.2
     ·rw[if_pos a3]at g3
      exact⟨((w.2:Int),(b:Int),(w.1:Int),i+1),by rw[C2 (show(v.1:Int)<(encBC b (some w)).score by simp only[encBC];omega)];rfl,⟨h,some (w.2,b,w.1),rfl,g3,λx hx=>(by injection hx with hx;rw[<- hx];exact b2)⟩,by simp only;omega⟩
     ·rw[if_neg a3]at g3
      exact⟨((v.1:Int),(v.2.1:Int),(v.2.2:Int),i+1),by rw[B1 (show ¬(v.1:Int)<(encBC b (some w)).score by simp only[encBC];omega)],⟨h,some v,rfl,g3,g4⟩,by simp only;omega⟩
  ·right
   have e1:i=L.length:=by omega
   subst e1
   rw[rG,chF]at g3
   refine⟨.inl (x,y,z),by rw[B1],.inl ⟨x,y,z,rfl,?_⟩⟩
   rw[<- g3,g2]
   rfl) (0,0,0,0) ⟨D8 _,none,rfl,rfl,λx hx=>(by cases hx)⟩
 obtain⟨r,e1,hr⟩:=key;unfold bB;rw[e1,A5];rcases hr with⟨x,y,z,rfl,h⟩|rfl
 ·rw[T6];unfold bB.k3;rw[h]
 ·rw[eC]
end
end
section
def FolT(n:Nat)(h:Nat->Nat)(to:A2):Prop:=to.length=n/\∀u,u<n->to[u]?=some (-1)\/to[u]?=some (↑(h u):Int)
def unv(to:A2):Nat:=to.countP λx=>decide (x=-1)
def unv_set{to:A2}{x:Int}(hx:x≠-1):∀{b:Nat},to[b]?=some (-1)->unv (to.set b x)+1=unv to:=by
 induction to with
 |nil=>intro b h;cases h
 |cons y to ih =>
  intro b h;cases b with
  |zero =>
   have h:y=-1:=by injection h
   subst h;unfold unv;rw[yP,kG,kG,I3 hx,E9 rfl];simp
  |succ b =>
   have h:=ih (b:=b) h;unfold unv at h ⊢;rw[yO,kG,kG];omega
section
variable {p q:A9}{h:Nat->Nat}
structure FolR(p:A9)(h:Nat->Nat)(v:Nat)(to0:A2)(w0:A2)(to w:A2)(a:Nat):Prop where
 t:FolT p.N.length h to
 mono:∀u:Nat,to0[u]?=some (↑(h u):Int)->to[u]?=some (↑(h u):Int)
 row:∀b u:Nat,b<a->pnx p v b=(u:Int)->to[u]?=some (↑(h u):Int)
 new:∃new:A2,w=w0++new/\(∀x∈new,∃u:Nat,x=(u:Int)/\u<p.N.length/\to[u]?=some (↑(h u):Int))/\∀u:Nat,to[u]?=some (↑(h u):Int)->to0[u]?=some (↑(h u):Int)\/(u:Int)∈new
 few:2*unv to+w.length<=2*unv to0+w0.length
def loop_frow(H:H7 p)(Hq:H7 q)(K:Hom p q h){v:Nat}(hv:v<p.N.length)(hrs:RS p v)(hlt:h v<q.N.length){to0 w0:A2}(T0:FolT p.N.length h to0)(hv0:to0[v]?=some (↑(h v):Int)){e:A2}(he:p.N[v]?=some e)(hl:2*unv to0+w0.length<=1000000) :
  ∃to w,iter (λ(s:A2×A2×Nat)=>R2.s20 q (v:Int) e s.1 s.2.1 s.2.2) fuel (to0,w0,0)=some (to,w)/\FolR p h v to0 w0 to w p.I.toNat:=by
 have hi:=H.i2;have b7:=H.i1
 have c7:e.length=p.I.toNat:=by
  obtain⟨xr,yr,k1,k2,k3,k4,_⟩:=H.row v hv;rw[he]at k1;injection k1 with k1
  rw[k1];omega
 have key:=J2 (step:=λ(s:A2×A2×Nat)=>R2.s20 q (v:Int) e s.1 s.2.1 s.2.2) (λs=>s.2.2<=p.I.toNat/\FolR p h v to0 w0 s.1 s.2.1 s.2.2) (λs=>p.I.toNat-s.2.2) (λr=>∃to w,r=(to,w)/\FolR p h v to0 w0 to w p.I.toNat) (λ⟨to,w,a⟩ ⟨g1,R⟩=>by
  simp only at g1 R
  simp only[R2.s20]
  by_cases ha:a<p.I.toNat
  ·left
   obtain⟨n1,n2,n3,n4,n5,xr,yr,a5,c6,b2,b6,_,_⟩:=H.at hv ha
   rw[he]at a5
   injection a5 with a5
   subst a5
   rw[C2,B8 b2]
   by_cases t0:pnx p v a=-1
   ·refine⟨(to,w,a+1),by rw[B1 (λg=>g t0),A5,G5],⟨ha,R.t,R.mono,λb u hb hu=>?_,R.new,R.few⟩,by simp only;omega⟩
    by_cases e2:b=a
    ·rw[e2,t0]at hu;omega
    ·exact R.row b u (by simp only at hb;omega) hu
   ·obtain⟨u,hu⟩:∃u:Nat,pnx p v a=(u:Int):=⟨(pnx p v a).toNat,by omega⟩
    have a7:=(Q4 H hu).2.2
    obtain⟨m1,m2⟩:=K.mv v a u hrs hu
    rw[C2 t0]
    rcases R.t.2 u a7 with a2|a2
    ·-- a new state
     have a8:=R.mono v hv0
     have b9:u≠v:=λe=>by
      rw[e,a8]at a2
      injection a2 with a2
      omega
     obtain⟨_,b3,_⟩:=Q4 Hq m1
     obtain⟨_,_,_,_,_,xq,yq,a9,b8,a6,b4,_,_⟩:=Hq.at hlt b3
     rw[m1]at a6
     have c0:=unv_set (to:=to) (x:=(↑(h u):Int)) (by omega) a2
     have a3:(to.set u (↑(h u):Int))[u]?=some (↑(h u):Int):=P5 (by rw[R.t.1];exact a7)
     have a4:∀x:Nat,to[x]?=some (↑(h x):Int)->(to.set u (↑(h u):Int))[x]?=some (↑(h x):Int):=λx hx=>by
      by_cases e:x=u
      ·rw[e];exact a3
      ·rw[O3 (λg=>e g.symm)];exact hx
     obtain⟨new,w1,w2,w3⟩:=R.new
     have b5:=R.few
     refine⟨(to.set u (↑(h u):Int),w++[(u:Int)],a+1),?_,⟨ha,⟨by simp only[P2];exact R.t.1,λx hx=>?_⟩,λx hx=>a4 x (R.mono x hx),λb x hb hx=>?_,⟨new++[(u:Int)],by simp only;rw[w1,aS],λx hx=>?_,λx hx=>?_⟩,by simp only[H4,O8];omega⟩,by simp only;omega⟩
     ·rw[D7 (i:=u) hu a2,E9 rfl,A5,F7,D7 (i:=v) rfl a8,D7 (i:=h v) rfl a9,B8 a6,D7 (i:=u) hu a2,O6,hu,H6]
     ·simp only
      by_cases e:x=u
      ·rw[e];exact .inr a3
      ·rw[O3 (λg=>e g.symm)];exact R.t.2 x hx
     ·simp only at hb ⊢
      by_cases e:b=a
      ·rw[e,hu]at hx
       rw[show x=u by omega]
       exact a3
      ·exact a4 x (R.row b x (by omega) hx)
     ·rcases I2.1 hx with hx|hx
      ·obtain⟨y,y1,y2,y3⟩:=w2 x hx
       exact⟨y,y1,y2,a4 y y3⟩
      ·exact⟨u,I7.1 hx,a7,a3⟩
     ·simp only at hx
      by_cases e:x=u
      ·rw[e];exact .inr (L2 _ (I7.2 rfl))
      ·rw[O3 (λg=>e g.symm)]at hx
       exact(w3 x hx).imp id λk=>K9 _ k
    ·refine⟨(to,w,a+1),by rw[D7 (i:=u) hu a2,I3 (by omega),A5,G5],⟨ha,R.t,R.mono,λb x hb hx=>?_,R.new,R.few⟩,by simp only;omega⟩
     simp only at hb ⊢
     by_cases e2:b=a
     ·rw[e2,hu]at hx
      rw[show x=u by omega]
      exact a2
     ·exact R.row b x (by omega) hx
  ·right
   have e1:a=p.I.toNat:=by omega
   subst e1
   exact⟨_,by rw[B1],to,w,rfl,R⟩) (to0,w0,0) ⟨D8 _,T0,λ_ g=>g,λb u hb=>absurd hb (O4 _),⟨[],(W8 _).symm,λx hx=>(by cases hx),λu hu=>.inl hu⟩,F9 _⟩
 obtain⟨r,e1,to,w,rfl,R⟩:=key;exact⟨to,w,e1,R⟩
structure FolI(p q:A9)(red:List Bool)(h:Nat->Nat)(to:A2)(out:List Bool)(w:A2):Prop where
 t:FolT p.N.length h to
 ol:out.length=q.N.length
 st:to[p.S.toNat]?=some (↑(h p.S.toNat):Int)
 wk:∀x∈w,∃u:Nat,x=(u:Int)/\u<p.N.length/\to[u]?=some (↑(h u):Int)
 few:2*unv to+w.length<=2*p.N.length+1
 d:∃D:Nat->Prop,(∀v,D v->v<p.N.length/\to[v]?=some (↑(h v):Int))/\(∀u:Nat,to[u]?=some (↑(h u):Int)->D u\/(u:Int)∈w)/\(∀v,D v->∀a u:Nat,pnx p v a=(u:Int)->to[u]?=some (↑(h u):Int))/\∀j,out[j]?=some true↔∃v,D v/\red[v]?=some true/\h v=j
def ev_follow(H:H7 p)(Hq:H7 q)(K:Hom p q h)(G:Conn p)(hlt:∀v,v<p.N.length->h v<q.N.length){red:List Bool}(hr:red.length=p.N.length):∃out,R2 p q red=some out/\out.length=q.N.length/\∀j,out[j]?=some true↔∃v,red[v]?=some true/\h v=j:=by
 have hn:=H.n2;have c6:=Hq.n2;have c7:=H.st;have d0:=Hq.st;have hs:p.S.toNat<p.N.length:=by omega
 have k1:=J2 (step:=λ(s:A2×Nat)=>R2.s2 p s.1 s.2) (λs=>s.2<=p.N.length/\Wrt (λ_=>-1) (List.replicate p.N.length 0) s.2 s.1) (λs=>p.N.length-s.2) (λr=>r=List.replicate p.N.length (-1)) (λ⟨y,k⟩ ⟨g1,g2⟩=>by
  simp only at g1 g2
  simp only[R2.s2,K7]
  have b9:=g2.len
  rw[K7]at b9
  by_cases hk:k<p.N.length
  ·left
   exact⟨(y.set k (-1),k+1),by rw[C2,B8 (get_at (l:=y) (i:=k) (by omega)),L3],⟨hk,g2.step (by rw[K7];exact hk) rfl⟩,by simp only;omega⟩
  ·right
   have e1:k=p.N.length:=by omega
   subst e1
   refine⟨_,by rw[B1],?_⟩
   rw[g2.done (by rw[K7];exact F9 _),K7,List.map_const',M5]) (List.replicate p.N.length 0,0) ⟨D8 _,Wrt.zero _ _⟩
 obtain⟨r,e1,rfl⟩:=k1
 have c9:unv (List.replicate p.N.length (-1))=p.N.length:=by
  unfold unv;rw[List.countP_replicate,if_pos (E9 rfl)]
 have b2:(List.replicate p.N.length (-1:Int))[p.S.toNat]?=some (-1):=by rw[Y8,if_pos hs]
 have c8:=unv_set (x:=(↑(h p.S.toNat):Int)) (by omega) b2;have a4:((List.replicate p.N.length (-1:Int)).set p.S.toNat (↑(h p.S.toNat):Int))[p.S.toNat]?=some (↑(h p.S.toNat):Int):=P5 (by rw[K7];exact hs)
 have a7:∀u,u≠p.S.toNat->((List.replicate p.N.length (-1:Int)).set p.S.toNat (↑(h p.S.toNat):Int))[u]?=if u<p.N.length then some (-1) else none:=λu hu=>by
  rw[O3 (λg=>hu g.symm),Y8]
 have k2:=aZ (step:=λ(s:A2×List Bool×A2)=>R2.s22 p q red s.1 s.2.1 s.2.2) (λs=>FolI p q red h s.1 s.2.1 s.2.2) (λs=>2*unv s.1+s.2.2.length) (λout=>out.length=q.N.length/\∀j,out[j]?=some true↔∃v,red[v]?=some true/\h v=j) (λ⟨to,out,w⟩ F=>by
  simp only at F
  simp only[R2.s22]
  obtain⟨D,d1,d2,d3,d4⟩:=F.d
  cases w with
  |nil =>
   right
   refine⟨out,by rw[B1 (by simp)],F.ol,λj=>?_⟩
   have b4:∀v,RS p v->D v:=λv hv=>by
    have:to[v]?=some (↑(h v):Int):=by
     induction hv with
     |st=>exact F.st
     |step a u _ hu ih=>exact d3 _ ((d2 _ ih).elim id λk=>by cases k) a u hu
    exact(d2 v this).elim id λk=>by cases k
   rw[d4]
   exact⟨λ⟨v,_,h2,h3⟩=>⟨v,h2,h3⟩,λ⟨v,h2,h3⟩=>⟨v,b4 v (G v (by have:=(E0.1 h2).1;omega)),h2,h3⟩⟩
  |cons x w =>
   left
   obtain⟨v,rfl,hv,a8⟩:=F.wk x U9
   have a5:=get_at (l:=red) (i:=v) (by omega)
   obtain⟨xr,yr,k1,k2,k3,k4,_⟩:=H.row v hv
   have b3:=F.few
   rw[G8]at b3
   obtain⟨b7,w',e2,R⟩:=loop_frow H Hq K hv (G v hv) (hlt v hv) F.t a8 k1 (w0:=(v:Int)::w) (by rw[G8];omega)
   have a9:=hlt v hv
   obtain⟨a3,ho,b8,b5⟩:∃a3:List Bool,(cond red[v] (idx to (v:Int) λa2=>idx out a2 λa6=>some (List.set out a2.toNat true)) (some out):Option (List Bool))=some a3/\a3.length=q.N.length/\∀j,a3[j]?=some true↔(out[j]?=some true\/(red[v]?=some true/\h v=j)):=by
    cases hc:red[v]with
    |false =>
     rw[hc]at a5
     refine⟨out,by rw[G5],F.ol,λj=>⟨.inl,λk=>k.elim id λk=>?_⟩⟩
     have:=k.1
     rw[a5]at this
     cases this
    |true =>
     rw[hc]at a5
     refine⟨out.set (h v) true,by rw[F7,D7 (i:=v) rfl a8,D7 (i:=h v) rfl (get_at (l:=out) (i:=h v) (by rw[F.ol];exact a9)),H6],by rw[P2];exact F.ol,λj=>?_⟩
     by_cases e:j=h v
     ·rw[e,P5 (by rw[F.ol];exact a9)]
      exact⟨λ_=>.inr ⟨a5,rfl⟩,λ_=>rfl⟩
     ·rw[O3 (λg=>e g.symm)]
      exact⟨.inl,λk=>k.elim id λk=>absurd k.2.symm e⟩
   obtain⟨new,w1,w2,w3⟩:=R.new
   have c0:=R.few
   rw[w1,H4,G8]at c0
   refine⟨(b7,a3,w++new),?_,⟨R.t,b8,R.mono _ F.st,λy hy=>?_,by simp only[H4];omega,λu=>D u\/u=v,λu hu=>?_,λu hu=>?_,λu hu a y hy=>?_,λj=>?_⟩,by simp only[H4,G8];omega⟩
   ·rw[C2 (by rw[G8];omega),B8 (x:=(v:Int)) rfl,D7 (i:=v) rfl a5,ho,A5,D7 (i:=v) rfl k1,e2,A5]
    unfold R2.k21
    rw[w1,H9 (by simp)]
    rfl
   ·rcases I2.1 hy with hy|hy
    ·obtain⟨u,u1,u2,u3⟩:=F.wk y (M7 _ hy)
     exact⟨u,u1,u2,R.mono u u3⟩
    ·exact w2 y hy
   ·rcases hu with hu|rfl
    ·exact⟨(d1 u hu).1,R.mono u (d1 u hu).2⟩
    ·exact⟨hv,R.mono _ a8⟩
   ·rcases w3 u hu with k|k
    ·rcases d2 u k with k|k
     ·exact .inl (.inl k)
     ·rcases M4.1 k with k|k
      ·exact .inl (.inr (by omega))
      ·exact .inr (K9 _ k)
    ·exact .inr (L2 _ k)
   ·rcases hu with hu|rfl
    ·exact R.mono y (d3 u hu a y hy)
    ·exact R.row a y (Q4 H hy).2.1 hy
   ·rw[b5,d4]
    constructor
    ·rintro (⟨u,u1,u2,u3⟩|⟨u2,u3⟩)
     ·exact⟨u,.inl u1,u2,u3⟩
     ·exact⟨v,.inr rfl,u2,u3⟩
    ·rintro⟨u,u1|rfl,u2,u3⟩
     ·exact .inl ⟨u,u1,u2,u3⟩
     ·exact .inr ⟨u2,u3⟩) fuel ((List.replicate p.N.length (-1:Int)).set p.S.toNat (↑(h p.S.toNat):Int),List.replicate q.N.length false,[p.S]) ⟨⟨by simp only[P2,K7],λu hu=>?_⟩,by simp only[K7],a4,λx hx=>⟨p.S.toNat,by rw[I7.1 hx];omega,hs,a4⟩,by simp only[O8];omega,λ_=>False,λv hv=>hv.elim,λu hu=>?_,λv hv=>hv.elim,λj=>⟨λhj=>?_,λ⟨v,hv,_⟩=>hv.elim⟩⟩ (by have:=Y0;simp only[O8];omega)
 ·obtain⟨out,e2,o1,o2⟩:=k2;refine⟨out,?_,o1,o2⟩;have b6:q.S=(↑(h p.S.toNat):Int):=by have:=K.st;omega
  unfold R2;rw[H9 ⟨by omega,eF _,by unfold B4;omega⟩,e1,A5,D7 (i:=p.S.toNat) (by omega) b2,H9 ⟨by omega,eF _,by unfold B4;omega⟩,b6,e2,A5]
 ·simp only;by_cases e:u=p.S.toNat
  ·rw[e];exact .inr a4
  ·rw[a7 u e,if_pos hu];exact .inl rfl
 ·simp only at hu;by_cases e:u=p.S.toNat
  ·right;rw[e,I7];omega
  ·rw[a7 u e]at hu;split at hu
   ·injection hu with hu;omega
   ·cases hu
 ·simp only[Y8]at hj;split at hj
  ·injection hj with hj;cases hj
  ·cases hj
end
end
section
structure LrnE(p:A9)(red:List Bool):Prop where
 l:LrnI p red
 s0:p.S=0
 r0:red[0]?=some true
structure BlueE(p:A9)(red:List Bool)(b:Nat):Prop where
 lt:b<p.N.length
 wh:red[b]?=some false
 ex:∃r a,bG p red r a b
section
variable {p:A9}
def bestF_all{red:List Bool}{c:Nat}(h:∀r:Nat,red[r]?=some true->P8 p r c):∀k,bestF p red c k=none
 |0=>by rw[bestF]
 |k+1=>by rw[nH λg=>g.2.1 (h k g.1)];exact bestF_all h k
def chF_least{red:List Bool}{b c:Nat}:∀{L:List Nat} {acc:Option (Nat×Nat×Nat)},L.Pairwise (·<·)->chF p red acc L=.inl b->c∈L->bestF p red c p.N.length=none->b<=c
 |[],acc,_,h,_,_=>by cases h
 |d::L,acc,hp,h,hc,hB=>by
  rw[bW]at hp;rw[chF]at h;cases hD:bestF p red d p.N.length with
  |none =>
   rw[hD]at h;injection h with h
   rw[<- h];rcases M4.1 hc with k|k
   ·rw[k];exact F9 _
   ·exact oC (hp.1 c k)
  |some w =>
   rw[hD]at h;rcases M4.1 hc with k|k
   ·rw[k,hD]at hB;cases hB
   ·exact chF_least hp.2 h k hB
def reds_ref(H:H7 p)(G:Conn p){Q:A9}{cl:Nat->Nat}(K:eK p Q cl){red:List Bool}(hr:red.length=p.N.length) :
  ∃red':List Bool,mU red ((List.range p.N.length).map λq=>(↑(cl q):Int)) (I0 (ordP Q))=some red'/\red'.length=(renP Q).N.length/\∀i,red'[i]?=some true↔∃q,red[q]?=some true/\(ordP Q).idxOf (cl q)=i:=by
 have hn:=H.n2;have a4:=(K.ord H).le;have a3:(renP Q).N.length=(ordP Q).length:=by unfold renP;simp only[B7]
 have a2:(I0 (ordP Q)).length=(ordP Q).length:=by unfold I0;rw[B7]
 have key:=J2 (step:=λ(s:List Bool×Nat)=>mU.s2 red ((List.range p.N.length).map λq=>(↑(cl q):Int)) (I0 (ordP Q)) s.1 s.2) (λs=>s.2<=p.N.length/\s.1.length=(ordP Q).length/\∀i,s.1[i]?=some true↔∃q,q<s.2/\red[q]?=some true/\(ordP Q).idxOf (cl q)=i) (λs=>p.N.length-s.2) (λr=>r.length=(ordP Q).length/\∀i,r[i]?=some true↔∃q,red[q]?=some true/\(ordP Q).idxOf (cl q)=i) (λ⟨y,q⟩ ⟨g1,g2,g3⟩=>by
  simp only at g1 g2 g3
  simp only[mU.s2]
  by_cases h:q<p.N.length
  ·left
   have hx:=get_at (l:=red) (i:=q) (by omega)
   have hm:=K.mem H (G q h)
   have a5:=cP hm
   have e2:((List.range p.N.length).map (λq=>(↑(cl q):Int)))[q]?=some (↑(cl q):Int):=by
    rw[H1,P4 h,J4]
   rw[C2,B8 hx]
   cases hc:red[q]with
   |false =>
    refine⟨(y,q+1),by rw[G5],⟨h,g2,λi=>(g3 i).trans ⟨λ⟨u,u1,u2⟩=>⟨u,by simp only;omega,u2⟩,λ⟨u,u1,u2,u3⟩=>?_⟩⟩,by simp only;omega⟩
    rcases J3 u q with g|g
    ·exact⟨u,g,u2,u3⟩
    ·have e:u=q:=by simp only at u1;omega
     rw[e,hx,hc]at u2
     cases u2
   |true =>
    refine⟨(y.set ((ordP Q).idxOf (cl q)) true,q+1),by rw[F7,B8 e2,place_eq (by omega),A5,D7 (i:=(ordP Q).idxOf (cl q)) rfl (get_at (l:=y) (i:=(ordP Q).idxOf (cl q)) (by omega)),H6],⟨h,by simp only[P2];exact g2,λi=>?_⟩,by simp only;omega⟩
    simp only
    by_cases e:i=(ordP Q).idxOf (cl q)
    ·subst e
     rw[P5 (by omega)]
     exact⟨λ_=>⟨q,jG _,by rw[hx,hc],rfl⟩,λ_=>rfl⟩
    ·rw[O3 (λh=>e h.symm),g3 i]
     constructor
     ·rintro⟨u,u1,u2⟩
      exact⟨u,by omega,u2⟩
     ·rintro⟨u,u1,u2,u3⟩
      rcases J3 u q with g|g
      ·exact⟨u,g,u2,u3⟩
      ·have eu:u=q:=by omega
       rw[eu]at u3
       exact absurd u3.symm e
  ·right
   refine⟨_,by rw[B1],g2,λi=>(g3 i).trans ⟨λ⟨u,_,u2⟩=>⟨u,u2⟩,λ⟨u,u2,u3⟩=>⟨u,?_,u2,u3⟩⟩⟩
   have:=(E0.1 u2).1
   omega) (List.replicate (ordP Q).length false,0) ⟨D8 _,K7,λi=>⟨(λh=>by
  rw[Y8]at h
  split at h<;>cases h),λ⟨u,u1,_⟩=>absurd u1 (O4 _)⟩⟩
 obtain⟨red',e,h1,h2⟩:=key;refine⟨red',?_,by rw[a3];exact h1,h2⟩;unfold mU;rw[a2,H9 ⟨by omega,eF _,by unfold B4;omega⟩,e,A5]
def merge_Fold_ok(H:H7 p){a b:Nat}(ha:a<p.N.length)(hb:b<p.N.length){q:A9}{l:A2}{ok:Bool}(e:I4 p (a:Int) (b:Int)=some (q,l,ok)):nJ p (a:Int) (b:Int)=some (q,ok,0):=by
 have hn:=H.n2;unfold nJ;rw[CS (by omega),A5,H.valid,B1 (λh=>h rfl),B1,I3 (by omega),A5,G5,e,A5]
end
end

section
def addP(p:A9)(c:Nat)(w:A2)(A:List (Nat×A2))(a:Nat):List (Nat×A2):=if pnx p c a=-1\/(pnx p c a).toNat∈A.map Prod.fst then A else A++[((pnx p c a).toNat,w++[(a:Int)])]
def rowP(p:A9)(c:Nat)(w:A2)(A:List (Nat×A2))(k:Nat):List (Nat×A2):=(List.range k).foldl (addP p c w) A
def accP(p:A9):Nat->Nat->List (Nat×A2)->List (Nat×A2)
 |0,_,A=>A
 |f+1,i,A=>match A[i]? with
  |none=>A
  |some x=>accP p f (i+1) (rowP p x.1 x.2 A p.I.toNat)
def rowP_step{p:A9}{c:Nat}{w:A2}{A:List (Nat×A2)}{k:Nat}:rowP p c w A (k+1)=addP p c w (rowP p c w A k) k:=by
 unfold rowP;rw[eD,oJ];rfl
structure AccI(p:A9)(A:List (Nat×A2))(i k:Nat):Prop where
 nd:(A.map Prod.fst).Nodup
 lt:∀x,x∈A->x.1<p.N.length
 st:A[0]?=some (p.S.toNat,[])
 go:∀x,x∈A->∃y,Goes p p.S.toNat x.2 y x.1
 clo:∀j x,A[j]?=some x->∀a u:Nat,(j<i\/j=i/\a<k)->pnx p x.1 a=(u:Int)->u∈A.map Prod.fst
 pre:∀x,x∈A->x.2=[]\/∃(j:Nat) (y:Nat×A2) (b:Nat),A[j]?=some y/\x.2=y.2++[(b:Int)]/\(j<i\/j=i/\b<k)
 asc:Asc (A.map Prod.snd)
section
variable {p:A9}
def AccI.few{A:List (Nat×A2)}{i k:Nat}(K:AccI p A i k):A.length<=p.N.length:=by
 have:=eV (b:=List.range p.N.length) K.nd λx hx=>by
  obtain⟨y,hy,rfl⟩:=H0.1 hx;exact K6.2 (K.lt y hy)
 rwa [B7,M5]at this
def AccI.step(H:H7 p){A:List (Nat×A2)}{i k:Nat}{x:Nat×A2}(K:AccI p A i k)(hx:A[i]?=some x):AccI p (addP p x.1 x.2 A k) i (k+1)/\(addP p x.1 x.2 A k)[i]?=some x:=by
 unfold addP;have a5:=G6 hx;split
 ·rename_i g;refine⟨⟨K.nd,K.lt,K.st,K.go,λj y hy a u h hu=>?_,λy hy=>?_,K.asc⟩,hx⟩
  ·by_cases e:j=i/\a=k
   ·obtain⟨rfl,rfl⟩:=e;rw[hx]at hy;injection hy with hy
    subst hy;rcases g with g|g
    ·omega
    ·rwa [hu,H6]at g
   ·exact K.clo j y hy a u (by omega) hu
  ·exact(K.pre y hy).imp id λ⟨j,z,b,h1,h2,h3⟩=>⟨j,z,b,h1,h2,by omega⟩
 ·rename_i g;have g1:pnx p x.1 k≠-1:=λh=>g (.inl h);have g2:(pnx p x.1 k).toNat∉A.map Prod.fst:=λh=>g (.inr h);have a3:=K.lt x a5
  have hk:k<p.I.toNat:=Q9 λh=>g1 (by
   obtain⟨xr,yr,k1,k2,k3,k4,_⟩:=H.row x.1 a3
   unfold pnx
   rw[k1,E7,L0 (by omega),yH])
  obtain⟨n1,n2,_⟩:=H.at a3 hk;have hu:pnx p x.1 k=(↑(pnx p x.1 k).toNat:Int):=by omega
  have a2:∀(j:Nat) (y:Nat×A2),A[j]?=some y->(A++[((pnx p x.1 k).toNat,x.2++[(k:Int)])])[j]?=some y:=λj y hy=>by
   rw[N6 (E0.1 hy).1];exact hy
  have a6:=(E0.1 hx).1;refine⟨⟨?_,λy hy=>?_,a2 0 _ K.st,λy hy=>?_,λj y hy a u h a4=>?_,λy hy=>?_,?_⟩,a2 i x hx⟩
  ·rw[L1];refine V5.2 ⟨K.nd,by simp,λa ha b hb e=>?_⟩;rw[e]at ha;rw[I7.1 hb]at ha;exact g2 ha
  ·rcases I2.1 hy with hy|hy
   ·exact K.lt y hy
   ·rw[I7.1 hy];exact(Q4 H hu).2.2
  ·rcases I2.1 hy with hy|hy
   ·exact K.go y hy
   ·rw[I7.1 hy];obtain⟨z,hz⟩:=K.go x a5;exact⟨_,hz.snoc hu⟩
  ·rw[L1];by_cases hj:j<A.length
   ·rw[N6 hj]at hy;by_cases e:j=i/\a=k
    ·obtain⟨rfl,rfl⟩:=e;rw[hx]at hy;injection hy with hy
     subst hy;exact L2 _ (by rw[a4,H6];exact I7.2 rfl)
    ·exact K9 _ (K.clo j y hy a u (by omega) a4)
   ·omega
  ·rcases I2.1 hy with hy|hy
   ·exact(K.pre y hy).imp id λ⟨j,z,b,h1,h2,h3⟩=>⟨j,z,b,a2 j z h1,h2,by omega⟩
   ·rw[I7.1 hy];exact .inr ⟨i,x,k,a2 i x hx,rfl,by omega⟩
  ·rw[L1];refine rJ.2 ⟨K.asc,by simp,λv hv v' a7=>?_⟩;rw[I7.1 a7];obtain⟨y,hy,rfl⟩:=H0.1 hv;rcases K.pre y hy with h|⟨j,z,b,h1,h2,h3⟩
   ·rw[h];unfold cmpW;rw[if_pos (by simp)]
   ·rw[h2];refine nA ?_;rcases h3 with h3|⟨h3,h4⟩
    ·left;have hj:=(E0.1 h1).1;have:=dL.1 K.asc j i (by rw[B7];exact hj) (by rw[B7];exact a6) h3;rw[tY,tY,(E0.1 h1).2,(E0.1 hx).2]at this;exact this
    ·right;rw[h3,hx]at h1;injection h1 with h1
     rw[<- h1];exact⟨rfl,by omega⟩
def AccI.row(H:H7 p){A:List (Nat×A2)}{i:Nat}{x:Nat×A2}(K:AccI p A i 0)(hx:A[i]?=some x):∀k,AccI p (rowP p x.1 x.2 A k) i k/\(rowP p x.1 x.2 A k)[i]?=some x
 |0=>⟨K,hx⟩
 |k+1=>by
  obtain⟨h1,h2⟩:=AccI.row H K hx k;rw[rowP_step];exact h1.step H h2
def AccI.next(H:H7 p){A:List (Nat×A2)}{i:Nat}(K:AccI p A i p.I.toNat):AccI p A (i+1) 0:=by
 refine⟨K.nd,K.lt,K.st,K.go,λj y hy a u h hu=>K.clo j y hy a u ?_ hu,λy hy=>(K.pre y hy).imp id λ⟨j,z,b,h1,h2,h3⟩=>⟨j,z,b,h1,h2,by omega⟩,K.asc⟩;have:=(Q4 H hu).2.1;omega
def AccI.zero(H:H7 p):AccI p [(p.S.toNat,[])] 0 0:=by
 have a2:=H.st;refine⟨by simp,λx hx=>?_,rfl,λx hx=>?_,λj y hy a u h=>by omega,λx hx=>?_,by simp[Asc]⟩
 ·rw[I7.1 hx];simp only;omega
 ·rw[I7.1 hx];exact⟨[],rfl,rfl⟩
 ·rw[I7.1 hx];exact .inl rfl
def accL(p:A9):List (Nat×A2):=accP p (p.N.length+1) 0 [(p.S.toNat,[])]
def accP_ok(H:H7 p):∀(f i:Nat) (A:List (Nat×A2)),AccI p A i 0->p.N.length+1<=f+i->∃j,AccI p (accP p f i A) j 0/\(accP p f i A).length<=j
 |0,i,A,K,h=>by
  have:=K.few;exact⟨i,K,by unfold accP;omega⟩
 |f+1,i,A,K,h=>by
  unfold accP;cases e:A[i]? with
  |none =>
   have:=rN.1 e;exact⟨i,K,this⟩
  |some x=>exact accP_ok H f (i+1) _ ((K.row H e p.I.toNat).1.next H) (by omega)
def mG(H:H7 p):∃j,AccI p (accL p) j 0/\(accL p).length<=j:=accP_ok H _ _ _ (AccI.zero H) (by omega)
def accL_all(H:H7 p){q:Nat}(h:RS p q):q∈(accL p).map Prod.fst:=by
 obtain⟨j,K,hj⟩:=mG H
 induction h with
 |st=>exact H0.2 ⟨_,G6 K.st,rfl⟩
 |step a u _ hu ih =>
  obtain⟨x,hx,rfl⟩:=H0.1 ih;obtain⟨i,hi⟩:=iI hx;exact K.clo i x hi a u (.inl (by have:=(E0.1 hi).1;omega)) hu
def accL_len(H:H7 p)(G:Conn p):(accL p).length=p.N.length:=by
 obtain⟨j,K,hj⟩:=mG H;have h1:=K.few;have h2:=eV (a:=List.range p.N.length) (b:=(accL p).map Prod.fst) oS λx hx=>accL_all H (G x (K6.1 hx));rw[B7,M5]at h2;omega
def accW(p:A9):A4:=(accL p).map Prod.snd
def sortW_ascE{l:A4}(h:Asc l):sortW l=l:=mK (dC l) h λx=>Q3 l x
def accW_asc(H:H7 p):Asc (accW p):=(mG H).elim λ_ K=>K.1.asc
def AccI.closed{A:List (Nat×A2)}{i0 k0:Nat}(K:AccI p A i0 k0):∀(n:Nat) {w:A2},w.length=n->w∈A.map Prod.snd->∀v,v <+: w->v∈A.map Prod.snd
 |0,w,hn,hw,v,hv=>by
  have e:w=[]:=EE.1 hn;subst e;rw[yD.1 hv];exact hw
 |n+1,w,hn,hw,v,hv=>by
  obtain⟨x,hx,rfl⟩:=H0.1 hw;rcases K.pre x hx with h|⟨i,y,b,h1,h2,_⟩
  ·rw[h]at hn;cases hn
  ·rw[h2]at hv hn;rcases List.prefix_concat_iff.1 hv with h|h
   ·rw[h,<- h2];exact hw
   ·exact K.closed n (by rw[H4,O8]at hn;omega) (H0.2 ⟨y,G6 h1,rfl⟩) v h
def AccI.short(H:H7 p){A:List (Nat×A2)}{i k:Nat}(K:AccI p A i k){w:A2}(h:w∈A.map Prod.snd):w.length<=4096:=by
 have hn:=H.n2;have hf:=K.few
 have a2:(gP w).Nodup:=by
  unfold gP;refine lR.2 (List.Pairwise.imp_of_mem (λ{a b} ha hb hab e=>?_) oS);have h1:=congrArg List.length e;have:=K6.1 ha;have:=K6.1 hb;rw[M3,M3]at h1;omega
 have:=eV a2 (b:=A.map Prod.snd) λx hx=>K.closed _ rfl h x (qK.1 hx);unfold gP at this;rw[B7,M5,B7]at this;omega
def zG(H:H7 p){w:A2}(h:w∈accW p):w.length<=4096:=(mG H).elim λ_ K=>K.1.short H h
end
end
section
def accP_end{p:A9}{i:Nat}{A:List (Nat×A2)}(h:A.length<=i):∀f,accP p f i A=A
 |0=>rfl
 |f+1=>by
  unfold accP;rw[L0 h]
section
variable {p:A9}
structure PrA(p:A9)(A:List (Nat×A2))(i:Nat)(ws:List (Option (A2)))(l:A4)(wk:A2):Prop where
 len:ws.length=p.N.length
 yes:∀x,x∈A->ws[x.1]?=some (some x.2)
 no:∀t,t<p.N.length->t∉A.map Prod.fst->ws[t]?=some none
 l:l=A.map Prod.snd
 wk:wk=I0 ((A.map Prod.fst).drop i)
def ev_arow(H:H7 p){A:List (Nat×A2)}{i:Nat}{x:Nat×A2}(K:AccI p A i 0)(hx:A[i]?=some x){e:A2}(he:p.N[x.1]?=some e){ws:List (Option (A2))}{l:A4}{wk:A2}(P:PrA p A i ws l wk) :
  ∃ws' l' wk',iter (λ(s:List (Option (A2))×A4×A2×Nat)=>W6.s18 e s.1 s.2.1 s.2.2.1 s.2.2.2) fuel (ws,l,wk,0)=some (ws',l',wk')/\PrA p (rowP p x.1 x.2 A p.I.toNat) i ws' l' wk':=by
 have hi:=H.i2;have c8:=H.i1;have hn:=H.n2;have a7:=K.lt x (G6 hx)
 have c0:e.length=p.I.toNat:=by
  obtain⟨xr,yr,k1,k2,k3,k4,_⟩:=H.row x.1 a7;rw[he]at k1;injection k1 with k1
  rw[k1];omega
 have key:=J2 (step:=λ(s:List (Option (A2))×A4×A2×Nat)=>W6.s18 e s.1 s.2.1 s.2.2.1 s.2.2.2) (λs=>s.2.2.2<=p.I.toNat/\PrA p (rowP p x.1 x.2 A s.2.2.2) i s.1 s.2.1 s.2.2.1) (λs=>p.I.toNat-s.2.2.2) (λr=>∃ws' l' wk',r=(ws',l',wk')/\PrA p (rowP p x.1 x.2 A p.I.toNat) i ws' l' wk') (λ⟨ws,l,wk,a⟩ ⟨g1,Q⟩=>by
  simp only at g1 Q
  simp only[W6.s18]
  by_cases h:a<p.I.toNat
  ·left
   obtain⟨n1,n2,n3,n4,n5,xr,yr,a5,c9,b4,b9,_,_⟩:=H.at a7 h
   rw[he]at a5
   injection a5 with a5
   subst a5
   obtain⟨Ka,a2⟩:=K.row H hx a
   have hs:=rowP_step (p:=p) (c:=x.1) (w:=x.2) (A:=A) (k:=a)
   rw[C2,B8 b4]
   by_cases t0:pnx p x.1 a=-1
   ·refine⟨(ws,l,wk,a+1),by rw[B1 (λg=>g t0),A5,G5],⟨h,?_⟩,by simp only;omega⟩
    rw[hs,addP,if_pos (.inl t0)]
    exact Q
   ·obtain⟨u,hu⟩:∃u:Nat,pnx p x.1 a=(u:Int):=⟨(pnx p x.1 a).toNat,by omega⟩
    have a8:=(Q4 H hu).2.2
    rw[C2 t0]
    by_cases hm:u∈(rowP p x.1 x.2 A a).map Prod.fst
    ·obtain⟨z,hz,b2⟩:=H0.1 hm
     have a3:=Q.yes z hz
     rw[b2]at a3
     refine⟨(ws,l,wk,a+1),by rw[D7 (i:=u) hu a3,A5,Option.isNone_some,G5],⟨h,?_⟩,by simp only;omega⟩
     rw[hs,addP,if_pos (.inr (by rw[hu,H6];exact hm))]
     exact Q
    ·have a3:=Q.no u a8 hm
     have b8:=(E0.1 a2).1
     have b5:=Q.yes x (G6 a2)
     have c7:=Ka.short H (H0.2 ⟨x,G6 a2,rfl⟩)
     have b6:=Ka.few
     have b3:wk[0]?=some (x.1:Int):=by
      rw[Q.wk]
      unfold I0
      rw[H1,aB,H1,V8,a2]
      rfl
     have c6:l.length=(rowP p x.1 x.2 A a).length:=by rw[Q.l,B7]
     have b7:wk.length<=(rowP p x.1 x.2 A a).length:=by
      rw[Q.wk]
      unfold I0
      rw[B7,V7,B7]
      omega
     have a4:(ws.set u (some (x.2++[(a:Int)])))[u]?=some (some (x.2++[(a:Int)])):=P5 (by rw[Q.len];exact a8)
     have a9:rowP p x.1 x.2 A (a+1)=rowP p x.1 x.2 A a++[(u,x.2++[(a:Int)])]:=by
      rw[hs,addP,if_neg (λg=>g.elim t0 (by rw[hu,H6];exact hm)),hu,H6]
     refine⟨(ws.set u (some (x.2++[(a:Int)])),l++[x.2++[(a:Int)]],wk++[(u:Int)],a+1),?_,⟨h,?_⟩,by simp only;omega⟩
     ·rw[D7 (i:=u) hu a3,A5,Option.isNone_none,F7,B8 b3,D7 (i:=x.1) rfl b5,A5,H9 (by unfold B4;simp only[K3];omega),dI,O6,D7 (i:=u) hu a3,hu,H6,D7 (i:=u) rfl a4,A5,H9 (by unfold B4;simp only[K3,H4,O8];omega),O6,O6,dI]
     ·simp only
      rw[a9]
      refine⟨by rw[P2];exact Q.len,λz hz=>?_,λt ht a6=>?_,by rw[Q.l,L1];rfl,?_⟩
      ·rcases I2.1 hz with hz|hz
       ·rw[O3 (λg=>hm (by rw[g];exact H0.2 ⟨z,hz,rfl⟩))]
        exact Q.yes z hz
       ·rw[I7.1 hz];exact a4
      ·rw[L1]at a6
       rw[O3 (λg=>a6 (L2 _ (by rw[g];exact I7.2 rfl)))]
       exact Q.no t ht λg=>a6 (K9 _ g)
      ·rw[Q.wk,L1,EJ (by rw[B7];omega)]
       unfold I0
       rw[L1]
       rfl
  ·right
   have e1:a=p.I.toNat:=by omega
   subst e1
   exact⟨_,by rw[B1],_,_,_,rfl,Q⟩) (ws,l,wk,0) ⟨D8 _,P⟩
 obtain⟨r,e1,ws',l',wk',rfl,h⟩:=key;exact⟨ws',l',wk',e1,h⟩
def ev_access(H:H7 p):W6 p=some (accW p):=by
 have hn:=H.n2;have b4:=H.st;have hs:p.S.toNat<p.N.length:=by omega
 have h0:(List.replicate p.N.length (none:Option (A2)))[p.S.toNat]?=some none:=by rw[Y8,if_pos hs]
 have key:=J2 (step:=λ(s:List (Option (A2))×A4×A2)=>W6.s20 p s.1 s.2.1 s.2.2) (λs=>∃A i,AccI p A i 0/\PrA p A i s.1 s.2.1 s.2.2/\i<=A.length/\accP p (p.N.length+1-i) i A=accL p) (λs=>p.N.length+1-(s.2.1.length-s.2.2.length)) (λr=>r=accW p) (λ⟨ws,l,wk⟩ ⟨A,i,K,P,b5,a2⟩=>by
  simp only at P
  simp only[W6.s20]
  have b3:=K.few
  have b8:wk.length=A.length-i:=by
   rw[P.wk]
   unfold I0
   rw[B7,V7,B7]
  have b7:l.length=A.length:=by rw[P.l,B7]
  by_cases h:i<A.length
  ·left
   have hx:=get_at h
   generalize A[i]=x at hx
   have a5:=K.lt x (G6 hx)
   obtain⟨xr,yr,k1,k2,k3,k4,_⟩:=H.row x.1 a5
   obtain⟨a4,l',a3,e1,Q⟩:=ev_arow H K hx k1 P
   obtain⟨K1,a6⟩:=K.row H hx p.I.toNat
   have K2:=K1.next H
   have b6:=(E0.1 a6).1
   have a8:wk[0]?=some (x.1:Int):=by
    rw[P.wk]
    unfold I0
    rw[H1,aB,H1,V8,hx]
    rfl
   have b2:a3.length=(rowP p x.1 x.2 A p.I.toNat).length-i:=by
    rw[Q.wk]
    unfold I0
    rw[B7,V7,B7]
   have a9:l'.length=(rowP p x.1 x.2 A p.I.toNat).length:=by rw[Q.l,B7]
   refine⟨(a4,l',a3.drop 1),?_,⟨_,i+1,K2,⟨Q.len,Q.yes,Q.no,Q.l,?_⟩,by omega,?_⟩,by simp only[V7];omega⟩
   ·rw[C2,B8 a8,D7 (i:=x.1) rfl k1,e1,A5]
    unfold W6.k19
    simp only
    rw[H9 (show 1<=a3.length by omega)]
   ·simp only
    rw[Q.wk]
    unfold I0
    rw[<- oD,List.drop_drop]
   ·rw[<- a2,show p.N.length+1-i=(p.N.length+1-(i+1))+1 by omega,accP,hx]
  ·right
   refine⟨l,by rw[B1],?_⟩
   rw[accP_end (by omega)]at a2
   rw[P.l,a2]
   rfl) ((List.replicate p.N.length (none:Option (A2))).set p.S.toNat (some []),[[]],[p.S]) ⟨[(p.S.toNat,[])],0,AccI.zero H,⟨by simp only[P2,K7],λx hx=>?_,λt ht a7=>?_,rfl,?_⟩,D8 _,rfl⟩
 ·obtain⟨r,e1,rfl⟩:=key;unfold W6;rw[H9 ⟨by omega,eF _,by unfold B4;omega⟩,D7 (i:=p.S.toNat) (by omega) h0,e1,A5,xS ⟨by unfold accW;rw[B7];obtain⟨j,K,_⟩:=mG H;have:=K.few;omega,λw hw=>by have:=zG H hw;unfold SmW;omega⟩,A5,sortW_ascE (accW_asc H)]
 ·rw[I7.1 hx];exact P5 (by rw[K7];exact hs)
 ·rw[O3 (λg=>a7 (by rw[<- g];exact I7.2 rfl)),Y8,if_pos ht]
 ·simp only;unfold I0;rw[rD];simp only[M2,rH];rw[show((p.S.toNat:Int))=p.S by omega]
end
end
section
def dmQ{K i a:Nat}(h:a<K):(i*K+a) / K=i/\(i*K+a)%K=a:=by
 have hK:0<K:=by omega
 constructor
 ·rw[jD,Nat.mul_add_div hK,Nat.div_eq_of_lt h,V8]
 ·rw[jD,Nat.mul_add_mod,yI h]
def bfsM(R:Nat->A2)(I st:Nat):Nat->List Nat
 |0=>[st]
 |r+1=>match (bfsM R I st r)[r / I]? with
  |none=>bfsM R I st r
  |some c=>addT (bfsM R I st r) (((R c)[r%I]?).getD (-1))
section
variable {R:Nat->A2}{I st:Nat}
def bfsM_pre1(r:Nat):bfsM R I st r <+: bfsM R I st (r+1):=by
 conv=>rhs;unfold bfsM
 split
 ·exact W9 _
 ·exact addT_pre _ _
def mL{r:Nat}:∀d,bfsM R I st r <+: bfsM R I st (r+d)
 |0=>W9 _
 |d+1=>(mL d).trans (bfsM_pre1 (r+d))
def kN{V:Type}{l l':List V}(h:l <+: l'){i:Nat}{x:V}(hx:l[i]?=some x):l'[i]?=some x:=by
 obtain⟨t,rfl⟩:=h;rw[N6 (E0.1 hx).1];exact hx
def bfsM_step{i a c:Nat}(ha:a<I)(hc:(bfsM R I st (i*I+a))[i]?=some c):bfsM R I st (i*I+a+1)=addT (bfsM R I st (i*I+a)) (((R c)[a]?).getD (-1)):=by
 obtain⟨d1,d2⟩:=dmQ (i:=i) ha
 conv=>lhs;unfold bfsM
 rw[d1,hc,d2]
def bfsM_row{i c:Nat}(hc:(bfsM R I st (i*I))[i]?=some c)(hl:(R c).length=I):∀k,k<=I->bfsM R I st (i*I+k)=((R c).take k).foldl addT (bfsM R I st (i*I))
 |0,_=>by rw[rC];rfl
 |k+1,hk=>by
  rw[show i*I+(k+1)=i*I+k+1 by omega,bfsM_step (by omega) (kN (mL k) hc),bfsM_row hc hl k (by omega),kF (by omega),oJ,get_at (by omega),E7];rfl
def bfsM_stop(hI:0<I){i:Nat}(h:(bfsM R I st (i*I))[i]?=none):∀d,bfsM R I st (i*I+d)=bfsM R I st (i*I)
 |0=>rfl
 |d+1=>by
  have ih:=bfsM_stop hI h d;rw[show i*I+(d+1)=i*I+d+1 by omega]
  conv=>lhs;unfold bfsM
  rw[ih]
  have hn:(bfsM R I st (i*I))[(i*I+d) / I]?=none:=by
   have:=rN.1 h;refine L0 ?_;have:i<=(i*I+d) / I:=(Nat.le_div_iff_mul_le hI).2 (by omega);omega
  rw[hn]
def bfsL_eq(hI:0<I)(hl:∀r c,c∈bfsM R I st r->(R c).length=I):∀(f i:Nat),bfsL R f i (bfsM R I st (i*I))=bfsM R I st ((i+f)*I)
 |0,i=>by rw[V8];rfl
 |f+1,i=>by
  unfold bfsL;cases e:(bfsM R I st (i*I))[i]? with
  |none =>
   have:=bfsM_stop hI e ((f+1)*I);rw[<- Nat.add_mul]at this;exact this.symm
  |some c =>
   have hr:=hl _ c (G6 e);have:=bfsM_row e hr I (F9 _);rw[fG (by omega)]at this;simp only;rw[<- this,show i*I+I=(i+1)*I by rw[Nat.add_mul,lQ],bfsL_eq hI hl f (i+1),show i+1+f=i+(f+1) by omega]
def sG(hR:∀c t,t∈R c->t=-1\/0<=t):∀(r u:Nat) (x:Nat),0<u->(bfsM R I st r)[u]?=some x->∃r' c,r'<r/\r' / I<u/\u<(bfsM R I st (r'+1)).length/\(bfsM R I st r')[r' / I]?=some c/\((R c)[r'%I]?).getD (-1)=(x:Int)
 |0,u,x,hu,hx=>by
  have:=(E0.1 hx).1;unfold bfsM at this;simp only[O8]at this;omega
 |r+1,u,x,hu,hx=>by
  rcases J3 u (bfsM R I st r).length with g|g
  ·have hx':=kN (bfsM_pre1 r) (get_at g);rw[hx]at hx';injection hx' with hx'
   obtain⟨r',c,h1,h2⟩:=sG hR r u x hu (by rw[hx',get_at g]);exact⟨r',c,by omega,h2⟩
  ·have hul:=(E0.1 hx).1;have hstep:∀L,bfsM R I st (r+1)=L->u<L.length:=λL e=>e ▸ hul;cases e:(bfsM R I st r)[r / I]? with
   |none =>
    have:bfsM R I st (r+1)=bfsM R I st r:=by
     conv=>lhs;unfold bfsM
     rw[e]
    have:=hstep _ this;omega
   |some c =>
    have h1:bfsM R I st (r+1)=addT (bfsM R I st r) (((R c)[r%I]?).getD (-1)):=by
     conv=>lhs;unfold bfsM
     rw[e]
    rw[h1]at hx;have h2:=hstep _ h1;unfold addT at hx h2;split at hx
    ·rename_i g2;rw[if_pos g2]at h2;omega
    ·rename_i g2;rw[if_neg g2,H4,O8]at h2;have eu:u=(bfsM R I st r).length:=by omega
     subst eu;rw[S7 (F9 _),T7]at hx;injection hx with hx
     have a2:=(E0.1 e).1;refine⟨r,c,jG _,a2,hul,e,?_⟩;cases e2:(R c)[r%I]? with
     |none =>
      rw[e2]at g2;exact absurd (.inl rfl) g2
     |some t =>
      rw[e2,E7]at hx g2;rw[E7];have:=(hR c t (G6 e2)).resolve_left λh=>g2 (.inl h);omega
def bfsM_to{i a c N:Nat}(ha:a<I)(hi:i*I+a<N)(hc:(bfsM R I st N)[i]?=some c)(hR:∀c t,t∈R c->t=-1\/0<=t){x:Nat}(hx:((R c)[a]?).getD (-1)=(x:Int)):x∈bfsM R I st (i*I+a+1):=by
 have a4:(bfsM R I st (i*I+a))[i]?=some c:=by
  have a3:bfsM R I st (i*I+a) <+: bfsM R I st N:=by
   have:=mL (R:=R) (I:=I) (st:=st) (r:=i*I+a) (N-(i*I+a))
   rwa [show i*I+a+(N-(i*I+a))=N by omega]at this
  have a2:i<(bfsM R I st (i*I+a)).length:=by
   rcases dJ i with e|a5
   ·have:=(mL (R:=R) (I:=I) (st:=st) (r:=0) (i*I+a)).length_le;rw[E8]at this;have h0:(bfsM R I st 0).length=1:=rfl;omega
   ·obtain⟨r',c',h1,h2,h3,_⟩:=sG hR N i c a5 hc;have h4:r'<i*I:=(Nat.div_lt_iff_lt_mul (by omega)).1 h2;have:=(mL (R:=R) (I:=I) (st:=st) (r:=r'+1) (i*I+a-(r'+1))).length_le;rw[show r'+1+(i*I+a-(r'+1))=i*I+a by omega]at this;omega
  have:=kN a3 (get_at a2);rw[hc]at this;rw[get_at a2,this]
 rw[bfsM_step ha a4,hx];unfold addT;split
 ·rename_i g;rcases g with g|g
  ·omega
  ·rwa [H6]at g
 ·rw[H6];exact L2 _ (I7.2 rfl)
end
structure CanP(p:A9):Prop where
 c4:∀i a u v:Nat,i<p.N.length->a<p.I.toNat->0<u->u<=v->pnx p i a=(v:Int)->∃i' a',a'<p.I.toNat/\i'*p.I.toNat+a'<=i*p.I.toNat+a/\i'<u/\pnx p i' a'=(u:Int)
 c5:∀u,0<u->u<p.N.length->∃i a,i<u/\a<p.I.toNat/\pnx p i a=(u:Int)
def renP_can{Q:A9}(R:fJ Q)(hI:1<=Q.I):CanP (renP Q):=by
 obtain⟨nums,_,A⟩:=jA R;have a3:0<Q.I.toNat:=by omega
 have hR:∀c t,t∈(Q.N[c]?).getD []->t=-1\/0<=t:=λc t ht=>by
  obtain⟨i,hi,e⟩:=aQ ht
  have hc:c<Q.N.length:=by
   rcases J3 c Q.N.length with g|g
   ·exact g
   ·rw[L0 g]at hi;simp at hi
  obtain⟨x,x1,x2⟩:=R.gn.row c hc
  have b9:i<Q.I.toNat:=by
   rw[x1,E7]at hi;omega
  have hg:gx Q.N c i=t:=by
   unfold gx;rw[get_at (l:=(Q.N[c]?).getD []) hi,E7,e]
  rcases R.rng c i hc b9 with q|⟨u,q,_⟩
  ·exact .inl (by omega)
  ·exact .inr (by omega)
 obtain⟨s,hs,b7⟩:=R.st
 -- the states that are met are states
 have b8:∀r c,c∈bfsM (λc=>(Q.N[c]?).getD []) Q.I.toNat Q.S.toNat r->c<Q.N.length:=by
  intro r
  induction r with
  |zero =>
   intro c hc;unfold bfsM at hc;rw[I7.1 hc,hs,H6];exact b7
  |succ r ih =>
   intro c hc;unfold bfsM at hc;split at hc
   ·exact ih c hc
   ·rename_i d hd;unfold addT at hc;split at hc
    ·exact ih c hc
    ·rename_i g;rcases I2.1 hc with h|h
     ·exact ih c h
     ·have b6:=ih d (G6 hd);have hm:r%Q.I.toNat<Q.I.toNat:=fC _ a3;rcases R.rng d _ b6 hm with q|⟨u,q,hu⟩
      ·unfold gx at q;exact absurd (.inl q) g
      ·unfold gx at q;rw[I7.1 h];rw[q,H6];exact hu
 have hF:ordP Q=bfsM (λc=>(Q.N[c]?).getD []) Q.I.toNat Q.S.toNat ((Q.N.length+1)*Q.I.toNat):=by
  have:=bfsL_eq (R:=λc=>(Q.N[c]?).getD []) (st:=Q.S.toNat) a3 (λr c hc=>by
   obtain⟨x,x1,x2⟩:=R.gn.row c (b8 r c hc)
   rw[x1,E7,x2]) (Q.N.length+1) 0
  rw[dG,E8]at this;exact this
 have c8:=A.le;have a8:(renP Q).N.length=(ordP Q).length:=by unfold renP;simp only[B7]
 have a7:(renP Q).I=Q.I:=rfl
 have b4:∀i a,i<(ordP Q).length->a<Q.I.toNat->pnx (renP Q) i a=numT (ordP Q) (gx Q.N ((ordP Q)[i]?.getD 0) a):=λi a hi ha=>by
  unfold pnx renP;rw[H1,get_at hi,J4,E7,E7];unfold U0;rw[H1,P4 ha,J4,E7]
 have b3:=A.nd
 -- a link of the search is a link of the machine
 have a4:∀(r' c x u:Nat),(bfsM (λc=>(Q.N[c]?).getD []) Q.I.toNat Q.S.toNat r')[r' / Q.I.toNat]?=some c->(ordP Q)[r' / Q.I.toNat]?=some c->((((Q.N[c]?).getD [])[r'%Q.I.toNat]?).getD (-1))=(x:Int)->(ordP Q)[u]?=some x->pnx (renP Q) (r' / Q.I.toNat) (r'%Q.I.toNat)=(u:Int):=λr' c x u h0 h1 h2 h3=>by
  rw[b4 _ _ (E0.1 h1).1 (fC _ a3),h1,E7];have:gx Q.N c (r'%Q.I.toNat)=(x:Int):=h2;rw[this];unfold numT;have hx:=G6 h3;rw[H6,if_pos ⟨by omega,hx⟩];obtain⟨q1,q2⟩:=E0.1 h3;have hl:=cP hx;have:=(tZ (h₀:=hl) (h₁:=q1) b3).1 (by rw[iG hl,q2]);rw[this]
 have a2:∀r,r<=(Q.N.length+1)*Q.I.toNat->bfsM (λc=>(Q.N[c]?).getD []) Q.I.toNat Q.S.toNat r <+: ordP Q:=λr hr=>by
  have:=mL (R:=λc=>(Q.N[c]?).getD []) (I:=Q.I.toNat) (st:=Q.S.toNat) (r:=r) ((Q.N.length+1)*Q.I.toNat-r);rw[show r+((Q.N.length+1)*Q.I.toNat-r)=(Q.N.length+1)*Q.I.toNat by omega,<- hF]at this;exact this
 refine⟨λi a u v hi ha hu d0 hv=>?_,λu hu a5=>?_⟩
 ·rw[a8]at hi;rw[a7]at ha ⊢;have b2:=get_at hi;rw[b4 i a hi ha,b2,E7]at hv;unfold numT at hv;split at hv
  ·rename_i g;obtain⟨g1,g2⟩:=g;have c7:(ordP Q).idxOf (gx Q.N (ordP Q)[i] a).toNat=v:=by omega
   have c6:=A.lt _ (M8 hi);obtain⟨w,hw,c9⟩:=(R.rng _ a c6 ha).resolve_left g1
   have hN:i*Q.I.toNat+a<(Q.N.length+1)*Q.I.toNat:=by
    have h1:(i+1)*Q.I.toNat<=(Q.N.length+1)*Q.I.toNat:=bC _ (by omega);rw[Nat.add_mul,lQ]at h1;omega
   have c0:=bfsM_to (R:=λc=>(Q.N[c]?).getD []) (st:=Q.S.toNat) ha hN (by rw[<- hF];exact b2) hR (x:=w) hw;rw[hw,H6]at c7 g2;obtain⟨j,hj,ej⟩:=aQ c0;have b5:=kN (a2 (i*Q.I.toNat+a+1) (by omega)) (get_at hj);rw[ej]at b5
   have d1:j=v:=by
    obtain⟨q1,q2⟩:=E0.1 b5;have hl:=cP g2;have:=(tZ (h₀:=hl) (h₁:=q1) b3).1 (by rw[iG hl,q2]);omega
   have a5:u<(bfsM (λc=>(Q.N[c]?).getD []) Q.I.toNat Q.S.toNat (i*Q.I.toNat+a+1)).length:=by omega
   obtain⟨r',c,h1,h2,h3,h4,h5⟩:=sG hR (i*Q.I.toNat+a+1) u _ hu (get_at a5);refine⟨r' / Q.I.toNat,r'%Q.I.toNat,fC _ a3,?_,h2,?_⟩
   ·have:=rE r' Q.I.toNat;rw[jD]at this;omega
   ·exact a4 r' c _ u h4 (kN (a2 r' (by omega)) h4) h5 (kN (a2 _ (by omega)) (get_at a5))
  ·omega
 ·rw[a8]at a5;have a9:=get_at a5;rw[a7];generalize (ordP Q)[u]=z at a9;have a6:=a9;rw[hF]at a6;obtain⟨r',c,h1,h2,h3,h4,h5⟩:=sG hR _ u z hu a6;refine⟨r' / Q.I.toNat,r'%Q.I.toNat,h2,fC _ a3,?_⟩;exact a4 r' c _ u h4 (kN (a2 r' (by omega)) h4) h5 a9
end
end Go.Proofs.YtkeplokjplkcmaaGreat.Sym
namespace Go.Proofs.YtkeplokjplkcmaaGreat
def M64:Nat:=18446744073709551616
def gold:Nat:=11400714819323198485
def mulA:Nat:=13787848793156543929
def mulB:Nat:=10723151780598845931
def mix(y:Nat):Nat :=
 let z:=(y ^^^ (y >>> 30))*mulA%M64
 let u:=(z ^^^ (z >>> 27))*mulB%M64
 u ^^^ (u >>> 31)
def few:∀(k a:Nat) (l:List Nat),l.Nodup->(∀x∈l,a<=x/\x<a+k)->l.length<=k
 |0,a,l,_,h=>by
  cases l with
  |nil=>simp
  |cons x l=>have:=h x (by simp);omega
 |k+1,a,l,hn,h=>by
  have h1:=few k a (l.erase (a+k)) (hn.erase _) λx hx=>by
   have h2:=(hn.mem_erase_iff).1 hx;have h3:=h x h2.2;have h4:=h2.1;omega
  by_cases hm:a+k∈l
  ·have:=List.length_erase_of_mem hm;omega
  ·rw[List.erase_of_not_mem hm]at h1;omega
def drawF:Nat->Nat->Nat×Nat
 |0,s=>(0,s)
 |f+1,s=>if mix ((s+gold)%M64)<M64-1616 then(mix ((s+gold)%M64)%10000,(s+gold)%M64) else drawF f ((s+gold)%M64)
def draw(s:Nat):Nat×Nat:=drawF 1617 s
end Go.Proofs.YtkeplokjplkcmaaGreat
namespace Go.Proofs.YtkeplokjplkcmaaGreat.Sym
def steps(nx:Nat->Nat):Nat->Nat->Nat
 |0,s=>s
 |j+1,s=>steps nx j (nx s)
def SmX(t:C7):Prop:=SmW t.In/\SmW t.O
def SmTr(l:List C7):Prop:=l.length<=1200000/\∀t∈l,SmX t
def capT{n:Nat}(h:n<=3000000):B4 n 48:=by unfold B4;omega
def wZ{t:C7}(h:SmX t):lB t=some t:=by
 have h1:=h.1;have h2:=h.2;unfold SmW at h1 h2;unfold lB;rw[qC _ (by simp) (by simp;omega),A5,qC _ (by simp) (by simp;omega),A5];simp
def cV(t x:C7):Bool:=decide (¬x.In <+: t.In\/t.In.length=x.In.length)
def cU(t:C7):Bool->List C7->List C7
 |done,[]=>if done=true then [] else [t]
 |done,x::r=>(if done=false/\cmpW t.In x.In=-1 then [t] else [])++((if cV t x=true then [x] else [])++cU t (done||decide (cmpW t.In x.In=-1)) r)
def vT{t:C7}:∀(l:List C7),cU t true l=l.filter (cV t)
 |[]=>rfl
 |x::r=>by
  unfold cU;rw[if_neg (by simp),List.filter_cons,Bool.true_or,vT r];split<;>rfl
def vF{t:C7}:∀(l:List C7),(∀x∈l,x.In≠t.In)->cU t false l=insT (restT l t) t
 |[],_=>rfl
 |x::r,hn=>by
  have hne:=hn x (by simp)
  have hk:cV t x=!decide (x.In <+: t.In):=by
   unfold cV;by_cases h:x.In <+: t.In
   ·rw[E9 h,Z9];refine I3 λe=>?_;rcases e with e|e
    ·exact e h
    ·exact hne (h.eq_of_length (by omega))
   ·rw[I3 h,E9 (.inl h)];rfl
  have a2:∀l:List C7,(∀x∈l,x.In≠t.In)->l.filter (cV t)=restT l t:=λl hl=>by
   unfold restT;refine List.filter_congr λy hy=>?_;unfold cV;by_cases h:y.In <+: t.In
   ·rw[E9 h,Z9];refine I3 λe=>?_;rcases e with e|e
    ·exact e h
    ·exact hl y hy (h.eq_of_length (by omega))
   ·rw[I3 h,E9 (.inl h)];rfl
  have hr:∀y∈r,y.In≠t.In:=λy hy=>hn y (by simp[hy]);unfold cU restT;rw[List.filter_cons,hk];by_cases h:x.In <+: t.In
  ·have h1:¬cmpW t.In x.In=-1:=λe=>by
    have:=h.length_le;unfold cmpW at e;split at e
    ·omega
    ·split at e
     ·cases e
     ·have h2:=h.eq_of_length (by omega);exact hne h2
   rw[if_neg λe=>h1 e.2,E9 h,I3 h1,Z9,if_neg rR,if_neg rR,yQ];exact vF r hr
  ·rw[I3 h,cN,if_pos rfl,if_pos rfl];unfold insT;by_cases h1:cmpW t.In x.In=-1
   ·rw[if_pos ⟨rfl,h1⟩,if_pos h1,E9 h1,Bool.or_true,vT,a2 r hr];rfl
   ·rw[if_neg λe=>h1 e.2,if_neg h1,I3 h1,yQ,vF r hr];rfl
def keep_all{o:G7}{t:C7}(hv:X0 o)(h:bT o.T t.In=true\/t.In=[]):o.T.filter (cV t)=o.T:=by
 refine List.filter_eq_self.2 λx hx=>E9<|Q9 λhn=>?_;have h1:x.In <+: t.In:=Q9 λe=>hn (.inl e);have h2:¬t.In.length=x.In.length:=λe=>hn (.inr e);have hl:=h1.length_le;rcases h with h|h
 ·obtain⟨u,hu,hp⟩:=eE.1 h;have hp:t.In <+: u.In:=of_decide_eq_true hp;have a2:=hp.length_le;obtain⟨i,hi,rfl⟩:=cQ.1 hx;obtain⟨j,hj,rfl⟩:=cQ.1 hu;rcases jH i j with e|e|e
  ·exact(hv.apart i j _ _ e (get_at hi) (get_at hj)).1 (h1.trans hp)
  ·subst e;omega
  ·have:=hv.asc j i _ _ e (get_at hj) (get_at hi);unfold cmpW at this;split at this
   ·omega
   ·split at this
    ·cases this
    ·omega
 ·rw[h]at h2 hl;simp at h2 hl;exact h2 (by rw[hl];rfl)
def R16_add_eq{o:G7}{t:C7}(ho:SmTr o.T)(hv:X0 o)(ht:SmX t):S1 o t=some ⟨o.I,addL o.T t⟩:=by
 have hl:=ho.1;unfold S1
 have key:=J2 (step:=λ(s:Bool×Nat)=>S1.s2 o t s.1 s.2) (λs=>s.2<=o.T.length/\s.1=(decide (t.In=[])||bT (o.T.take s.2) t.In)) (λs=>o.T.length-s.2) (λr=>r=(decide (t.In=[])||bT o.T t.In)) (λ⟨b,i⟩ ⟨g1,g2⟩=>by
  simp only at g1 g2
  simp only[S1.s2]
  by_cases g4:i<o.T.length
  ·left
   have hx:=get_at g4
   have a4:=M8 g4
   have b2:bT (o.T.take (i+1)) t.In=(bT (o.T.take i) t.In||decide (t.In <+: o.T[i].In)):=by
    rw[W4 hx]
    unfold bT
    rw[List.any_append]
    simp
   refine⟨(decide (t.In=[])||bT (o.T.take (i+1)) t.In,i+1),?_,⟨g4,rfl⟩,by simp only;omega⟩
   rw[M6 hx,F7,b2,<- Bool.or_assoc,<- g2]
   cases b with
   |true=>rfl
   |false =>
    rw[G5,B8 hx,xW _ _ (ho.2 _ a4).1,A5]
    rfl
  ·right
   have e:i=o.T.length:=by omega
   subst e
   rw[R5]at g2
   exact⟨b,by rw[X6,G5],g2⟩) (decide ((t.In.length:Int)=0),0) ⟨D8 _,by
    simp only[rC,bT,List.any_nil,yQ]
    exact decide_eq_decide.2 ⟨λh=>V0 (by omega),λh=>by rw[h];rfl⟩⟩
 obtain⟨d0,e,rfl⟩:=key;rw[e,A5];generalize hd:(decide (t.In=[])||bT o.T t.In)=d0
 have a9:=J2 (step:=λ(s:List C7×Bool×Nat)=>S1.s10 o t s.1 s.2.1 s.2.2) (λs=>s.2.2<=o.T.length/\s.1.length<=2*s.2.2/\s.1++cU t s.2.1 (o.T.drop s.2.2)=cU t d0 o.T) (λs=>o.T.length-s.2.2) (λr=>r.1.length<=2400000/\r.1++cU t r.2 []=cU t d0 o.T) (λ⟨y,b,i⟩ ⟨g1,g2,g3⟩=>by
  simp only at g1 g2 g3
  simp only[S1.s10]
  by_cases g4:i<o.T.length
  ·left
   have hx:=get_at g4
   have a4:=M8 g4
   rw[fI g4]at g3
   rw[M6 hx,F7,B8 hx]
   have a3:((jZ t.In o.T[i].In).bind λa2=>cond (!a2) (some true) (some (decide ((t.In.length:Int)=(↑(List.length o.T[i].In):Int)))):Option Bool)=some (cV t o.T[i]):=by
    unfold cV
    rw[xW _ _ ht.1,A5]
    by_cases h:o.T[i].In <+: t.In
    ·rw[E9 h,Z9,G5]
     congr 1
     exact decide_eq_decide.2 ⟨λe=>.inr (by omega),λe=>by rcases e with e|e;exact absurd h e;omega⟩
    ·rw[I3 h,cN,F7,E9 (.inl h)]
   have a5:∀(z:List C7) (c:Bool),z.length<=2*i+1->S1.k9 t i o.T[i] z c=some (.inl (z++(if cV t o.T[i]=true then [o.T[i]] else []),c,i+1)):=λz c hz=>by
    unfold S1.k9
    rw[a3,A5]
    cases cV t o.T[i]with
    |true=>rw[F7,wZ (ho.2 _ a4),A5,H9 (capT (by omega)),if_pos rfl]
    |false=>rw[G5,if_neg rR,W8]
   have a7:((cond (!b) ((lE t.In o.T[i].In).bind λa6=>some (decide (a6<0))) (some false)):Option Bool)=some (decide (b=false/\cmpW t.In o.T[i].In=-1)):=by
    cases b with
    |true=>rfl
    |false =>
     have r1:=pX t.In o.T[i].In
     rw[cN,F7,CU _ _ ht.1,A5]
     congr 1
     exact decide_eq_decide.2 ⟨λe=>⟨rfl,by omega⟩,λe=>by have:=e.2;omega⟩
   rw[a7,A5]
   have b3:cU t b (o.T[i]::o.T.drop (i+1))=(if b=false/\cmpW t.In o.T[i].In=-1 then [t] else [])++((if cV t o.T[i]=true then [o.T[i]] else [])++cU t (b||decide (cmpW t.In o.T[i].In=-1)) (o.T.drop (i+1))):=rfl
   rw[b3]at g3
   by_cases hc:b=false/\cmpW t.In o.T[i].In=-1
   ·rw[if_pos hc,hc.1,rB,E9 hc.2]at g3
    refine⟨(y++[t]++(if cV t o.T[i]=true then [o.T[i]] else []),true,i+1),?_,⟨g4,?_,?_⟩,by simp only;omega⟩
    ·rw[C2 hc,wZ ht,A5,H9 (capT (by omega)),A5]
     exact a5 _ _ (by rw[H4,O8];omega)
    ·simp only[H4,O8]
     split<;>simp<;>omega
    ·simp only
     rw[<- g3]
     simp only[aS]
   ·rw[if_neg hc,dI]at g3
    have hb:(b||decide (cmpW t.In o.T[i].In=-1))=b:=by
     cases b with
     |true=>rfl
     |false =>
      rw[rB]
      exact I3 λe=>hc ⟨rfl,e⟩
    rw[hb]at g3
    refine⟨(y++(if cV t o.T[i]=true then [o.T[i]] else []),b,i+1),?_,⟨g4,?_,?_⟩,by simp only;omega⟩
    ·rw[B1 hc,A5]
     exact a5 y b (by omega)
    ·simp only[H4]
     split<;>simp<;>omega
    ·simp only
     rw[<- g3]
     simp only[aS]
  ·right
   have e:i=o.T.length:=by omega
   subst e
   rw[rG]at g3
   exact⟨(y,b),by rw[X6,G5],by simp only;omega,g3⟩) ([],d0,0) ⟨D8 _,by simp,by simp⟩
 obtain⟨⟨y,b⟩,e2,k1,k2⟩:=a9;simp only at k1 k2;rw[e2,A5]
 have a8:cU t d0 o.T=addL o.T t:=by
  unfold addL;by_cases h:bT o.T t.In=true\/t.In=[]
  ·have h0:d0=true:=by
    rw[<- hd];rcases h with h|h
    ·rw[h,Bool.or_true]
    ·rw[E9 h,Bool.true_or]
   rw[h0,vT,if_pos h,keep_all hv h]
  ·have h1:bT o.T t.In=false:=by
    cases hi:bT o.T t.In with
    |true=>exact absurd (.inl hi) h
    |false=>rfl
   have h0:d0=false:=by
    rw[<- hd,h1,I3 λe=>h (.inr e)];rfl
   rw[h0,vF _ λx hx e=>h (.inl (eE.2 ⟨x,hx,E9 (e ▸ W9 _)⟩)),if_neg h]
 rw[a8]at k2;simp only[S1.k11];cases b with
 |true =>
  rw[Z9,G5,A5,<- k2];simp[cU]
 |false =>
  rw[cN,F7,wZ ht,A5,H9 (capT (by omega)),A5,<- k2];simp[cU]
def R16_Add_eq{o:G7}{t:C7}(ho:SmTr o.T)(hv:X0 o)(ht:SmX t):gN o t=some (addO o t):=by
 have hl:=ho.1;unfold gN addO;rw[R16_Proper_eq _ _ ht.1 ht.2,A5];by_cases g1:gE t o.I=0
 ·rw[B1 (by simpa using g1),if_neg (by simpa using g1)];have hp:=vS.1 g1
  have key:=J2 (step:=λi=>gN.s2 o t i) (λi=>i<=o.T.length/\∀u∈o.T.take i,Agree u t) (λi=>o.T.length-i) (λr=>match r with|.inl ()=>¬clashO o.T t|.inr x=>clashO o.T t/\x=(o,13)) (λi ⟨g2,g3⟩=>by
   simp only[gN.s2]
   by_cases g4:i<o.T.length
   ·have hx:=get_at g4
    have a2:=M8 g4
    obtain⟨d,hd,a3⟩:=zum o.T[i] t (hv.prop _ a2).1 hp (ho.2 _ a2).1
    rw[M6 hx,F7,B8 hx,hd,A5]
    by_cases g5:0<=d
    ·exact .inr ⟨.inr (o,13),by rw[C2 g5],⟨_,a2,a3.1 g5⟩,rfl⟩
    ·left
     have hA:Agree o.T[i] t:=Q9 λe=>g5 (a3.2 e)
     refine⟨i+1,by rw[B1 g5],⟨g4,λu hu=>?_⟩,by omega⟩
     rw[W4 hx]at hu
     rcases I2.1 hu with h|h
     ·exact g3 u h
     ·rw[I7.1 h]
      exact hA
   ·right
    have e:i=o.T.length:=by omega
    subst e
    rw[R5]at g3
    exact⟨.inl (),by rw[X6,G5],λ⟨u,hu,h⟩=>h (g3 u hu)⟩) 0 ⟨D8 _,λu hu=>by simp at hu⟩
  obtain⟨r,e,hq⟩:=key;rw[e,A5];cases r with
  |inr x =>
   rw[if_pos hq.1,hq.2];rfl
  |inl u =>
   rw[if_neg hq];simp only[T6];rw[R16_add_eq ho hv ht,A5];simp only;by_cases g2:10000<(addL o.T t).length
   ·rw[C2,if_pos g2]
   ·rw[B1,if_neg g2]
 ·rw[C2 g1,if_pos g1]
section
structure I8(m:A8):Prop where
 i1:1<=m.I
 i2:m.I<=64
 n1:0<m.N.length
 n2:m.N.length<=128
 st:0<=m.S/\m.S<(m.N.length:Int)
 ol:m.O.length=m.N.length
 row:∀s,s<m.N.length->∃x y,m.N[s]?=some x/\m.O[s]?=some y/\(x.length:Int)=m.I/\(y.length:Int)=m.I/\(∀u∈x,0<=u/\u<(m.N.length:Int))/\∀v∈y,0<=v/\v<=1048576
def nx(m:A8)(s a:Nat):Nat:=((((m.N[s]?).getD [])[a]?).getD 0).toNat
def ot(m:A8)(s a:Nat):Int:=(((m.O[s]?).getD [])[a]?).getD 0
section
variable {m:A8}
def I8.at(H:I8 m){s a:Nat}(hs:s<m.N.length)(ha:a<m.I.toNat):nx m s a<m.N.length/\0<=ot m s a/\ot m s a<=1048576/\∃x y,m.N[s]?=some x/\m.O[s]?=some y/\x[a]?=some (↑(nx m s a):Int)/\y[a]?=some (ot m s a):=by
 obtain⟨x,y,h1,h2,h3,h4,h5,h6⟩:=H.row s hs;have hx:=get_at (l:=x) (i:=a) (by omega);have hy:=get_at (l:=y) (i:=a) (by omega)
 have e1:nx m s a=(x[a]'(by omega)).toNat:=by
  unfold nx;rw[h1,E7,hx,E7]
 have e2:ot m s a=y[a]'(by omega):=by
  unfold ot;rw[h2,E7,hy,E7]
 have g1:=h5 _ (M8 (by omega:a<x.length));have g2:=h6 _ (M8 (by omega:a<y.length));refine⟨by rw[e1];omega,by rw[e2];exact g2.1,by rw[e2];exact g2.2,x,y,h1,h2,?_,by rw[e2];exact hy⟩;rw[hx,e1];congr 1;omega
def outs(m:A8):Nat->A2->A2
 |_,[]=>[]
 |s,a::w=>ot m s a.toNat::outs m (nx m s a.toNat) w
def dest(m:A8):Nat->A2->Nat
 |s,[]=>s
 |s,a::w=>dest m (nx m s a.toNat) w
def WOk(n:Int)(w:A2):Prop:=∀a∈w,0<=a/\a<n
def lH:∀(w v:A2) (s:Nat),outs m s (w++v)=outs m s w++outs m (dest m s w) v
 |[],_,_=>rfl
 |a::w,v,s=>by
  show ot m s a.toNat::outs m (nx m s a.toNat) (w++v)=_;rw[lH w v];rfl
def iV:∀(w v:A2) (s:Nat),dest m s (w++v)=dest m (dest m s w) v
 |[],_,_=>rfl
 |_::w,v,_=>iV w v _
def fP:∀(w:A2) (s:Nat),(outs m s w).length=w.length
 |[],_=>rfl
 |a::w,s=>by
  show(outs m (nx m s a.toNat) w).length+1=w.length+1;rw[fP w]
def WOk.tail{n a:Int}{w:A2}(h:WOk n (a::w)):WOk n w:=λx hx=>h x (M7 _ hx)
def WOk.head{n a:Int}{w:A2}(h:WOk n (a::w)):0<=a/\a<n:=h a (by simp)
def WOk.take{n:Int}{w:A2}(h:WOk n w)(k:Nat):WOk n (w.take k):=λx hx=>h x (aD hx)
def WOk.append{n:Int}{w v:A2}(h:WOk n w)(g:WOk n v):WOk n (w++v):=λx hx=>(I2.1 hx).elim (h x) (g x)
def I8.dest(H:I8 m):∀{w:A2} {s:Nat},WOk m.I w->s<m.N.length->dest m s w<m.N.length
 |[],_,_,hs=>hs
 |a::w,s,hw,hs=>by
  have:=hw.head;exact H.dest (w:=w) hw.tail (H.at hs (a:=a.toNat) (by omega)).1
def AM(H:I8 m){s:Nat}(hs:s<m.N.length){w:A2}(hw:WOk m.I w)(hl:w.length<=100000000):bU m (s:Int) w=some (outs m s w,(↑(dest m s w):Int)):=by
 unfold bU
 have key:=U2 (step:=λ(q:Int×A2×Nat)=>bU.s2 m w q.1 q.2.1 q.2.2) (r:=((↑(dest m s w):Int),outs m s w)) (λq=>q.2.2<=w.length/\q.1=(↑(dest m s (w.take q.2.2)):Int)/\q.2.1=outs m s (w.take q.2.2)) (λq=>w.length-q.2.2) (λq ⟨g1,g2,g3⟩=>by
  obtain⟨st,y,k⟩:=q
  simp only at g1 g2 g3
  subst g2
  subst g3
  simp only[bU.s2]
  by_cases g4:k<w.length
  ·left
   have hx:=get_at g4
   obtain⟨x0,x1⟩:=hw _ (M8 g4)
   have ha:w[k].toNat<m.I.toNat:=by omega
   have hd:Sym.dest m s (w.take k)<m.N.length:=H.dest (hw.take k) hs
   obtain⟨_,_,_,x,y,e1,e2,e3,e4⟩:=H.at hd ha
   refine⟨((↑(Sym.dest m s (w.take (k+1))):Int),outs m s (w.take (k+1)),k+1),?_,⟨g4,rfl,rfl⟩,by simp only;omega⟩
   rw[M6 hx,F7,D7 rfl e2,B8 hx,D7 (i:=w[k].toNat) (by omega) e4,H9 (by unfold B4;rw[fP,M3];omega),D7 rfl e1,B8 hx,D7 (i:=w[k].toNat) (by omega) e3,W4 hx,iV,lH]
   rfl
  ·right
   have e:k=w.length:=by omega
   subst e
   rw[B1,R5]) (n:=fuel) (s:=((s:Int),[],0)) ⟨D8 _,rfl,rfl⟩
 rw[key,A5];rfl
def RowRng(n:Nat)(u v:Int):Prop:=(0<=u/\u<(n:Int))/\0<=v/\v<=1048576
def R06_row_tot(h1:m.I<=64){s:Nat}(hs:s<m.N.length)(ho:m.O.length=m.N.length):∃e,dA m (s:Int)=some e/\(e=0->∃x y,m.N[s]?=some x/\m.O[s]?=some y/\(x.length:Int)=m.I/\(y.length:Int)=m.I/\(∀u∈x,0<=u/\u<(m.N.length:Int))/\∀v∈y,0<=v/\v<=1048576):=by
 obtain⟨x,hx⟩:∃x,m.N[s]?=some x:=⟨_,get_at hs⟩;obtain⟨y,hy⟩:∃y,m.O[s]?=some y:=⟨_,get_at (l:=m.O) (i:=s) (by omega)⟩;unfold dA;rw[D7 rfl hx];by_cases g1:(x.length:Int)=m.I
 ·by_cases g2:(y.length:Int)=m.I
  ·rw[B1 (λh=>h g1),D7 rfl hy,I3 (λh=>h g2),A5,G5]
   obtain⟨r,hr,hq⟩:=J2 (step:=λa=>dA.s2 m (s:Int) a) (λa=>a<=x.length/\∀b u v,b<a->x[b]?=some u->y[b]?=some v->RowRng m.N.length u v) (λa=>x.length-a) (λr=>r=.inr 2\/(r=.inl ()/\∀b u v,b<x.length->x[b]?=some u->y[b]?=some v->RowRng m.N.length u v)) (λa ⟨q1,q2⟩=>by
    simp only[dA.s2]
    by_cases q3:a<x.length
    ·obtain⟨u,ha⟩:∃u,x[a]?=some u:=⟨_,get_at q3⟩
     obtain⟨v,hb⟩:∃v,y[a]?=some v:=⟨_,get_at (l:=y) (i:=a) (by omega)⟩
     rw[C2,D7 rfl hx,B8 ha]
     by_cases z1:u<0
     ·right
      exact⟨.inr 2,by rw[E9 z1];rfl,Or.inl rfl⟩
     rw[B1 z1,D7 rfl hx,B8 ha]
     by_cases z2:(m.N.length:Int)<=u
     ·right
      exact⟨.inr 2,by rw[E9 z2];rfl,Or.inl rfl⟩
     rw[B1 z2,D7 rfl hy,B8 hb]
     by_cases z3:v<0
     ·right
      exact⟨.inr 2,by rw[E9 z3];rfl,Or.inl rfl⟩
     rw[B1 z3,D7 rfl hy,B8 hb]
     by_cases z4:1048576<v
     ·right
      exact⟨.inr 2,by rw[E9 z4];rfl,Or.inl rfl⟩
     left
     refine⟨a+1,by rw[I3 z4,A5,G5,L3],⟨q3,λb u' v' a2 hu hv=>?_⟩,by omega⟩
     rcases J3 b a with h|h
     ·exact q2 b u' v' h hu hv
     ·have e:b=a:=by omega
      subst e
      rw[ha]at hu
      rw[hb]at hv
      injection hu with hu
      injection hv with hv
      subst hu
      subst hv
      exact⟨⟨by omega,by omega⟩,by omega,by omega⟩
    ·right
     have e:a=x.length:=by omega
     subst e
     exact⟨.inl (),by rw[B1],Or.inr ⟨rfl,q2⟩⟩) 0 ⟨D8 _,λb _ _ h=>absurd h (O4 _)⟩
   rw[hr,A5];rcases hq with rfl|⟨rfl,hq⟩
   ·exact⟨2,rfl,λh=>by cases h⟩
   ·refine⟨0,rfl,λ_=>⟨x,y,hx,hy,g1,g2,λu hu=>?_,λv hv=>?_⟩⟩
    ·obtain⟨b,hb,rfl⟩:=cQ.1 hu;exact(hq b _ _ hb (get_at hb) (get_at (l:=y) (by omega))).1
    ·obtain⟨b,hb,rfl⟩:=cQ.1 hv;exact(hq b _ _ (by omega) (get_at (l:=x) (by omega)) (get_at hb)).2
  ·exact⟨1,by rw[B1 (λh=>h g1),D7 rfl hy,E9 g2];rfl,λh=>by cases h⟩
 ·exact⟨1,by rw[E9 g1];rfl,λh=>by cases h⟩
def R06_Valid_tot(m:A8):∃e,U3 m=some e/\(e=0->I8 m):=by
 unfold U3;by_cases c1:m.I<1
 ·exact⟨2,by rw[E9 c1];rfl,λh=>by cases h⟩
 rw[B1 c1];by_cases c2:64<m.I
 ·exact⟨2,by rw[E9 c2];rfl,λh=>by cases h⟩
 rw[I3 c2,A5,G5];by_cases c3:(m.N.length:Int)=0
 ·exact⟨19,by rw[E9 c3];rfl,λh=>by cases h⟩
 rw[B1 c3];by_cases c4:128<(m.N.length:Int)
 ·exact⟨11,by rw[E9 c4];rfl,λh=>by cases h⟩
 rw[B1 c4];by_cases c5:m.S<0
 ·exact⟨2,by rw[E9 c5];rfl,λh=>by cases h⟩
 rw[B1 c5];by_cases c6:(m.N.length:Int)<=m.S
 ·exact⟨2,by rw[E9 c6];rfl,λh=>by cases h⟩
 rw[I3 c6,A5,G5];by_cases c7:(m.O.length:Int)=(m.N.length:Int)
 ·rw[B1 (λh=>h c7)];have ho:m.O.length=m.N.length:=by omega
  obtain⟨r,hr,hq⟩:=J2 (step:=λs=>U3.s2 m s) (λa=>a<=m.N.length/\∀s,s<a->∃x y,m.N[s]?=some x/\m.O[s]?=some y/\(x.length:Int)=m.I/\(y.length:Int)=m.I/\(∀u∈x,0<=u/\u<(m.N.length:Int))/\∀v∈y,0<=v/\v<=1048576) (λa=>m.N.length-a) (λr=>(∃e,r=.inr e/\e≠0)\/(r=.inl ()/\∀s,s<m.N.length->∃x y,m.N[s]?=some x/\m.O[s]?=some y/\(x.length:Int)=m.I/\(y.length:Int)=m.I/\(∀u∈x,0<=u/\u<(m.N.length:Int))/\∀v∈y,0<=v/\v<=1048576)) (λa ⟨q1,q2⟩=>by
   simp only[U3.s2]
   by_cases q3:a<m.N.length
   ·obtain⟨e,he,hz⟩:=R06_row_tot (m:=m) (by omega) q3 ho
    rw[C2,he,A5]
    by_cases z:e=0
    ·left
     refine⟨a+1,by rw[B1 (λh=>h z)],⟨q3,λs hs=>?_⟩,by omega⟩
     rcases J3 s a with h|h
     ·exact q2 s h
     ·have e2:s=a:=by omega
      subst e2
      exact hz z
    ·right
     exact⟨.inr e,by rw[C2 z],Or.inl ⟨e,rfl,z⟩⟩
   ·right
    have e:a=m.N.length:=by omega
    subst e
    exact⟨.inl (),by rw[B1],Or.inr ⟨rfl,q2⟩⟩) 0 ⟨D8 _,λs h=>absurd h (O4 _)⟩
  rw[hr,A5];rcases hq with⟨e,rfl,hz⟩|⟨rfl,hq⟩
  ·exact⟨e,rfl,λh=>absurd h hz⟩
  ·exact⟨0,rfl,λ_=>⟨by omega,by omega,by omega,by omega,⟨by omega,by omega⟩,ho,hq⟩⟩
 ·exact⟨1,by rw[E9 c7];rfl,λh=>by cases h⟩
def macOk_of(h:U3 m=some 0):I8 m:=by
 obtain⟨e,he,hz⟩:=R06_Valid_tot m;rw[h]at he;injection he with he
 exact hz he.symm
end
end
section
def zud{m:A8}(H:I8 m):T4 m=some 0:=by
 have i1:=H.i1;have i2:=H.i2;have n1:=H.n1;have n2:=H.n2;have st:=H.st;have ol:=H.ol;unfold T4;rw[B1,I3 (by omega),A5,G5,B1,B1,B1,I3 (by omega),A5,G5,B1]
 have a3:∀s,s<m.N.length->iter (λ(a:Nat)=>T4.s13 m s a) fuel 0=some (.inl ()):=λs hs =>
  U2 (λa=>a<=m.I.toNat) (λa=>m.I.toNat-a) (λa ha=>by
   simp only[T4.s13]
   by_cases g:a<m.I.toNat
   ·left
    obtain⟨h1,h2,h3,x,y,hx,hy,a5,a4⟩:=H.at hs g
    refine⟨a+1,?_,g,by omega⟩
    rw[C2,B8 hx,B8 a5,B8 hy,B8 a4,B1,B1,B1,I3 (by omega),A5,G5,L3]
   ·right
    rw[B1]) (D8 _)
 have a2:iter (λ(s:Nat)=>T4.s14 m s) fuel 0=some (.inl ()) :=
  U2 (λs=>s<=m.N.length) (λs=>m.N.length-s) (λs hs=>by
   simp only[T4.s14]
   by_cases g:s<m.N.length
   ·left
    obtain⟨x,y,hx,hy,a7,a6,_,_⟩:=H.row s g
    refine⟨s+1,?_,g,by omega⟩
    rw[C2,B8 hx,B1,B8 hy,I3 (by omega),A5,G5,a3 s g,A5]
    rfl
   ·right
    rw[B1]) (D8 _)
 rw[a2,A5];rfl
abbrev costOk(l:CH):Prop:=(∀c∈l.Step,0<=c/\c<=1048576)/\0<=l.Reset/\l.Reset<=1048576
abbrev cntOk(n:Int):Prop:=0<=n/\n<=1125899906842624
abbrev faultOk(f:BW):Prop:=(0<=f.Lost/\f.Lost<=10000)/\(0<=f.Wrong/\f.Wrong<=10000)/\(0<=f.Crash/\f.Crash<=10000)/\f.Lost+f.Wrong+f.Crash<=10000
structure DevOk(d:tG):Prop where
 v6:U3 d.M=some 0
 st:0<=d.State/\d.State<(d.M.N.length:Int)
 ll:(d.Latency.Step.length:Int)=d.M.I
 lc:costOk d.Latency
 fl:faultOk d.Faults
 c1:cntOk d.Steps
 c2:cntOk d.Resets
 c3:cntOk d.Time
section
variable {d:tG}
end
end
section
def scan_map{V R R':Type}{g:Nat->V->Option R}{f:R->R'}:∀(l:List V) (j:Nat),scan (λi x=>(g i x).map f) j l=(scan g j l).map f
 |[],_=>rfl
 |x::l,j=>by
  unfold scan;cases g j x with
  |some r=>rfl
  |none=>exact scan_map l (j+1)
def pF{V R:Type}{g:Nat->V->Option R}{r:R}:∀{l:List V} {j:Nat},scan g j l=some r->∃i x,l[i]?=some x/\g (j+i) x=some r
 |[],_,h=>by cases h
 |x::l,j,h=>by
  unfold scan at h;cases e:g j x with
  |some q =>
   rw[e]at h;exact⟨0,x,rfl,by rw[V8,e];exact h⟩
  |none =>
   rw[e]at h;obtain⟨i,y,h1,h2⟩:=pF (j:=j+1) h;exact⟨i+1,y,by simpa using h1,by rw[show j+(i+1)=j+1+i by omega,h2]⟩
def celE(n:Nat)(u v:Int):Option Int:=if u<0\/(n:Int)<=u\/v<0\/1048576<v then some 2 else none
def rowE(m:A8)(s:Nat)(x:A2):Option Int :=
 if(x.length:Int)≠m.I\/(↑((m.O[s]?).getD []).length:Int)≠m.I then some 1 else scan (λa u=>celE m.N.length u ((((m.O[s]?).getD [])[a]?).getD 0)) 0 x
def P9(m:A8):Int :=
 if m.I<1\/64<m.I then 2 else if m.N.length=0 then 19 else if 128<m.N.length then 11 else if m.S<0\/(m.N.length:Int)<=m.S then 2 else if m.O.length≠m.N.length then 1
 else match scan (rowE m) 0 m.N with|some e=>e|none=>0
section
variable {m:A8}
def rowE_ne{s:Nat}{x:A2}{e:Int}(h:rowE m s x=some e):e≠0:=by
 unfold rowE at h;split at h
 ·injection h with h
  omega
 ·obtain⟨i,u,_,h2⟩:=pF h;unfold celE at h2;split at h2
  ·injection h2 with h2
   omega
  ·cases h2
def cel_cond{n:Nat}{u v:Int}:(cond (decide (u<0)) (some true) (cond (decide ((n:Int)<=u)) (some true) (cond (decide (v<0)) (some true) (some (decide (1048576<v))))):Option Bool)=some (celE n u v).isSome:=by
 unfold celE;by_cases h1:u<0<;>by_cases h2:(n:Int)<=u<;>by_cases h3:v<0<;>by_cases h4:1048576<v<;>simp[h1,h2,h3,h4]
def celE_two{n:Nat}{u v:Int}:celE n u v=if(celE n u v).isSome=true then some 2 else none:=by
 unfold celE;split<;>rfl
def row_len{s:Nat}{x y:A2}(hx:m.N[s]?=some x)(hy:m.O[s]?=some y) :
  (idxn m.N s λa2=>cond (decide ((a2.length:Int)≠m.I)) (some true) (idxn m.O s λa6=>some (decide ((a6.length:Int)≠m.I))):Option Bool)=some (decide ((x.length:Int)≠m.I\/(y.length:Int)≠m.I)):=by
 rw[B8 hx];by_cases h:(x.length:Int)=m.I
 ·rw[B1 (λk=>k h),B8 hy];simp[h]
 ·rw[C2 h];simp[h]
def idx_nat{V G:Type}{l:List V}{i:Nat}{k:V->Option G}:idx l (i:Int) k=idxn l i k:=by
 cases h:l[i]? with
 |some x=>rw[D7 rfl h,B8 h]
 |none =>
  unfold idx idxn;rw[h,if_pos (by omega),H6,h]
def R06_row_eq(hi:m.I<=64){s:Nat}{x y:A2}(hx:m.N[s]?=some x)(hy:m.O[s]?=some y):dA m (s:Int)=some (match rowE m s x with|some e=>e|none=>0):=by
 unfold dA;rw[idx_nat];simp only[idx_nat];rw[row_len hx hy,A5];unfold rowE;rw[hy,E7];by_cases h:(x.length:Int)≠m.I\/(y.length:Int)≠m.I
 ·rw[C2 h,if_pos h]
 ·rw[B1 h,if_neg h];have h1:(x.length:Int)=m.I:=Q9 λq=>h (Or.inl q);have h2:(y.length:Int)=m.I:=Q9 λq=>h (Or.inr q);rw[aJ (l:=x) (λa u=>celE m.N.length u ((y[a]?).getD 0)) (λa u hu=>?_) ?_ (by omega),A5]
  ·cases scan (λa u=>celE m.N.length u ((y[a]?).getD 0)) 0 x<;>rfl
  ·simp only[dA.s2];rw[B1]
  ·have ha:=(E0.1 hu).1;have hv:y[a]?=some y[a]:=get_at (by omega);rw[hv,E7];simp only[dA.s2,idx_nat];rw[C2];simp only[B8 hx,B8 hy,B8 hu,B8 hv];rw[cel_cond,A5];cases e:celE m.N.length u y[a]with
   |none =>
    rw[uC,G5,L3]
   |some r =>
    have:=celE_two (n:=m.N.length) (u:=u) (v:=y[a]);rw[e]at this;injection this with this
    rw[this,yM,F7]
def mealy_row_eq(hi:m.I<=64){s:Nat}{x y:A2}(hx:m.N[s]?=some x)(hy:m.O[s]?=some y):T4.s14 m s=some (match rowE m s x with|some e=>.inr (.inr e)|none=>.inl (s+1)):=by
 have hs:=(E0.1 hx).1;simp only[T4.s14];rw[C2,row_len hx hy,A5];unfold rowE;rw[hy,E7];by_cases h:(x.length:Int)≠m.I\/(y.length:Int)≠m.I
 ·rw[C2 h,if_pos h]
 ·rw[B1 h,if_neg h];have h1:(x.length:Int)=m.I:=Q9 λq=>h (Or.inl q);have h2:(y.length:Int)=m.I:=Q9 λq=>h (Or.inr q);rw[aJ (l:=x) (λa u=>(celE m.N.length u ((y[a]?).getD 0)).map λr=>(.inr (.inr r):Nat⊕(Unit⊕Int))) (λa u hu=>?_) ?_ (by omega),A5,scan_map]
  ·cases scan (λa u=>celE m.N.length u ((y[a]?).getD 0)) 0 x<;>rfl
  ·simp only[T4.s13];rw[B1]
  ·have ha:=(E0.1 hu).1;have hv:y[a]?=some y[a]:=get_at (by omega);rw[hv,E7];simp only[T4.s13];rw[C2];simp only[B8 hx,B8 hy,B8 hu,B8 hv];rw[cel_cond,A5];cases e:celE m.N.length u y[a]with
   |none =>
    rw[uC,G5,L3];rfl
   |some r =>
    have:=celE_two (n:=m.N.length) (u:=u) (v:=y[a]);rw[e]at this;injection this with this
    rw[this,yM,F7];rfl
def iX(m:A8):U3 m=some (P9 m):=by
 unfold U3 P9;by_cases c1:m.I<1
 ·rw[E9 c1,if_pos (Or.inl c1)];rfl
 rw[B1 c1];by_cases c2:64<m.I
 ·rw[E9 c2,if_pos (Or.inr c2)];rfl
 rw[I3 c2,A5,G5,if_neg (by omega)];by_cases c3:m.N.length=0
 ·rw[E9 (by omega),if_pos c3];rfl
 rw[B1,if_neg c3];by_cases c4:128<m.N.length
 ·rw[E9 (by omega),if_pos c4];rfl
 rw[B1,if_neg c4];by_cases c5:m.S<0
 ·rw[E9 c5,if_pos (Or.inl c5)];rfl
 rw[B1 c5];by_cases c6:(m.N.length:Int)<=m.S
 ·rw[E9 c6,if_pos (Or.inr c6)];rfl
 rw[I3 c6,A5,G5,if_neg (by omega)];by_cases c7:m.O.length=m.N.length
 ·rw[B1,if_neg (by omega),aJ (l:=m.N) (rowE m) (λs x hx=>?_) ?_ (by omega),A5]
  ·cases scan (rowE m) 0 m.N<;>rfl
  ·simp only[U3.s2];rw[B1]
  ·have hs:=(E0.1 hx).1;simp only[U3.s2];rw[C2,R06_row_eq (by omega) hx (get_at (l:=m.O) (by omega)),A5];cases e:rowE m s x with
   |none=>rfl
   |some r=>rw[C2 (rowE_ne e)]
 ·rw[E9 (by omega),if_pos c7];rfl
def lP(m:A8):T4 m=some (P9 m):=by
 unfold T4 P9;by_cases c1:m.I<1
 ·rw[E9 c1,if_pos (Or.inl c1)];rfl
 rw[B1 c1];by_cases c2:64<m.I
 ·rw[E9 c2,if_pos (Or.inr c2)];rfl
 rw[I3 c2,A5,G5,if_neg (by omega)];by_cases c3:m.N.length=0
 ·rw[E9 (by omega),if_pos c3];rfl
 rw[B1,if_neg c3];by_cases c4:128<m.N.length
 ·rw[E9 (by omega),if_pos c4];rfl
 rw[B1,if_neg c4];by_cases c5:m.S<0
 ·rw[E9 c5,if_pos (Or.inl c5)];rfl
 rw[B1 c5];by_cases c6:(m.N.length:Int)<=m.S
 ·rw[E9 c6,if_pos (Or.inr c6)];rfl
 rw[I3 c6,A5,G5,if_neg (by omega)];by_cases c7:m.O.length=m.N.length
 ·rw[B1,if_neg (by omega),aJ (l:=m.N) (rowE m) (λs x hx=>?_) ?_ (by omega),A5]
  ·cases scan (rowE m) 0 m.N<;>rfl
  ·simp only[T4.s14];rw[B1]
  ·have hs:=(E0.1 hx).1;rw[mealy_row_eq (by omega) hx (get_at (l:=m.O) (by omega))];cases rowE m s x<;>rfl
 ·rw[E9 (by omega),if_pos c7];rfl
def aY(h:P9 m=0):I8 m:=macOk_of (by rw[iX,h])
def fromM(m:A8)(s:Int)(w:A2):A2×Int×Int :=
 if P9 m≠0 then([],0,P9 m) else if s<0\/(m.N.length:Int)<=s then([],0,2) else if R8 w m.I≠0 then([],0,R8 w m.I) else(outs m s.toNat w,(↑(dest m s.toNat w):Int),0)
def checkI_len{w:A2}{n:Int}(h:R8 w n=0):w.length<=1024:=by
 unfold R8 at h;split at h
 ·split at h
  ·cases h
  ·omega
 ·cases h
def BB{s:Int}{w:A2}(hw:SmW w):pA m s w=some (fromM m s w):=by
 unfold pA fromM;rw[iX,A5];by_cases c1:P9 m=0
 ·rw[B1,if_neg (by omega)];by_cases c2:s<0
  ·rw[E9 c2,if_pos (Or.inl c2)];rfl
  rw[B1 c2];by_cases c3:(m.N.length:Int)<=s
  ·rw[E9 c3,if_pos (Or.inr c3)];rfl
  rw[I3 c3,A5,G5,if_neg (by omega),wT _ _ hw,A5];by_cases c4:R8 w m.I=0
  ·have:=checkI_len c4;have hO:=AM (aY c1) (s:=s.toNat) (by omega) (w:=w) (check_mem c4) (by omega);rw[show(s.toNat:Int)=s by omega]at hO;rw[B1,if_neg (by omega),hO,A5]
  ·rw[C2 c4,if_pos c4]
 ·rw[C2 c1,if_pos c1]
end
end
section
section
variable {m:A8}{ids:List (A4)}{w:A2}
end
end
section
section
variable {A:Type}[DecidableEq A]
def bfsB(e:A->Nat->A)(K:Nat)(s0:A):Nat->List (A×A2)
 |0=>[(s0,[])]
 |r+1=>match (bfsB e K s0 r)[r / K]? with
  |none=>bfsB e K s0 r
  |some x=>if e x.1 (r%K)∈(bfsB e K s0 r).map Prod.fst then bfsB e K s0 r else bfsB e K s0 r++[(e x.1 (r%K),x.2++[(↑(r%K):Int)])]
def dR{K i a:Nat}(h:a<K):(i*K+a) / K=i:=by
 rw[jC,Nat.add_mul_div_right _ _ (by omega),Nat.div_eq_of_lt h,E8]
def kK{K i a:Nat}(h:a<K):(i*K+a)%K=a:=by
 rw[jC,Nat.add_mul_mod_self_right,yI h]
def eO{i n a K:Nat}(hi:i<n)(ha:a<K):i*K+a<n*K:=by
 have:(i+1)*K<=n*K:=bC K hi;rw[cM]at this;omega
variable {e:A->Nat->A}{K:Nat}{s0:A}
def bfs_step{i a:Nat}{x:A×A2}(ha:a<K)(hx:(bfsB e K s0 (i*K+a))[i]?=some x) :
  bfsB e K s0 (i*K+(a+1))=if e x.1 a∈(bfsB e K s0 (i*K+a)).map Prod.fst then bfsB e K s0 (i*K+a) else bfsB e K s0 (i*K+a)++[(e x.1 a,x.2++[(a:Int)])]:=by
 show bfsB e K s0 ((i*K+a)+1)=_;rw[bfsB,dR ha,hx,kK ha]
def sB(r:Nat):bfsB e K s0 r <+: bfsB e K s0 (r+1):=by
 rw[bfsB];split
 ·exact W9 _
 ·split
  ·exact W9 _
  ·exact yN _ _
def cE{r:Nat}:∀{r':Nat},r<=r'->bfsB e K s0 r <+: bfsB e K s0 r'
 |0,h=>by
  have:r=0:=by omega
  subst this;exact W9 _
 |r'+1,h=>by
  rcases J3 r (r'+1) with g|g
  ·exact(cE (r':=r') (by omega)).trans (sB r')
  ·have:r=r'+1:=by omega
   subst this;exact W9 _
def aX{V:Type}{l l':List V}(h:l <+: l'){i:Nat}{x:V}(hx:l[i]?=some x):l'[i]?=some x:=by
 obtain⟨t,rfl⟩:=h;rw[N6 (E0.1 hx).1,hx]
def mH(r:Nat):(bfsB e K s0 r)[0]?=some (s0,[]):=aX (cE (D8 r)) rfl
def nE:∀r:Nat,((bfsB e K s0 r).map Prod.fst).Nodup
 |0=>by simp[bfsB]
 |r+1=>by
  have ih:=nE r;rw[bfsB];split
  ·exact ih
  ·split
   ·exact ih
   ·rename_i x _ hn;rw[L1,V5];refine⟨ih,by simp,λa ha b hb hab=>hn ?_⟩;have:b=e x.1 (r%K):=by simpa using hb
    rw[<- this,<- hab];exact ha
def mQ:∀{r u:Nat} {x:A×A2},(bfsB e K s0 r)[u]?=some x->u=0\/∃r' y,r'<r/\r' / K<u/\(bfsB e K s0 r)[r' / K]?=some y/\x=(e y.1 (r'%K),y.2++[(↑(r'%K):Int)])
 |0,u,x,h=>by
  left;have:=(E0.1 h).1;simp[bfsB]at this;exact this
 |r+1,u,x,h=>by
  have old:(bfsB e K s0 r)[u]?=some x->u=0\/∃r' y,r'<r+1/\r' / K<u/\(bfsB e K s0 (r+1))[r' / K]?=some y/\x=(e y.1 (r'%K),y.2++[(↑(r'%K):Int)]):=λh=>by
   rcases mQ h with h|⟨r',y,h1,h2,h3,h4⟩
   ·exact Or.inl h
   ·exact Or.inr ⟨r',y,by omega,h2,aX (sB r) h3,h4⟩
  have hh:=h;rw[bfsB]at h;split at h
  ·exact old h
  ·rename_i y hy;split at h
   ·exact old h
   ·rename_i hn;rcases J3 u (bfsB e K s0 r).length with g|g
    ·rw[N6 g]at h;exact old h
    ·right;rw[S7 g]at h
     have hu:u-(bfsB e K s0 r).length=0:=by
      have:=(E0.1 h).1;simpa using this
     rw[hu]at h
     have hx:x=(e y.1 (r%K),y.2++[(↑(r%K):Int)]):=by
      simp at h;exact h.symm
     have hk:=(E0.1 hy).1;exact⟨r,y,by omega,by omega,aX (sB r) hy,hx⟩
def bfs_to{r:Nat}{x:A×A2}(hx:(bfsB e K s0 r)[r / K]?=some x):e x.1 (r%K)∈(bfsB e K s0 (r+1)).map Prod.fst:=by
 rw[bfsB,hx];simp only;split
 ·assumption
 ·simp
structure V1(e:A->Nat->A)(K:Nat)(s0:A)(L:List (A×A2)):Prop where
 eq:L=bfsB e K s0 (L.length*K)
variable {L:List (A×A2)}
def V1.at(h:V1 e K s0 L){r:Nat}(hr:r<=L.length*K):bfsB e K s0 r <+: L:=by
 have:=cE (e:=e) (K:=K) (s0:=s0) hr;rw[<- h.eq]at this;exact this
def V1.first(h:V1 e K s0 L):L[0]?=some (s0,[]):=by
 rw[h.eq];exact mH _
def V1.nodup(h:V1 e K s0 L):(L.map Prod.fst).Nodup:=by
 rw[h.eq];exact nE _
def V1.long(h:V1 e K s0 L){i a:Nat}(hi:i<L.length)(ha:a<K):∃x,L[i]?=some x/\(bfsB e K s0 (i*K+a))[i]?=some x:=by
 refine⟨_,K8 hi,?_⟩;have a2:=h.at (r:=i*K+a) (by have:=eO hi ha;omega);rcases J3 i (bfsB e K s0 (i*K+a)).length with g|g
 ·have:=aX a2 (K8 g);rw[K8 hi]at this;rw[K8 g,this]
 ·exfalso
  have a3:∀d,bfsB e K s0 (i*K+a+d)=bfsB e K s0 (i*K+a):=by
   intro d
   induction d with
   |zero=>rfl
   |succ d ih =>
    show bfsB e K s0 (i*K+a+d+1)=_;rw[bfsB,ih,L0 ?_];have h1:(i*K+a) / K<=(i*K+a+d) / K:=uG (by omega);rw[dR ha]at h1;omega
  have h2:=a3 (L.length*K-(i*K+a));rw[show i*K+a+(L.length*K-(i*K+a))=L.length*K by have:=eO hi ha;omega,<- h.eq]at h2;rw[<- h2]at g;omega
def V1.closed(h:V1 e K s0 L){i a:Nat}{x:A×A2}(hx:L[i]?=some x)(ha:a<K):∃j y,L[j]?=some y/\y.1=e x.1 a/\∀u,0<u->u<=j->∃i' a' z w,a'<K/\i'*K+a'<=i*K+a/\i'<u/\L[i']?=some z/\L[u]?=some w/\w.1=e z.1 a':=by
 have hi:=(E0.1 hx).1;obtain⟨x',h1,h2⟩:=h.long hi ha;rw[hx]at h1;injection h1 with h1
 subst h1;have a8:=eO hi ha;have a2:=h.at (r:=i*K+a+1) (by omega);have h3:=bfs_to (e:=e) (K:=K) (s0:=s0) (r:=i*K+a) (x:=x) (by rw[dR ha];exact h2);rw[kK ha]at h3;obtain⟨y,hy,a5⟩:=H0.1 h3;obtain⟨j,hj,a4⟩:=cQ.1 hy;have a3:(bfsB e K s0 (i*K+a+1))[j]?=some y:=by rw[K8 hj,a4]
 refine⟨j,y,aX a2 a3,a5,λu hu a7=>?_⟩;have a6:u<(bfsB e K s0 (i*K+a+1)).length:=by omega
 have hw:=K8 a6;rcases mQ hw with q|⟨r',z,q1,q2,q3,q4⟩
 ·omega
 ·have hK:0<K:=by omega
  refine⟨r' / K,r'%K,z,_,fC _ hK,?_,q2,aX a2 q3,aX a2 hw,by rw[q4]⟩;have:=rE r' K;rw[jD]at this;omega
def V1.from(h:V1 e K s0 L)(hK:0<K){u:Nat}{x:A×A2}(hx:L[u]?=some x):u=0\/∃i a y,i<u/\a<K/\L[i]?=some y/\x=(e y.1 a,y.2++[(a:Int)]):=by
 have a2:=hx;rw[h.eq]at a2;rcases mQ a2 with q|⟨r',z,q1,q2,q3,q4⟩
 ·exact Or.inl q
 ·rw[<- h.eq]at q3;exact Or.inr ⟨r' / K,r'%K,z,q2,fC _ hK,q3,q4⟩
def V1.uniq{L':List (A×A2)}(hK:0<K)(h:V1 e K s0 L)(h':V1 e K s0 L'):L=L':=by
 have key:∀{L L':List (A×A2)},V1 e K s0 L->V1 e K s0 L'->L.length<=L'.length->L=L':=λ{L L'} h h' hl=>by
  rcases J3 L.length L'.length with g|g
  ·exfalso
   have a2:L <+: L':=by
    have:=h'.at (r:=L.length*K) (bC K hl)
    rwa [<- h.eq]at this
   obtain⟨x,_,hx⟩:=h'.long g hK;rw[V8,<- h.eq,L0 (F9 _)]at hx;cases hx
  ·have e1:L.length=L'.length:=by omega
   rw[h.eq,h'.eq,e1]
 rcases kD L.length L'.length with g|g
 ·exact key h h' g
 ·exact(key h' h g).symm
end
end
section
def E(m:A8):Nat->Nat->Nat->Prop
 |0,_,_=>True
 |k+1,s,t=>E m k s t/\∀a,a<m.I.toNat->ot m s a=ot m t a/\E m k (nx m s a) (nx m t a)
section
variable {m:A8}
def E_refl:∀(k s:Nat),E m k s s
 |0,_=>trivial
 |k+1,s=>⟨E_refl k s,λ_ _=>⟨rfl,E_refl k _⟩⟩
def jJ:∀{k s t:Nat},E m k s t->E m k t s
 |0,_,_,_=>trivial
 |_+1,_,_,h=>⟨jJ h.1,λa ha=>⟨(h.2 a ha).1.symm,jJ (h.2 a ha).2⟩⟩
def gK:∀{k s t u:Nat},E m k s t->E m k t u->E m k s u
 |0,_,_,_,_,_=>trivial
 |_+1,_,_,_,h,g=>⟨gK h.1 g.1,λa ha=>⟨(h.2 a ha).1.trans (g.2 a ha).1,gK (h.2 a ha).2 (g.2 a ha).2⟩⟩
def E_mono{k j s t:Nat}(hk:k<=j)(h:E m j s t):E m k s t:=by
 induction j with
 |zero =>
  have e:k=0:=by omega
  subst e;exact h
 |succ j ih =>
  rcases J3 k (j+1) with h1|h1
  ·exact ih (by omega) h.1
  ·have e:k=j+1:=by omega
   subst e;exact h
def E_outs:∀{w:A2} {s t:Nat},E m w.length s t->WOk m.I w->outs m s w=outs m t w
 |[],_,_,_,_=>rfl
 |a::w,s,t,h,hw=>by
  have ha:=hw.head;obtain⟨h1,h2⟩:=h.2 a.toNat (by omega);show ot m s a.toNat::outs m _ w=ot m t a.toNat::outs m _ w;rw[h1,E_outs (w:=w) h2 hw.tail]
def pK:∀{k s t:Nat},(∀w,w.length<=k->WOk m.I w->outs m s w=outs m t w)->E m k s t
 |0,_,_,_=>trivial
 |k+1,s,t,h=>⟨pK λw hl hw=>h w (by omega) hw,λa ha=>by
  have hx:∀w,w.length<=k->WOk m.I w->ot m s a=ot m t a/\outs m (nx m s a) w=outs m (nx m t a) w:=λw hl hw=>by
   have h1:=h ((a:Int)::w) (by simp;omega) (λx hx=>by
    rcases M4.1 hx with rfl|hx
    ·exact⟨by omega,by omega⟩
    ·exact hw x hx)
   have h2:ot m s a::outs m (nx m s a) w=ot m t a::outs m (nx m t a) w:=h1
   injection h2 with h3 h4
   exact⟨h3,h4⟩
  exact⟨(hx [] (D8 _) (λx hx=>by cases hx)).1,pK λw hl hw=>(hx w hl hw).2⟩⟩
structure aF(m:A8)(k:Nat)(c:A2):Prop where
 len:c.length=m.N.length
 rng:∀s,s<m.N.length->∃x:Nat,c[s]?=some (x:Int)/\x<m.N.length
 cls:∀s t,s<m.N.length->t<m.N.length->(c[s]?=c[t]?↔E m k s t)
def Alike(m:A8)(c:A2)(s t a:Nat):Prop:=c[s]?=c[t]?/\∀b,b<a->ot m s b=ot m t b/\c[nx m s b]?=c[nx m t b]?
def alike_iff(H:I8 m){k:Nat}{c:A2}(C:aF m k c){s t:Nat}(hs:s<m.N.length)(ht:t<m.N.length):Alike m c s t m.I.toNat↔E m (k+1) s t:=by
 constructor
 ·rintro⟨h1,h2⟩;exact⟨(C.cls s t hs ht).1 h1,λa ha=>⟨(h2 a ha).1,(C.cls _ _ (H.at hs ha).1 (H.at ht ha).1).1 (h2 a ha).2⟩⟩
 ·rintro⟨h1,h2⟩;exact⟨(C.cls s t hs ht).2 h1,λa ha=>⟨(h2 a ha).1,(C.cls _ _ (H.at hs ha).1 (H.at ht ha).1).2 (h2 a ha).2⟩⟩
def finer_same(H:I8 m){k:Nat}{c:A2}(C:aF m k c){s t:Nat}(hs:s<m.N.length)(ht:t<m.N.length){b0:Bool}(hb:b0=true↔c[s]?=c[t]?) :
  ∃r:Bool,iter (λ(q:Bool×Nat)=>Q8.s89 m c s (t:Int) q.1 q.2) fuel (b0,0)=some r/\(r=true↔E m (k+1) s t):=by
 have hI:=H.i2
 obtain⟨r,hr,hq⟩:=J2 (step:=λ(q:Bool×Nat)=>Q8.s89 m c s (t:Int) q.1 q.2) (λq=>q.2<=m.I.toNat/\(q.1=true↔Alike m c s t q.2)) (λq=>m.I.toNat-q.2) (λr=>r=true↔Alike m c s t m.I.toNat) (λq ⟨g1,g2⟩=>by
  obtain⟨b,a⟩:=q
  simp only at g1 g2
  simp only[Q8.s89]
  by_cases g3:a<m.I.toNat
  ·rw[C2,A5]
   cases b with
   |false =>
    right
    rw[G5]
    exact⟨false,rfl,⟨λh=>(by cases h),λh=>absurd (g2.2 ⟨h.1,λb hb=>h.2 b (by omega)⟩) (by simp)⟩⟩
   |true =>
    left
    obtain⟨s1,_,_,x,y,e1,e2,e3,e4⟩:=H.at hs g3
    obtain⟨t1,_,_,x',y',f1,f2,f3,f4⟩:=H.at ht g3
    obtain⟨u,u1,u2⟩:=C.rng _ s1
    obtain⟨v,v1,v2⟩:=C.rng _ t1
    have g2:=g2.1 rfl
    rw[F7,B8 e2,B8 e4,D7 rfl f2,B8 f4]
    by_cases g4:ot m s a=ot m t a
    ·refine⟨(decide ((u:Int)=(v:Int)),a+1),?_,⟨g3,?_⟩,by simp only;omega⟩
     ·rw[C2 g4,B8 e1,B8 e3,D7 rfl u1,D7 rfl f1,B8 f3,D7 rfl v1,L3]
     ·simp only[decide_eq_true_eq]
      constructor
      ·intro h
       refine⟨g2.1,λb hb=>?_⟩
       rcases J3 b a with h1|h1
       ·exact g2.2 b h1
       ·have e:b=a:=by omega
        subst e
        exact⟨g4,by rw[u1,v1,h]⟩
      ·intro h
       have h1:=(h.2 a (by omega)).2
       rw[u1,v1]at h1
       injection h1
    ·refine⟨(false,a+1),?_,⟨g3,?_⟩,by simp only;omega⟩
     ·rw[B1 g4,L3]
     ·exact⟨λh=>(by cases h),λh=>absurd (h.2 a (by omega)).1 g4⟩
  ·right
   have e:a=m.I.toNat:=by omega
   subst e
   exact⟨b,by rw[B1,A5,G5],g2⟩) (b0,0) ⟨D8 _,by rw[hb];exact⟨λh=>⟨h,λb hb=>absurd hb (O4 _)⟩,λh=>h.1⟩⟩
 exact⟨r,hr,hq.trans (alike_iff H C hs ht)⟩
def finer_found(H:I8 m){k:Nat}{c:A2}(C:aF m k c){s:Nat}(hs:s<m.N.length){y:A2}(hy:y.length=s) :
  ∃r:Int,iter (λ(q:Int×Int)=>Q8.s90 m c y s q.1 q.2) fuel ((-1:Int),(s:Int)-1)=some r/\((r=-1/\∀t,t<s->¬E m (k+1) s t)\/∃t,t<s/\E m (k+1) s t/\y[t]?=some r):=by
 have hn:=H.n2
 obtain⟨r,hr,hq⟩:=J2 (step:=λ(q:Int×Int)=>Q8.s90 m c y s q.1 q.2) (λq=>-1<=q.2/\q.2<(s:Int)/\((q.1=-1/\∀t:Nat,q.2<(t:Int)->t<s->¬E m (k+1) s t)\/∃t,t<s/\E m (k+1) s t/\y[t]?=some q.1)) (λq=>(q.2+1).toNat) (λr=>(r=-1/\∀t,t<s->¬E m (k+1) s t)\/∃t,t<s/\E m (k+1) s t/\y[t]?=some r) (λq ⟨g1,g2,g3⟩=>by
  obtain⟨f,t⟩:=q
  simp only at g1 g2 g3
  simp only[Q8.s90]
  by_cases g4:0<=t
  ·left
   obtain⟨t,rfl⟩:∃t':Nat,t=(t':Int):=⟨t.toNat,by omega⟩
   have a3:t<s:=by omega
   have ht:t<m.N.length:=by omega
   obtain⟨u,u1,u2⟩:=C.rng s hs
   obtain⟨v,v1,v2⟩:=C.rng t ht
   obtain⟨b,b1,b2⟩:=finer_same H C hs ht (b0:=decide ((u:Int)=(v:Int))) (by
    rw[u1,v1,decide_eq_true_eq]
    exact⟨λh=>by rw[h],λh=>by injection h⟩)
   have a2:=get_at (l:=y) (i:=t) (by omega)
   rw[C2 g4,B8 u1,D7 rfl v1,b1,A5]
   cases b with
   |true =>
    refine⟨(y[t]'(by omega),(t:Int)-1),by rw[F7,D7 rfl a2,L3],⟨by simp only;omega,by simp only;omega,Or.inr ⟨t,a3,b2.1 rfl,a2⟩⟩,by simp only;omega⟩
   |false =>
    refine⟨(f,(t:Int)-1),by rw[G5,L3],⟨by simp only;omega,by simp only;omega,?_⟩,by simp only;omega⟩
    rcases g3 with⟨h1,h2⟩|h
    ·refine Or.inl ⟨h1,λt' h3 h4=>?_⟩
     simp only at h3
     by_cases e:t'=t
     ·subst e
      exact λh=>absurd (b2.2 h) (by simp)
     ·exact h2 t' (by omega) h4
    ·exact Or.inr h
  ·right
   have e:t=-1:=by omega
   subst e
   refine⟨f,by rw[B1],?_⟩
   rcases g3 with⟨h1,h2⟩|h
   ·exact Or.inl ⟨h1,λt' h4=>h2 t' (by omega) h4⟩
   ·exact Or.inr h) ((-1:Int),(s:Int)-1) ⟨by simp only;omega,by simp only;omega,Or.inl ⟨rfl,λt h1 h2=>by simp only at h1;omega⟩⟩
 exact⟨r,hr,hq⟩
structure FinOk(m:A8)(k:Nat)(y:A2)(n s:Nat):Prop where
 ls:s<=m.N.length
 len:y.length=s
 cnt:n<=s
 rng:∀i,i<s->∃x:Nat,y[i]?=some (x:Int)/\x<n
 cls:∀i j,i<s->j<s->(y[i]?=y[j]?↔E m k i j)
def R08_finer_eq(H:I8 m){k:Nat}{c:A2}(C:aF m k c):∃c',Q8 m c=some c'/\aF m (k+1) c':=by
 have hn:=H.n2;unfold Q8
 obtain⟨r,hr,n,hq⟩:=J2 (step:=λ(q:A2×Nat×Nat)=>Q8.s92 m c q.1 q.2.1 q.2.2) (λq=>FinOk m (k+1) q.1 q.2.1 q.2.2) (λq=>m.N.length-q.2.2) (λr=>∃n,FinOk m (k+1) r n m.N.length) (λq Q=>by
  obtain⟨y,n,s⟩:=q
  simp only at Q
  have hc:=Q.cnt
  have hl:=Q.len
  have a3:=Q.ls
  simp only[Q8.s92]
  rw[C.len]
  by_cases g1:s<m.N.length
  ·left
   obtain⟨f,f1,f2⟩:=finer_found H C g1 Q.len
   rw[C2,f1,A5]
   rcases f2 with⟨rfl,f2⟩|⟨t,ht,hE,f2⟩
   ·-- a class of its own
    rw[C2,L3,A5]
    refine⟨(y++[(n:Int)],n+1,s+1),by simp only[Q8.k91];rw[O6],(show FinOk m (k+1) (y++[(n:Int)]) (n+1) (s+1) from⟨g1,by simp[Q.len],by omega,λi hi=>?_,λi j hi hj=>?_⟩),by simp only;omega⟩
    ·rcases J3 i s with h|h
     ·obtain⟨x,x1,x2⟩:=Q.rng i h
      exact⟨x,by rw[N6 (by omega),x1],by omega⟩
     ·have e:i=y.length:=by omega
      subst e
      exact⟨n,by simp,by omega⟩
    ·have a2:∀i,i<s->(y++[(n:Int)])[i]?=y[i]?:=λi hi=>N6 (by omega)
     have new:(y++[(n:Int)])[s]?=some (n:Int):=by rw[S7 (by omega),hl,T7];rfl
     have ne:∀i,i<s->y[i]?≠some (n:Int):=λi hi h=>by
      obtain⟨x,x1,x2⟩:=Q.rng i hi
      rw[x1]at h
      injection h with h
      omega
     rcases J3 i s with h|h<;>rcases J3 j s with h'|h'
     ·rw[a2 i h,a2 j h']
      exact Q.cls i j h h'
     ·have e:j=s:=by omega
      subst e
      rw[a2 i h,new]
      exact⟨λh2=>absurd h2 (ne i h),λh2=>absurd (jJ h2) (f2 i h)⟩
     ·have e:i=s:=by omega
      subst e
      rw[a2 j h',new]
      exact⟨λh2=>absurd h2.symm (ne j h'),λh2=>absurd h2 (f2 j h')⟩
     ·have e:i=s:=by omega
      have e':j=s:=by omega
      subst e
      subst e'
      exact⟨λ_=>E_refl _ _,λ_=>rfl⟩
   ·obtain⟨x,x1,x2⟩:=Q.rng t ht
    rw[f2]at x1
    injection x1 with x1
    subst x1
    rw[B1,A5]
    refine⟨(y++[(x:Int)],n,s+1),by simp only[Q8.k91];rw[O6],(show FinOk m (k+1) (y++[(x:Int)]) n (s+1) from⟨g1,by simp[Q.len],by omega,λi hi=>?_,λi j hi hj=>?_⟩),by simp only;omega⟩
    ·rcases J3 i s with h|h
     ·obtain⟨z,z1,z2⟩:=Q.rng i h
      exact⟨z,by rw[N6 (by omega),z1],z2⟩
     ·have e:i=y.length:=by omega
      subst e
      exact⟨x,by simp,x2⟩
    ·have a2:∀i,i<s->(y++[(x:Int)])[i]?=y[i]?:=λi hi=>N6 (by omega)
     have new:(y++[(x:Int)])[s]?=y[t]?:=by rw[S7 (by omega),hl,T7,f2];rfl
     rcases J3 i s with h|h<;>rcases J3 j s with h'|h'
     ·rw[a2 i h,a2 j h']
      exact Q.cls i j h h'
     ·have e:j=s:=by omega
      subst e
      rw[a2 i h,new,Q.cls i t h ht]
      exact⟨λh2=>gK h2 (jJ hE),λh2=>gK h2 hE⟩
     ·have e:i=s:=by omega
      subst e
      rw[a2 j h',new,Q.cls t j ht h']
      exact⟨λh2=>gK hE h2,λh2=>gK (jJ hE) h2⟩
     ·have e:i=s:=by omega
      have e':j=s:=by omega
      subst e
      subst e'
      exact⟨λ_=>E_refl _ _,λ_=>rfl⟩
  ·right
   have e:s=m.N.length:=by omega
   subst e
   exact⟨y,by rw[B1],n,Q⟩) ([],0,0) ⟨D8 _,rfl,F9 _,λi h=>absurd h (O4 _),λi j h=>absurd h (O4 _)⟩
 refine⟨r,by rw[hr,A5],hq.len,λs hs=>?_,λs t hs ht=>hq.cls s t hs ht⟩;obtain⟨x,x1,x2⟩:=hq.rng s hs;have:=hq.cnt;exact⟨x,x1,by omega⟩
def zq9(hv:U3 m=some 0)(k:Nat):∃c,fT m (k:Int)=some (c,0)/\aF m (min k m.N.length) c:=by
 have H:=macOk_of hv;have hn:=H.n2;unfold fT;rw[hv,A5,B1 (by simp),H9 ⟨by omega,by omega,by unfold B4;omega⟩]
 obtain⟨r,hr,hq⟩:=J2 (step:=λ(q:A2×Nat)=>fT.s2 m (k:Int) q.1 q.2) (λq=>q.2<=min k m.N.length/\aF m q.2 q.1) (λq=>min k m.N.length-q.2) (λr=>aF m (min k m.N.length) r) (λq ⟨g1,g2⟩=>by
  obtain⟨y,i⟩:=q
  simp only at g1 g2
  simp only[fT.s2]
  by_cases g3:i<min k m.N.length
  ·left
   obtain⟨c',e1,e2⟩:=R08_finer_eq H g2
   refine⟨(c',i+1),?_,⟨g3,e2⟩,by simp only;omega⟩
   rw[C2,A5,C2,e1,A5,L3]
  ·right
   have e:i=min k m.N.length:=by omega
   refine⟨y,?_,e ▸ g2⟩
   by_cases h:i<k
   ·rw[C2,A5,B1]
   ·rw[B1,A5,G5]) ((List.replicate m.N.length 0),0) ⟨D8 _,⟨by simp,λs hs=>⟨0,by simp[hs],H.n1⟩,λs t hs ht=>⟨λ_=>trivial,λ_=>by simp[hs,ht]⟩⟩⟩
 exact⟨r,by rw[hr,A5],hq⟩
def BS{V:Type}{p q:V->Bool}:∀{l:List V},(∀x∈l,p x=true->q x=true)->l.countP q<=l.countP p->∀x∈l,q x=true->p x=true
 |[],_,_,x,hx,_=>by cases hx
 |y::l,h,hc,x,hx,hq=>by
  have h1:l.countP p<=l.countP q:=List.countP_mono_left λx hx=>h x (M7 _ hx);rw[kG,kG]at hc;have h2:=h y (U9 ..)
  have h3:l.countP q<=l.countP p/\(q y=true->p y=true):=by
   cases e1:q y<;>cases e2:p y<;>simp[e1,e2]at hc h2 ⊢<;>omega
  rcases M4.1 hx with rfl|hx
  ·exact h3.2 hq
  ·exact BS (λx hx=>h x (M7 _ hx)) h3.1 x hx hq
def Rep(m:A8)(k s:Nat):Prop:=∀t,t<s->¬E m k s t
open Classical in
noncomputable def nreps(m:A8)(k:Nat):Nat:=(List.range m.N.length).countP λs=>decide (Rep m k s)
def zT(k:Nat):∀(s:Nat),∃r,r<=s/\Rep m k r/\E m k s r:=by
 intro s
 induction s using Nat.strongRecOn with
 |ind s ih =>
  by_cases h:Rep m k s
  ·exact⟨s,F9 _,h,E_refl _ _⟩
  ·have⟨t,h1⟩:=Classical.not_forall.1 h;obtain⟨h2,h3⟩:=Classical.not_imp.1 h1;have h3:=oL.1 h3;obtain⟨r,r1,r2,r3⟩:=ih t h2;exact⟨r,by omega,r2,gK h3 r3⟩
def Stab(m:A8)(k:Nat):Prop:=∀s t,s<m.N.length->t<m.N.length->E m k s t->E m (k+1) s t
def rep_succ{k s:Nat}(h:Rep m k s):Rep m (k+1) s:=λt ht hE=>h t ht hE.1
open Classical in
open Classical in
def stab_of{k:Nat}(h:nreps m (k+1)<=nreps m k):Stab m k:=by
 intro s t hs ht hE;unfold nreps at h;have key:=BS (l:=List.range m.N.length) (λs _ h=>E9 (rep_succ (of_decide_eq_true h))) h;obtain⟨r,r1,r2,r3⟩:=zT (m:=m) (k+1) s;obtain⟨u,u1,u2,u3⟩:=zT (m:=m) (k+1) t;have r4:Rep m k r:=of_decide_eq_true (key r (K6.2 (by omega)) (E9 r2));have u4:Rep m k u:=of_decide_eq_true (key u (K6.2 (by omega)) (E9 u2));have a2:E m k r u:=gK (jJ r3.1) (gK hE u3.1)
 have e:r=u:=by
  rcases jH r u with h1|h1|h1
  ·exact absurd (jJ a2) (u4 r h1)
  ·exact h1
  ·exact absurd a2 (r4 u h1)
 subst e;exact gK r3 (jJ u3)
def stab_succ(H:I8 m){k:Nat}(h:Stab m k):Stab m (k+1):=λs t hs ht hE =>
 ⟨hE,λa ha=>⟨(hE.2 a ha).1,h _ _ (H.at hs ha).1 (H.at ht ha).1 (hE.2 a ha).2⟩⟩
def stab_add(H:I8 m){k:Nat}(h:Stab m k):∀j,Stab m (k+j)
 |0=>h
 |j+1=>stab_succ H (stab_add H h j)
open Classical in
def stab_exists(H:I8 m):∃k,k<m.N.length/\Stab m k:=by
 refine Q9 λa3=>?_
 have a2:∀k,k<=m.N.length->k+1<=nreps m k:=by
  intro k
  induction k with
  |zero =>
   intro _;unfold nreps;have:0<(List.range m.N.length).countP λs=>@decide (Rep m 0 s) (Classical.propDecidable _):=List.countP_pos_iff.2 ⟨0,K6.2 H.n1,E9 λt ht=>absurd ht (O4 _)⟩;exact this
  |succ k ih =>
   intro hk;have h1:=ih (by omega);rcases J3 (nreps m k) (nreps m (k+1)) with h2|h2
   ·omega
   ·exact absurd ⟨k,by omega,stab_of h2⟩ a3
 have h1:=a2 _ (F9 _);have h2:nreps m m.N.length<=(List.range m.N.length).length:=zC;rw[M5]at h2;omega
def E_all(H:I8 m){s t:Nat}(hs:s<m.N.length)(ht:t<m.N.length)(h:E m m.N.length s t)(j:Nat):E m j s t:=by
 obtain⟨k,hk,hS⟩:=stab_exists H
 have key:∀i,E m (k+i) s t:=by
  intro i
  induction i with
  |zero=>exact E_mono (by omega) h
  |succ i ih=>exact stab_add H hS i s t hs ht ih
 exact E_mono (by omega) (key j)
end
end
section
def jT{V:Type}[DecidableEq V]:∀{l l':List V},l.Nodup->(∀x∈l,x∈l')->l.length<=l'.length
 |[],_,_,_=>D8 _
 |x::l,l',h,hs=>by
  have h1:=aR.1 h;have hx:=hs x (by simp);have ih:=jT (l:=l) (l':=l'.erase x) h1.2 (λy hy=>(yZ (λe=>h1.1 (by rw[<- e];exact hy))).2 (hs y (M7 _ hy)));rw[yX hx]at ih;have:=uM hx;simp only[G8];omega
def natI(l:List Nat):A2:=l.map λ(x:Nat)=>(x:Int)
def mI{l:List Nat}{i u:Nat}(h:l[i]?=some u):(natI l)[i]?=some (u:Int):=by
 unfold natI;rw[H1,h];rfl
def vJ(l:List Nat)(t:Nat):natI l++[(t:Int)]=natI (l++[t]):=by simp[natI]
def bH(l:List Nat):(natI l).length=l.length:=by simp[natI]
structure Num(m:A8)(c:A2)(ord:List Nat)(num:A2):Prop where
 rng:∀u∈ord,u<m.N.length
 start:ord[0]?=some m.S.toNat
 len:num.length=m.N.length
 n1:∀j u x:Nat,ord[j]?=some u->c[u]?=some (x:Int)->num[x]?=some (j:Int)
 n2:∀x:Nat,x<m.N.length->num[x]?=some (-1:Int)\/∃j u:Nat,num[x]?=some (j:Int)/\ord[j]?=some u/\c[u]?=some (x:Int)
 reach:∀j u:Nat,ord[j]?=some u->j=0\/∃i v a:Nat,i<j/\ord[i]?=some v/\a<m.I.toNat/\u=nx m v a
section
variable {m:A8}{c num:A2}{ord:List Nat}{k:Nat}
structure RowAt(m:A8)(c:A2)(ord:List Nat)(v:Nat)(row out:A2)(a:Nat):Prop where
 l1:row.length=a
 l2:out.length=a
 cell:∀b,b<a->∃j u:Nat,row[b]?=some (j:Int)/\ord[j]?=some u/\c[u]?=c[nx m v b]?/\out[b]?=some (ot m v b)
structure MinOk(m M:A8)(c:A2)(ord:List Nat)(num:A2):Prop where
 cls:aF m m.N.length c
 num:Num m c ord num
 inp:M.I=m.I
 start:M.S=0
 l1:M.N.length=ord.length
 l2:M.O.length=ord.length
 row:∀i v:Nat,ord[i]?=some v->∃row out,M.N[i]?=some row/\M.O[i]?=some out/\RowAt m c ord v row out m.I.toNat
end
end
section
section
variable {m:A8}
def mB(m:A8)(s0 r:Nat):List (Nat×A2):=bfsB (nx m) m.I.toNat s0 r
abbrev MEnd(m:A8)(s0:Nat)(L:List (Nat×A2)):Prop:=V1 (nx m) m.I.toNat s0 L
def kM(H:I8 m){s0:Nat}(hs:s0<m.N.length):∀(r:Nat),∀x∈mB m s0 r,x.1<m.N.length/\x.2.length<=r/\dest m s0 x.2=x.1/\WOk m.I x.2
 |0,x,hx=>by
  have:x=(s0,[]):=by simpa[mB,bfsB]using hx
  subst this;exact⟨hs,F9 _,rfl,λa ha=>by cases ha⟩
 |r+1,x,hx=>by
  have ih:=kM H hs r
  have a2:x∈mB m s0 r->x.1<m.N.length/\x.2.length<=r+1/\dest m s0 x.2=x.1/\WOk m.I x.2:=λh=>by
   have:=ih x h;exact⟨this.1,by omega,this.2.2⟩
  unfold mB at hx;rw[bfsB]at hx;split at hx
  ·exact a2 hx
  ·rename_i y hy;split at hx
   ·exact a2 hx
   ·rcases I2.1 hx with h|h
    ·exact a2 h
    ·have hK:0<m.I.toNat:=by have:=H.i1;omega
     have a3:=ih y (G6 hy);have ha:=fC r hK;have a5:x=(nx m y.1 (r%m.I.toNat),y.2++[(↑(r%m.I.toNat):Int)]):=by simpa using h
     subst a5;refine⟨(H.at a3.1 ha).1,by simp;omega,?_,?_⟩
     ·simp only;rw[iV,a3.2.2.1];show nx m y.1 (Int.toNat _)=_;rw[H6]
     ·refine WOk.append a3.2.2.2 λa a4=>?_;have:a=(↑(r%m.I.toNat):Int):=by simpa using a4
      subst this;omega
def mB_len(H:I8 m){s0:Nat}(hs:s0<m.N.length)(r:Nat):(mB m s0 r).length<=m.N.length:=by
 have:=jT (nE (e:=nx m) (K:=m.I.toNat) (s0:=s0) r) (l':=List.range m.N.length) λx hx=>by
  obtain⟨y,hy,rfl⟩:=H0.1 hx;exact K6.2 (kM H hs r y hy).1
 rwa [B7,M5]at this
def mB_step{s0 i a:Nat}{x:Nat×A2}(ha:a<m.I.toNat)(hx:(mB m s0 (i*m.I.toNat+a))[i]?=some x) :
  mB m s0 (i*m.I.toNat+(a+1))=if nx m x.1 a∈(mB m s0 (i*m.I.toNat+a)).map Prod.fst then mB m s0 (i*m.I.toNat+a) else mB m s0 (i*m.I.toNat+a)++[(nx m x.1 a,x.2++[(a:Int)])]:=bfs_step ha hx
def mB_next{s0 i:Nat}:mB m s0 (i*m.I.toNat+m.I.toNat)=mB m s0 ((i+1)*m.I.toNat):=by rw[cM]
def mB_get{s0 i r:Nat}{x:Nat×A2}(hx:(mB m s0 (i*m.I.toNat))[i]?=some x)(hr:i*m.I.toNat<=r):(mB m s0 r)[i]?=some x:=aX (cE hr) hx
structure iK(n:Nat)(y:List Bool)(l:List Nat):Prop where
 len:y.length=n
 at_:∀t,t<n->y[t]?=some (decide (t∈l))
def iK.push{n t:Nat}{y:List Bool}{l:List Nat}(S:iK n y l)(ht:t<n):iK n (y.set t true) (l++[t]):=by
 refine⟨by simp[S.len],λu hu=>?_⟩;by_cases h:t=u
 ·subst h;rw[P5 (by rw[S.len];exact ht)];simp
 ·rw[O3 h,S.at_ u hu];congr 1;apply decide_eq_decide.2;rw[I2];constructor
  ·exact Or.inl
  ·rintro (q|q)
   ·exact q
   ·exact absurd (by simpa using q:u=t).symm h
def seen_nil(n:Nat):iK n (List.replicate n false) []:=⟨by simp,λt ht=>by simp[ht]⟩
def CW(hv:P9 m=0):∃L,MEnd m m.S.toNat L/\W7 m=some (natI (L.map Prod.fst)):=by
 have H:=aY hv;have a9:=H.st;have hn:=H.n2;have hs:m.S.toNat<m.N.length:=by omega
 have a5:∀(i:Nat) (x:Nat×A2) (row:A2) (y:List Bool),(mB m m.S.toNat (i*m.I.toNat))[i]?=some x->m.N[x.1]?=some row->iK m.N.length y ((mB m m.S.toNat (i*m.I.toNat)).map Prod.fst) ->
   ∃y',iter (λ(s:List Bool×A2×Nat)=>W7.s18 row s.1 s.2.1 s.2.2) fuel (y,natI ((mB m m.S.toNat (i*m.I.toNat)).map Prod.fst),0)=some (y',natI ((mB m m.S.toNat ((i+1)*m.I.toNat)).map Prod.fst))/\iK m.N.length y' ((mB m m.S.toNat ((i+1)*m.I.toNat)).map Prod.fst):=by
  intro i x row y hx a3 S;have a4:=(kM H hs _ x (G6 hx)).1
  have b2:row.length=m.I.toNat:=by
   obtain⟨x',y',h1,_,h3,_⟩:=H.row x.1 a4;rw[a3]at h1;injection h1 with h1
   subst h1;omega
  obtain⟨r,hr,y',rfl,hq⟩:=aZ (step:=λ(s:List Bool×A2×Nat)=>W7.s18 row s.1 s.2.1 s.2.2) (λs=>s.2.2<=m.I.toNat/\s.2.1=natI ((mB m m.S.toNat (i*m.I.toNat+s.2.2)).map Prod.fst)/\iK m.N.length s.1 ((mB m m.S.toNat (i*m.I.toNat+s.2.2)).map Prod.fst)) (λs=>m.I.toNat-s.2.2) (λr=>∃y',r=(y',natI ((mB m m.S.toNat ((i+1)*m.I.toNat)).map Prod.fst))/\iK m.N.length y' ((mB m m.S.toNat ((i+1)*m.I.toNat)).map Prod.fst)) (λs ⟨q1,q2,q3⟩=>by
   obtain⟨y,l,a⟩:=s
   simp only at q1 q2 q3
   subst q2
   simp only[W7.s18]
   by_cases g:a<m.I.toNat
   ·left
    have a8:=mB_get hx (r:=i*m.I.toNat+a) (by omega)
    obtain⟨h1,_,_,x',y',h2,_,h4,_⟩:=H.at a4 g
    rw[a3]at h2
    injection h2 with h2
    subst h2
    have a6:=mB_len H hs (i*m.I.toNat+a)
    have a2:=mB_step g a8
    rw[C2,B8 h4,D7 rfl (q3.at_ _ h1)]
    by_cases hm:nx m x.1 a∈(mB m m.S.toNat (i*m.I.toNat+a)).map Prod.fst
    ·rw[if_pos hm]at a2
     refine⟨(y,natI ((mB m m.S.toNat (i*m.I.toNat+a)).map Prod.fst),a+1),by rw[E9 hm];rfl,⟨g,by simp only;rw[a2],by simp only;rw[a2];exact q3⟩,by simp only;omega⟩
    ·rw[if_neg hm]at a2
     refine⟨(y.set (nx m x.1 a) true,natI ((mB m m.S.toNat (i*m.I.toNat+a)).map Prod.fst++[nx m x.1 a]),a+1),?_,⟨g,by simp only;rw[a2,L1];rfl,by simp only;rw[a2,L1];exact q3.push h1⟩,by simp only;omega⟩
     rw[I3 hm,cN,F7,D7 rfl (q3.at_ _ h1),H9 (by unfold B4;rw[bH,B7];omega),vJ,H6]
   ·right
    have e':a=m.I.toNat:=by omega
    subst e'
    rw[mB_next]at q3 ⊢
    exact⟨_,by rw[B1],_,rfl,q3⟩) fuel (y,natI ((mB m m.S.toNat (i*m.I.toNat)).map Prod.fst),0) ⟨D8 _,rfl,S⟩ (by have:=Y0;have:=H.i2;simp only;omega)
  exact⟨y',hr,hq⟩
 unfold W7;rw[lP,A5,hv,B1 (by decide),H9 ⟨by omega,by omega,by unfold B4;omega⟩,D7 (i:=m.S.toNat) (x:=false) (by omega) (by rw[Y8,if_pos hs])]
 obtain⟨r,hr,L,hL,rfl⟩:=J2 (step:=λ(s:List Bool×A2×Nat)=>W7.s20 m s.1 s.2.1 s.2.2) (λs=>s.2.2<=(mB m m.S.toNat (s.2.2*m.I.toNat)).length/\s.2.1=natI ((mB m m.S.toNat (s.2.2*m.I.toNat)).map Prod.fst)/\iK m.N.length s.1 ((mB m m.S.toNat (s.2.2*m.I.toNat)).map Prod.fst)) (λs=>m.N.length+1-s.2.2) (λr=>∃L,MEnd m m.S.toNat L/\r=natI (L.map Prod.fst)) (λs ⟨q1,q2,q3⟩=>by
  obtain⟨y,l,i⟩:=s
  simp only at q1 q2 q3
  subst q2
  simp only[W7.s20]
  have a6:=mB_len H hs (i*m.I.toNat)
  by_cases g:i<(mB m m.S.toNat (i*m.I.toNat)).length
  ·left
   have hx:=get_at g
   generalize (mB m m.S.toNat (i*m.I.toNat))[i]=x at hx
   have a4:=(kM H hs _ x (G6 hx)).1
   have a3:=get_at a4
   obtain⟨y',h1,h2⟩:=a5 i x _ y hx a3 q3
   have a7:=(cE (e:=nx m) (K:=m.I.toNat) (s0:=m.S.toNat) (show i*m.I.toNat<=(i+1)*m.I.toNat by rw[cM];omega)).length_le
   refine⟨(y',natI ((mB m m.S.toNat ((i+1)*m.I.toNat)).map Prod.fst),i+1),?_,⟨by simp only;unfold mB at g ⊢;omega,rfl,h2⟩,by simp only;omega⟩
   rw[C2 (by rw[bH,B7];omega),B8 (mI (i:=i) (u:=x.1) (by rw[H1,hx];rfl)),D7 rfl a3,h1,A5]
   rfl
  ·right
   refine⟨_,by rw[B1 (by rw[bH,B7];omega)],mB m m.S.toNat (i*m.I.toNat),⟨?_⟩,rfl⟩
   rw[show(mB m m.S.toNat (i*m.I.toNat)).length=i by omega]
   rfl) ((List.replicate m.N.length false).set m.S.toNat true,[m.S],0) ⟨D8 _,by simp only;rw[dG];simp[mB,bfsB,natI];omega,by
    simp only
    rw[dG]
    exact(seen_nil m.N.length).push hs⟩
 exact⟨L,hL,by rw[hr,A5]⟩
end
end
section
section
variable {m:A8}
def R10_has_eq{l:A2}{t:Int}(hl:l.length<=1000000):gM l t=some (decide (t∈l)):=by
 unfold gM;rw[aJ (l:=l) (λ_ u=>if u=t then some true else none) (λi u hu=>?_) ?_ (by omega),A5]
 ·by_cases h:t∈l
  ·rw[E9 h];cases e:scan (λ_ u=>if u=t then some true else none) 0 l with
   |some r =>
    obtain⟨i,u,_,h2⟩:=pF e;split at h2
    ·injection h2 with h2
     subst h2;rfl
    ·cases h2
   |none =>
    obtain⟨i,hi,a2⟩:=cQ.1 h;have:=dD.1 e i _ (get_at hi);rw[if_pos a2]at this;cases this
  ·rw[I3 h,dD.2 λi u hu=>if_neg λq=>h (by rw[<- q];exact G6 hu)];rfl
 ·simp only[gM.s2];rw[B1]
 ·have hi:=(E0.1 hu).1;simp only[gM.s2];rw[C2,B8 hu];by_cases e:u=t
  ·rw[C2 e,if_pos e]
  ·rw[B1 e,if_neg e]
def mem_natI{l:List Nat}{t:Nat}:(t:Int)∈natI l↔t∈l:=by
 unfold natI;rw[H0];constructor
 ·rintro⟨u,hu,he⟩;have:u=t:=by omega
  rw[<- this];exact hu
 ·exact λh=>⟨t,h,rfl⟩
def CJ(hv:P9 m=0):∃L,MEnd m m.S.toNat L/\U5 m=some (natI (L.map Prod.fst),L.map Prod.snd,0):=by
 have H:=aY hv;have a9:=H.st;have hn:=H.n2;have hI:=H.i2;have hs:m.S.toNat<m.N.length:=by omega
 have a4:∀(i:Nat) (x:Nat×A2),i<=m.N.length->(mB m m.S.toNat (i*m.I.toNat))[i]?=some x ->
   iter (λ(s:A2×A4×Nat)=>U5.s18 m i s.1 s.2.1 s.2.2) fuel (natI ((mB m m.S.toNat (i*m.I.toNat)).map Prod.fst),(mB m m.S.toNat (i*m.I.toNat)).map Prod.snd,0)=some (natI ((mB m m.S.toNat ((i+1)*m.I.toNat)).map Prod.fst),(mB m m.S.toNat ((i+1)*m.I.toNat)).map Prod.snd):=by
  intro i x b3 hx;have a7:=(kM H hs _ x (G6 hx)).1;have b2:=(kM H hs _ x (G6 hx)).2.1;have a8:i*m.I.toNat<=128*64:=dH (by omega) (by omega)
  exact U2 (step:=λ(s:A2×A4×Nat)=>U5.s18 m i s.1 s.2.1 s.2.2) (λs=>s.2.2<=m.I.toNat/\s.1=natI ((mB m m.S.toNat (i*m.I.toNat+s.2.2)).map Prod.fst)/\s.2.1=(mB m m.S.toNat (i*m.I.toNat+s.2.2)).map Prod.snd) (λs=>m.I.toNat-s.2.2) (λs ⟨q1,q2,q3⟩=>by
   obtain⟨l,w,a⟩:=s
   simp only at q1 q2 q3
   subst q2
   subst q3
   simp only[U5.s18]
   by_cases g:a<m.I.toNat
   ·left
    have a3:=mB_get hx (r:=i*m.I.toNat+a) (by omega)
    obtain⟨h1,_,_,x',y',h2,_,h4,_⟩:=H.at a7 g
    have a5:=mB_len H hs (i*m.I.toNat+a)
    have a2:=mB_step g a3
    rw[C2,B8 (mI (i:=i) (u:=x.1) (by rw[H1,a3];rfl)),D7 rfl h2,B8 h4,R10_has_eq (by rw[bH,B7];omega),A5]
    by_cases hm:nx m x.1 a∈(mB m m.S.toNat (i*m.I.toNat+a)).map Prod.fst
    ·rw[if_pos hm]at a2
     refine⟨(natI ((mB m m.S.toNat (i*m.I.toNat+a)).map Prod.fst),(mB m m.S.toNat (i*m.I.toNat+a)).map Prod.snd,a+1),?_,⟨g,by simp only;rw[a2],by simp only;rw[a2]⟩,by simp only;omega⟩
     rw[E9 (mem_natI.2 hm),Z9,G5,L3]
    ·rw[if_neg hm]at a2
     refine⟨(natI ((mB m m.S.toNat (i*m.I.toNat+a)).map Prod.fst++[nx m x.1 a]),(mB m m.S.toNat (i*m.I.toNat+a)).map Prod.snd++[x.2++[(a:Int)]],a+1),?_,⟨g,by simp only;rw[a2,L1];rfl,by simp only;rw[a2,L1];rfl⟩,by simp only;omega⟩
     rw[I3 (λq=>hm (mem_natI.1 q)),cN,F7,H9 (by unfold B4;rw[bH,B7];omega),B8 (x:=x.2) (by rw[H1,a3];rfl)]
     unfold lI
     rw[O6,O6,A5,H9 (by unfold B4;rw[B7];omega),L3,vJ]
   ·right
    have e':a=m.I.toNat:=by omega
    subst e'
    rw[mB_next,B1]) (n:=fuel) ⟨D8 _,rfl,rfl⟩
 unfold U5;rw[iX,A5,hv,B1 (by decide)]
 obtain⟨r,hr,L,hL,rfl⟩:=J2 (step:=λ(s:A2×A4×Nat)=>U5.s20 m s.1 s.2.1 s.2.2) (λs=>s.2.2<=(mB m m.S.toNat (s.2.2*m.I.toNat)).length/\s.1=natI ((mB m m.S.toNat (s.2.2*m.I.toNat)).map Prod.fst)/\s.2.1=(mB m m.S.toNat (s.2.2*m.I.toNat)).map Prod.snd) (λs=>m.N.length+1-s.2.2) (λr=>∃L,MEnd m m.S.toNat L/\r=(natI (L.map Prod.fst),L.map Prod.snd)) (λs ⟨q1,q2,q3⟩=>by
  obtain⟨l,w,i⟩:=s
  simp only at q1 q2 q3
  subst q2
  subst q3
  simp only[U5.s20]
  have a5:=mB_len H hs (i*m.I.toNat)
  by_cases g:i<(mB m m.S.toNat (i*m.I.toNat)).length
  ·left
   have hx:=get_at g
   have h1:=a4 i _ (by omega) hx
   have a6:=(cE (e:=nx m) (K:=m.I.toNat) (s0:=m.S.toNat) (show i*m.I.toNat<=(i+1)*m.I.toNat by rw[cM];omega)).length_le
   refine⟨(natI ((mB m m.S.toNat ((i+1)*m.I.toNat)).map Prod.fst),(mB m m.S.toNat ((i+1)*m.I.toNat)).map Prod.snd,i+1),?_,⟨by simp only;unfold mB at g ⊢;omega,rfl,rfl⟩,by simp only;omega⟩
   rw[C2 (by rw[bH,B7];omega),h1,A5]
   rfl
  ·right
   refine⟨_,by rw[B1 (by rw[bH,B7];omega)],mB m m.S.toNat (i*m.I.toNat),⟨?_⟩,rfl⟩
   rw[show(mB m m.S.toNat (i*m.I.toNat)).length=i by omega]
   rfl) ([m.S],[[]],0) ⟨D8 _,by simp only;rw[dG];simp[mB,bfsB,natI];omega,by simp only;rw[dG];simp[mB,bfsB]⟩
 exact⟨L,hL,by rw[hr,A5];rfl⟩
end
end
section
def bfs_stay{A:Type}[DecidableEq A]{e:A->Nat->A}{K:Nat}{s0:A}{L:List (A×A2)}(h:V1 e K s0 L)(hK:0<K):∀d,bfsB e K s0 (L.length*K+d)=L
 |0=>h.eq.symm
 |d+1=>by
  have ih:=bfs_stay h hK d;show bfsB e K s0 (L.length*K+d+1)=L;rw[bfsB,ih,L0 ?_];have h1:(L.length*K) / K<=(L.length*K+d) / K:=uG (by omega);rw[Nat.mul_div_cancel _ hK]at h1;exact h1
section
variable {a b:A8}
def pE(a b:A8)(p:Nat×Nat)(x:Nat):Nat×Nat:=(nx a p.1 x,nx b p.2 x)
def pB(a b:A8)(p0:Nat×Nat)(r:Nat):List ((Nat×Nat)×A2):=bfsB (pE a b) a.I.toNat p0 r
abbrev PEnd(a b:A8)(p0:Nat×Nat)(L:List ((Nat×Nat)×A2)):Prop:=V1 (pE a b) a.I.toNat p0 L
def difB(a b:A8)(p0:Nat×Nat)(r:Nat):Bool:=match (pB a b p0 r)[r / a.I.toNat]? with
 |some x=>decide (ot a x.1.1 (r%a.I.toNat)≠ot b x.1.2 (r%a.I.toNat))
 |none=>false
def kQ{p0:Nat×Nat}{i c:Nat}{x:(Nat×Nat)×A2}(hc:c<a.I.toNat)(hx:(pB a b p0 (i*a.I.toNat+c))[i]?=some x):difB a b p0 (i*a.I.toNat+c)=decide (ot a x.1.1 c≠ot b x.1.2 c):=by
 unfold difB;rw[dR hc,hx,kK hc]
structure Two(a b:A8):Prop where
 a1:I8 a
 b1:I8 b
 inp:a.I=b.I
def iN(T:Two a b){p0:Nat×Nat}(h1:p0.1<a.N.length)(h2:p0.2<b.N.length):∀(r:Nat),∀x∈pB a b p0 r,x.1.1<a.N.length/\x.1.2<b.N.length/\x.2.length<=r/\dest a p0.1 x.2=x.1.1/\dest b p0.2 x.2=x.1.2/\WOk a.I x.2
 |0,x,hx=>by
  have:x=(p0,[]):=by simpa[pB,bfsB]using hx
  subst this;exact⟨h1,h2,F9 _,rfl,rfl,λa ha=>by cases ha⟩
 |r+1,x,hx=>by
  have ih:=iN T h1 h2 r
  have a3:x∈pB a b p0 r->x.1.1<a.N.length/\x.1.2<b.N.length/\x.2.length<=r+1/\dest a p0.1 x.2=x.1.1/\dest b p0.2 x.2=x.1.2/\WOk a.I x.2:=λh=>by
   have:=ih x h;exact⟨this.1,this.2.1,by omega,this.2.2.2⟩
  unfold pB at hx;rw[bfsB]at hx;split at hx
  ·exact a3 hx
  ·rename_i y hy;split at hx
   ·exact a3 hx
   ·rcases I2.1 hx with h|h
    ·exact a3 h
    ·have hK:0<a.I.toNat:=by have:=T.a1.i1;omega
     have a2:=ih y (G6 hy);have ha:=fC r hK;have a5:x=(pE a b y.1 (r%a.I.toNat),y.2++[(↑(r%a.I.toNat):Int)]):=by simpa using h
     subst a5;refine⟨(T.a1.at a2.1 ha).1,(T.b1.at a2.2.1 (by rw[<- T.inp];exact ha)).1,by simp;omega,?_,?_,?_⟩
     ·simp only;rw[iV,a2.2.2.2.1];show nx a y.1.1 (Int.toNat _)=_;rw[H6];rfl
     ·simp only;rw[iV,a2.2.2.2.2.1];show nx b y.1.2 (Int.toNat _)=_;rw[H6];rfl
     ·refine WOk.append a2.2.2.2.2.2 λz a4=>?_;have:z=(↑(r%a.I.toNat):Int):=by simpa using a4
      subst this;omega
def mA(T:Two a b){p0:Nat×Nat}(h1:p0.1<a.N.length)(h2:p0.2<b.N.length)(r:Nat):(pB a b p0 r).length<=a.N.length*b.N.length:=by
 have hn:=nE (e:=pE a b) (K:=a.I.toNat) (s0:=p0) r;have:=jT (l:=(((pB a b p0 r).map Prod.fst).map λp=>p.1*b.N.length+p.2)) (l':=List.range (a.N.length*b.N.length)) ?_ λx hx=>?_
 ·rwa [B7,B7,M5]at this
 ·refine List.Pairwise.map _ (R:=λp q=>p∈(pB a b p0 r).map Prod.fst/\q∈(pB a b p0 r).map Prod.fst/\p≠q) (λp q ⟨hp,hq,a2⟩ he=>?_) (List.Pairwise.imp_of_mem (λ{p q} hp hq a2=>⟨hp,hq,a2⟩) hn);obtain⟨x,hx,rfl⟩:=H0.1 hp;obtain⟨y,hy,rfl⟩:=H0.1 hq;have a4:=(iN T h1 h2 r x hx).2.1;have a3:=(iN T h1 h2 r y hy).2.1;have he:x.1.1*b.N.length+x.1.2=y.1.1*b.N.length+y.1.2:=he;have e1:=dR (i:=x.1.1) a4;have e2:=dR (i:=y.1.1) a3;have e3:=kK (i:=x.1.1) a4;have e4:=kK (i:=y.1.1) a3;rw[he]at e1 e3;exact a2 (Prod.ext (by rw[<- e1,e2]) (by rw[<- e3,e4]))
 ·obtain⟨p,hp,rfl⟩:=H0.1 hx;obtain⟨y,hy,rfl⟩:=H0.1 hp;exact K6.2 (eO (iN T h1 h2 r y hy).1 (iN T h1 h2 r y hy).2.1)
def pB_step{p0:Nat×Nat}{i c:Nat}{x:(Nat×Nat)×A2}(hc:c<a.I.toNat)(hx:(pB a b p0 (i*a.I.toNat+c))[i]?=some x) :
  pB a b p0 (i*a.I.toNat+(c+1))=if pE a b x.1 c∈(pB a b p0 (i*a.I.toNat+c)).map Prod.fst then pB a b p0 (i*a.I.toNat+c) else pB a b p0 (i*a.I.toNat+c)++[(pE a b x.1 c,x.2++[(c:Int)])]:=by
 have h:=bfs_step (e:=pE a b) (s0:=p0) hc hx;by_cases g:pE a b x.1 c∈(pB a b p0 (i*a.I.toNat+c)).map Prod.fst
 ·rw[if_pos g];exact h.trans (if_pos g)
 ·rw[if_neg g];exact h.trans (if_neg g)
def pB_next{p0:Nat×Nat}{i:Nat}:pB a b p0 (i*a.I.toNat+a.I.toNat)=pB a b p0 ((i+1)*a.I.toNat):=by rw[cM]
def pB_get{p0:Nat×Nat}{i r:Nat}{x:(Nat×Nat)×A2}(hx:(pB a b p0 (i*a.I.toNat))[i]?=some x)(hr:i*a.I.toNat<=r):(pB a b p0 r)[i]?=some x:=aX (cE hr) hx
def Fst(a b:A8)(p0:Nat×Nat)(res:A2×Bool):Prop :=
 (∃i c x,c<a.I.toNat/\(pB a b p0 (i*a.I.toNat+c))[i]?=some x/\ot a x.1.1 c≠ot b x.1.2 c/\(∀r,r<i*a.I.toNat+c->difB a b p0 r=false)/\res=(x.2++[(c:Int)],true)) \/
 (∃L,PEnd a b p0 L/\(∀r,r<L.length*a.I.toNat->difB a b p0 r=false)/\res=([],false))
def fst_uniq(hK:0<a.I.toNat){p0:Nat×Nat}{u v:A2×Bool}(hu:Fst a b p0 u)(hv:Fst a b p0 v):u=v:=by
 have a2:∀{u v:A2×Bool},(∃i c x,c<a.I.toNat/\(pB a b p0 (i*a.I.toNat+c))[i]?=some x/\ot a x.1.1 c≠ot b x.1.2 c/\(∀r,r<i*a.I.toNat+c->difB a b p0 r=false)/\u=(x.2++[(c:Int)],true))->(∃L,PEnd a b p0 L/\(∀r,r<L.length*a.I.toNat->difB a b p0 r=false)/\v=([],false))->False:=by
  rintro u v ⟨i,c,x,h1,h2,h3,h4,_⟩ ⟨L,h6,h7,_⟩;rcases J3 (i*a.I.toNat+c) (L.length*a.I.toNat) with g|g
  ·have:=h7 _ g;rw[kQ h1 h2,E9 h3]at this;cases this
  ·have hs:=bfs_stay h6 hK (i*a.I.toNat+c-L.length*a.I.toNat);rw[show L.length*a.I.toNat+(i*a.I.toNat+c-L.length*a.I.toNat)=i*a.I.toNat+c by omega]at hs;have a3:(bfsB (pE a b) a.I.toNat p0 (i*a.I.toNat+c))[i]?=some x:=h2;rw[hs]at a3;have hi:=(E0.1 a3).1;have:=eO hi h1;omega
 rcases hu with hu|hu<;>rcases hv with hv|hv
 ·obtain⟨i,c,x,h1,h2,h3,h4,rfl⟩:=hu;obtain⟨i',c',x',g1,g2,g3,g4,rfl⟩:=hv
  have hr:i*a.I.toNat+c=i'*a.I.toNat+c':=by
   rcases jH (i*a.I.toNat+c) (i'*a.I.toNat+c') with q|q|q
   ·have:=g4 _ q;rw[kQ h1 h2,E9 h3]at this;cases this
   ·exact q
   ·have:=h4 _ q;rw[kQ g1 g2,E9 g3]at this;cases this
  have e1:i=i':=by rw[<- dR (i:=i) h1,hr,dR g1]
  subst e1;have e2:c=c':=by omega
  subst e2;rw[h2]at g2;injection g2 with g2
  rw[g2]
 ·exact(a2 hu hv).elim
 ·exact(a2 hv hu).elim
 ·obtain⟨_,_,_,rfl⟩:=hu;obtain⟨_,_,_,rfl⟩:=hv;rfl
end
end
section
section
variable {a b:A8}
def plC(x:(Nat×Nat)×A2):W5:=⟨⟨(x.1.1:Int),(x.1.2:Int)⟩,x.2⟩
def prC(x:(Nat×Nat)×A2):Y6:=⟨(x.1.1:Int),(x.1.2:Int),x.2⟩
def gL{V G:Type}{f:V->G}{l:List V}{i:Nat}{x:V}(h:l[i]?=some x):(l.map f)[i]?=some (f x):=by rw[H1,h];rfl
structure SeenG(n k:Nat)(y:List (List Bool))(l:G4):Prop where
 len:y.length=n
 at_:∀s t,s<n->t<k->∃row,y[s]?=some row/\row.length=k/\row[t]?=some (decide ((s,t)∈l))
def pair_mem{l:G4}{p q:Nat×Nat}(h:p≠q):p∈l↔p∈l++[q]:=by
 rw[I2,I7];exact⟨Or.inl,λz=>z.elim id λe=>absurd e h⟩
def SeenG.push{n k s t:Nat}{y:List (List Bool)}{l:G4}{row:List Bool}(S:SeenG n k y l)(hs:s<n)(ht:t<k)(hr:y[s]?=some row):SeenG n k (y.set s (row.set t true)) (l++[(s,t)]):=by
 refine⟨by simp[S.len],λu v hu hv=>?_⟩;obtain⟨a2,h1,h2,h3⟩:=S.at_ u v hu hv;by_cases h:s=u
 ·subst h;rw[hr]at h1;injection h1 with h1
  subst h1;refine⟨row.set t true,by rw[P5 (by rw[S.len];exact hs)],by simp[h2],?_⟩;by_cases g:t=v
  ·subst g;rw[P5 (by omega)];simp
  ·rw[O3 g,h3];congr 1;apply decide_eq_decide.2;exact pair_mem λe=>g (congrArg Prod.snd e).symm
 ·refine⟨a2,by rw[O3 h,h1],h2,?_⟩;rw[h3];congr 1;apply decide_eq_decide.2;exact pair_mem λe=>h (congrArg Prod.fst e).symm
def seenG_nil(n k:Nat):SeenG n k (List.replicate n (List.replicate k false)) []:=⟨by simp,λs t hs ht=>⟨List.replicate k false,by simp[hs],by simp,by simp[ht]⟩⟩
def big_sum{i c n k K:Nat}(hi:i<=n*k)(hn:n<=128)(hk:k<=128)(hK:K<=64)(hc:c<=64):i*K+c<=1048640:=by
 have h1:n*k<=128*128:=dH hn hk;have h2:i*K<=(128*128)*64:=dH (by omega) hK;omega
def search_row(T:Two a b){p0:Nat×Nat}(h1:p0.1<a.N.length)(h2:p0.2<b.N.length){i:Nat}{x:(Nat×Nat)×A2}{y:List (List Bool)}(hi:i<=a.N.length*b.N.length)
  (hx:(pB a b p0 (i*a.I.toNat))[i]?=some x) (S:SeenG a.N.length b.N.length y ((pB a b p0 (i*a.I.toNat)).map Prod.fst)) (hd:∀r,r<i*a.I.toNat->difB a b p0 r=false) :
  ∃r,iter (λ(s:List (List Bool)×List W5×Nat)=>S4.s20 a b i (plC x) s.1 s.2.1 s.2.2) fuel (y,(pB a b p0 (i*a.I.toNat)).map plC,0)=some r /\
   ((∃y',r=.inl (y',(pB a b p0 ((i+1)*a.I.toNat)).map plC)/\SeenG a.N.length b.N.length y' ((pB a b p0 ((i+1)*a.I.toNat)).map Prod.fst)/\∀r,r<(i+1)*a.I.toNat->difB a b p0 r=false) \/
   (∃res,r=.inr (.inr (.inr res))/\Fst a b p0 res)):=by
 have b3:=T.a1.n2;have b2:=T.b1.n2;have hI:=T.a1.i2;have a9:=iN T h1 h2 _ x (G6 hx)
 obtain⟨r,hr,hq⟩:=J2 (step:=λ(s:List (List Bool)×List W5×Nat)=>S4.s20 a b i (plC x) s.1 s.2.1 s.2.2) (λs=>s.2.2<=a.I.toNat/\s.2.1=(pB a b p0 (i*a.I.toNat+s.2.2)).map plC/\SeenG a.N.length b.N.length s.1 ((pB a b p0 (i*a.I.toNat+s.2.2)).map Prod.fst)/\∀r,r<i*a.I.toNat+s.2.2->difB a b p0 r=false) (λs=>a.I.toNat-s.2.2) (λr=>(∃y',r=.inl (y',(pB a b p0 ((i+1)*a.I.toNat)).map plC)/\SeenG a.N.length b.N.length y' ((pB a b p0 ((i+1)*a.I.toNat)).map Prod.fst)/\∀r,r<(i+1)*a.I.toNat->difB a b p0 r=false)\/(∃res,r=.inr (.inr (.inr res))/\Fst a b p0 res)) (λs ⟨q1,q2,q3,q4⟩=>by
  obtain⟨y,l,c⟩:=s
  simp only at q1 q2 q3 q4
  subst q2
  simp only[S4.s20]
  by_cases g:c<a.I.toNat
  ·have a4:=pB_get hx (r:=i*a.I.toNat+c) (by omega)
   obtain⟨g1,_,_,ra,oa,e1,e2,e3,e4⟩:=T.a1.at a9.1 g
   obtain⟨f1,_,_,rb,ob,d1,d2,d3,d4⟩:=T.b1.at a9.2.1 (a:=c) (by rw[<- T.inp];exact g)
   have b6:=big_sum (c:=c) hi b3 b2 (K:=a.I.toNat) (by omega) (by omega)
   have b5:=mA T h1 h2 (i*a.I.toNat+c)
   have b8:a.N.length*b.N.length<=128*128:=dH b3 b2
   rw[C2,D7 (n:=(plC x).at_.s) (i:=x.1.1) rfl e2,B8 e4,D7 (n:=(plC x).at_.t) (i:=x.1.2) rfl d2,B8 d4]
   by_cases a5:ot a x.1.1 c≠ot b x.1.2 c
   ·right
    rw[C2 a5,B8 (gL a4)]
    show ∃r,((jW [x.2,[(c:Int)]]).bind _:Option _)=_/\_
    rw[CC _ (by simp) (by simp;omega),A5]
    refine⟨_,rfl,Or.inr ⟨_,rfl,Or.inl ⟨i,c,x,g,a4,a5,q4,?_⟩⟩⟩
    simp
   ·left
    have b7:ot a x.1.1 c=ot b x.1.2 c:=Q9 a5
    have a8:∀r,r<i*a.I.toNat+(c+1)->difB a b p0 r=false:=λr hr=>by
     rcases J3 r (i*a.I.toNat+c) with q|q
     ·exact q4 r q
     ·have:r=i*a.I.toNat+c:=by omega
      rw[this,kQ g a4,I3 a5]
    have a3:=pB_step g a4
    obtain⟨row,r1,r2,r3⟩:=q3.at_ _ _ g1 f1
    have b4:x.1∈(pB a b p0 (i*a.I.toNat+c)).map Prod.fst:=H0.2 ⟨x,G6 a4,rfl⟩
    have a7:((cond (!(decide ((↑(nx a x.1.1 c):Int)=(plC x).at_.s)&&(decide ((↑(nx b x.1.2 c):Int)=(plC x).at_.t)&&true))) (idx y (↑(nx a x.1.1 c):Int) λa2=>idx a2 (↑(nx b x.1.2 c):Int) λa6=>some (!a6)) (some false):Option Bool))=some (!decide (pE a b x.1 c∈(pB a b p0 (i*a.I.toNat+c)).map Prod.fst)):=by
     by_cases z:pE a b x.1 c=x.1
     ·have z1:nx a x.1.1 c=x.1.1:=congrArg Prod.fst z
      have z2:nx b x.1.2 c=x.1.2:=congrArg Prod.snd z
      rw[E9 (show(↑(nx a x.1.1 c):Int)=(plC x).at_.s by rw[z1];rfl),E9 (show(↑(nx b x.1.2 c):Int)=(plC x).at_.t by rw[z2];rfl),z,E9 b4]
      rfl
     ·have:(!(decide ((↑(nx a x.1.1 c):Int)=(plC x).at_.s)&&(decide ((↑(nx b x.1.2 c):Int)=(plC x).at_.t)&&true)))=true:=by
       by_cases z1:nx a x.1.1 c=x.1.1
       ·have z2:nx b x.1.2 c≠x.1.2:=λq=>z (Prod.ext z1 q)
        rw[I3 (show ¬(↑(nx b x.1.2 c):Int)=(plC x).at_.t from λq=>z2 (Int.ofNat_inj.1 q))]
        simp
       ·rw[I3 (show ¬(↑(nx a x.1.1 c):Int)=(plC x).at_.s from λq=>z1 (Int.ofNat_inj.1 q))]
        rfl
      rw[this,F7,D7 rfl r1,D7 rfl r3]
      rfl
    rw[B1 a5,D7 (n:=(plC x).at_.s) (i:=x.1.1) rfl e1,B8 e3,D7 (n:=(plC x).at_.t) (i:=x.1.2) rfl d1,B8 d3,a7,A5]
    by_cases hm:pE a b x.1 c∈(pB a b p0 (i*a.I.toNat+c)).map Prod.fst
    ·rw[if_pos hm]at a3
     refine⟨(y,(pB a b p0 (i*a.I.toNat+c)).map plC,c+1),by rw[E9 hm,Z9,G5,L3],⟨g,by simp only;rw[a3],by simp only;rw[a3];exact q3,a8⟩,by simp only;omega⟩
    ·rw[if_neg hm]at a3
     refine⟨(y.set (nx a x.1.1 c) (row.set (nx b x.1.2 c) true),(pB a b p0 (i*a.I.toNat+c)).map plC++[plC (pE a b x.1 c,x.2++[(c:Int)])],c+1),?_,⟨g,by simp only;rw[a3,L1];rfl,by simp only;rw[a3,L1];exact q3.push g1 f1 r1,a8⟩,by simp only;omega⟩
     rw[I3 hm,cN,F7,D7 rfl r1,D7 rfl r3,B8 (gL a4)]
     show(jW [x.2,[(c:Int)]]).bind _=_
     rw[CC _ (by simp) (by simp;omega),A5,H9 (by unfold B4;rw[B7];omega),L3,H6,H6]
     simp[plC,pE]
  ·right
   have e':c=a.I.toNat:=by omega
   subst e'
   rw[pB_next]at q3 ⊢
   exact⟨_,by rw[B1],Or.inl ⟨_,rfl,q3,by rw[cM];exact q4⟩⟩) (y,(pB a b p0 (i*a.I.toNat)).map plC,0) ⟨D8 _,rfl,S,hd⟩
 exact⟨r,hr,hq⟩
def CX(T:Two a b){p0:Nat×Nat}(h1:p0.1<a.N.length)(h2:p0.2<b.N.length):∃res,S4 a b (⟨(p0.1:Int),(p0.2:Int)⟩:eW)=some res/\Fst a b p0 res:=by
 have a4:=T.a1.n2;have a2:=T.b1.n2;have hI:=T.a1.i2;have a6:a.N.length*b.N.length<=128*128:=dH a4 a2;unfold S4
 have grid:=U2 (step:=λ(s:List (List Bool)×Nat)=>S4.s2 a b s.1 s.2) (r:=List.replicate a.N.length (List.replicate b.N.length false)) (λs=>s.2<=a.N.length/\s.1=List.replicate s.2 (List.replicate b.N.length false)++List.replicate (a.N.length-s.2) []) (λs=>a.N.length-s.2) (λs ⟨q1,q2⟩=>by
  obtain⟨y,k⟩:=s
  simp only at q1 q2
  subst q2
  simp only[S4.s2]
  by_cases g:k<a.N.length
  ·left
   refine⟨(List.replicate (k+1) (List.replicate b.N.length false)++List.replicate (a.N.length-(k+1)) [],k+1),?_,⟨g,rfl⟩,by simp only;omega⟩
   have hk:(List.replicate k (List.replicate b.N.length false)++List.replicate (a.N.length-k) [])[k]?=some []:=by
    rw[S7 (by simp),K7,T7,Y8,if_pos (by omega)]
   rw[K7,C2,H9 ⟨by omega,by omega,by unfold B4;omega⟩,B8 hk,L3]
   congr 4
   rw[List.set_append_right _ _ (by simp),K7,T7,show a.N.length-k=(a.N.length-(k+1))+1 by omega,List.replicate_succ,yP,List.replicate_succ' (n:=k)]
   simp
  ·right
   have:k=a.N.length:=by omega
   subst this
   rw[K7,B1]
   simp) (n:=fuel) (s:=(List.replicate a.N.length [],0)) ⟨D8 _,by simp⟩
 obtain⟨row,r1,r2,r3⟩:=(seenG_nil a.N.length b.N.length).at_ _ _ h1 h2;have hS:=(seenG_nil a.N.length b.N.length).push h1 h2 r1;rw[H9 ⟨by omega,by omega,by unfold B4;omega⟩,grid,A5];simp only;rw[D7 rfl r1,D7 rfl r3,H6,H6]
 obtain⟨r,hr,hq⟩:=J2 (step:=λ(s:List (List Bool)×List W5×Nat)=>S4.s22 a b s.1 s.2.1 s.2.2) (λs=>s.2.2<=(pB a b p0 (s.2.2*a.I.toNat)).length/\s.2.1=(pB a b p0 (s.2.2*a.I.toNat)).map plC/\SeenG a.N.length b.N.length s.1 ((pB a b p0 (s.2.2*a.I.toNat)).map Prod.fst)/\∀r,r<s.2.2*a.I.toNat->difB a b p0 r=false) (λs=>a.N.length*b.N.length+1-s.2.2) (λr=>(r=.inl ()/\Fst a b p0 ([],false))\/∃res,r=.inr res/\Fst a b p0 res) (λs ⟨q1,q2,q3,q4⟩=>by
  obtain⟨y,l,i⟩:=s
  simp only at q1 q2 q3 q4
  subst q2
  simp only[S4.s22]
  have a5:=mA T h1 h2 (i*a.I.toNat)
  by_cases g:i<(pB a b p0 (i*a.I.toNat)).length
  ·have hx:=get_at g
   generalize (pB a b p0 (i*a.I.toNat))[i]=x at hx
   obtain⟨r,z1,z2⟩:=search_row T h1 h2 (by omega) hx q3 q4
   rw[C2 (by rw[B7];omega),B8 (gL hx),z1,A5]
   rcases z2 with⟨y',rfl,z3,z4⟩|⟨res,rfl,z3⟩
   ·left
    have a3:=(cE (e:=pE a b) (K:=a.I.toNat) (s0:=p0) (show i*a.I.toNat<=(i+1)*a.I.toNat by rw[cM];omega)).length_le
    exact⟨(y',(pB a b p0 ((i+1)*a.I.toNat)).map plC,i+1),rfl,⟨by simp only;unfold pB at g ⊢;omega,rfl,z3,z4⟩,by simp only;omega⟩
   ·right
    exact⟨.inr res,rfl,Or.inr ⟨res,rfl,z3⟩⟩
  ·right
   refine⟨.inl (),by rw[B1 (by rw[B7];omega)],Or.inl ⟨rfl,Or.inr ⟨pB a b p0 (i*a.I.toNat),⟨?_⟩,?_,rfl⟩⟩⟩
   ·rw[show(pB a b p0 (i*a.I.toNat)).length=i by omega]
    rfl
   ·rw[show(pB a b p0 (i*a.I.toNat)).length=i by omega]
    exact q4) ((List.replicate a.N.length (List.replicate b.N.length false)).set p0.1 (row.set p0.2 true),[(⟨(⟨(p0.1:Int),(p0.2:Int)⟩:eW),[]⟩:W5)],0) ⟨D8 _,by simp only;rw[dG];simp[pB,bfsB,plC],by
    simp only
    rw[dG]
    exact hS,λr hr=>by simp only at hr;omega⟩
 rw[hr,A5];rcases hq with⟨rfl,hq⟩|⟨res,rfl,hq⟩
 ·exact⟨_,rfl,hq⟩
 ·exact⟨_,rfl,hq⟩
end
end
section
section
variable {a b:A8}
def known_eq{l:List ((Nat×Nat)×A2)}{p q:Nat}(hl:l.length<=1000000):iter (λ(s:Bool×Nat)=>V6.s84 (l.map prC) (p:Int) (q:Int) s.1 s.2) fuel (false,0)=some (decide ((p,q)∈l.map Prod.fst)):=by
 refine U2 (λs=>s.2<=l.length/\(s.1=true↔(p,q)∈(l.take s.2).map Prod.fst)) (λs=>l.length-s.2) (λs hs=>?_) ⟨D8 _,by simp⟩;obtain⟨kn,k⟩:=s;obtain⟨q1,q2⟩:=hs;simp only at q1 q2;simp only[V6.s84];by_cases g:k<l.length
 ·left;have hx:=get_at g;generalize l[k]=x at hx
  have ht:(l.take (k+1)).map Prod.fst=(l.take k).map Prod.fst++[x.1]:=by
   rw[W4 hx,L1];rfl
  rw[C2 (by rw[B7];omega)];cases kn with
  |true =>
   exact⟨(true,k+1),by rw[F7],⟨g,by simp only;rw[ht];exact⟨λ_=>K9 _ (q2.1 rfl),λ_=>trivial⟩⟩,by simp only;omega⟩
  |false =>
   have hn:¬(p,q)∈(l.take k).map Prod.fst:=λz=>by have:=q2.2 z;cases this
   have e1:((p,q)∈(l.take (k+1)).map Prod.fst)↔x.1.1=p/\x.1.2=q:=by
    rw[ht,I2];constructor
    ·rintro (z|z)
     ·exact absurd z hn
     ·have z:(p,q)=x.1:=by simpa using z
      rw[<- z];exact⟨rfl,rfl⟩
    ·rintro⟨z1,z2⟩;right;simp[<- z1,<- z2]
   rw[G5,B8 (gL hx),B8 (gL hx)];have hS:(prC x).S=(x.1.1:Int):=rfl;have hT:(prC x).T=(x.1.2:Int):=rfl;by_cases z1:x.1.1=p
   ·refine⟨(decide ((prC x).T=(q:Int)),k+1),by rw[C2 (show(prC x).S=(p:Int) by omega)],⟨g,?_⟩,by simp only;omega⟩;show decide ((prC x).T=(q:Int))=true↔_;rw[e1,decide_eq_true_iff];constructor
    ·exact λz=>⟨z1,by omega⟩
    ·exact λz=>by have:=z.2;omega
   ·refine⟨(false,k+1),by rw[B1 (show ¬(prC x).S=(p:Int) by omega)],⟨g,?_⟩,by simp only;omega⟩;show false=true↔_;rw[e1];exact⟨λz=>(by cases z),λz=>absurd z.1 z1⟩
 ·right;have:k=l.length:=by omega
  subst this;rw[R5]at q2;rw[B1 (by rw[B7];omega)];cases kn with
  |true=>rw[E9 (q2.1 rfl)]
  |false=>rw[I3 (λz=>by have:=q2.2 z;cases this)]
def first_row(T:Two a b){p0:Nat×Nat}(h1:p0.1<a.N.length)(h2:p0.2<b.N.length){i:Nat}{x:(Nat×Nat)×A2}(hi:i<=a.N.length*b.N.length)
  (hx:(pB a b p0 (i*a.I.toNat))[i]?=some x) (hd:∀r,r<i*a.I.toNat->difB a b p0 r=false) :
  ∃r,iter (λ(s:List Y6×Nat)=>V6.s85 a b i s.1 s.2) fuel ((pB a b p0 (i*a.I.toNat)).map prC,0)=some r /\
   ((r=.inl ((pB a b p0 ((i+1)*a.I.toNat)).map prC)/\∀r,r<(i+1)*a.I.toNat->difB a b p0 r=false) \/
   (∃res,r=.inr (.inr (.inr res))/\Fst a b p0 res)):=by
 have a8:=T.a1.n2;have a7:=T.b1.n2;have hI:=T.a1.i2;have a6:=iN T h1 h2 _ x (G6 hx)
 obtain⟨r,hr,hq⟩:=J2 (step:=λ(s:List Y6×Nat)=>V6.s85 a b i s.1 s.2) (λs=>s.2<=a.I.toNat/\s.1=(pB a b p0 (i*a.I.toNat+s.2)).map prC/\∀r,r<i*a.I.toNat+s.2->difB a b p0 r=false) (λs=>a.I.toNat-s.2) (λr=>(r=.inl ((pB a b p0 ((i+1)*a.I.toNat)).map prC)/\∀r,r<(i+1)*a.I.toNat->difB a b p0 r=false)\/(∃res,r=.inr (.inr (.inr res))/\Fst a b p0 res)) (λs ⟨q1,q2,q4⟩=>by
  obtain⟨l,c⟩:=s
  simp only at q1 q2 q4
  subst q2
  simp only[V6.s85]
  by_cases g:c<a.I.toNat
  ·have a3:=pB_get hx (r:=i*a.I.toNat+c) (by omega)
   obtain⟨g1,_,_,ra,oa,e1,e2,e3,e4⟩:=T.a1.at a6.1 g
   obtain⟨f1,_,_,rb,ob,d1,d2,d3,d4⟩:=T.b1.at a6.2.1 (a:=c) (by rw[<- T.inp];exact g)
   have b2:=big_sum (c:=c) hi a8 a7 (K:=a.I.toNat) (by omega) (by omega)
   have b3:=mA T h1 h2 (i*a.I.toNat+c)
   have b4:a.N.length*b.N.length<=128*128:=dH a8 a7
   have a5:lI (prC x).Word (c:Int)=some (x.2++[(c:Int)]):=by
    unfold lI
    show chk (B4 x.2.length 8) (chk (B4 (x.2.length+1) 8) _)=_
    rw[O6,O6]
    rfl
   rw[C2,B8 (gL a3),a5,A5,B8 (gL a3),D7 (n:=(prC x).S) (i:=x.1.1) rfl e2,B8 e4,B8 (gL a3),D7 (n:=(prC x).T) (i:=x.1.2) rfl d2,B8 d4]
   by_cases a4:ot a x.1.1 c≠ot b x.1.2 c
   ·right
    rw[C2 a4]
    exact⟨_,rfl,Or.inr ⟨_,rfl,Or.inl ⟨i,c,x,g,a3,a4,q4,rfl⟩⟩⟩
   ·left
    have a9:∀r,r<i*a.I.toNat+(c+1)->difB a b p0 r=false:=λr hr=>by
     rcases J3 r (i*a.I.toNat+c) with q|q
     ·exact q4 r q
     ·have:r=i*a.I.toNat+c:=by omega
      rw[this,kQ g a3,I3 a4]
    have a2:=pB_step g a3
    rw[B1 a4,B8 (gL a3),D7 (n:=(prC x).S) (i:=x.1.1) rfl e1,B8 e3,B8 (gL a3),D7 (n:=(prC x).T) (i:=x.1.2) rfl d1,B8 d3,known_eq (by omega),A5]
    by_cases hm:pE a b x.1 c∈(pB a b p0 (i*a.I.toNat+c)).map Prod.fst
    ·rw[if_pos hm]at a2
     refine⟨((pB a b p0 (i*a.I.toNat+c)).map prC,c+1),by rw[E9 (show(nx a x.1.1 c,nx b x.1.2 c)∈_ from hm),Z9,G5,L3],⟨g,by simp only;rw[a2],a9⟩,by simp only;omega⟩
    ·rw[if_neg hm]at a2
     refine⟨((pB a b p0 (i*a.I.toNat+c)).map prC++[prC (pE a b x.1 c,x.2++[(c:Int)])],c+1),?_,⟨g,by simp only;rw[a2,L1];rfl,a9⟩,by simp only;omega⟩
     rw[I3 (show ¬(nx a x.1.1 c,nx b x.1.2 c)∈_ from hm),cN,F7,H9 (by unfold B4;rw[B7];omega),L3]
     rfl
  ·right
   have e':c=a.I.toNat:=by omega
   subst e'
   rw[pB_next]
   exact⟨_,by rw[B1],Or.inl ⟨rfl,by rw[cM];exact q4⟩⟩) ((pB a b p0 (i*a.I.toNat)).map prC,0) ⟨D8 _,rfl,hd⟩
 exact⟨r,hr,hq⟩
def R09_first_eq(T:Two a b){p0:Nat×Nat}(h1:p0.1<a.N.length)(h2:p0.2<b.N.length):∃res,V6 a b (p0.1:Int) (p0.2:Int)=some res/\Fst a b p0 res:=by
 have a4:=T.a1.n2;have a2:=T.b1.n2;have a6:a.N.length*b.N.length<=128*128:=dH a4 a2;unfold V6
 obtain⟨r,hr,hq⟩:=J2 (step:=λ(s:List Y6×Nat)=>V6.s86 a b s.1 s.2) (λs=>s.2<=(pB a b p0 (s.2*a.I.toNat)).length/\s.1=(pB a b p0 (s.2*a.I.toNat)).map prC/\∀r,r<s.2*a.I.toNat->difB a b p0 r=false) (λs=>a.N.length*b.N.length+1-s.2) (λr=>(r=.inl ()/\Fst a b p0 ([],false))\/∃res,r=.inr res/\Fst a b p0 res) (λs ⟨q1,q2,q4⟩=>by
  obtain⟨l,i⟩:=s
  simp only at q1 q2 q4
  subst q2
  simp only[V6.s86]
  have a5:=mA T h1 h2 (i*a.I.toNat)
  by_cases g:i<(pB a b p0 (i*a.I.toNat)).length
  ·have hx:=get_at g
   generalize (pB a b p0 (i*a.I.toNat))[i]=x at hx
   obtain⟨r,z1,z2⟩:=first_row T h1 h2 (by omega) hx q4
   rw[C2 (by rw[B7];omega),z1,A5]
   rcases z2 with⟨rfl,z4⟩|⟨res,rfl,z3⟩
   ·left
    have a3:=(cE (e:=pE a b) (K:=a.I.toNat) (s0:=p0) (show i*a.I.toNat<=(i+1)*a.I.toNat by rw[cM];omega)).length_le
    exact⟨((pB a b p0 ((i+1)*a.I.toNat)).map prC,i+1),rfl,⟨by simp only;unfold pB at g ⊢;omega,rfl,z4⟩,by simp only;omega⟩
   ·right
    exact⟨.inr res,rfl,Or.inr ⟨res,rfl,z3⟩⟩
  ·right
   refine⟨.inl (),by rw[B1 (by rw[B7];omega)],Or.inl ⟨rfl,Or.inr ⟨pB a b p0 (i*a.I.toNat),⟨?_⟩,?_,rfl⟩⟩⟩
   ·rw[show(pB a b p0 (i*a.I.toNat)).length=i by omega]
    rfl
   ·rw[show(pB a b p0 (i*a.I.toNat)).length=i by omega]
    exact q4) ([(⟨(p0.1:Int),(p0.2:Int),[]⟩:Y6)],0) ⟨D8 _,by simp only;rw[dG];simp[pB,bfsB,prC],λr hr=>by simp only at hr;omega⟩
 rw[hr,A5];rcases hq with⟨rfl,hq⟩|⟨res,rfl,hq⟩
 ·exact⟨_,rfl,hq⟩
 ·exact⟨_,rfl,hq⟩
def fst_word(T:Two a b){p0:Nat×Nat}(h1:p0.1<a.N.length)(h2:p0.2<b.N.length){w:A2}(h:Fst a b p0 (w,true)):WOk a.I w/\w.length<=1048640/\∃(v:A2) (c:Nat),w=v++[(c:Int)]/\c<a.I.toNat/\ot a (dest a p0.1 v) c≠ot b (dest b p0.2 v) c:=by
 rcases h with⟨i,c,x,g1,g2,g3,g4,g5⟩|⟨L,_,_,g⟩
 ·injection g5 with g5 _
  have hr:=iN T h1 h2 _ x (G6 g2);have a2:=mA T h1 h2 (i*a.I.toNat+c);have hi:=(E0.1 g2).1;have:=big_sum (c:=c+1) (i:=i) (by omega) T.a1.n2 T.b1.n2 (K:=a.I.toNat) (by have:=T.a1.i2;omega) (by have:=T.a1.i2;omega);refine⟨?_,?_,x.2,c,g5,g1,by rw[hr.2.2.2.1,hr.2.2.2.2.1];exact g3⟩
  ·rw[g5];refine WOk.append hr.2.2.2.2.2 λz hz=>?_;have:z=(c:Int):=by simpa using hz
   omega
  ·rw[g5];simp;omega
 ·injection g with _ g
  cases g
def outs_snoc{m:A8}{v:A2}{c s:Nat}:outs m s (v++[(c:Int)])=outs m s v++[ot m (dest m s v) c]:=by
 rw[lH];show _++[ot m (dest m s v) (Int.toNat ↑c)]=_;rw[H6]
def fst_ne(T:Two a b){p0:Nat×Nat}(h1:p0.1<a.N.length)(h2:p0.2<b.N.length){w:A2}(h:Fst a b p0 (w,true)):outs a p0.1 w≠outs b p0.2 w:=by
 obtain⟨_,_,v,c,rfl,_,h3⟩:=fst_word T h1 h2 h;intro he;rw[outs_snoc,outs_snoc]at he;have:=List.append_inj_right' he rfl;injection this with this _
 exact h3 this
def fst_none{p0:Nat×Nat}{w0:A2}(h:Fst a b p0 (w0,false)):∀w,WOk a.I w->outs a p0.1 w=outs b p0.2 w:=by
 rcases h with⟨i,c,x,_,_,_,_,g⟩|⟨L,g1,g2,_⟩
 ·injection g with _ g
  cases g
 ·have key:∀(w:A2) (i:Nat) (x:(Nat×Nat)×A2),L[i]?=some x->WOk a.I w->outs a x.1.1 w=outs b x.1.2 w:=by
   intro w
   induction w with
   |nil=>intro _ _ _ _;rfl
   |cons z w ih =>
    intro i x hx hw;have hz:=hw.head;have hc:z.toNat<a.I.toNat:=by omega
    have hi:=(E0.1 hx).1;obtain⟨x',e1,e2⟩:=g1.long hi hc;rw[hx]at e1;injection e1 with e1
    subst e1;have hd:=g2 (i*a.I.toNat+z.toNat) (eO hi hc);rw[kQ hc e2]at hd
    have a2:ot a x.1.1 z.toNat=ot b x.1.2 z.toNat:=Q9 λq=>by
     rw[E9 q]at hd;cases hd
    obtain⟨j,y,f1,f2,_⟩:=g1.closed hx hc;have:=ih j y f1 hw.tail;rw[f2]at this;show ot a x.1.1 z.toNat::outs a (nx a x.1.1 z.toNat) w=ot b x.1.2 z.toNat::outs b (nx b x.1.2 z.toNat) w;rw[a2];congr 1
  exact λw hw=>key w 0 _ g1.first hw
end
end
section
def leastR{p:Nat->Prop}:∀{r:Nat},p r->∃q,p q/\∀q',q'<q->¬p q':=λ{r} h=>by
 induction r using Nat.strongRecOn with
 |ind r ih =>
  by_cases g:∃q,q<r/\p q
  ·obtain⟨q,h1,h2⟩:=g;exact ih q h1 h2
  ·exact⟨r,h,λq' hq hp=>g ⟨q',hq,hp⟩⟩
structure Can(M:A8):Prop where
 c4:∀i a u,i<M.N.length->a<M.I.toNat->0<u->u<=nx M i a->∃i' a',a'<M.I.toNat/\i'*M.I.toNat+a'<=i*M.I.toNat+a/\i'<u/\nx M i' a'=u
 c5:∀u,0<u->u<M.N.length->∃i a,i<u/\a<M.I.toNat/\nx M i a=u
def Eqv(a:A8)(s:Nat)(b:A8)(t:Nat):Prop:=∀w,WOk a.I w->outs a s w=outs b t w
structure aW(m M:A8):Prop where
 ok:I8 M
 inp:M.I=m.I
 start:M.S=0
 eqv:Eqv M 0 m m.S.toNat
 min:∀i j,i<M.N.length->j<M.N.length->Eqv M i M j->i=j
 can:Can M
def Eqv.step{a b:A8}(hi:a.I=b.I){s t c:Nat}(h:Eqv a s b t)(hc:c<a.I.toNat):ot a s c=ot b t c/\Eqv a (nx a s c) b (nx b t c):=by
 have key:∀w,WOk a.I w->ot a s c::outs a (nx a s c) w=ot b t c::outs b (nx b t c) w:=λw hw=>by
  have:=h ((c:Int)::w) (λx hx=>by
   rcases M4.1 hx with rfl|hx
   ·omega
   ·exact hw x hx)
  exact this
 have h0:=key [] (λx hx=>by cases hx);injection h0 with h0 _
 refine⟨h0,λw hw=>?_⟩;have:=key w hw;injection this with _ this
def Eqv.symm{a b:A8}(hi:a.I=b.I){s t:Nat}(h:Eqv a s b t):Eqv b t a s:=λw hw=>(h w (by rw[hi];exact hw)).symm
def Eqv.trans{a b c:A8}(hi:a.I=b.I){s t u:Nat}(h:Eqv a s b t)(g:Eqv b t c u):Eqv a s c u:=λw hw=>(h w hw).trans (g w (by rw[<- hi];exact hw))
def Eqv.dest{a b:A8}(hi:a.I=b.I){s t:Nat}(h:Eqv a s b t){w:A2}(hw:WOk a.I w):Eqv a (dest a s w) b (dest b t w):=λv hv=>by
 have:=h (w++v) (hw.append hv);rw[lH,lH]at this;exact List.append_inj_right this (by rw[fP,fP])
section
variable {M M':A8}
def can_match(HM:I8 M)(HM':I8 M')(hi:M.I=M'.I)(hmin:∀i j,i<M.N.length->j<M.N.length->Eqv M i M j->i=j)(hmin':∀i j,i<M'.N.length->j<M'.N.length->Eqv M' i M' j->i=j)(C:Can M)(C':Can M')(h0:Eqv M 0 M' 0) :
  ∀u,u<M.N.length->u<M'.N.length/\Eqv M u M' u:=by
 intro u
 induction u using Nat.strongRecOn with
 |ind u ih =>
  intro hu;by_cases hz:u=0
  ·subst hz;exact⟨HM'.n1,h0⟩
  obtain⟨i0,a0,b1,b2,b3⟩:=C.c5 u (by omega) hu;have hK:0<M.I.toNat:=by omega
  obtain⟨r,⟨⟨i,a,p1,p2,p3,p4⟩,a3⟩⟩:∃r,(∃i a,i<M.N.length/\a<M.I.toNat/\r=i*M.I.toNat+a/\nx M i a=u)/\∀r',r'<r->¬ ∃i a,i<M.N.length/\a<M.I.toNat/\r'=i*M.I.toNat+a/\nx M i a=u :=
   leastR (p:=λr=>∃i a,i<M.N.length/\a<M.I.toNat/\r=i*M.I.toNat+a/\nx M i a=u) (r:=i0*M.I.toNat+a0) ⟨i0,a0,by omega,b2,rfl,b3⟩
  have a9:i<u:=by
   rcases J3 i u with q|q
   ·exact q
   ·exfalso;refine a3 (i0*M.I.toNat+a0) ?_ ⟨i0,a0,by omega,b2,rfl,b3⟩;have:=eO (show i0<i by omega) b2;omega
  obtain⟨a5,hR⟩:=ih i a9 p1;obtain⟨_,a4⟩:=hR.step hi p2;rw[p4]at a4;have a8:a<M'.I.toNat:=by rw[<- hi];exact p2
  have a6:=(HM'.at a5 a8).1
  have a7:∀i' a',i'<M.N.length->a'<M.I.toNat->i'*M.I.toNat+a'<r->nx M i' a'<u:=λi' a' g1 g2 g3=>by
   rcases J3 (nx M i' a') u with q|q
   ·exact q
   ·exfalso;obtain⟨i2,a2,z1,z2,z3,z4⟩:=C.c4 i' a' u g1 g2 (by omega) q;exact a3 (i2*M.I.toNat+a2) (by omega) ⟨i2,a2,by omega,z1,rfl,z4⟩
  rcases jH (nx M' i a) u with q|q|q
  ·exfalso;obtain⟨_,hv⟩:=ih _ q (by omega);have:=hmin u (nx M' i a) hu (by omega) (a4.trans hi (hv.symm hi));omega
  ·rw[q]at a4 a6;exact⟨a6,a4⟩
  ·exfalso;obtain⟨i2,a2,z1,z2,z3,z4⟩:=C'.c4 i a u a5 a8 (by omega) (by omega);rw[<- hi]at z1 z2;obtain⟨w1,w2⟩:=ih i2 z3 (by omega);obtain⟨_,w3⟩:=w2.step hi z1;rw[z4]at w3
   have b4:i2*M.I.toNat+a2<r:=by
    rcases J3 (i2*M.I.toNat+a2) r with g|g
    ·exact g
    ·exfalso;have he:i2*M.I.toNat+a2=i*M.I.toNat+a:=by omega
     have e1:i2=i:=by rw[<- dR (i:=i2) z1,he,dR p2]
     subst e1;have e2:a2=a:=by omega
     subst e2;omega
   have hv:=a7 i2 a2 (by omega) z1 b4;obtain⟨v1,v2⟩:=ih _ hv (by omega);have b5:u<M'.N.length:=by omega
   have:=hmin' (nx M i2 a2) u v1 b5 ((v2.symm hi).trans hi.symm w3);omega
def row_ext{l l':A4}{n k:Nat}{g:Nat->Nat->Int}(h1:l.length=n)(h2:l'.length=n)(h:∀i,i<n->∃x y,l[i]?=some x/\l'[i]?=some y/\x.length=k/\y.length=k/\∀a,a<k->x[a]?=some (g i a)/\y[a]?=some (g i a)):l=l':=by
 refine aA λi=>?_;rcases J3 i n with g1|g1
 ·obtain⟨x,y,e1,e2,e3,e4,e5⟩:=h i g1;rw[e1,e2];congr 1;refine aA λa=>?_;rcases J3 a k with g2|g2
  ·rw[(e5 a g2).1,(e5 a g2).2]
  ·rw[L0 (by omega),L0 (by omega)]
 ·rw[L0 (by omega),L0 (by omega)]
def wN{m:A8}(S:aW m M)(S':aW m M'):M=M':=by
 have hi:M.I=M'.I:=S.inp.trans S'.inp.symm;have h0:Eqv M 0 M' 0:=S.eqv.trans S.inp (S'.eqv.symm S'.inp);have A:=can_match S.ok S'.ok hi S.min S'.min S.can S'.can h0;have B:=can_match S'.ok S.ok hi.symm S'.min S.min S'.can S.can (h0.symm hi)
 have hn:M.N.length=M'.N.length:=by
  have p1:=S.ok.n1;have p2:=S'.ok.n1;have a1:=(A (M.N.length-1) (by omega)).1;have b1:=(B (M'.N.length-1) (by omega)).1;omega
 have hx:∀i a,i<M.N.length->a<M.I.toNat->nx M i a=nx M' i a/\ot M i a=ot M' i a:=λi a h1 h2=>by
  obtain⟨e1,e2⟩:=(A i h1).2.step hi h2;refine⟨?_,e1⟩;have g1:=(S.ok.at h1 h2).1;have g2:=(S'.ok.at (show i<M'.N.length by omega) (a:=a) (by rw[<- hi];exact h2)).1;have e3:=(A _ g1).2;exact S'.min _ _ (by omega) g2 ((e3.symm hi).trans hi.symm e2)
 have hN:M.N=M'.N:=row_ext (n:=M.N.length) (k:=M.I.toNat) (g:=λi a=>(↑(nx M i a):Int)) rfl hn.symm λi h=>by
  obtain⟨x,y,e1,e2,e3,e4,_⟩:=S.ok.row i h;obtain⟨x',y',f1,f2,f3,f4,_⟩:=S'.ok.row i (by omega);refine⟨x,x',e1,f1,by omega,by omega,λa ha=>?_⟩;obtain⟨_,_,_,z,z',g1,_,g2,_⟩:=S.ok.at h ha;obtain⟨_,_,_,v,v',k1,_,k2,_⟩:=S'.ok.at (show i<M'.N.length by omega) (a:=a) (by rw[<- hi];exact ha);rw[e1]at g1;rw[f1]at k1;injection g1 with g1
  injection k1 with k1
  subst g1;subst k1;exact⟨g2,by rw[k2,(hx i a h ha).1]⟩
 have hO:M.O=M'.O:=row_ext (n:=M.N.length) (k:=M.I.toNat) (g:=λi a=>ot M i a) S.ok.ol (S'.ok.ol.trans hn.symm) λi h=>by
  obtain⟨x,y,e1,e2,e3,e4,_⟩:=S.ok.row i h;obtain⟨x',y',f1,f2,f3,f4,_⟩:=S'.ok.row i (by omega);refine⟨y,y',e2,f2,by omega,by omega,λa ha=>?_⟩;obtain⟨_,_,_,z,z',_,g1,_,g2⟩:=S.ok.at h ha;obtain⟨_,_,_,v,v',_,k1,_,k2⟩:=S'.ok.at (show i<M'.N.length by omega) (a:=a) (by rw[<- hi];exact ha);rw[e2]at g1;rw[f2]at k1;injection g1 with g1
  injection k1 with k1
  subst g1;subst k1;exact⟨g2,by rw[k2,(hx i a h ha).2]⟩
 have hs:M.S=M'.S:=S.start.trans S'.start.symm;obtain⟨a1,a2,a3,a4⟩:=M;obtain⟨b1,b2,b3,b4⟩:=M';simp only at hi hs hN hO;rw[hi,hs,hN,hO]
end
structure Shape{A:Type}[DecidableEq A](e:A->Nat->A)(o:A->Nat->Int)(L:List (A×A2))(M:A8):Prop where
 len:M.N.length=L.length
 row:∀i x a,L[i]?=some x->a<M.I.toNat->∃y,L[nx M i a]?=some y/\y.1=e x.1 a/\ot M i a=o x.1 a
def nodup_at{A:Type}{l:List A}(h:l.Nodup){i j:Nat}{x:A}(hi:l[i]?=some x)(hj:l[j]?=some x):i=j:=by
 have h1:=(E0.1 hi);have h2:=(E0.1 hj);obtain⟨a1,a2⟩:=h1;obtain⟨b1,b2⟩:=h2;rcases jH i j with q|q|q
 ·exact absurd (a2.trans b2.symm) (dL.1 h i j a1 b1 q)
 ·exact q
 ·exact absurd (b2.trans a2.symm) (dL.1 h j i b1 a1 q)
def shape_can{A:Type}[DecidableEq A]{e:A->Nat->A}{o:A->Nat->Int}{s0:A}{L:List (A×A2)}{M:A8}(hE:V1 e M.I.toNat s0 L)(S:Shape e o L M)(hK:0<M.I.toNat):Can M:=by
 have at_:∀i a x y j,L[i]?=some x->a<M.I.toNat->L[j]?=some y->y.1=e x.1 a->nx M i a=j:=λi a x y j hx ha hj he=>by
  obtain⟨y',h1,h2,_⟩:=S.row i x a hx ha;exact nodup_at hE.nodup (x:=e x.1 a) (by rw[H1,h1,<- h2];rfl) (by rw[H1,hj,<- he];rfl)
 refine⟨λi a u hi ha hu a2=>?_,λu hu a3=>?_⟩
 ·have hx:=get_at (l:=L) (i:=i) (by rw[<- S.len];exact hi);obtain⟨j,y,h1,h2,h3⟩:=hE.closed hx ha;rw[at_ i a _ y j hx ha h1 h2]at a2;obtain⟨i',a',z,w,g1,g2,g3,g4,g5,g6⟩:=h3 u hu a2;exact⟨i',a',g1,g2,g3,at_ i' a' z w u g4 g1 g5 g6⟩
 ·have hx:=get_at (l:=L) (i:=u) (by rw[<- S.len];exact a3);rcases hE.from hK hx with q|⟨i,a,y,g1,g2,g3,g4⟩
  ·omega
  ·exact⟨i,a,g1,g2,at_ i a y _ u g3 g2 hx (by rw[g4])⟩
end
section
section
variable {m:A8}
def libclone_w{w:A2}(h:w.length<=1000000):nW w=some w:=CG (by unfold SmW;omega)
structure TrimOk(m t:A8)(L:List (Nat×A2)):Prop where
 end_:MEnd m m.S.toNat L
 inp:t.I=m.I
 start:t.S=0
 ok:I8 t
 shape:Shape (nx m) (ot m) L t
def mEnd_rng(H:I8 m){s0:Nat}{L:List (Nat×A2)}(hs:s0<m.N.length)(hE:MEnd m s0 L):L.length<=m.N.length/\∀x∈L,x.1<m.N.length/\dest m s0 x.2=x.1/\WOk m.I x.2:=by
 refine⟨?_,λx hx=>?_⟩
 ·rw[hE.eq];exact mB_len H hs _
 ·rw[hE.eq]at hx;have:=kM H hs _ x hx;exact⟨this.1,this.2.2⟩
def mealy_Trim_eq(hv:P9 m=0):∃t L,S5 m=some (t,0)/\TrimOk m t L:=by
 have H:=aY hv;have b5:=H.st;have hn:=H.n2;have hI:=H.i2;have b4:=H.i1;have hs:m.S.toNat<m.N.length:=by omega
 obtain⟨L,hE,hR⟩:=CW hv;obtain⟨b7,a3⟩:=mEnd_rng H hs hE;have a9:=hE.nodup;unfold S5;rw[lP,A5,hv,B1 (by decide),hR,A5,H9 ⟨by omega,by omega,by unfold B4;omega⟩]
 -- the numbers
 obtain⟨num,a7,b6,b2⟩:=J2 (step:=λ(s:A2×Nat)=>S5.s2 (natI (L.map Prod.fst)) s.1 s.2) (λs=>s.2<=L.length/\s.1.length=m.N.length/\∀(j:Nat) (x:Nat×A2),j<s.2->L[j]?=some x->s.1[x.1]?=some (j:Int)) (λs=>L.length-s.2) (λr=>r.length=m.N.length/\∀(j:Nat) (x:Nat×A2),L[j]?=some x->r[x.1]?=some (j:Int)) (λs ⟨q1,q2,q3⟩=>by
  obtain⟨y,i⟩:=s
  simp only at q1 q2 q3
  simp only[S5.s2]
  by_cases g:i<L.length
  ·left
   have hx:=get_at g
   generalize L[i]=x at hx
   have a2:=(a3 x (G6 hx)).1
   have hy:=get_at (l:=y) (i:=x.1) (by omega)
   refine⟨(y.set x.1 (i:Int),i+1),?_,⟨g,by simp[q2],λj z hj hz=>?_⟩,by simp only;omega⟩
   ·rw[C2 (by rw[bH,B7];omega),B8 (mI (i:=i) (u:=x.1) (by rw[H1,hx];rfl)),D7 rfl hy,H6]
   ·simp only
    by_cases e:x.1=z.1
    ·have:i=j:=nodup_at a9 (x:=x.1) (by rw[H1,hx];rfl) (by rw[H1,hz,e];rfl)
     subst this
     rw[<- e,P5 (by omega)]
    ·rw[O3 e]
     rcases J3 j i with h|h
     ·exact q3 j z h hz
     ·have:j=i:=by simp only at hj;omega
      subst this
      rw[hx]at hz
      injection hz with hz
      rw[hz]at e
      exact absurd rfl e
  ·right
   exact⟨y,by rw[B1 (by rw[bH,B7];omega)],q2,λj x hx=>q3 j x (by have:=(E0.1 hx).1;omega) hx⟩) (List.replicate m.N.length 0,0) ⟨D8 _,by simp,λj x h=>absurd h (O4 _)⟩
 rw[a7,A5]
 -- one row
 have a8:∀(x:Nat×A2) (row:A2),x∈L->m.N[x.1]?=some row->∃r,iter (λ(s:A2×Nat)=>S5.s15 num row s.1 s.2) fuel (List.replicate (Int.toNat m.I) 0,0)=some r/\r.length=m.I.toNat/\∀a,a<m.I.toNat->∃(j:Nat) (y:Nat×A2),L[j]?=some y/\y.1=nx m x.1 a/\r[a]?=some (j:Int):=by
  intro x row hx a4;have a2:=(a3 x hx).1
  have b9:row.length=m.I.toNat:=by
   obtain⟨x',y',h1,_,h3,_⟩:=H.row x.1 a2;rw[a4]at h1;injection h1 with h1
   subst h1;omega
  obtain⟨i,hi⟩:=List.mem_iff_getElem?.1 hx
  exact J2 (step:=λ(s:A2×Nat)=>S5.s15 num row s.1 s.2) (λs=>s.2<=m.I.toNat/\s.1.length=m.I.toNat/\∀a,a<s.2->∃(j:Nat) (y:Nat×A2),L[j]?=some y/\y.1=nx m x.1 a/\s.1[a]?=some (j:Int)) (λs=>m.I.toNat-s.2) (λr=>r.length=m.I.toNat/\∀a,a<m.I.toNat->∃(j:Nat) (y:Nat×A2),L[j]?=some y/\y.1=nx m x.1 a/\r[a]?=some (j:Int)) (λs ⟨q1,q2,q3⟩=>by
   obtain⟨y,a⟩:=s
   simp only at q1 q2 q3
   simp only[S5.s15]
   by_cases g:a<m.I.toNat
   ·left
    obtain⟨h1,_,_,x',y',h2,_,h4,_⟩:=H.at a2 g
    rw[a4]at h2
    injection h2 with h2
    subst h2
    obtain⟨j,z,z1,z2,_⟩:=hE.closed hi g
    have hy:=get_at (l:=y) (i:=a) (by omega)
    have a6:=b2 j z z1
    rw[z2]at a6
    refine⟨(y.set a (j:Int),a+1),?_,⟨g,by simp[q2],λb hb=>?_⟩,by simp only;omega⟩
    ·rw[C2,B8 h4,D7 rfl a6,B8 hy]
    ·simp only
     by_cases e:a=b
     ·subst e
      exact⟨j,z,z1,z2,by rw[P5 (by omega)]⟩
     ·obtain⟨j',z',w1,w2,w3⟩:=q3 b (by simp only at hb;omega)
      exact⟨j',z',w1,w2,by rw[O3 e,w3]⟩
   ·right
    have:a=m.I.toNat:=by omega
    subst this
    exact⟨y,by rw[B1],q2,q3⟩) (List.replicate (Int.toNat m.I) 0,0) ⟨D8 _,by simp,λa h=>absurd h (O4 _)⟩
 -- all rows
 obtain⟨r,hr,P,Q,rfl,p1,p2,p3⟩:=J2 (step:=λ(s:A4×A4×Nat)=>S5.s16 m (natI (L.map Prod.fst)) num s.1 s.2.1 s.2.2) (λs=>s.2.2<=L.length/\s.1.length=s.2.2/\s.2.1.length=s.2.2/\∀(i:Nat) (x:Nat×A2),i<s.2.2->L[i]?=some x->(∃r,s.1[i]?=some r/\r.length=m.I.toNat/\∀a,a<m.I.toNat->∃(j:Nat) (y:Nat×A2),L[j]?=some y/\y.1=nx m x.1 a/\r[a]?=some (j:Int))/\s.2.1[i]?=m.O[x.1]?) (λs=>L.length-s.2.2) (λr=>∃P Q,r=(P,Q)/\P.length=L.length/\Q.length=L.length/\∀(i:Nat) (x:Nat×A2),L[i]?=some x->(∃r,P[i]?=some r/\r.length=m.I.toNat/\∀a,a<m.I.toNat->∃(j:Nat) (y:Nat×A2),L[j]?=some y/\y.1=nx m x.1 a/\r[a]?=some (j:Int))/\Q[i]?=m.O[x.1]?) (λs ⟨q1,q2,q3,q4⟩=>by
  obtain⟨P,Q,i⟩:=s
  simp only at q1 q2 q3 q4
  simp only[S5.s16]
  by_cases g:i<L.length
  ·left
   have hx:=get_at g
   generalize L[i]=x at hx
   have a5:=G6 hx
   have a2:=(a3 x a5).1
   obtain⟨row,out,e1,e2,e3,e4,_⟩:=H.row x.1 a2
   obtain⟨r,f1,f2,f3⟩:=a8 x row a5 e1
   refine⟨(P++[r],Q++[out],i+1),?_,⟨g,by simp[q2],by simp[q3],λj z hj hz=>?_⟩,by simp only;omega⟩
   ·rw[C2 (by rw[bH,B7];omega),B8 (mI (i:=i) (u:=x.1) (by rw[H1,hx];rfl)),H9 ⟨by omega,by omega,by unfold B4;omega⟩,D7 rfl e1,f1,A5,O6,D7 rfl e2,libclone_w (by omega),A5,O6]
   ·simp only
    rcases J3 j i with h|h
    ·obtain⟨⟨r',w1,w2⟩,w3⟩:=q4 j z h hz
     exact⟨⟨r',by rw[N6 (by omega),w1],w2⟩,by rw[N6 (by omega),w3]⟩
    ·have:j=i:=by simp only at hj;omega
     subst this
     rw[hx]at hz
     injection hz with hz
     subst hz
     refine⟨⟨r,?_,f2,f3⟩,?_⟩
     ·rw[S7 (by omega),q2,T7]
      rfl
     ·rw[S7 (by omega),q3,T7,e2]
      rfl
  ·right
   have:i=L.length:=by omega
   subst this
   exact⟨_,by rw[B1 (by rw[bH,B7];omega)],P,Q,rfl,q2,q3,λj x hx=>q4 j x (E0.1 hx).1 hx⟩) ([],[],0) ⟨D8 _,rfl,rfl,λi x h=>absurd h (O4 _)⟩
 rw[hr,A5];have b8:0<L.length:=(E0.1 hE.first).1
 have b3:∀i x a,L[i]?=some x->a<m.I.toNat->∃(j:Nat) (y:Nat×A2),L[j]?=some y/\y.1=nx m x.1 a/\nx (⟨m.I,0,P,Q⟩:A8) i a=j/\ot (⟨m.I,0,P,Q⟩:A8) i a=ot m x.1 a:=λi x a hx ha=>by
  obtain⟨⟨r,w1,w2,w3⟩,w4⟩:=p3 i x hx;obtain⟨j,y,z1,z2,z3⟩:=w3 a ha;refine⟨j,y,z1,z2,?_,?_⟩
  ·unfold nx;simp only;rw[w1,E7,z3,E7,H6]
  ·unfold ot;simp only;rw[w4]
 refine⟨⟨m.I,0,P,Q⟩,L,rfl,hE,rfl,rfl,⟨b4,hI,by simp only;omega,by simp only;omega,⟨eF 0,by simp only;omega⟩,by simp only;omega,λi hi=>?_⟩,⟨p1,λi x a hx ha=>?_⟩⟩
 ·simp only at hi ⊢;have hx:=get_at (l:=L) (i:=i) (by omega);obtain⟨⟨r,w1,w2,w3⟩,w4⟩:=p3 i _ hx;obtain⟨row,out,e1,e2,e3,e4,e5,e6⟩:=H.row L[i].1 (a3 _ (G6 hx)).1;refine⟨r,out,w1,by rw[w4,e2],by omega,e4,λu hu=>?_,e6⟩;obtain⟨a,ha,rfl⟩:=cQ.1 hu;obtain⟨j,y,z1,z2,z3⟩:=w3 a (by omega);rw[get_at ha]at z3;injection z3 with z3
  have:=(E0.1 z1).1;omega
 ·obtain⟨j,y,z1,z2,z3,z4⟩:=b3 i x a hx ha;exact⟨y,by rw[z3];exact z1,z2,z4⟩
def trim_outs{t:A8}{L:List (Nat×A2)}(T:TrimOk m t L):∀(w:A2) (i:Nat) (x:Nat×A2),L[i]?=some x->WOk m.I w->outs t i w=outs m x.1 w
 |[],_,_,_,_=>rfl
 |z::w,i,x,hx,hw=>by
  have hz:=hw.head;obtain⟨y,h1,h2,h3⟩:=T.shape.row i x z.toNat hx (by rw[T.inp];omega);have:=trim_outs T w _ y h1 hw.tail;show ot t i z.toNat::outs t (nx t i z.toNat) w=ot m x.1 z.toNat::outs m (nx m x.1 z.toNat) w;rw[h3,this,h2]
end
end
section
section
variable {O Z:Type}[BEq O]
def mset_new{k:O}{v:Z}:∀{m:List (O×Z)},mget k m=none->mset k v m=m++[(k,v)]
 |[],_=>rfl
 |p::m,h=>by
  unfold mget at h;unfold mset;cases e:k==p.1 with
  |true=>rw[e]at h;cases h
  |false =>
   rw[e]at h;show p::mset k v m=_;rw[mset_new h];rfl
end
def li_beq(a b:A2):(a==b)=true↔a=b:=beq_iff_eq
section
variable {m:A8}{c:A2}
def sigV(m:A8)(c:A2)(s a p:Nat):Int:=if p<a then ot m s p else if 64<=p/\p-64<a then(c[nx m s (p-64)]?).getD 0 else 0
def sigA(m:A8)(c:A2)(s:Nat):A2:=(List.range 128).map (sigV m c s m.I.toNat)
def sigA_at(s:Nat){p:Nat}(hp:p<128):(sigA m c s)[p]?=some (sigV m c s m.I.toNat p):=by
 unfold sigA;rw[H1,P4 hp];rfl
def sigA_len(s:Nat):(sigA m c s).length=128:=by simp[sigA]
def sigV_lo{s a K:Nat}(h:a<K):sigV m c s K a=ot m s a:=if_pos h
def sigV_hi{s a K:Nat}(h:a<K)(hK:K<=64):sigV m c s K (64+a)=(c[nx m s a]?).getD 0:=by
 unfold sigV;have h1:¬64+a<K:=by omega
 have h2:64<=64+a/\64+a-64<K:=by omega
 have h3:64+a-64=a:=by omega
 rw[if_neg h1,if_pos h2,h3]
def sigA_eq(hI:m.I<=64){s t:Nat}:sigA m c s=sigA m c t↔∀a,a<m.I.toNat->ot m s a=ot m t a/\(c[nx m s a]?).getD 0=(c[nx m t a]?).getD 0:=by
 constructor
 ·intro h a ha;have h1:=sigA_at (m:=m) (c:=c) s (p:=a) (by omega);rw[h,sigA_at t (by omega)]at h1;injection h1 with h1
  rw[sigV_lo ha,sigV_lo ha]at h1;have h2:=sigA_at (m:=m) (c:=c) s (p:=64+a) (by omega);rw[h,sigA_at t (by omega)]at h2;injection h2 with h2
  rw[sigV_hi ha (by omega),sigV_hi ha (by omega)]at h2;exact⟨h1.symm,h2.symm⟩
 ·intro h;unfold sigA;refine oP λp _=>?_;unfold sigV;by_cases h1:p<m.I.toNat
  ·rw[if_pos h1,if_pos h1,(h p h1).1]
  ·rw[if_neg h1,if_neg h1];by_cases h2:64<=p/\p-64<m.I.toNat
   ·rw[if_pos h2,if_pos h2,(h _ h2.2).2]
   ·rw[if_neg h2,if_neg h2]
def sig_loop(H:I8 m)(hc:c.length=m.N.length){s:Nat}(hs:s<m.N.length):iter (λ(q:A2×Nat)=>T3.s18 m c s q.1 q.2) fuel (List.replicate 128 0,0)=some (sigA m c s):=by
 have hI:=H.i2;refine U2 (λq=>q.2<=m.I.toNat/\q.1=(List.range 128).map (sigV m c s q.2)) (λq=>m.I.toNat-q.2) (λq hq=>?_) ⟨D8 _,?_⟩
 ·obtain⟨y,a⟩:=q;obtain⟨q1,q2⟩:=hq;simp only at q1 q2;rw[q2];simp only[T3.s18];by_cases g:a<m.I.toNat
  ·left;obtain⟨h1,_,_,x,o,e1,e2,e3,e4⟩:=H.at hs g;have a2:=get_at (l:=c) (i:=nx m s a) (by omega)
   have hr:∀p,p<128->((List.range 128).map (sigV m c s a))[p]?=some (sigV m c s a p):=λp hp=>by
    rw[H1,P4 hp];rfl
   refine⟨((List.range 128).map (sigV m c s (a+1)),a+1),?_,⟨g,rfl⟩,by simp only;omega⟩;rw[C2,B8 e2,B8 e4,H9 (by omega),B8 (hr a (by omega)),L3,B8 e1,B8 e3,D7 rfl a2,H9 (by omega),B8 (x:=sigV m c s a (64+a)) (by rw[O3 (by omega),hr _ (by omega)]),L3];congr 4;refine aA λp=>?_;rcases J3 p 128 with hp|hp
   ·rw[H1 (f:=sigV m c s (a+1)),P4 hp,J4];by_cases p1:64+a=p
    ·subst p1;rw[P5 (by simp;omega)];congr 1;unfold sigV;rw[if_neg (by omega),if_pos (by omega),show 64+a-64=a by omega,a2,E7]
    ·rw[O3 p1];by_cases p2:a=p
     ·subst p2;rw[P5 (by simp;omega)];congr 1;unfold sigV;rw[if_pos (by omega)]
     ·rw[O3 p2,hr p hp];congr 1;unfold sigV;by_cases p3:p<a
      ·rw[if_pos p3,if_pos (by omega)]
      ·have p5:¬p<a+1:=by omega
       rw[if_neg p3,if_neg p5];by_cases p4:64<=p/\p-64<a
       ·have p6:64<=p/\p-64<a+1:=by omega
        rw[if_pos p4,if_pos p6]
       ·have p6:¬(64<=p/\p-64<a+1):=by omega
        rw[if_neg p4,if_neg p6]
   ·rw[L0 (by simp;omega),L0 (by simp;omega)]
  ·right;have:a=m.I.toNat:=by omega
   subst this;rw[B1];rfl
 ·simp only;refine aA λp=>?_;rcases J3 p 128 with hp|hp
  ·rw[Y8,if_pos hp,H1,P4 hp,J4];unfold sigV;rw[if_neg (by omega),if_neg (by omega)]
  ·rw[L0 (by simp;omega),L0 (by simp;omega)]
def FirstOcc(o:A2):Prop:=∀(s x:Nat),o[s]?=some (x:Int)->∀u:Nat,u<x->∃s',s'<s/\o[s']?=some (u:Int)
structure ClsF(m:A8)(k:Nat)(c:A2):Prop where
 cls:aF m k c
 first:FirstOcc c
def E_of_next(H:I8 m):∀{k s t:Nat},s<m.N.length->t<m.N.length->(∀a,a<m.I.toNat->ot m s a=ot m t a/\E m k (nx m s a) (nx m t a))->E m (k+1) s t
 |0,_,_,_,_,h=>⟨trivial,h⟩
 |_+1,_,_,hs,ht,h=>⟨E_of_next H hs ht λa ha=>⟨(h a ha).1,(h a ha).2.1⟩,h⟩
def sig_iff(H:I8 m){k:Nat}(C:aF m k c){s t:Nat}(hs:s<m.N.length)(ht:t<m.N.length):sigA m c s=sigA m c t↔E m (k+1) s t:=by
 rw[sigA_eq H.i2]
 have hq:∀a,a<m.I.toNat->((c[nx m s a]?).getD 0=(c[nx m t a]?).getD 0↔E m k (nx m s a) (nx m t a)):=λa ha=>by
  have h1:=(H.at hs ha).1;have h2:=(H.at ht ha).1;rw[<- C.cls _ _ h1 h2];obtain⟨x,x1,_⟩:=C.rng _ h1;obtain⟨y,y1,_⟩:=C.rng _ h2;rw[x1,y1,E7,E7];exact⟨λh=>by rw[h],λh=>by injection h⟩
 constructor
 ·exact λh=>E_of_next H hs ht λa ha=>⟨(h a ha).1,(hq a ha).1 (h a ha).2⟩
 ·exact λh a ha=>⟨(h.2 a ha).1,(hq a ha).2 (h.2 a ha).2⟩
structure Giv(m:A8)(c:A2)(mp:List (A2×Int))(o:A2)(s:Nat):Prop where
 len:o.length=m.N.length
 keys:∀p∈mp,p.1.length=128
 le:mp.length<=s
 get:∀s',s'<s->∃x:Nat,x<mp.length/\o[s']?=some (x:Int)/\mget (sigA m c s') mp=some (x:Int)
 org:∀k v,mget k mp=some v->∃s',s'<s/\sigA m c s'=k
 inj:∀s' s'',s'<s->s''<s->o[s']?=o[s'']?->sigA m c s'=sigA m c s''
 first:∀(s' x:Nat),s'<s->o[s']?=some (x:Int)->∀u:Nat,u<x->∃s'',s''<s'/\o[s'']?=some (u:Int)
 all:∀u:Nat,u<mp.length->∃s',s'<s/\o[s']?=some (u:Int)
open Classical in
def zrj(H:I8 m){k:Nat}(C:aF m k c):∃(c':A2) (n:Nat),T3 m c=some (c',(n:Int))/\ClsF m (k+1) c'/\n=nreps m (k+1):=by
 have hn:=H.n2;have hc:=C.len;unfold T3;rw[H9 ⟨by omega,by omega,by unfold B4;omega⟩]
 obtain⟨r,hr,mp,o,rfl,G,b3⟩:=J2 (step:=λ(s:(List (A2×Int))×A2×Nat)=>T3.s20 m c s.1 s.2.1 s.2.2) (λs=>s.2.2<=m.N.length/\Giv m c s.1 s.2.1 s.2.2/\s.1.length=(List.range s.2.2).countP λs=>decide (Rep m (k+1) s)) (λs=>m.N.length-s.2.2) (λr=>∃mp o,r=(mp,o)/\Giv m c mp o m.N.length/\mp.length=nreps m (k+1)) (λs ⟨q1,G,q3⟩=>by
  obtain⟨mp,o,s⟩:=s
  simp only at q1 G q3
  simp only[T3.s20]
  by_cases g:s<m.N.length
  ·left
   have a5:=sigA_len (m:=m) (c:=c) s
   have b5:=G.le
   have ho:=get_at (l:=o) (i:=s) (by rw[G.len];exact g)
   rw[C2,sig_loop H hc g,A5,H9 a5,H9 ⟨a5,G.keys⟩]
   have a9:(mget (sigA m c s) mp=none)↔Rep m (k+1) s:=by
    constructor
    ·intro h t ht hE
     obtain⟨x,_,_,x3⟩:=G.get t ht
     rw[<- (sig_iff H C g (by omega)).2 hE,h]at x3
     cases x3
    ·intro h
     cases e:mget (sigA m c s) mp with
     |none=>rfl
     |some v =>
      obtain⟨s',h1,h2⟩:=G.org _ _ e
      exact absurd ((sig_iff H C g (by omega)).1 h2.symm) (h s' h1)
   have a6:(List.range (s+1)).countP (λs=>decide (Rep m (k+1) s))=(List.range s).countP (λs=>decide (Rep m (k+1) s))+if Rep m (k+1) s then 1 else 0:=by
    rw[eD,uB]
    congr 1
    by_cases h:Rep m (k+1) s
    ·rw[if_pos h,rK,E9 h]
     rfl
    ·rw[if_neg h,rK,I3 h]
     rfl
   have a3:∀{s':Nat} {v:Int},s'<s->(o.set s v)[s']?=o[s']?:=λh=>O3 (by omega)
   have a4:∀{v:Int},(o.set s v)[s]?=some v:=P5 (by rw[G.len];exact g)
   cases e:mget (sigA m c s) mp with
   |none =>
    have hR:=a9.1 e
    have a7:mset (sigA m c s) (mp.length:Int) mp=mp++[(sigA m c s,(mp.length:Int))]:=mset_new e
    refine⟨(mset (sigA m c s) (mp.length:Int) mp,o.set s (mp.length:Int),s+1),?_,⟨g,?_,?_⟩,by simp only;omega⟩
    ·rw[uC,cN,F7,H9 a5,H9 ⟨a5,G.keys⟩,A5]
     simp only[T3.k19]
     rw[B8 ho]
    ·simp only
     refine⟨by simp[G.len],?_,by rw[a7];simp;omega,?_,?_,?_,?_,?_⟩
     ·intro p hp
      rw[a7]at hp
      rcases I2.1 hp with h|h
      ·exact G.keys p h
      ·have:p=(sigA m c s,(mp.length:Int)):=by simpa using h
       rw[this]
       exact a5
     ·intro s' b4
      by_cases h:s'<s
      ·obtain⟨x,x1,x2,x3⟩:=G.get s' h
       refine⟨x,by rw[a7];simp;omega,by rw[a3 h,x2],?_⟩
       rw[nQ li_beq (λq=>?_),x3]
       rw[q,e]at x3
       cases x3
      ·have:s'=s:=by omega
       subst this
       exact⟨mp.length,by rw[a7];simp,a4,tP li_beq mp⟩
     ·intro kk v hv
      by_cases h:kk=sigA m c s
      ·exact⟨s,by omega,h.symm⟩
      ·rw[nQ li_beq h]at hv
       obtain⟨s',h1,h2⟩:=G.org _ _ hv
       exact⟨s',by omega,h2⟩
     ·have a8:∀s',s'<s->o[s']?≠some (mp.length:Int):=λs' h q=>by
       obtain⟨x,x1,x2,_⟩:=G.get s' h
       rw[x2]at q
       injection q with q
       omega
      intro s' s'' h1 h2 h3
      by_cases a1:s'<s<;>by_cases a2:s''<s
      ·rw[a3 a1,a3 a2]at h3
       exact G.inj _ _ a1 a2 h3
      ·have:s''=s:=by omega
       subst this
       rw[a3 a1,a4]at h3
       exact absurd h3 (a8 s' a1)
      ·have:s'=s:=by omega
       subst this
       rw[a3 a2,a4]at h3
       exact absurd h3.symm (a8 s'' a2)
      ·have:s'=s'':=by omega
       rw[this]
     ·intro s' x h1 h2 u hu
      by_cases a1:s'<s
      ·rw[a3 a1]at h2
       obtain⟨s'',z1,z2⟩:=G.first s' x a1 h2 u hu
       exact⟨s'',z1,by rw[a3 (by omega),z2]⟩
      ·have:s'=s:=by omega
       subst this
       rw[a4]at h2
       injection h2 with h2
       obtain⟨s'',z1,z2⟩:=G.all u (by omega)
       exact⟨s'',z1,by rw[a3 z1,z2]⟩
     ·intro u hu
      rw[a7]at hu
      simp at hu
      rcases J3 u mp.length with h|h
      ·obtain⟨s',z1,z2⟩:=G.all u h
       exact⟨s',by omega,by rw[a3 z1,z2]⟩
      ·have:u=mp.length:=by omega
       subst this
       exact⟨s,by omega,a4⟩
    ·simp only
     rw[a6,if_pos hR,a7,<- q3]
     simp
   |some v =>
    have hR:¬Rep m (k+1) s:=λq=>by
     rw[a9.2 q]at e
     cases e
    obtain⟨t,ht,b2⟩:=G.org _ _ e
    obtain⟨x,x1,x2,x3⟩:=G.get t ht
    have hv:v=(x:Int):=by
     rw[b2,e]at x3
     injection x3
    refine⟨(mp,o.set s v,s+1),?_,⟨g,?_,?_⟩,by simp only;omega⟩
    ·rw[yM,Z9,G5,E7,A5]
     simp only[T3.k19]
     rw[B8 ho]
    ·simp only
     refine⟨by simp[G.len],G.keys,by omega,?_,?_,?_,?_,?_⟩
     ·intro s' b4
      by_cases h:s'<s
      ·obtain⟨x,y1,y2,y3⟩:=G.get s' h
       exact⟨x,y1,by rw[a3 h,y2],y3⟩
      ·have:s'=s:=by omega
       subst this
       exact⟨x,x1,by rw[a4,hv],by rw[e,hv]⟩
     ·intro kk v hv
      obtain⟨s',h1,h2⟩:=G.org _ _ hv
      exact⟨s',by omega,h2⟩
     ·intro s' s'' h1 h2 h3
      by_cases a1:s'<s<;>by_cases a2:s''<s
      ·rw[a3 a1,a3 a2]at h3
       exact G.inj _ _ a1 a2 h3
      ·have:s''=s:=by omega
       subst this
       rw[a3 a1,a4,hv,<- x2]at h3
       rw[<- b2]
       exact G.inj _ _ a1 ht h3
      ·have:s'=s:=by omega
       subst this
       rw[a3 a2,a4,hv,<- x2]at h3
       rw[<- b2]
       exact G.inj _ _ ht a2 h3
      ·have:s'=s'':=by omega
       rw[this]
     ·intro s' y h1 h2 u hu
      by_cases a1:s'<s
      ·rw[a3 a1]at h2
       obtain⟨s'',z1,z2⟩:=G.first s' y a1 h2 u hu
       exact⟨s'',z1,by rw[a3 (by omega),z2]⟩
      ·have:s'=s:=by omega
       subst this
       rw[a4]at h2
       injection h2 with h2
       obtain⟨s'',z1,z2⟩:=G.first t x ht x2 u (by omega)
       exact⟨s'',by omega,by rw[a3 (by omega),z2]⟩
     ·intro u hu
      obtain⟨s',z1,z2⟩:=G.all u hu
      exact⟨s',by omega,by rw[a3 z1,z2]⟩
    ·simp only
     rw[a6,if_neg hR,<- q3,V8]
  ·right
   have:s=m.N.length:=by omega
   subst this
   exact⟨_,by rw[B1],mp,o,rfl,G,q3⟩) ([],List.replicate c.length 0,0) ⟨D8 _,⟨by simp[hc],λp hp=>(by cases hp),F9 _,λs' h=>absurd h (O4 _),λk v h=>(by cases h),λs' _ h=>absurd h (O4 _),λs' _ h=>absurd h (O4 _),λu h=>absurd h (O4 _)⟩,rfl⟩
 refine⟨o,mp.length,by rw[hr,A5];rfl,⟨⟨G.len,λs hs=>?_,λs t hs ht=>?_⟩,λs x hx=>G.first s x (by rw[<- G.len];exact(E0.1 hx).1) hx⟩,b3⟩
 ·obtain⟨x,x1,x2,_⟩:=G.get s hs;have:=G.le;exact⟨x,x2,by omega⟩
 ·rw[<- sig_iff H C hs ht];constructor
  ·exact G.inj s t hs ht
  ·intro h;obtain⟨x,_,x2,x3⟩:=G.get s hs;obtain⟨y,_,y2,y3⟩:=G.get t ht;rw[h,y3]at x3;rw[x2,y2,x3]
open Classical in
def zpd(H:I8 m):∃c i,fV m 128=some (c,i)/\ClsF m m.N.length c:=by
 have hn:=H.n2;have a3:=H.n1;have a2:(min (max (128:Int) 0) (m.N.length:Int))=(m.N.length:Int):=by omega
 unfold fV;rw[H9 ⟨by omega,by omega,by unfold B4;omega⟩]
 obtain⟨r,hr,hq⟩:=J2 (step:=λ(s:A2×Int×Nat)=>fV.s2 m 128 s.1 s.2.1 s.2.2) (λs=>s.2.2<=m.N.length/\ClsF m s.2.2 s.1/\s.2.1=(↑(nreps m s.2.2):Int)) (λs=>m.N.length-s.2.2) (λr=>(∃c,r=.inl c/\ClsF m m.N.length c)\/∃c i,r=.inr (c,i)/\ClsF m m.N.length c) (λs ⟨q1,q2,q3⟩=>by
  obtain⟨c,n,i⟩:=s
  simp only at q1 q2 q3
  simp only[fV.s2]
  rw[a2]
  by_cases g:i<m.N.length
  ·obtain⟨c',n',h1,h2,h3⟩:=zrj H q2.cls
   rw[C2,h1,A5]
   by_cases e:n'=nreps m i
   ·right
    rw[C2 (by simp only;omega)]
    refine⟨_,rfl,Or.inr ⟨c,_,rfl,⟨⟨q2.cls.len,q2.cls.rng,λs t hs ht=>?_⟩,q2.first⟩⟩⟩
    rw[q2.cls.cls s t hs ht]
    have hS:Stab m i:=stab_of (by omega)
    constructor
    ·intro h
     have key:∀j,E m (i+j) s t:=by
      intro j
      induction j with
      |zero=>exact h
      |succ j ih=>exact stab_add H hS j s t hs ht ih
     have:=key (m.N.length-i)
     rwa [show i+(m.N.length-i)=m.N.length by omega]at this
    ·exact E_mono (by omega)
   ·left
    exact⟨(c',(n':Int),i+1),by rw[B1 (by simp only;omega)],⟨g,h2,by simp only;rw[h3]⟩,by simp only;omega⟩
  ·right
   have:i=m.N.length:=by omega
   subst this
   exact⟨_,by rw[B1],Or.inl ⟨c,rfl,q2⟩⟩) (List.replicate m.N.length 0,1,0) ⟨D8 _,⟨⟨by simp,λs hs=>⟨0,by simp[hs],a3⟩,λs t hs ht=>⟨λ_=>trivial,λ_=>by simp[hs,ht]⟩⟩,λs x hx u hu=>by
    have:=(E0.1 hx).2
    simp at this
    omega⟩,by
    simp only
    have:nreps m 0=1:=by
     unfold nreps
     have h0:∀n,0<n->(List.range n).countP (λs=>decide (Rep m 0 s))=1:=by
      intro n
      induction n with
      |zero=>intro h;omega
      |succ n ih =>
       intro _
       rw[eD,uB,rK]
       by_cases hz:n=0
       ·subst hz
        rw[E9 (show Rep m 0 0 from λt ht=>absurd ht (O4 _))]
        rfl
       ·rw[ih (by omega),I3 (show ¬Rep m 0 n from λq=>q 0 (by omega) trivial)]
        rfl
     exact h0 _ a3
    rw[this]
    rfl⟩
 rw[hr,A5];rcases hq with⟨c,rfl,h⟩|⟨c,i,rfl,h⟩
 ·exact⟨c,_,rfl,h⟩
 ·exact⟨c,i,rfl,h⟩
def zn1(hv:P9 m=0):∃c,qQ m=some (c,0)/\ClsF m m.N.length c:=by
 obtain⟨c,i,h1,h2⟩:=zpd (aY hv);refine⟨c,?_,h2⟩;unfold qQ tS;rw[lP,A5,hv,B1 (by decide),h1,A5,A5]
end
end
section
section
variable {m t:A8}{c:A2}
def jR(c:A2)(s u:Nat):Prop:=c[s]?=some (u:Int)/\∀s',s'<s->c[s']?≠some (u:Int)
def first_lt(F:FirstOcc c){s u i v:Nat}(hs:jR c s u)(hi:i<s)(hv:c[i]?=some (v:Int)):v<u:=by
 rcases jH v u with h|h|h
 ·exact h
 ·rw[h]at hv;exact absurd hv (hs.2 i hi)
 ·obtain⟨s',h1,h2⟩:=F i v hv u h;exact absurd h2 (hs.2 s' (by omega))
def first_le(F:FirstOcc c){s u i v:Nat}(hs:jR c s u)(hv:c[i]?=some (v:Int))(hu:u<=v):s<=i:=by
 rcases J3 i s with h|h
 ·have:=first_lt F hs h hv;omega
 ·exact h
structure Quo(t M:A8)(c:A2):Prop where
 inp:M.I=t.I
 start:M.S=0
 len:M.O.length=M.N.length
 ub:∀s,s<t.N.length->∃x:Nat,c[s]?=some (x:Int)/\x<M.N.length
 row:∀u,u<M.N.length->∃s r o,s<t.N.length/\jR c s u/\M.N[u]?=some r/\M.O[u]?=some o/\r.length=t.I.toNat/\(∀a,a<t.I.toNat->r[a]?=c[nx t s a]?)/\t.O[s]?=some o
 le:M.N.length<=t.N.length
variable {M:A8}
def kL(H:I8 t)(Q:Quo t M c){u:Nat}(hu:u<M.N.length):∃s,s<t.N.length/\jR c s u/\∀a,a<t.I.toNat->c[nx t s a]?=some (↑(nx M u a):Int)/\ot M u a=ot t s a:=by
 obtain⟨s,r,o,h1,h2,h3,h4,h5,h6,h7⟩:=Q.row u hu;refine⟨s,h1,h2,λa ha=>?_⟩;obtain⟨x,x1,_⟩:=Q.ub _ (H.at h1 ha).1;have hr:=h6 a ha;rw[x1]at hr;refine⟨?_,?_⟩
 ·rw[x1];unfold nx;rw[h3,E7,hr,E7,H6]
 ·unfold ot;rw[h4,h7]
def quo_step(H:I8 t)(C:ClsF t t.N.length c){s s' a:Nat}(hs:s<t.N.length)(hs':s'<t.N.length)(h:c[s]?=c[s']?)(ha:a<t.I.toNat):ot t s a=ot t s' a/\c[nx t s a]?=c[nx t s' a]?:=by
 have h1:=E_all H hs hs' ((C.cls.cls s s' hs hs').1 h) (t.N.length+1);exact⟨(h1.2 a ha).1,(C.cls.cls _ _ (H.at hs ha).1 (H.at hs' ha).1).2 (h1.2 a ha).2⟩
def sC(H:I8 t)(C:ClsF t t.N.length c)(Q:Quo t M c):∀(w:A2) (s u:Nat),s<t.N.length->c[s]?=some (u:Int)->WOk t.I w->outs M u w=outs t s w
 |[],_,_,_,_,_=>rfl
 |z::w,s,u,hs,hu,hw=>by
  have hz:=hw.head;have ha:z.toNat<t.I.toNat:=by omega
  obtain⟨x,x1,x2⟩:=Q.ub s hs
  have a2:u<M.N.length:=by
   rw[hu]at x1;injection x1 with x1
   omega
  obtain⟨s',h1,h2,h3⟩:=kL H Q a2;obtain⟨e1,e2⟩:=quo_step H C hs h1 (hu.trans h2.1.symm) ha;have h4:=h3 _ ha;have:=sC H C Q w (nx t s z.toNat) (nx M u z.toNat) (H.at hs ha).1 (by rw[e2,h4.1]) hw.tail;show ot M u z.toNat::outs M (nx M u z.toNat) w=ot t s z.toNat::outs t (nx t s z.toNat) w;rw[this,h4.2,e1]
def quo_ok(H:I8 t)(Q:Quo t M c):I8 M:=by
 have hn:=H.n1;have a4:=H.n2;obtain⟨x,_,x2⟩:=Q.ub 0 hn;have a2:=Q.le;refine⟨by rw[Q.inp];exact H.i1,by rw[Q.inp];exact H.i2,by omega,by omega,by rw[Q.start];omega,Q.len,λu hu=>?_⟩;have a3:=H.i1;obtain⟨s,r,o,h1,h2,h3,h4,h5,h6,h7⟩:=Q.row u hu;obtain⟨x',y',e1,e2,e3,e4,e5,e6⟩:=H.row s h1;rw[h7]at e2;injection e2 with e2
 subst e2;refine⟨r,o,h3,h4,by rw[Q.inp];omega,by rw[Q.inp];exact e4,λv hv=>?_,e6⟩;obtain⟨a,ha,rfl⟩:=cQ.1 hv;obtain⟨z,z1,z2⟩:=Q.ub _ (H.at h1 (a:=a) (by omega)).1;have hr:=h6 a (by omega);rw[get_at ha,z1]at hr;injection hr with hr
 omega
def quo_can(H:I8 t)(C:ClsF t t.N.length c)(Q:Quo t M c)(K:Can t):Can M:=by
 have a7:∀s,jR c s 0->s=0:=λs hs=>by
  obtain⟨x,x1,_⟩:=Q.ub 0 H.n1;have:=first_le C.first hs x1 (D8 _);omega
 have a2:∀s u,jR c s u->0<u->0<s:=λs u hs hu=>by
  rcases dJ s with h|h
  ·subst h;obtain⟨s',h1,_⟩:=C.first 0 u hs.1 0 hu;omega
  ·exact h
 have a3:∀{i a s u:Nat},i<s->i<t.N.length->a<t.I.toNat->jR c s u->nx t i a=s->∃v:Nat,c[i]?=some (v:Int)/\v<u/\nx M v a=u:=λ{i a s u} h1 h2 h3 h4 h5=>by
  obtain⟨v,v1,v2⟩:=Q.ub i h2;refine⟨v,v1,first_lt C.first h4 h1 v1,?_⟩;obtain⟨s',g1,g2,g3⟩:=kL H Q v2;have e:=(quo_step H C h2 g1 (v1.trans g2.1.symm) h3).2;have g4:=(g3 a h3).1;rw[<- e,h5,h4.1]at g4;injection g4 with g4
  omega
 refine⟨λi a u hi ha hu a4=>?_,λu hu a5=>?_⟩
 ·rw[Q.inp]at ha ⊢;obtain⟨s,h1,h2,h3⟩:=kL H Q hi;have hD:=(h3 a ha).1;have b2:=(H.at h1 ha).1
  have a6:u<M.N.length:=by
   have:=(quo_ok H Q).at hi (a:=a) (by rw[Q.inp];exact ha);omega
  obtain⟨su,g1,g2,g3⟩:=kL H Q a6;have a8:=first_le C.first g2 hD a4;obtain⟨i',a',z1,z2,z3,z4⟩:=K.c4 s a su h1 ha (a2 su u g2 hu) a8;obtain⟨v,v1,v2,v3⟩:=a3 z3 (by omega) z1 g2 z4;refine⟨v,a',z1,?_,v2,v3⟩
  have a9:i'<=s:=by
   rcases J3 s i' with q|q
   ·have:=eO q ha;omega
   ·exact q
  rcases J3 i' s with q|q
  ·have:=first_lt C.first h2 q v1;have:=eO this z1;omega
  ·have e:i'=s:=by omega
   subst e;have hv:=h2.1;rw[v1]at hv;injection hv with hv
   have:v=i:=by omega
   subst this;omega
 ·rw[Q.inp];obtain⟨su,g1,g2,g3⟩:=kL H Q a5;obtain⟨i,a,z1,z2,z3⟩:=K.c5 su (a2 su u g2 hu) g1;obtain⟨v,v1,v2,v3⟩:=a3 z1 (by omega) z2 g2 z3;exact⟨v,a,v2,z2,v3⟩
def quo_min(H:I8 t)(C:ClsF t t.N.length c)(Q:Quo t M c){i j:Nat}(hi:i<M.N.length)(hj:j<M.N.length)(h:Eqv M i M j):i=j:=by
 obtain⟨s,h1,h2,_⟩:=kL H Q hi;obtain⟨s',g1,g2,_⟩:=kL H Q hj
 have he:E t t.N.length s s':=pK λw _ hw=>by
  rw[<- sC H C Q w s i h1 h2.1 hw,<- sC H C Q w s' j g1 g2.1 hw];exact h w (by rw[Q.inp];exact hw)
 have:=(C.cls.cls s s' h1 g1).2 he;rw[h2.1,g2.1]at this;injection this with this
 omega
def quo_sem{L:List (Nat×A2)}(T:TrimOk m t L)(C:ClsF t t.N.length c)(Q:Quo t M c):aW m M:=by
 have H:=T.ok;have hK:0<t.I.toNat:=by have:=H.i1;omega
 have hE:V1 (nx m) t.I.toNat m.S.toNat L:=by rw[T.inp];exact T.end_
 have a3:=shape_can hE T.shape hK
 have h0:c[0]?=some (↑(0:Nat):Int):=by
  obtain⟨x,x1,_⟩:=Q.ub 0 H.n1;rcases dJ x with h|h
  ·rw[x1,h]
  ·obtain⟨s',h1,_⟩:=C.first 0 x x1 0 h;omega
 refine⟨quo_ok H Q,Q.inp.trans T.inp,Q.start,λw hw=>?_,λi j hi hj h=>quo_min H C Q hi hj h,quo_can H C Q a3⟩;have a2:WOk t.I w:=by rw[<- Q.inp];exact hw
 rw[sC H C Q w 0 0 H.n1 h0 a2,trim_outs T w 0 _ T.end_.first (by rw[<- T.inp];exact a2)]
def min_loop(H:I8 t)(C:ClsF t t.N.length c)(e e2:Int):∃P R,iter (λ(s:A4×A4×Nat)=>S3.s32 (t,e) (c,e2) s.1 s.2.1 s.2.2) fuel ([],[],0)=some (P,R)/\Quo t (⟨t.I,0,P,R⟩:A8) c:=by
 have hn:=H.n2;have a9:=H.n1;have hI:=H.i2;have a8:=H.i1;have hc:=C.cls.len
 obtain⟨r,hr,P,R,rfl,hQ⟩:=J2 (step:=λ(s:A4×A4×Nat)=>S3.s32 (t,e) (c,e2) s.1 s.2.1 s.2.2) (λs=>s.2.2<=t.N.length/\s.2.1.length=s.1.length/\s.1.length<=s.2.2/\(∀s',s'<s.2.2->∃x:Nat,c[s']?=some (x:Int)/\x<s.1.length)/\∀u,u<s.1.length->∃s' r o,s'<s.2.2/\jR c s' u/\s.1[u]?=some r/\s.2.1[u]?=some o/\r.length=t.I.toNat/\(∀a,a<t.I.toNat->r[a]?=c[nx t s' a]?)/\t.O[s']?=some o) (λs=>t.N.length-s.2.2) (λr=>∃P R,r=(P,R)/\Quo t (⟨t.I,0,P,R⟩:A8) c) (λs ⟨q1,q2,q3,q4,q5⟩=>by
  obtain⟨P,R,s⟩:=s
  simp only at q1 q2 q3 q4 q5
  simp only[S3.s32]
  by_cases g:s<t.N.length
  ·left
   obtain⟨x,x1,x2⟩:=C.cls.rng s g
   rw[C2,B8 x1]
   by_cases hx:x<P.length
   ·refine⟨(P,R,s+1),?_,⟨g,q2,by simp only;omega,λs' a2=>?_,λu hu=>?_⟩,by simp only;omega⟩
    ·rw[C2,A5]
     rfl
    ·simp only at a2 ⊢
     rcases J3 s' s with h|h
     ·exact q4 s' h
     ·have:s'=s:=by omega
      subst this
      exact⟨x,x1,hx⟩
    ·obtain⟨s',r,o,z1,z2⟩:=q5 u hu
     exact⟨s',r,o,by simp only;omega,z2⟩
   ·have a5:x=P.length:=by
     rcases J3 P.length x with h|h
     ·obtain⟨s',h1,h2⟩:=C.first s x x1 P.length h
      obtain⟨y,y1,y2⟩:=q4 s' h1
      rw[h2]at y1
      injection y1 with y1
      omega
     ·omega
    subst a5
    obtain⟨row,out,e1,a3,e3,e4,e5,e6⟩:=H.row s g
    obtain⟨r,hr,a7,a6⟩:=J2 (step:=λ(q:A2×Nat)=>S3.s30 (c,e2) row q.1 q.2) (λq=>q.2<=t.I.toNat/\q.1.length=q.2/\∀a,a<q.2->q.1[a]?=c[nx t s a]?) (λq=>t.I.toNat-q.2) (λr=>r.length=t.I.toNat/\∀a,a<t.I.toNat->r[a]?=c[nx t s a]?) (λq ⟨w1,w2,w3⟩=>by
     obtain⟨y,a⟩:=q
     simp only at w1 w2 w3
     simp only[S3.s30]
     by_cases f:a<t.I.toNat
     ·left
      obtain⟨h1,_,_,x',y',h2,_,h4,_⟩:=H.at g f
      rw[e1]at h2
      injection h2 with h2
      subst h2
      have a4:=get_at (l:=c) (i:=nx t s a) (by omega)
      refine⟨(y++[c[nx t s a]'(by omega)],a+1),?_,⟨f,by simp[w2],λb hb=>?_⟩,by simp only;omega⟩
      ·rw[C2,B8 h4,D7 rfl a4,O6]
      ·simp only at hb ⊢
       rcases J3 b a with h|h
       ·rw[N6 (by omega),w3 b h]
       ·have:b=a:=by omega
        subst this
        rw[S7 (by omega),w2,T7,a4]
        rfl
     ·right
      have:a=t.I.toNat:=by omega
      subst this
      exact⟨y,by rw[B1],w2,w3⟩) ([],0) ⟨D8 _,rfl,λa h=>absurd h (O4 _)⟩
    refine⟨(P++[r],R++[out],s+1),?_,⟨g,by simp[q2],by simp;omega,λs' a2=>?_,λu hu=>?_⟩,by simp only;omega⟩
    ·rw[B1,B8 e1,hr,A5,O6,B8 a3,H9 (by unfold B4;simp;omega),O6,A5]
     rfl
    ·simp only at a2 ⊢
     rw[H4,O8]
     rcases J3 s' s with h|h
     ·obtain⟨y,y1,y2⟩:=q4 s' h
      exact⟨y,y1,by omega⟩
     ·have:s'=s:=by omega
      subst this
      exact⟨_,x1,by omega⟩
    ·simp only at hu ⊢
     rw[H4,O8]at hu
     rcases J3 u P.length with h|h
     ·obtain⟨s',r',o,z1,z2,z3,z4,z5⟩:=q5 u h
      exact⟨s',r',o,by omega,z2,by rw[N6 h,z3],by rw[N6 (by omega),z4],z5⟩
     ·have:u=P.length:=by omega
      subst this
      refine⟨s,r,out,by omega,⟨x1,λs' a2 q=>?_⟩,by simp,?_,a7,a6,a3⟩
      ·obtain⟨y,y1,y2⟩:=q4 s' a2
       rw[q]at y1
       injection y1 with y1
       omega
      ·rw[S7 (by omega),q2,T7]
       rfl
  ·right
   have:s=t.N.length:=by omega
   subst this
   exact⟨_,by rw[B1],P,R,rfl,⟨rfl,rfl,q2,q4,q5,q3⟩⟩) ([],[],0) ⟨D8 _,rfl,F9 _,λs' h=>absurd h (O4 _),λu h=>absurd h (O4 _)⟩
 exact⟨P,R,hr,hQ⟩
def pL(H:I8 m):P9 m=0:=by
 have:=zud H;rw[lP]at this;injection this
def xO(hv:P9 m=0):∃M,S3 m=some (M,0)/\aW m M:=by
 obtain⟨t,L,h1,T⟩:=mealy_Trim_eq hv;obtain⟨c,h2,C⟩:=zn1 (pL T.ok);obtain⟨P,R,h3,Q⟩:=min_loop T.ok C 0 0;refine⟨⟨t.I,0,P,R⟩,?_,quo_sem T C Q⟩;unfold S3;rw[h1,A5,B1 (λh=>h rfl),h2,A5,B1 (λh=>h rfl),h3,A5];rfl
end
end
section
structure iO(M:A8)(L:List (Nat×A2))(W:A4)(S0:A2->Prop):Prop where
 mac:I8 M
 bfs:MEnd M 0 L
 t1:∀x∈L,∀a:Nat,a<M.I.toNat->S0 (x.2++[(a:Int)])
 t2:∀x∈L,∀w∈W,S0 (x.2++w)
 t3:∀x∈L,∀a:Nat,a<M.I.toNat->∀w∈W,S0 ((x.2++[(a:Int)])++w)
 sep:∀s t,s<M.N.length->t<M.N.length->s≠t->∃w∈W,WOk M.I w/\outs M s w≠outs M t w
structure IdI(M:A8)(L:List (Nat×A2))(S0:A2->Prop)(p:A9)(red:List Bool)(k:Nat)(f:Nat->Nat):Prop where
 inp:p.I=M.I
 st:p.S=0
 can:CanP p
 kpos:0<k
 kle:k<=p.N.length
 rd:∀i,red[i]?=some true↔i<k
 ps:∀q (a u:Nat),pnx p q a=(u:Int)->f u=nx M (f q) a/\pot p q a=ot M (f q) a
 lt:∀q,q<p.N.length->f q<M.N.length
 lb:∀i,i<k->∃x,L[i]?=some x/\f i=x.1/\∃y,Goes p 0 x.2 y i
 kn:∀w,S0 w->∃y c,Goes p 0 w y c
section
variable {M:A8}{L:List (Nat×A2)}{W:A4}{S0:A2->Prop}{p:A9}{red:List Bool}{k:Nat}{f:Nat->Nat}
def goes_psi(hps:∀q (a u:Nat),pnx p q a=(u:Int)->f u=nx M (f q) a/\pot p q a=ot M (f q) a):∀{w y:A2} {q c:Nat},Goes p q w y c->f c=dest M (f q) w/\y=outs M (f q) w
 |[],y,q,c,h=>by
  obtain⟨rfl,rfl⟩:=h;exact⟨rfl,rfl⟩
 |x::w,y,q,c,h=>by
  obtain⟨a,u,y',rfl,h2,rfl,h4⟩:=h;obtain⟨e1,e2⟩:=hps q a u h2;obtain⟨g1,g2⟩:=goes_psi hps h4;rw[e1]at g1 g2;exact⟨g1,by rw[e2,g2];rfl⟩
def confl_of{s t:Nat}:∀{w y1 y2:A2} {q q' c1 c2:Nat},Cong p s t q q'->Goes p q w y1 c1->Goes p q' w y2 c2->y1≠y2->P8 p s t
 |[],y1,y2,q,q',c1,c2,hc,h1,h2,hne=>by
  rw[h1.1,h2.1]at hne;exact absurd rfl hne
 |x::w,y1,y2,q,q',c1,c2,hc,h1,h2,hne=>by
  obtain⟨a,u,z1,e1,a2,rfl,a4⟩:=h1;obtain⟨b,v,z2,e2,b2,rfl,b4⟩:=h2;have e:b=a:=by omega
  subst e;by_cases ho:pot p q b=pot p q' b
  ·exact confl_of (.step b u v hc a2 b2) a4 b4 λe=>hne (by rw[ho,e])
  ·exact⟨q,q',b,hc,by omega,by omega,ho⟩
def no_confl(H:H7 p)(hps:∀q (a u:Nat),pnx p q a=(u:Int)->f u=nx M (f q) a/\pot p q a=ot M (f q) a){r b:Nat}(hr:r<p.N.length)(hb:b<p.N.length)(h:f r=f b){q q':Nat}(hc:Cong p r b q q'):f q=f q':=by
 rcases vC (cl:=f) H hr hb h (λq r a u v _ _ e h1 h2=>by rw[(hps q a u h1).1,(hps r a v h2).1,e]) hc with e|⟨_,_,e⟩
 ·rw[e]
 ·exact e
def pnx_nat(H:H7 p){q a:Nat}(h:pnx p q a≠-1):∃u:Nat,pnx p q a=(u:Int):=by
 have hq:q<p.N.length:=Q9 λg=>by
  unfold pnx at h;rw[show p.N[q]?=none from L0 (by omega)]at h;exact h rfl
 have ha:a<p.I.toNat:=Q9 λg=>by
  obtain⟨x,y,h1,h2,h3,h4,h5⟩:=H.row q hq;unfold pnx at h;rw[h1,E7,show x[a]?=none from L0 (by omega)]at h;exact h rfl
 have:=(H.at hq ha).1;exact⟨(pnx p q a).toNat,by omega⟩
end
end
section
section
variable {M:A8}{L:List (Nat×A2)}{W:A4}{S0:A2->Prop}{p:A9}{red:List Bool}{k:Nat}{f:Nat->Nat}
def idx_at_nodup{F:List Nat}(hn:F.Nodup){i c:Nat}(h:F[i]?=some c):F.idxOf c=i:=by
 obtain⟨h1,h2⟩:=E0.1 h;have hl:=cP (G6 h);exact(tZ (h₀:=hl) (h₁:=h1) hn).1 (by rw[iG hl,h2])
def macP(p:A9):A8:=⟨p.I,p.S,p.N,p.O⟩
end
def outs_at{m:A8}{w v:A2}{a s:Nat}:(outs m s (w++[(a:Int)]++v))[w.length]?=some (ot m (dest m s w) a):=by
 rw[aS,lH,S7 (by rw[fP];exact F9 _),fP,T7];rfl
def IdI.start{o:G7}(hv:X0 o){P:A9}(H:H7 P)(h0:P.S=0)(hi:P.I=o.I)(T:V9 (sortW (allP o)) o.I.toNat (λv=>v∈sortW (allP o)) (ovT o.T) P.N P.O)(C:CanP P)
  {M:A8} {L:List (Nat×A2)} {W:A4} (S:iO M L W λw=>w∈allP o) (hM:o.I=M.I) (hout:∀t∈o.T,t.O=outs M 0 t.In) :
  IdI M L (λw=>w∈allP o) P (red0 P) 1 λq=>dest M 0 (((sortW (allP o))[q]?).getD []):=by
 have a3:P.N.length=(sortW (allP o)).length:=T.gn.len;have a6:=sort_nil (l:=allP o) (dX.2 (.inl rfl))
 have a7:(sortW (allP o))[0]?=some []:=by
  have:=gI ((Q3 (allP o) []).2 (dX.2 (.inl rfl)))
  rwa [a6]at this
 have a5:∀w∈allP o,WOk M.I w:=λw hw x hx=>by
  rcases dX.1 hw with rfl|⟨t,ht,hp⟩
  ·cases hx
  ·have:=(lG (hv.prop t ht).1.1).2 x (hp.subset hx);rw[<- hM];exact this
 refine⟨hi.trans hM,h0,C,Nat.one_pos,H.n1,λi=>?_,λq a u hu=>?_,λq hq=>?_,λi b2=>?_,λw hw=>?_⟩
 ·unfold red0;by_cases e:i=0
  ·subst e;rw[P5 (by rw[K7];exact H.n1)];simp
  ·rw[O3 (by omega),Y8];constructor
   ·intro h;split at h<;>cases h
   ·intro h;omega
 ·obtain⟨q1,q2,q3⟩:=Q4 H hu;rw[a3]at q1;rw[hi]at q2;have hw:=get_at q1;by_cases d:(sortW (allP o))[q]++[(a:Int)]∈sortW (allP o)
  ·obtain⟨y1,y2⟩:=T.yes q a _ hw q2 d;have a9:gx P.N q a=(u:Int):=hu;have eu:u=(sortW (allP o)).idxOf ((sortW (allP o))[q]++[(a:Int)]):=by omega
   rw[hw,E7,eu,gI d,E7];have a4:pot P q a=ovT o.T ((sortW (allP o))[q]++[(a:Int)]):=y2;have hm:=(Q3 _ _).1 d;generalize (sortW (allP o))[q]=w at a4 hm;constructor
   ·rw[iV];show nx M (dest M 0 w) (Int.toNat (a:Int))=_;rw[H6]
   ·rw[a4];obtain⟨t,ht,v,hp⟩:=(dX.1 hm).resolve_left (by simp);have hl:t.In.length=w.length+1+v.length:=by rw[<- hp];simp;omega
    have a2:=ovT_eq hv ht (k:=w.length) (by omega)
    have a8:t.In.take (w.length+1)=w++[(a:Int)]:=by
     rw[<- hp];exact List.take_left' (by simp)
    rw[a8,hout t ht,<- hp,outs_at]at a2;injection a2 with a2
    exact a2.symm
  ·have:=(T.no q a _ hw q2 d).1;have a9:gx P.N q a=(u:Int):=hu;omega
 ·rw[a3]at hq;rw[get_at hq,E7];exact S.mac.dest (a5 _ ((Q3 _ _).1 (M8 hq))) S.mac.n1
 ·have e:i=0:=by omega
  subst e;refine⟨(0,[]),S.bfs.first,?_,[],rfl,rfl⟩;simp only;rw[a7];rfl
 ·rcases dX.1 hw with rfl|⟨t,ht,v,hp⟩
  ·exact⟨[],0,rfl,rfl⟩
  ·have g:=tree_run hv h0 T ht;rw[<- hp,h0]at g;obtain⟨c,y1,y2,_,g1,_⟩:=g.split;exact⟨y1,c,g1⟩
end
section
def LeW(u v:A2):Prop:=u=v\/cmpW u v=-1
def LeW.trans{u v w:A2}(h:LeW u v)(k:LeW v w):LeW u w:=by
 rcases h with rfl|h
 ·exact k
 ·rcases k with rfl|k
  ·exact .inr h
  ·exact .inr (jX _ _ _ h k)
def LeW.anti{u v:A2}(h:LeW u v)(k:LeW v u):u=v:=by
 rcases h with h|h
 ·exact h
 ·rcases k with k|k
  ·exact k.symm
  ·have:=jX _ _ _ h k;rw[eQ]at this;cases this
def LeW.snoc{u v:A2}(h:LeW u v)(a:Int):LeW (u++[a]) (v++[a]):=by
 rcases h with rfl|h
 ·exact .inl rfl
 ·exact .inr (nA (.inl h))
structure AccC(p:A9)(A:List (Nat×A2))(i k:Nat):Prop where
 K:AccI p A i k
 rg:A.map Prod.fst=List.range A.length
 mn:∀(j:Nat) (x:Nat×A2),A[j]?=some x->∀(a u:Nat) (z:Nat×A2),(j<i\/j=i/\a<k)->pnx p x.1 a=(u:Int)->A[u]?=some z->LeW z.2 (x.2++[(a:Int)])
section
variable {p:A9}
def AccC.fst{A:List (Nat×A2)}{i k:Nat}(C:AccC p A i k){j:Nat}{x:Nat×A2}(h:A[j]?=some x):x.1=j:=by
 have h1:(A.map Prod.fst)[j]?=some x.1:=by rw[H1,h];rfl
 rw[C.rg,P4 (E0.1 h).1]at h1;injection h1 with h1
 exact h1.symm
def AccC.lt{A:List (Nat×A2)}{i k:Nat}(C:AccC p A i k){j j':Nat}{x x':Nat×A2}(h:A[j]?=some x)(h':A[j']?=some x')(hj:j<j'):cmpW x.2 x'.2=-1:=by
 obtain⟨g1,e1⟩:=E0.1 h;obtain⟨g2,e2⟩:=E0.1 h';have:=dL.1 C.K.asc j j' (by rw[B7];exact g1) (by rw[B7];exact g2) hj;rw[tY,tY,e1,e2]at this;exact this
def AccC.le{A:List (Nat×A2)}{i k:Nat}(C:AccC p A i k){j j':Nat}{x x':Nat×A2}(h:A[j]?=some x)(h':A[j']?=some x')(hj:j<=j'):LeW x.2 x'.2:=by
 rcases J3 j j' with g|g
 ·exact .inr (C.lt h h' g)
 ·have e:j=j':=by omega
  rw[e,h']at h;injection h with h
  rw[h];exact .inl rfl
def AccC.step(H:H7 p)(P:CanP p){A:List (Nat×A2)}{i k:Nat}{x:Nat×A2}(C:AccC p A i k)(hx:A[i]?=some x)(hk:k<p.I.toNat):AccC p (addP p x.1 x.2 A k) i (k+1):=by
 obtain⟨K',a9⟩:=C.K.step H hx;refine⟨K',?_,?_⟩
 all_goals
  unfold addP at K' a9 ⊢;by_cases g:pnx p x.1 k=-1\/(pnx p x.1 k).toNat∈A.map Prod.fst
 ·rw[if_pos g];exact C.rg
 ·rw[if_neg g,L1,C.rg,H4,O8,eD];congr 1;have g1:pnx p x.1 k≠-1:=λh=>g (.inl h);have g2:(pnx p x.1 k).toNat∉A.map Prod.fst:=λh=>g (.inr h);obtain⟨u,hu⟩:=pnx_nat H g1;rw[hu,H6,C.rg,K6]at g2;have a2:=C.fst hx;have a4:=(E0.1 hx).1;have a5:=(Q4 H hu).1;obtain⟨i',a',c1,c2,c3,c4⟩:=P.c4 x.1 k A.length u a5 hk (by omega) (by omega) hu;by_cases e:i'=i/\a'=k
  ·obtain⟨rfl,rfl⟩:=e;rw[a2]at hu ⊢;rw[c4];simp
  ·exfalso;have hA:=get_at (l:=A) (i:=i') c3;have a7:=C.fst hA
   have a3:i'<i\/i'=i/\a'<k:=by
    rw[a2]at c2;rcases jH i' i with h|h|h
    ·exact .inl h
    ·refine .inr ⟨h,?_⟩;rw[h]at c2;exact iH (by omega) λe2=>e ⟨h,e2⟩
    ·exfalso;have:(i+1)*p.I.toNat<=i'*p.I.toNat:=bC _ h;rw[cM]at this;omega
   have:=C.K.clo i' _ hA a' A.length a3 (by rw[a7];exact c4);rw[C.rg,K6]at this;exact tX _ this
 ·-- nothing new: an earlier link led there
  rw[if_pos g];intro j y hy a u z h hu hz;by_cases e:j=i/\a=k
  ·obtain⟨rfl,rfl⟩:=e;rw[hx]at hy;injection hy with hy
   subst hy;rcases C.K.pre z (G6 hz) with h1|⟨j',w,b,h1,h2,h3⟩
   ·rw[h1];right;unfold cmpW;rw[if_pos (by simp)]
   ·rw[h2];right;rcases h3 with h3|⟨h3,h4⟩
    ·exact nA (.inl (C.lt h1 hx h3))
    ·rw[h3,hx]at h1;injection h1 with h1
     subst h1;exact nA (.inr ⟨rfl,by omega⟩)
  ·exact C.mn j y hy a u z (by omega) hu hz
 ·rw[if_neg g];have g2:(pnx p x.1 k).toNat∉A.map Prod.fst:=λh=>g (.inr h);intro j y hy a u z h hu hz
  have a6:∀j y,A[j]?=some y->(j<i\/j=i/\a<k)->pnx p y.1 a=(u:Int)->u<A.length:=λj y hy h hu=>by
   have:=C.K.clo j y hy a u h hu;rw[C.rg,K6]at this;exact this
  have a4:=(E0.1 hx).1;have a8:j<A.length:=by omega
  rw[N6 a8]at hy;by_cases e:j=i/\a=k
  ·obtain⟨rfl,rfl⟩:=e;rw[hx]at hy;injection hy with hy
   subst hy;rw[hu,H6,C.rg,K6]at g2;have b2:=(E0.1 hz).1;rw[H4,O8]at b2;rw[S7 (by omega),show u-A.length=0 by omega]at hz;injection hz with hz
   rw[<- hz];exact .inl rfl
  ·have:=a6 j y hy (by omega) hu;rw[N6 this]at hz;exact C.mn j y hy a u z (by omega) hu hz
def AccC.row(H:H7 p)(P:CanP p){A:List (Nat×A2)}{i:Nat}{x:Nat×A2}(C:AccC p A i 0)(hx:A[i]?=some x):∀k,k<=p.I.toNat->AccC p (rowP p x.1 x.2 A k) i k
 |0,_=>C
 |k+1,hk=>by
  have h1:=AccC.row H P C hx k (by omega);rw[rowP_step];exact h1.step H P (C.K.row H hx k).2 hk
def AccC.next(H:H7 p){A:List (Nat×A2)}{i:Nat}(C:AccC p A i p.I.toNat):AccC p A (i+1) 0:=by
 refine⟨C.K.next H,C.rg,λj x hx a u z h hu hz=>C.mn j x hx a u z ?_ hu hz⟩;have:=(Q4 H hu).2.1;omega
def accC_ok(H:H7 p)(P:CanP p):∀(f i:Nat) (A:List (Nat×A2)),AccC p A i 0->p.N.length+1<=f+i->∃j,AccC p (accP p f i A) j 0/\(accP p f i A).length<=j
 |0,i,A,C,h=>by
  have:=C.K.few;exact⟨i,C,by unfold accP;omega⟩
 |f+1,i,A,C,h=>by
  unfold accP;cases e:A[i]? with
  |none =>
   have:=rN.1 e;exact⟨i,C,this⟩
  |some x=>exact accC_ok H P f (i+1) _ ((C.row H P e p.I.toNat (F9 _)).next H) (by omega)
def pI(H:H7 p)(P:CanP p)(h0:p.S=0):∃j,AccC p (accL p) j 0/\(accL p).length<=j:=accC_ok H P _ _ _ ⟨AccI.zero H,by rw[h0];rfl,λj x hx a u z h=>by omega⟩ (by omega)
def acc_min(H:H7 p)(P:CanP p)(h0:p.S=0):∀(n:Nat) {v y:A2} {q:Nat},v.length=n->Goes p 0 v y q->∃z,(accL p)[q]?=some z/\LeW z.2 v
 |0,v,y,q,hv,g=>by
  obtain⟨j,C,hj⟩:=pI H P h0;have e:v=[]:=EE.1 hv;subst e;have hq:=g.2;subst hq;refine⟨_,C.K.st,.inl rfl⟩
 |n+1,v,y,q,hv,g=>by
  obtain⟨j,C,hj⟩:=pI H P h0
  obtain⟨v',x,rfl⟩:∃v' x,v=v'++[x]:=by
   rcases zB v with h|⟨v',x,h⟩
   ·rw[h]at hv;cases hv
   ·exact⟨v',x,by rw[h,zA]⟩
  obtain⟨c,y1,y2,_,g1,g2⟩:=g.split;obtain⟨a,u,y',rfl,hu,_,g3⟩:=g2;have hq:=g3.2;subst hq;obtain⟨z',a2,a4⟩:=acc_min H P h0 n (by rw[H4,O8]at hv;omega) g1;have hc:=C.fst a2;have a5:=(E0.1 a2).1;have a3:=C.K.clo c z' a2 a q (.inl (by omega)) (by rw[hc];exact hu);rw[C.rg,K6]at a3;have hz:=get_at a3;exact⟨_,hz,(C.mn c z' a2 a q _ (.inl (by omega)) (by rw[hc];exact hu) hz).trans (a4.snoc _)⟩
end
end
section
def M9(M:A8):A9:=⟨M.I,M.S,M.N,M.O⟩
section
variable {M:A8}
def mM(H:I8 M){q a:Nat}(hq:q<M.N.length)(ha:a<M.I.toNat):pnx (M9 M) q a=(↑(nx M q a):Int)/\pot (M9 M) q a=ot M q a/\nx M q a<M.N.length:=by
 obtain⟨x,y,h1,h2,h3,h4,h5,h6⟩:=H.row q hq;have hx:=get_at (l:=x) (i:=a) (by omega);have hy:=get_at (l:=y) (i:=a) (by omega);have hr:=h5 _ (M8 (l:=x) (n:=a) (by omega));unfold pnx pot nx ot M9;simp only;rw[h1,h2,E7,E7,hx,hy,E7,E7,E7,E7];exact⟨by omega,rfl,by omega⟩
def iR(H:I8 M):H7 (M9 M):=by
 have hn:=H.n2;refine⟨H.i1,H.i2,H.n1,by show M.N.length<=4096;omega,H.st,H.ol,λs hs=>?_⟩;obtain⟨x,y,h1,h2,h3,h4,h5,h6⟩:=H.row s hs;refine⟨x,y,h1,h2,h3,h4,λa u v hu hv=>?_⟩;have q1:=h5 u (G6 hu);have q2:=h6 v (G6 hv);exact⟨by omega,q1.2,by omega,q2.2,by omega⟩
def uU{m:A8}(S:aW m M):CanP (M9 M):=by
 refine⟨λi a u v hi ha hu a4 hv=>?_,λu hu a2=>?_⟩
 ·obtain⟨e,_,_⟩:=mM S.ok hi ha;rw[hv]at e;obtain⟨i',a',c1,c2,c3,c4⟩:=S.can.c4 i a u hi ha hu (by omega)
  have a3:i'<M.N.length:=by
   have:=(Q4 (iR S.ok) hv).2.2;have:v<M.N.length:=this;omega
  refine⟨i',a',c1,c2,c3,?_⟩;rw[(mM S.ok a3 c1).1,c4]
 ·obtain⟨i,a,c1,c2,c3⟩:=S.can.c5 u hu a2;have a2:u<M.N.length:=a2;exact⟨i,a,c1,c2,by rw[(mM S.ok (by omega) c2).1,c3]⟩
def partM_conn{m:A8}(S:aW m M):Conn (M9 M):=by
 intro q
 induction q using Nat.strongRecOn with
 |ind q ih =>
  intro hq;rcases dJ q with rfl|h
  ·have:(M9 M).S.toNat=0:=by show M.S.toNat=0;rw[S.start];rfl
   rw[<- this];exact .st
  ·obtain⟨i,a,c1,c2,c3⟩:=(uU S).c5 q h hq;exact .step a q (ih i c1 (by omega)) c3
def row_bfs(H:I8 M){A:List (Nat×A2)}{i:Nat}{x:Nat×A2}(hA:A=bfsB (nx M) M.I.toNat 0 (i*M.I.toNat))(hx:A[i]?=some x)(hxl:x.1<M.N.length):∀k,k<=M.I.toNat->rowP (M9 M) x.1 x.2 A k=bfsB (nx M) M.I.toNat 0 (i*M.I.toNat+k)
 |0,_=>hA
 |k+1,hk=>by
  have ih:=row_bfs H hA hx hxl k (by omega);obtain⟨e1,_,_⟩:=mM H hxl (a:=k) hk;have hx':(bfsB (nx M) M.I.toNat 0 (i*M.I.toNat+k))[i]?=some x:=aX (by rw[hA];exact cE (Nat.le_add_right _ _)) hx;rw[rowP_step,ih,show i*M.I.toNat+(k+1)=i*M.I.toNat+k+1 by omega,bfsB,dR hk,kK hk,hx'];simp only;unfold addP;rw[e1,H6];by_cases g:nx M x.1 k∈(bfsB (nx M) M.I.toNat 0 (i*M.I.toNat+k)).map Prod.fst
  ·rw[if_pos (.inr g),if_pos g]
  ·rw[if_neg (λh=>h.elim (λh=>by omega) g),if_neg g]
def acc_bfs(H:I8 M):∀(f i:Nat) (A:List (Nat×A2)),AccI (M9 M) A i 0->A=bfsB (nx M) M.I.toNat 0 (i*M.I.toNat)->i<=A.length->M.N.length+1<=f+i->accP (M9 M) f i A=bfsB (nx M) M.I.toNat 0 ((accP (M9 M) f i A).length*M.I.toNat)
 |0,i,A,K,hA,hi,h=>by
  have hf:A.length<=M.N.length:=K.few;omega
 |f+1,i,A,K,hA,hi,h=>by
  unfold accP;cases e:A[i]? with
  |none =>
   have:=rN.1 e;have e2:i=A.length:=by omega
   simp only;rw[<- e2];exact hA
  |some x =>
   have a3:=K.lt x (G6 e);obtain⟨K1,a4⟩:=K.row (iR H) e M.I.toNat;have hr:=row_bfs H hA e a3 M.I.toNat (F9 _);have a2:=(E0.1 a4).1;simp only;refine acc_bfs H f (i+1) _ (K1.next (iR H)) ?_ a2 (by omega);show rowP (M9 M) x.1 x.2 A M.I.toNat=_;rw[hr,cM]
def accL_bfs(H:I8 M)(h0:M.S=0){L:List (Nat×A2)}(hL:MEnd M 0 L):accL (M9 M)=L:=by
 have hs:(M9 M).S.toNat=0:=by show M.S.toNat=0;rw[h0];rfl
 have hz:=AccI.zero (iR H);rw[hs]at hz;have e:=acc_bfs H (M.N.length+1) 0 [(0,[])] hz (by rw[dG];rfl) (D8 _) (by omega)
 have hA:accL (M9 M)=accP (M9 M) (M.N.length+1) 0 [(0,[])]:=by
  unfold accL;rw[hs];rfl
 rw[<- hA]at e;exact V1.uniq (by have:=H.i1;omega) ⟨e⟩ hL
end
end
section
section
variable {m:A8}{c:A2}
def clN(c:A2)(s:Nat):Nat:=((c[s]?).getD 0).toNat
open Classical in
noncomputable def rpN(m:A8)(c:A2)(x:Nat):Nat:=if h:∃s,s<m.N.length/\clN c s=x then Classical.choose h else 0
noncomputable def qE(m:A8)(c:A2)(x a:Nat):Nat:=clN c (nx m (rpN m c x) a)
noncomputable def qO(m:A8)(c:A2)(x a:Nat):Int:=ot m (rpN m c x) a
def lW(C:aF m m.N.length c){s:Nat}(hs:s<m.N.length):c[s]?=some (↑(clN c s):Int)/\clN c s<m.N.length:=by
 obtain⟨x,x1,x2⟩:=C.rng s hs;unfold clN;rw[x1,E7,H6];exact⟨rfl,x2⟩
def clN_iff(C:aF m m.N.length c){s t:Nat}(hs:s<m.N.length)(ht:t<m.N.length):clN c s=clN c t↔E m m.N.length s t:=by
 rw[<- C.cls s t hs ht,(lW C hs).1,(lW C ht).1];exact⟨λh=>by rw[h],λh=>by injection h with h;omega⟩
def rpN_spec{s:Nat}(hs:s<m.N.length):rpN m c (clN c s)<m.N.length/\clN c (rpN m c (clN c s))=clN c s:=by
 have h:∃s',s'<m.N.length/\clN c s'=clN c s:=⟨s,hs,rfl⟩;unfold rpN;rw[dif_pos h];exact uL h
def qE_eq(H:I8 m)(C:aF m m.N.length c){s a:Nat}(hs:s<m.N.length)(ha:a<m.I.toNat):qE m c (clN c s) a=clN c (nx m s a)/\qO m c (clN c s) a=ot m s a:=by
 obtain⟨h1,h2⟩:=rpN_spec (c:=c) hs;have h3:=E_all H h1 hs ((clN_iff C h1 hs).1 h2) (m.N.length+1);exact⟨(clN_iff C (H.at h1 ha).1 (H.at hs ha).1).2 (h3.2 a ha).2,(h3.2 a ha).1⟩
noncomputable def qB(m:A8)(c:A2)(r:Nat):List (Nat×A2):=bfsB (qE m c) m.I.toNat (clN c m.S.toNat) r
def qB_rng(H:I8 m)(C:aF m m.N.length c):∀(r:Nat),∀x∈qB m c r,∃s,s<m.N.length/\clN c s=x.1
 |0,x,hx=>by
  have:x=(clN c m.S.toNat,[]):=by simpa[qB,bfsB]using hx
  subst this;exact⟨m.S.toNat,by have:=H.st;omega,rfl⟩
 |r+1,x,hx=>by
  have ih:=qB_rng H C r;unfold qB at hx;rw[bfsB]at hx;split at hx
  ·exact ih x hx
  ·rename_i y hy;split at hx
   ·exact ih x hx
   ·rcases I2.1 hx with h|h
    ·exact ih x h
    ·have hK:0<m.I.toNat:=by have:=H.i1;omega
     obtain⟨s,s1,s2⟩:=ih y (G6 hy);have ha:=fC r hK;have a2:x=(qE m c y.1 (r%m.I.toNat),y.2++[(↑(r%m.I.toNat):Int)]):=by simpa using h
     subst a2;exact⟨nx m s (r%m.I.toNat),(H.at s1 ha).1,by rw[<- s2,(qE_eq H C s1 ha).1]⟩
def qB_len(H:I8 m)(C:aF m m.N.length c)(r:Nat):(qB m c r).length<=m.N.length:=by
 have:=jT (nE (e:=qE m c) (K:=m.I.toNat) (s0:=clN c m.S.toNat) r) (l':=List.range m.N.length) λx hx=>by
  obtain⟨y,hy,rfl⟩:=H0.1 hx;obtain⟨s,s1,s2⟩:=qB_rng H C r y hy;rw[<- s2];exact K6.2 (lW C s1).2
 rwa [B7,M5]at this
def qB_step{i a:Nat}{x:Nat×A2}(ha:a<m.I.toNat)(hx:(qB m c (i*m.I.toNat+a))[i]?=some x) :
  qB m c (i*m.I.toNat+(a+1))=if qE m c x.1 a∈(qB m c (i*m.I.toNat+a)).map Prod.fst then qB m c (i*m.I.toNat+a) else qB m c (i*m.I.toNat+a)++[(qE m c x.1 a,x.2++[(a:Int)])]:=bfs_step ha hx
def qB_next{i:Nat}:qB m c (i*m.I.toNat+m.I.toNat)=qB m c ((i+1)*m.I.toNat):=by rw[cM]
def qB_get{i r:Nat}{x:Nat×A2}(hx:(qB m c (i*m.I.toNat))[i]?=some x)(hr:i*m.I.toNat<=r):(qB m c r)[i]?=some x:=aX (cE hr) hx
structure Nums(m:A8)(c:A2)(ord:List Nat)(num:A2)(B:List (Nat×A2)):Prop where
 ol:ord.length=B.length
 oc:∀(j u:Nat) (x:Nat×A2),ord[j]?=some u->B[j]?=some x->u<m.N.length/\clN c u=x.1
 nl:num.length=m.N.length
 n1:∀(j:Nat) (x:Nat×A2),B[j]?=some x->num[x.1]?=some (j:Int)
 n2:∀x:Nat,x<m.N.length->x∉B.map Prod.fst->num[x]?=some (-1:Int)
def Nums.push{ord:List Nat}{num:A2}{B:List (Nat×A2)}{u:Nat}{w:A2}(N:Nums m c ord num B)(C:aF m m.N.length c)(hu:u<m.N.length)(hn:clN c u∉B.map Prod.fst)(hB:(B.map Prod.fst).Nodup):Nums m c (ord++[u]) (num.set (clN c u) (B.length:Int)) (B++[(clN c u,w)]):=by
 have a2:=(lW C hu).2;refine⟨by simp[N.ol],λj v x hj hx=>?_,by simp[N.nl],λj x hx=>?_,λx hx hm=>?_⟩
 ·rcases J3 j B.length with h|h
  ·rw[N6 (by rw[N.ol];exact h)]at hj;rw[N6 h]at hx;exact N.oc j v x hj hx
  ·have hl:=(E0.1 hx).1;rw[H4,O8]at hl;have:j=B.length:=by omega
   subst this;rw[S7 (by rw[N.ol];exact F9 _),N.ol,T7]at hj;rw[S7 (F9 _),T7]at hx;injection hj with hj
   injection hx with hx
   subst hj;subst hx;exact⟨hu,rfl⟩
 ·rcases J3 j B.length with h|h
  ·rw[N6 h]at hx;rw[O3 (λq=>hn (by rw[q];exact H0.2 ⟨x,G6 hx,rfl⟩)),N.n1 j x hx]
  ·have hl:=(E0.1 hx).1;rw[H4,O8]at hl;have:j=B.length:=by omega
   subst this;rw[S7 (F9 _),T7]at hx;injection hx with hx
   subst hx;rw[P5 (by rw[N.nl];exact a2)]
 ·rw[L1,I2,not_or]at hm;have h1:clN c u≠x:=λq=>hm.2 (by simp[q]);rw[O3 h1];exact N.n2 x hx hm.1
def rmin_row(H:I8 m)(C:aF m m.N.length c){e:Int}{i:Nat}{x:Nat×A2}{ord:List Nat}{num:A2}(hx:(qB m c (i*m.I.toNat))[i]?=some x)(N:Nums m c ord num (qB m c (i*m.I.toNat))) :
  ∃(ord':List Nat) (num' row out:A2),iter (λ(s:A2×A2×A2×A2×Nat)=>N4.s56 m (c,e) i s.1 s.2.1 s.2.2.1 s.2.2.2.1 s.2.2.2.2) fuel (natI ord,num,[],[],0)=some (natI ord',num',row,out)/\Nums m c ord' num' (qB m c ((i+1)*m.I.toNat))/\row.length=m.I.toNat/\out.length=m.I.toNat /\
   ∀a,a<m.I.toNat->∃(j:Nat) (z:Nat×A2),(qB m c ((i+1)*m.I.toNat))[j]?=some z/\z.1=qE m c x.1 a/\row[a]?=some (j:Int)/\out[a]?=some (qO m c x.1 a):=by
 have hI:=H.i2;have hn:=H.n2
 obtain⟨r,hr,ord',num',row,out,rfl,g1,g2,g3,g4⟩:=J2 (step:=λ(s:A2×A2×A2×A2×Nat)=>N4.s56 m (c,e) i s.1 s.2.1 s.2.2.1 s.2.2.2.1 s.2.2.2.2) (λs=>∃ord':List Nat,s.1=natI ord'/\s.2.2.2.2<=m.I.toNat/\Nums m c ord' s.2.1 (qB m c (i*m.I.toNat+s.2.2.2.2))/\s.2.2.1.length=s.2.2.2.2/\s.2.2.2.1.length=s.2.2.2.2 /\
   ∀a,a<s.2.2.2.2->∃(j:Nat) (z:Nat×A2),(qB m c (i*m.I.toNat+s.2.2.2.2))[j]?=some z/\z.1=qE m c x.1 a/\s.2.2.1[a]?=some (j:Int)/\s.2.2.2.1[a]?=some (qO m c x.1 a)) (λs=>m.I.toNat-s.2.2.2.2) (λr=>∃(ord':List Nat) (num' row out:A2),r=(natI ord',num',row,out)/\Nums m c ord' num' (qB m c ((i+1)*m.I.toNat))/\row.length=m.I.toNat/\out.length=m.I.toNat /\
   ∀a,a<m.I.toNat->∃(j:Nat) (z:Nat×A2),(qB m c ((i+1)*m.I.toNat))[j]?=some z/\z.1=qE m c x.1 a/\row[a]?=some (j:Int)/\out[a]?=some (qO m c x.1 a)) (λs ⟨ord',q1,q2,q3,q4,q5,q6⟩=>by
  obtain⟨o,num',row,out,a⟩:=s
  simp only at q1 q2 q3 q4 q5 q6
  subst q1
  simp only[N4.s56]
  by_cases g:a<m.I.toNat
  ·left
   have b2:=qB_get hx (r:=i*m.I.toNat+a) (by omega)
   have b9:=qB_len H C (i*m.I.toNat+a)
   have b3:=(E0.1 b2).1
   have hv:=get_at (l:=ord') (i:=i) (by rw[q3.ol];exact b3)
   generalize ord'[i]'(by rw[q3.ol];exact b3)=v at hv
   obtain⟨b5,b8⟩:=q3.oc i v x hv b2
   obtain⟨t1,_,_,xr,yr,e1,e2,e3,e4⟩:=H.at b5 g
   have a8:=qE_eq H C b5 g
   rw[b8]at a8
   have a7:=lW C t1
   have a3:=qB_step g b2
   rw[a8.1]at a3
   have b6:=q3.ol
   rw[C2,B8 (mI hv),D7 rfl e1,B8 e3]
   have b4:∀{a2:List Nat} {a4:A2} {B2:List (Nat×A2)} {j:Nat} {z:Nat×A2},qB m c (i*m.I.toNat+(a+1))=B2->Nums m c a2 a4 B2->B2[j]?=some z->z.1=clN c (nx m v a)->a2[i]?=some v->(∀(j:Nat) (z:Nat×A2),(qB m c (i*m.I.toNat+a))[j]?=some z->B2[j]?=some z) ->
     N4.k55 m (c,e) i row out a (↑(nx m v a):Int) (natI a2) a4=some (.inl (natI a2,a4,row++[(j:Int)],out++[ot m v a],a+1)) /\
     (∃ord'':List Nat,natI a2=natI ord''/\a+1<=m.I.toNat/\Nums m c ord'' a4 (qB m c (i*m.I.toNat+(a+1)))/\(row++[(j:Int)]).length=a+1/\(out++[ot m v a]).length=a+1/\∀b,b<a+1->∃(j':Nat) (z:Nat×A2),(qB m c (i*m.I.toNat+(a+1)))[j']?=some z/\z.1=qE m c x.1 b/\(row++[(j:Int)])[b]?=some (j':Int)/\(out++[ot m v a])[b]?=some (qO m c x.1 b)):=by
    intro a2 a4 B2 j z hB N2 hz a6 b7 a9
    refine⟨?_,a2,rfl,g,by rw[hB];exact N2,by simp[q4],by simp[q5],λb hb=>?_⟩
    ·simp only[N4.k55]
     have:=N2.n1 j z hz
     rw[a6]at this
     rw[D7 rfl a7.1,D7 rfl this,O6,B8 (mI b7),D7 rfl e2,B8 e4,O6,L3]
    ·rw[hB]
     rcases J3 b a with h|h
     ·obtain⟨j',z',w1,w2,w3,w4⟩:=q6 b h
      exact⟨j',z',a9 _ _ w1,w2,by rw[N6 (by omega),w3],by rw[N6 (by omega),w4]⟩
     ·have:b=a:=by omega
      subst this
      exact⟨j,z,hz,by rw[a6,a8.1],by rw[S7 (by omega),q4,T7];rfl,by rw[S7 (by omega),q5,T7,a8.2];rfl⟩
   by_cases hm:clN c (nx m v a)∈(qB m c (i*m.I.toNat+a)).map Prod.fst
   ·rw[if_pos hm]at a3
    obtain⟨z,hz,a6⟩:=H0.1 hm
    obtain⟨j,hj⟩:=List.mem_iff_getElem?.1 hz
    have a5:=q3.n1 j z hj
    rw[a6]at a5
    obtain⟨f1,f2⟩:=b4 a3 q3 hj a6 hv (λ_ _ h=>h)
    refine⟨(natI ord',num',row++[(j:Int)],out++[ot m v a],a+1),?_,f2,by simp only;omega⟩
    rw[D7 rfl a7.1,D7 rfl a5,B1,A5]
    exact f1
   ·rw[if_neg hm]at a3
    have a5:=q3.n2 _ a7.2 hm
    have N2:=q3.push (w:=x.2++[(a:Int)]) C t1 hm (nE _)
    obtain⟨f1,f2⟩:=b4 (j:=(qB m c (i*m.I.toNat+a)).length) (z:=(clN c (nx m v a),x.2++[(a:Int)])) a3 N2 (by simp) rfl (by rw[N6 (by omega),hv]) (λj z h=>by rw[N6 (E0.1 h).1,h])
    refine⟨(natI (ord'++[nx m v a]),num'.set (clN c (nx m v a)) (↑(qB m c (i*m.I.toNat+a)).length:Int),row++[(↑(qB m c (i*m.I.toNat+a)).length:Int)],out++[ot m v a],a+1),?_,f2,by simp only;omega⟩
    rw[D7 rfl a7.1,D7 rfl a5,C2,D7 rfl a7.1,D7 rfl a5,H9 (by unfold B4;rw[bH];omega),vJ,bH,A5,b6]
    exact f1
  ·right
   have:a=m.I.toNat:=by omega
   subst this
   rw[qB_next]at q3 q6
   exact⟨_,by rw[B1],ord',num',row,out,rfl,q3,q4,q5,q6⟩) (natI ord,num,[],[],0) ⟨ord,rfl,D8 _,N,rfl,rfl,λa h=>absurd h (O4 _)⟩
 exact⟨ord',num',row,out,hr,g1,g2,g3,g4⟩
def BM(hv:P9 m=0):∃M,N4 m=some (M,0)/\aW m M:=by
 have c6:U3 m=some 0:=by rw[iX,hv]
 have H:=aY hv;have hn:=H.n2;have d0:=H.st;have b9:=H.i1;have b8:=H.i2;obtain⟨c,c1,C⟩:=zq9 c6 m.N.length;rw[Nat.min_self]at C
 have c0:qF m=some (c,0):=by
  unfold qF;rw[c1,A5]
 unfold N4;rw[c0,A5,B1 (by simp),H9 ⟨by omega,by omega,by unfold B4;omega⟩]
 obtain⟨y,hy,y1,y2⟩:=J2 (step:=λ(s:A2×Nat)=>N4.s2 s.1 s.2) (λs=>s.1.length=m.N.length/\s.2<=m.N.length/\∀x,x<s.2->s.1[x]?=some (-1:Int)) (λs=>m.N.length-s.2) (λr=>r.length=m.N.length/\∀x,x<m.N.length->r[x]?=some (-1:Int)) (λs ⟨g1,g2,g3⟩=>by
  obtain⟨y,i⟩:=s
  simp only at g1 g2 g3
  simp only[N4.s2]
  by_cases g:i<y.length
  ·left
   have hx:=get_at g
   refine⟨(y.set i (-1),i+1),by rw[M6 hx,F7,B8 hx],⟨by simp[g1],by simp only;omega,λx a4=>?_⟩,by simp only;omega⟩
   simp only
   by_cases e:i=x
   ·subst e
    rw[P5 g]
   ·rw[O3 e]
    exact g3 x (by simp only at a4;omega)
  ·right
   exact⟨y,by rw[B1],g1,λx hx=>g3 x (by omega)⟩) ((List.replicate m.N.length 0),0) ⟨by simp,D8 _,λx h=>absurd h (O4 _)⟩
 have hs:m.S.toNat<m.N.length:=by omega
 obtain⟨x1,x2⟩:=lW C hs;rw[hy,A5,D7 (i:=m.S.toNat) (by omega) x1,D7 rfl (y2 _ x2)]
 have N0:Nums m c [m.S.toNat] (y.set (clN c m.S.toNat) 0) (qB m c 0):=by
  have a9:qB m c 0=[(clN c m.S.toNat,[])]:=rfl;refine⟨rfl,λj u x hj hx=>?_,by simp[y1],λj x hx=>?_,λx hx hm=>?_⟩
  ·have hl:=(E0.1 hj).1;rw[O8]at hl;have:j=0:=by omega
   subst this;rw[a9]at hx;injection hj with hj
   injection hx with hx
   subst hj;subst hx;exact⟨hs,rfl⟩
  ·rw[a9]at hx;have hl:=(E0.1 hx).1;rw[O8]at hl;have:j=0:=by omega
   subst this;injection hx with hx
   subst hx;rw[P5 (by omega)];rfl
  ·rw[a9]at hm;rw[O3 (λq=>hm (by simp[q])),y2 x hx]
 obtain⟨r,hr,L,P,R,rfl,hE,p1,p2,p3⟩:=J2 (step:=λ(s:A2×A2×A4×A4×Nat)=>N4.s58 m (c,0) s.1 s.2.1 s.2.2.1 s.2.2.2.1 s.2.2.2.2) (λs=>∃ord:List Nat,s.1=natI ord/\Nums m c ord s.2.1 (qB m c (s.2.2.2.2*m.I.toNat))/\s.2.2.2.2<=(qB m c (s.2.2.2.2*m.I.toNat)).length/\s.2.2.1.length=s.2.2.2.2/\s.2.2.2.1.length=s.2.2.2.2 /\
   ∀(i:Nat) (x:Nat×A2),i<s.2.2.2.2->(qB m c (s.2.2.2.2*m.I.toNat))[i]?=some x->∃row out,s.2.2.1[i]?=some row/\s.2.2.2.1[i]?=some out/\row.length=m.I.toNat/\out.length=m.I.toNat/\∀a,a<m.I.toNat->∃(j:Nat) (z:Nat×A2),(qB m c (s.2.2.2.2*m.I.toNat))[j]?=some z/\z.1=qE m c x.1 a/\row[a]?=some (j:Int)/\out[a]?=some (qO m c x.1 a)) (λs=>m.N.length+1-s.2.2.2.2) (λr=>∃L P R,r=(P,R)/\V1 (qE m c) m.I.toNat (clN c m.S.toNat) L/\P.length=L.length/\R.length=L.length /\
   ∀(i:Nat) (x:Nat×A2),L[i]?=some x->∃row out,P[i]?=some row/\R[i]?=some out/\row.length=m.I.toNat/\out.length=m.I.toNat/\∀a,a<m.I.toNat->∃(j:Nat) (z:Nat×A2),L[j]?=some z/\z.1=qE m c x.1 a/\row[a]?=some (j:Int)/\out[a]?=some (qO m c x.1 a)) (λs ⟨ord,q1,q2,q3,q4,q5,q6⟩=>by
  obtain⟨o,num,P,R,i⟩:=s
  simp only at q1 q2 q3 q4 q5 q6
  subst q1
  have c9:=qB_len H C (i*m.I.toNat)
  have d3:=q2.ol
  simp only[N4.s58]
  by_cases g:i<(qB m c (i*m.I.toNat)).length
  ·left
   have hx:=get_at g
   generalize (qB m c (i*m.I.toNat))[i]=x at hx
   obtain⟨a6,b4,row,out,f1,f2,f3,f4,f5⟩:=rmin_row H C (e:=0) hx q2
   have a3:qB m c (i*m.I.toNat) <+: qB m c ((i+1)*m.I.toNat):=cE (by rw[cM];omega)
   have c7:=a3.length_le
   refine⟨(natI a6,b4,P++[row],R++[out],i+1),?_,⟨a6,rfl,f2,by simp only;omega,by simp[q4],by simp[q5],λk z hk hz=>?_⟩,by simp only;omega⟩
   ·rw[bH,C2,f1,A5]
    simp only[N4.k57]
    rw[O6,O6]
   ·simp only at hk hz ⊢
    rcases J3 k i with h|h
    ·have a7:=get_at (l:=qB m c (i*m.I.toNat)) (i:=k) (by omega)
     have a5:=aX a3 a7
     rw[hz]at a5
     injection a5 with a5
     rw[<- a5]at a7
     obtain⟨b6,b5,w1,w2,w3,w4,w5⟩:=q6 k z h a7
     refine⟨b6,b5,by rw[N6 (by omega),w1],by rw[N6 (by omega),w2],w3,w4,λa ha=>?_⟩
     obtain⟨j,z',v1,v2⟩:=w5 a ha
     exact⟨j,z',aX a3 v1,v2⟩
    ·have:k=i:=by omega
     subst this
     have a4:=aX a3 hx
     rw[hz]at a4
     injection a4 with a4
     subst a4
     exact⟨row,out,by rw[S7 (by omega),q4,T7];rfl,by rw[S7 (by omega),q5,T7];rfl,f3,f4,f5⟩
  ·right
   have he:(qB m c (i*m.I.toNat)).length=i:=by omega
   refine⟨(P,R),by rw[bH,B1],qB m c (i*m.I.toNat),P,R,rfl,⟨?_⟩,by omega,by omega,λk x hx=>q6 k x (by have:=(E0.1 hx).1;omega) hx⟩
   rw[he]
   rfl) ([m.S],y.set (clN c m.S.toNat) 0,[],[],0) ⟨[m.S.toNat],by simp[natI];omega,by simp only;rw[dG];exact N0,D8 _,rfl,rfl,λi x h=>absurd h (O4 _)⟩
 have d1:L.length<=m.N.length:=by
  rw[hE.eq];exact qB_len H C _
 have a8:∀x∈L,∃s,s<m.N.length/\clN c s=x.1:=by
  rw[hE.eq];exact qB_rng H C _
 have d2:0<L.length:=(E0.1 hE.first).1
 have b7:Shape (qE m c) (qO m c) L (⟨m.I,0,P,R⟩:A8):=⟨p1,λi x a hx ha=>by
  obtain⟨row,out,w1,w2,w3,w4,w5⟩:=p3 i x hx
  obtain⟨j,z,z1,z2,z3,z4⟩:=w5 a ha
  have e1:nx (⟨m.I,0,P,R⟩:A8) i a=j:=by
   unfold nx
   simp only
   rw[w1,E7,z3,E7,H6]
  refine⟨z,by rw[e1];exact z1,z2,?_⟩
  unfold ot
  simp only
  rw[w2,E7,z4,E7]⟩
 have c8:I8 (⟨m.I,0,P,R⟩:A8):=by
  refine⟨b9,b8,by simp only;omega,by simp only;omega,⟨eF 0,by simp only;omega⟩,by simp only;omega,λi hi=>?_⟩;simp only at hi ⊢;have hx:=get_at (l:=L) (i:=i) (by omega);obtain⟨row,out,w1,w2,w3,w4,w5⟩:=p3 i _ hx;refine⟨row,out,w1,w2,by omega,by omega,λu hu=>?_,λv hv=>?_⟩
  ·obtain⟨a,ha,rfl⟩:=cQ.1 hu;obtain⟨j,z,z1,_,z3,_⟩:=w5 a (by omega);rw[get_at ha]at z3;injection z3 with z3
   have:=(E0.1 z1).1;omega
  ·obtain⟨a,ha,rfl⟩:=cQ.1 hv;obtain⟨j,z,_,_,_,z4⟩:=w5 a (by omega);rw[get_at ha]at z4;injection z4 with z4
   obtain⟨s,s1,s2⟩:=a8 _ (G6 hx);have h:=H.at s1 (a:=a) (by omega);rw[<- s2,(qE_eq H C s1 (a:=a) (by omega)).2]at z4;omega
 have a2:∀(w:A2) (i:Nat) (x:Nat×A2) (s:Nat),L[i]?=some x->s<m.N.length->clN c s=x.1->WOk m.I w->outs (⟨m.I,0,P,R⟩:A8) i w=outs m s w:=by
  intro w
  induction w with
  |nil=>intro _ _ _ _ _ _ _;rfl
  |cons z w ih =>
   intro i x s hx hs hc hw;have hz:=hw.head;have ha:z.toNat<m.I.toNat:=by omega
   obtain⟨y,g1,g2,g3⟩:=b7.row i x z.toNat hx ha;have b2:=qE_eq H C hs ha;rw[hc]at b2;have:=ih _ y (nx m s z.toNat) g1 (H.at hs ha).1 (by rw[g2,b2.1]) hw.tail;show ot (⟨m.I,0,P,R⟩:A8) i z.toNat::outs _ (nx (⟨m.I,0,P,R⟩:A8) i z.toNat) w=ot m s z.toNat::outs m (nx m s z.toNat) w;rw[this,g3,b2.2]
 refine⟨⟨m.I,0,P,R⟩,by rw[H6,hr,A5];rfl,⟨c8,rfl,rfl,λw hw=>a2 w 0 _ _ hE.first hs rfl hw,λi j hi hj h=>?_,shape_can (M:=(⟨m.I,0,P,R⟩:A8)) hE b7 (by simp only;omega)⟩⟩;simp only at hi hj;have hx:=get_at (l:=L) (i:=i) (by omega);have b3:=get_at (l:=L) (i:=j) (by omega);obtain⟨s,s1,s2⟩:=a8 _ (G6 hx);obtain⟨t,t1,t2⟩:=a8 _ (G6 b3)
 have he:E m m.N.length s t:=pK λw _ hw=>by
  rw[<- a2 w i _ s hx s1 s2 hw,<- a2 w j _ t b3 t1 t2 hw];exact h w hw
 have hc:=(clN_iff C s1 t1).2 he;exact nodup_at hE.nodup (x:=clN c s) (by rw[H1,hx,s2];rfl) (by rw[H1,b3,hc,t2];rfl)
def min_same(hv:P9 m=0):∃M,S3 m=some (M,0)/\N4 m=some (M,0)/\aW m M:=by
 obtain⟨M,h1,h2⟩:=xO hv;obtain⟨M',h3,h4⟩:=BM hv;have:=wN h2 h4;subst this;exact⟨M,h1,h3,h2⟩
end
end
end Go.Proofs.YtkeplokjplkcmaaGreat.Sym

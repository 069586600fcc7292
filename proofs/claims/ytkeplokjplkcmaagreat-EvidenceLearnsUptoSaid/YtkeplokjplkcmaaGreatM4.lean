/-
  Parts of the proof, behind each other.
-/
import Derived.Test.YtkeplokjplkcmaaGreatM3
set_option linter.all false
set_option maxRecDepth 100000
set_option maxHeartbeats 4000000
open Go.RowKit
namespace Go.Proofs.YtkeplokjplkcmaaGreat.Sym
section
section
variable {p:A8}{s t:Nat}
def clT(cl:Nat->Nat)(v:Int):Int:=if v=-1 then -1 else(↑(cl v.toNat):Int)
def loop_s64{n I:Nat}{cl:Nat->Nat}{M:List (Int×Int)}(U:UpOk n cl M)(hn:n<=10000000)(hI:I<=64){G:A4}(GG:Grid n I G)(rng:∀q a,q<n->a<I->gx G q a=-1\/∃u:Nat,gx G q a=(u:Int)/\u<n){q:Nat}(hq:q<n){e:A2}(he:e.length=I) :
  ∃G',iter (λ(s:A4×(List (Int×Int))×Nat)=>I2.s64 q e s.1 s.2.1 s.2.2) fuel (G,M,0)=some (G',M)/\Grid n I G'/\∀r b,r<n->b<I->gx G' r b=if r=q then clT cl (gx G r b) else gx G r b:=by
 have key:=H4 (step:=λ(s:A4×(List (Int×Int))×Nat)=>I2.s64 q e s.1 s.2.1 s.2.2) (λs=>s.2.2<=I/\s.2.1=M/\Grid n I s.1/\∀r b,r<n->b<I->gx s.1 r b=if r=q/\b<s.2.2 then clT cl (gx G r b) else gx G r b) (λs=>I-s.2.2) (λr=>∃G',r=(G',M)/\Grid n I G'/\∀r b,r<n->b<I->gx G' r b=if r=q then clT cl (gx G r b) else gx G r b) (λ⟨y,m,k⟩ ⟨g1,g2,g3,g4⟩=>by
  simp only at g1 g2 g3 g4
  subst g2
  simp only[I2.s64]
  by_cases h:k<I
  ·left
   obtain⟨x,x1,x2,x3⟩:=g3.at hq h
   have a0:gx y q k=gx G q k:=by rw[g4 q k hq h,if_neg (λg=>pV _ g.2)]
   rw[a0]at x2
   rw[C0,B4 x1,B4 x2]
   by_cases t0:gx G q k=-1
   ·refine⟨(y,m,k+1),by rw[B1 (λg=>g t0),K3],⟨h,rfl,g3,λr b hr hb=>?_⟩,by simp only;omega⟩
    simp only
    rw[g4 r b hr hb]
    by_cases k1:r=q/\b<k
    ·rw[if_pos k1,if_pos ⟨k1.1,by omega⟩]
    ·rw[if_neg k1]
     by_cases k2:r=q/\b<k+1
     ·have e2:b=k:=Nat.le_antisymm (by omega) (pY λg=>k1 ⟨k2.1,g⟩)
      rw[if_pos k2,k2.1,e2,t0]
      rfl
     ·rw[if_neg k2]
   ·obtain⟨u,hu,a2⟩:=(rng q k hq h).resolve_left t0
    obtain⟨p1,p2⟩:=g3.put hq h x1 (↑(cl u):Int)
    refine⟨(y.set q (x.set k (↑(cl u):Int)),m,k+1),?_,⟨h,rfl,p1,λr b hr hb=>?_⟩,by simp only;omega⟩
    ·rw[C0 t0,B4 x1,hu,of_eq U hn a2,A5,B4 x2,K3]
    ·simp only
     rw[p2 r b hr hb]
     by_cases k1:r=q/\b=k
     ·rw[if_pos k1,if_pos ⟨k1.1,by omega⟩,k1.1,k1.2]
      unfold clT
      rw[if_neg t0,hu,I7]
     ·rw[if_neg k1,g4 r b hr hb]
      by_cases k2:r=q/\b<k
      ·rw[if_pos k2,if_pos ⟨k2.1,by omega⟩]
      ·rw[if_neg k2,if_neg (λg=>k2 ⟨g.1,cW (by omega) λe3=>k1 ⟨g.1,e3⟩⟩)]
  ·right
   have e1:k=I:=by omega
   subst e1
   refine⟨_,by rw[B1],y,rfl,g3,λr b hr hb=>?_⟩
   rw[g4 r b hr hb]
   by_cases k1:r=q
   ·rw[if_pos ⟨k1,hb⟩,if_pos k1]
   ·rw[if_neg (λg=>k1 g.1),if_neg k1]) fuel (G,M,0) ⟨D9 _,rfl,GG,λr b _ _=>by rw[if_neg (λg=>N9 _ g.2)]⟩ (by have:=E6;simp only;omega)
 obtain⟨r,e1,G',rfl,h⟩:=key;exact⟨G',e1,h⟩
def loop_s66{n I:Nat}{cl:Nat->Nat}{M:List (Int×Int)}(U:UpOk n cl M)(hn:n<=10000000)(hI:I<=64){N:A4}(GN:Grid n I N)(rng:∀q a,q<n->a<I->gx N q a=-1\/∃u:Nat,gx N q a=(u:Int)/\u<n) :
  ∃N',iter (λ(s:A4×(List (Int×Int))×Nat)=>I2.s66 N s.1 s.2.1 s.2.2) fuel (N,M,0)=some (N',M)/\Grid n I N'/\∀r b,r<n->b<I->gx N' r b=clT cl (gx N r b):=by
 have hl:=GN.len
 have key:=H4 (step:=λ(s:A4×(List (Int×Int))×Nat)=>I2.s66 N s.1 s.2.1 s.2.2) (λs=>s.2.2<=n/\s.2.1=M/\Grid n I s.1/\∀r b,r<n->b<I->gx s.1 r b=if r<s.2.2 then clT cl (gx N r b) else gx N r b) (λs=>n-s.2.2) (λr=>∃N',r=(N',M)/\Grid n I N'/\∀r b,r<n->b<I->gx N' r b=clT cl (gx N r b)) (λ⟨y,m,q⟩ ⟨g1,g2,g3,g4⟩=>by
  simp only at g1 g2 g3 g4
  subst g2
  simp only[I2.s66]
  by_cases h:q<n
  ·left
   obtain⟨x,x1,x2⟩:=g3.row q h
   obtain⟨y',e1,e2,e3⟩:=loop_s64 (e:=x) U hn hI g3 (λr a hr ha=>by
    rw[g4 r a hr ha]
    split
    ·unfold clT
     rcases rng r a hr ha with k|⟨u,k1,k2⟩
     ·rw[if_pos k];exact .inl rfl
     ·refine .inr ⟨cl u,by rw[if_neg (by omega),k1,I7],?_⟩
      by_cases k3:cl u=u
      ·omega
      ·have a0:∀v:Nat,v<n->cl v<=v:=λv=>by
        induction v using Nat.strongRecOn with
        |_ v ih =>
         intro hv
         by_cases k4:cl v=v
         ·omega
         ·obtain⟨w,w1,_,w3⟩:=U.u1 v hv k4
          have:=ih w w1 (by omega)
          omega
       have:=a0 u k2
       omega
    ·exact rng r a hr ha) h x2
   refine⟨(y',m,q+1),?_,⟨h,rfl,e2,λr b hr hb=>?_⟩,by simp only;omega⟩
   ·rw[C0,B4 x1,e1,A5]
    rfl
   ·simp only
    rw[e3 r b hr hb,g4 r b hr hb]
    by_cases k1:r=q
    ·rw[if_pos k1,if_neg (by omega),if_pos (by omega)]
    ·rw[if_neg k1]
     by_cases k2:r<q
     ·rw[if_pos k2,if_pos (by omega)]
     ·rw[if_neg k2,if_neg (by omega)]
  ·right
   have e1:q=n:=by omega
   subst e1
   refine⟨_,by rw[B1],y,rfl,g3,λr b hr hb=>?_⟩
   rw[g4 r b hr hb,if_pos hr]) fuel (N,M,0) ⟨D9 _,rfl,GN,λr b _ _=>by rw[if_neg (N9 _)]⟩ (by have:=E6;simp only;omega)
 obtain⟨r,e1,N',rfl,h⟩:=key;exact⟨N',e1,h⟩
def loop_s68{n:Nat}{cl:Nat->Nat}{M:List (Int×Int)}(U:UpOk n cl M)(hn:n<=1000000)(hcl:∀q,q<n->cl q<n){F:List Nat}{nums:A2}(A:NumL n F nums)(P:A8) :
  iter (λ(s:(List (Int×Int))×A2×Nat)=>I2.s68 (P,nums) s.1 s.2.1 s.2.2) fuel (M,List.replicate n 0,0)=some ((List.range n).map λq=>numT F (↑(cl q):Int)):=by
 have hl:=A.len
 have key:=H4 (step:=λ(s:(List (Int×Int))×A2×Nat)=>I2.s68 (P,nums) s.1 s.2.1 s.2.2) (λs=>s.2.2<=n/\s.1=M/\Wrt (λq=>numT F (↑(cl q):Int)) (List.replicate n 0) s.2.2 s.2.1) (λs=>n-s.2.2) (λr=>r=(List.range n).map λq=>numT F (↑(cl q):Int)) (λ⟨m,y,q⟩ ⟨g1,g2,g3⟩=>by
  simp only at g1 g2 g3
  subst g2
  simp only[I2.s68,J6]
  have a0:=g3.len
  rw[J6]at a0
  by_cases h:q<n
  ·left
   have hc:=hcl q h
   refine⟨(m,y.set q (numT F (↑(cl q):Int)),q+1),?_,⟨h,rfl,g3.step (by rw[J6];exact h) rfl⟩,by simp only;omega⟩
   rw[C0,of_eq U (by omega) h,A5,D6 (i:=cl q) rfl (A.at_ _ hc),B4 (get_at (l:=y) (i:=q) (by omega)),K3]
   unfold numT
   rw[I7]
   by_cases k1:cl q∈F
   ·rw[if_pos k1,if_pos ⟨by omega,k1⟩]
   ·rw[if_neg k1,if_neg (λg=>k1 g.2)]
  ·right
   have e1:q=n:=by omega
   subst e1
   refine⟨_,by rw[B1],?_⟩
   rw[g3.done (by rw[J6];exact H0 _),J6]) fuel (M,List.replicate n 0,0) ⟨D9 _,rfl,Wrt.zero _ _⟩ (by have:=E6;simp only;omega)
 obtain⟨r,e1,rfl⟩:=key;exact e1
def dA.quo(H:H9 p){cl:Nat->Nat}{N O:A4}{M:List (Int×Int)}(F:dA p s t cl N O M []){N':A4}(GN:Grid p.N.length p.I.toNat N')(hN:∀r b,r<p.N.length->b<p.I.toNat->gx N' r b=clT cl (gx N r b)):dT p ⟨p.I,(↑(cl p.S.toNat):Int),N',O⟩ cl:=by
 have hn:=H.n2;have a7:=H.st;obtain⟨C,K⟩:=F.cls;have a0:∀q,q<p.N.length->cl q<p.N.length:=λq hq=>by have:=K.le q hq;omega
 have hl:=GN.len;have hs:p.S.toNat<p.N.length:=by omega
 have a3:Lab p.N.length cl [] cl:=⟨λ_ _ _ _ h=>h,λ_ _ h=>by cases h⟩;refine⟨⟨by have:=H.i1;simp only;omega,H.i2,by simp only;omega,⟨cl p.S.toNat,rfl,by simp only;rw[hl];exact a0 _ hs⟩,by simp only;rw[hl];exact GN,by simp only;rw[hl];exact F.go,λq a hq ha=>?_⟩,hl,rfl,rfl,K.idem,a0,λc a hc ha a5=>?_⟩
 ·simp only at hq ha ⊢;rw[hl]at hq ⊢;rw[hN q a hq ha];unfold clT;rcases F.rng q a hq ha with k|⟨u,k1,k2⟩
  ·rw[if_pos k];exact .inl rfl
  ·exact .inr ⟨cl u,by rw[if_neg (by omega),k1,I7],a0 u k2⟩
 ·simp only;rw[hN c a hc ha];obtain⟨r1,r2⟩:=F.row c a hc ha a5;unfold clT;by_cases k:gx N c a=-1
  ·rw[if_pos k];exact⟨λ_=>(r1 k).2,λh=>absurd rfl h⟩
  ·rw[if_neg k];obtain⟨u,a1,a2,⟨r,b1,b2,b3,b4⟩,a4⟩:=r2 k;refine⟨λh=>by omega,λ_=>⟨⟨r,b1,b2,by omega⟩,λr hr a6 hp=>?_⟩⟩;obtain⟨d1,d2⟩:=a4 r hr a6 hp;exact⟨by rw[a1,I7,d2 cl a3],d1⟩
def loop_copy(H:H9 p):iter (λ(s:A4×A4×Nat)=>I2.s2 p s.1 s.2.1 s.2.2) fuel ([],[],0)=some (p.N,p.O):=by
 have hn:=H.n2;have hi:=H.i2;have ho:=H.ol
 have key:=H4 (step:=λ(s:A4×A4×Nat)=>I2.s2 p s.1 s.2.1 s.2.2) (λs=>s.2.2<=p.N.length/\s.1=p.N.take s.2.2/\s.2.1=p.O.take s.2.2) (λs=>p.N.length-s.2.2) (λr=>r=(p.N,p.O)) (λ⟨y,z,k⟩ ⟨g1,g2,g3⟩=>by
  simp only at g1 g2 g3
  subst g2
  subst g3
  simp only[I2.s2,K5,cS,M7,Q3,F7]
  by_cases h:k<p.N.length
  ·left
   obtain⟨x,y,h1,h2,h3,h4,_⟩:=H.row k h
   refine⟨(p.N.take (k+1),p.O.take (k+1),k+1),?_,⟨h,rfl,rfl⟩,by simp only;omega⟩
   rw[C0,B4 h1,Q1,Q1,B4 h2,Q1,Q1]
   have q1:p.N.take (k+1)=p.N.take k++[x]:=by rw[wZ,h1];rfl
   have q2:p.O.take (k+1)=p.O.take k++[y]:=by rw[wZ,h2];rfl
   rw[q1,q2]
  ·right
   have e1:k=p.N.length:=by omega
   subst e1
   exact⟨_,by rw[B1],by rw[V2,<- ho,V2]⟩) fuel ([],[],0) ⟨D9 _,rfl,rfl⟩ (by have:=E6;simp only;omega)
 obtain⟨r,e1,rfl⟩:=key;exact e1
def zsf(H:H9 p)(hs:s<p.N.length)(ht:t<p.N.length):(Q0 p s t/\I2 p (s:Int) (t:Int)=some (⟨0,0,[],[]⟩,[],false))\/(¬Q0 p s t/\∃Q cl,dT p Q cl/\(∀q,q<p.N.length->cl q=clsOf p s t q)/\I2 p (s:Int) (t:Int)=some (renP Q,(List.range p.N.length).map λq=>numT (ordP Q) (↑(cl q):Int),true)):=by
 have hn:=H.n2;have a3:=H.st;have a2:p.S.toNat<p.N.length:=by omega
 obtain⟨r,e1,hr⟩:=loop_fold H hs ht;unfold I2;rw[loop_copy H,A5];unfold I2.k71;simp only;rw[e1,A5];rcases hr with⟨rfl,hc⟩|⟨N,O,M,cl,rfl,F⟩
 ·exact .inl ⟨hc,by rw[eP]⟩
 ·obtain⟨d1,d2⟩:=F.done H hs ht;obtain⟨N',e2,GN,hN⟩:=loop_s66 F.up (by omega) (by have:=H.i2;omega) F.gn F.rng;have K:=F.quo H GN hN;obtain⟨nums,e3,A⟩:=jG K.ren;refine .inr ⟨d2,_,cl,K,d1,?_⟩;rw[W5];unfold I2.k70;simp only;rw[e2,A5];unfold I2.k69;simp only;have a0:=A.len;simp only at A a0;rw[GN.len]at A a0;rw[show p.S=(p.S.toNat:Int) by omega,of_eq F.up (by omega) a2,A5,I7,e3,A5]
  dsimp only
  rw[H1 ⟨by omega,bN _,by unfold B5;omega⟩,a0,loop_s68 F.up (by omega) K.lt A,A5]
end
end


structure TabOk(t:aJ):Prop where
 sm:SmT t
 n:t.I<=4
 p:t.P.length<=80
 s:t.X.length<=12
 pw:∀x∈t.P,x.length<=80
 sw:∀x∈t.X,x.length<=30
def sR(a b:A4)(ha:SmL a):dL a b=some (decide (a=b)):=by
 have a2:a.length<=2000000:=ha.1;unfold dL;by_cases a0:a.length=b.length
 ·rw[B1];refine iter_all2 a0 (λi x y hx hy=>?_) ?_ (by omega)
  ·simp only[dL.s2];rw[O3 hx,F8,B4 hx,B4 hy,sB x y (ha.2 x (I8 hx)),A5];by_cases h:x=y<;>simp[h]
  ·simp only[dL.s2];rw[bY];rfl
 ·rw[C0];have:a≠b:=λh=>a0 (by rw[h]);simp[this]

def R35_Same_self{p:A8}(h1:SmL p.N)(h2:SmL p.O):lP p p=some true:=by
 unfold lP;rw[C0 rfl,C0 rfl,sR _ _ h1,A5,C0 rfl,sR _ _ h2,A5,G7 rfl,A5]
structure UpF(n:Nat)(tp dp:Nat->Nat)(up:A2):Prop where
 len:up.length=n
 lt:∀q,q<n->tp q<n
 idem:∀q,q<n->tp (tp q)=tp q
 at_:∀q,q<n->∃u:Nat,u<n/\up[q]?=some (u:Int)/\(tp q=q->u=q)/\(tp q≠q->tp u=tp q/\dp u<dp q)
 few:∀q,q<n->dp q+Q4 n tp<=n
def top_eq{n:Nat}{tp dp:Nat->Nat}{up:A2}(U:UpF n tp dp up)(hn:n<=10000000){u:Nat}(hu:u<n):eK up (u:Int)=some (↑(tp u):Int):=by
 unfold eK
 have key:=H4 (step:=λ(s:Int)=>eK.s2 up s) (λs=>∃v:Nat,s=(v:Int)/\v<n/\tp v=tp u) (λs=>dp s.toNat) (λr=>r=(↑(tp u):Int)) (λs ⟨v,e,h1,h2⟩=>by
  subst e
  simp only[eK.s2]
  obtain⟨w,w1,w2,w3,w4⟩:=U.at_ v h1
  rw[D6 (i:=v) rfl w2]
  by_cases g:tp v=v
  ·right
   have:=w3 g
   exact⟨_,by rw[B1],by omega⟩
  ·left
   obtain⟨k1,k2⟩:=w4 g
   have a0:w≠v:=λe=>by rw[e]at k2;omega
   exact⟨(w:Int),by rw[C0,D6 (i:=v) rfl w2],⟨w,rfl,w1,by omega⟩,by simp only[I7];exact k2⟩) fuel (↑u) ⟨u,rfl,hu,rfl⟩ (by have:=E6;have:=U.few u hu;simp only[I7];omega)
 obtain⟨r,e,rfl⟩:=key;rw[e,A5]
def UpF.flat{n:Nat}{tp dp:Nat->Nat}{up:A2}(U:UpF n tp dp up)(hz:∀q,q<n->tp q≠q->dp (tp q)<dp q){i:Nat}(hi:i<n):UpF n tp dp (up.set i (↑(tp i):Int)):=by
 refine⟨by rw[P0];exact U.len,U.lt,U.idem,λq hq=>?_,U.few⟩;by_cases e:q=i
 ·subst e;refine⟨tp q,U.lt q hq,by rw[P9 (by rw[U.len];exact hq)],λh=>h,λh=>⟨U.idem q hq,hz q hq h⟩⟩
 ·rw[O6 (λh=>e h.symm)];exact U.at_ q hq
structure MemF(n:Nat)(tp:Nat->Nat)(mem:A4):Prop where
 len:mem.length=n
 at_:∀c,c<n->tp c=c->∃L:List Nat,mem[c]?=some (L.map λ(q:Nat)=>(q:Int))/\L.Nodup/\∀q,q∈L↔q<n/\tp q=c
def xU{n:Nat}{L:List Nat}(h:L.Nodup)(hL:∀q,q∈L->q<n):L.length<=n:=by
 have h1:=iH h (b:=List.range n) λq hq=>M5.2 (hL q hq)
 rwa [P3]at h1
def yU{p:A8}(H:H9 p){L:List Nat}(hL:∀q,q∈L->q<p.N.length)(hl:L.length<=10000000){a:Nat}(ha:a<p.I.toNat):∃r,fM p (L.map λ(q:Nat)=>(q:Int)) (a:Int)=some r/\((r=-1/\∀q,q∈L->pnx p q a=-1)\/∃i:Nat,r=(i:Int)/\i∈L/\pnx p i a≠-1):=by
 have key:=H4 (step:=λ(s:Nat)=>fM.s2 p (L.map λ(q:Nat)=>(q:Int)) (a:Int) s) (λk=>k<=L.length/\∀j q:Nat,j<k->L[j]?=some q->pnx p q a=-1) (λk=>L.length-k) (λr=>(r=.inl ()/\∀q,q∈L->pnx p q a=-1)\/∃i:Nat,r=.inr (i:Int)/\i∈L/\pnx p i a≠-1) (λk ⟨g1,g2⟩=>by
  simp only[fM.s2,C3]
  by_cases h:k<L.length
  ·have hx:=get_at h
   have hq:=hL _ (I8 hx)
   obtain⟨n1,n2,n3,n4,n5,xr,yr,a3,a4,a2,a5,_,_⟩:=H.at hq ha
   have hm:(L.map λ(q:Nat)=>(q:Int))[k]?=some (↑(L[k]):Int):=by rw[H7,hx];rfl
   rw[C0,B4 hm,D6 (i:=L[k]) rfl a3,D6 (i:=a) rfl a2]
   by_cases t0:pnx p L[k] a=-1
   ·left
    refine⟨k+1,by rw[B1 (λg=>g t0)],⟨h,λj q hj a0=>?_⟩,by omega⟩
    by_cases e:j=k
    ·subst e
     rw[hx]at a0
     injection a0 with a0
     rw[<- a0]
     exact t0
    ·exact g2 j q (by omega) a0
   ·right
    exact⟨_,by rw[C0 t0],.inr ⟨L[k],rfl,I8 hx,t0⟩⟩
  ·right
   refine⟨_,by rw[B1],.inl ⟨rfl,λq hq=>?_⟩⟩
   obtain⟨j,hj⟩:=iP hq
   have:=(F6.1 hj).1
   exact g2 j q (by omega) hj) fuel 0 ⟨D9 _,λj q hj=>absurd hj (N9 _)⟩ (by have:=E6;omega)
 obtain⟨r,e,hr⟩:=key;unfold fM;rw[e,A5];rcases hr with⟨rfl,h⟩|⟨i,rfl,h⟩
 ·exact⟨_,by rw[W5],.inl ⟨rfl,h⟩⟩
 ·exact⟨_,by rw[eP],.inr ⟨i,rfl,h⟩⟩
structure EvIn(p:A8)(Lx Ly:List Nat)(new:List T_A2)(a:Nat):Prop where
 few:new.length<=a
 wk:∀w,w∈new->∃b i j u v:Nat,i∈Lx/\j∈Ly/\pnx p i b=(u:Int)/\pnx p j b=(v:Int)/\w=⟨(u:Int),(v:Int)⟩
 all:∀b,b<a->(∀q,q∈Lx->pnx p q b=-1)\/(∀q,q∈Ly->pnx p q b=-1)\/∃i j,i∈Lx/\j∈Ly/\pnx p i b≠-1/\pnx p j b≠-1/\pot p i b=pot p j b/\(⟨pnx p i b,pnx p j b⟩:T_A2)∈new
def EvQ(p:A8)(Lx Ly:List Nat)(W0:List T_A2)(r:List T_A2⊕((A2×A4×List T_A2)⊕((A2×A4×List T_A2)⊕(A2⊕(A2×Bool))))):Prop :=
 (r=.inr (.inr (.inr (.inr ([],false))))/\∃b i j,i∈Lx/\j∈Ly/\pnx p i b≠-1/\pnx p j b≠-1/\pot p i b≠pot p j b)\/∃new,r=.inl (W0++new)/\EvIn p Lx Ly new p.I.toNat
def loop_ev{p:A8}(H:H9 p){mem:A4}{x y:Nat}{Lx Ly:List Nat}(hx:mem[x]?=some (Lx.map λ(q:Nat)=>(q:Int)))(hy:mem[y]?=some (Ly.map λ(q:Nat)=>(q:Int)))(hLx:∀q,q∈Lx->q<p.N.length)(hLy:∀q,q∈Ly->q<p.N.length)(lx:Lx.length<=10000000)(ly:Ly.length<=10000000){W0:List T_A2}(hW:W0.length<=1000000) :
  ∃r,iter (λ(s:List T_A2×Nat)=>M1.s32 p mem (x:Int) (y:Int) s.1 s.2) fuel (W0,0)=some r/\EvQ p Lx Ly W0 r:=by
 have hi:=H.i2;have b9:=H.i1;refine H4 (step:=λ(s:List T_A2×Nat)=>M1.s32 p mem (x:Int) (y:Int) s.1 s.2) (λs=>s.2<=p.I.toNat/\∃new,s.1=W0++new/\EvIn p Lx Ly new s.2) (λs=>p.I.toNat-s.2) (EvQ p Lx Ly W0) (λ⟨W1,a⟩ ⟨g1,new,g2,J⟩=>?_) fuel (W0,0) ⟨D9 _,[],(bJ _).symm,⟨H0 _,λw hw=>(by cases hw),λb hb=>absurd hb (N9 _)⟩⟩ (by have:=E6;simp only;omega);simp only at g1 g2 J;subst g2;simp only[M1.s32];by_cases h:a<p.I.toNat
 ·have b3:(a:Int)<p.I:=by omega
  obtain⟨i,ei,a6⟩:=yU H hLx lx h;obtain⟨j,ej,a5⟩:=yU H hLy ly h;have b8:=J.few;rw[C0 b3,D6 (i:=x) rfl hx,ei,A5,D6 (i:=y) rfl hy,ej,A5]
  have skip:((∀q,q∈Lx->pnx p q a=-1)\/(∀q,q∈Ly->pnx p q a=-1))->EvIn p Lx Ly new (a+1):=λhh=>⟨by omega,J.wk,λb hb=>by
   by_cases e:b=a
   ·subst e
    exact hh.elim .inl λk=>.inr (.inl k)
   ·exact J.all b (by omega)⟩
  rcases a6 with⟨rfl,a6⟩|⟨i,rfl,a2,a4⟩
  ·left;exact⟨(W0++new,a+1),by rw[C0 rfl,A5,F8,A5,W5,K3],⟨h,new,rfl,skip (.inl a6)⟩,by simp only;omega⟩
  rcases a5 with⟨rfl,a5⟩|⟨j,rfl,a0,a3⟩
  ·left;exact⟨(W0++new,a+1),by rw[B1,G7 rfl,A5,F8,A5,W5,K3],⟨h,new,rfl,skip (.inr a5)⟩,by simp only;omega⟩
  obtain⟨n1,n2,n3,n4,n5,xi,yi,b5,b7,a9,b2,_,_⟩:=H.at (hLx _ a2) h;obtain⟨m1,m2,m3,m4,m5,xj,yj,b4,b6,a7,a8,_,_⟩:=H.at (hLy _ a0) h;rw[B1,J0 (by omega),A5,G0,D6 (i:=i) rfl b7,B4 b2,D6 (i:=j) rfl b6,B4 a8];by_cases t0:pot p i a=pot p j a
  ·left;refine⟨(W0++(new++[⟨pnx p i a,pnx p j a⟩]),a+1),by rw[B1 (λg=>g t0),D6 (i:=i) rfl b5,B4 a9,D6 (i:=j) rfl b4,B4 a7,H1 (by unfold B5;rw[J4];omega),A5,W5,K3,cU],⟨h,_,rfl,⟨by rw[J4,Q3];omega,λw hw=>?_,λb hb=>?_⟩⟩,by simp only;omega⟩
   ·rcases J2.1 hw with hw|hw
    ·exact J.wk w hw
    ·rw[J3.1 hw];exact⟨a,i,j,(pnx p i a).toNat,(pnx p j a).toNat,a2,a0,by omega,by omega,by rw[show((↑(pnx p i a).toNat:Int))=pnx p i a by omega,show((↑(pnx p j a).toNat:Int))=pnx p j a by omega]⟩
   ·by_cases e:b=a
    ·subst e;exact .inr (.inr ⟨i,j,a2,a0,a4,a3,t0,M0 _ (J3.2 rfl)⟩)
    ·rcases J.all b (by omega) with k|k|⟨i',j',k1,k2,k3,k4,k5,k6⟩
     ·exact .inl k
     ·exact .inr (.inl k)
     ·exact .inr (.inr ⟨i',j',k1,k2,k3,k4,k5,L6 _ k6⟩)
  ·right;exact⟨_,by rw[C0 t0,A5,eP],.inl ⟨rfl,a,i,j,a2,a0,a4,a3,t0⟩⟩
 ·right;have e1:a=p.I.toNat:=by omega
  subst e1;exact⟨_,by rw[B1],.inr ⟨new,rfl,J⟩⟩
section
structure EvF(p:A8)(s t:Nat)(tp dp:Nat->Nat)(up:A2)(mem:A4)(W:List T_A2):Prop where
 up:UpF p.N.length tp dp up
 z:∀q,q<p.N.length->tp q=q->dp q=0
 mem:MemF p.N.length tp mem
 sound:∀q,q<p.N.length->Cong p s t q (tp q)
 wk:∀w,w∈W->∃u v:Nat,w=⟨(u:Int),(v:Int)⟩/\u<p.N.length/\v<p.N.length/\Cong p s t u v
 st:∀f,Lab p.N.length tp W f->f s=f t
 cong:∀q r a,q<p.N.length->r<p.N.length->tp q=tp r->pnx p q a≠-1->pnx p r a≠-1->pot p q a=pot p r a/\∀f,Lab p.N.length tp W f->f (pnx p q a).toNat=f (pnx p r a).toNat
 few:65*Q4 p.N.length tp+W.length<=65*p.N.length+1
section
variable {p:A8}{s t:Nat}
def EvF.skip{tp dp:Nat->Nat}{up:A2}{mem:A4}{W:List T_A2}{u v:Nat}(F:EvF p s t tp dp up mem (⟨(u:Int),(v:Int)⟩::W))(hu:u<p.N.length)(hv:v<p.N.length)(g:tp u=tp v):EvF p s t tp dp up mem W:=by
 have a0:∀f,Lab p.N.length tp W f->Lab p.N.length tp (⟨(u:Int),(v:Int)⟩::W) f:=λf hf=>⟨hf.1,λu' v' h=>by
  rcases L8.1 h with h|h
  ·injection h with h3 h4
   have q1:u'=u:=by omega
   have q2:v'=v:=by omega
   rw[q1,q2]
   exact hf.1 u v hu hv g
  ·exact hf.2 u' v' h⟩
 have a2:=F.few;rw[G9]at a2;exact⟨F.up,F.z,F.mem,F.sound,λw hw=>F.wk w (O7 _ hw),λf hf=>F.st f (a0 f hf),λq r a hq hr e h1 h2=>⟨(F.cong q r a hq hr e h1 h2).1,λf hf=>(F.cong q r a hq hr e h1 h2).2 f (a0 f hf)⟩,by omega⟩
def EvF.join(H:H9 p){tp dp:Nat->Nat}{up:A2}{mem:A4}{W new:List T_A2}{u v:Nat}(F:EvF p s t tp dp up mem (⟨(u:Int),(v:Int)⟩::W))(hu:u<p.N.length)(hv:v<p.N.length)(huv:Cong p s t u v)(hne:tp u≠tp v){Lx Ly:List Nat}
  (lx:Lx.Nodup) (ly:Ly.Nodup) (mx:∀q,q∈Lx↔q<p.N.length/\tp q=tp u) (my:∀q,q∈Ly↔q<p.N.length/\tp q=tp v) (J:EvIn p Lx Ly new p.I.toNat) :
  ∃tp' dp',EvF p s t tp' dp' (up.set (tp v) (↑(tp u):Int)) (mem.set (tp u) ((Lx++Ly).map λ(q:Nat)=>(q:Int))) (W++new)/\65*Q4 p.N.length tp'+(W++new).length<65*Q4 p.N.length tp+(W.length+1):=by
 have hi:=H.i2;have a7:=F.few;have hJ:=J.few;rw[G9]at a7;have hx:=F.up.lt u hu;have hy:=F.up.lt v hv;have ix:=F.up.idem u hu;have iy:=F.up.idem v hv;have a9:Cong p s t (tp u) (tp v):=(F.sound u hu).symm.trans (huv.trans (F.sound v hv));have zx:=F.z _ hx ix;generalize b6:tp u=x at *;generalize b5:tp v=y at *;obtain⟨tp',a6⟩:∃tp':Nat->Nat,tp'=λq=>if tp q=y then x else tp q:=⟨_,rfl⟩
 obtain⟨dp',a5⟩:∃dp':Nat->Nat,dp'=λq=>if tp q=y then dp q+1 else dp q:=⟨_,rfl⟩
 have t1:∀q,tp q=y->tp' q=x:=λq h=>by rw[a6];simp only;rw[if_pos h]
 have t2:∀q,tp q≠y->tp' q=tp q:=λq h=>by rw[a6];simp only;rw[if_neg h]
 have d1:∀q,tp q=y->dp' q=dp q+1:=λq h=>by rw[a5];simp only;rw[if_pos h]
 have d2:∀q,tp q≠y->dp' q=dp q:=λq h=>by rw[a5];simp only;rw[if_neg h]
 clear a6 a5
 have keep:∀q r,tp q=tp r->tp' q=tp' r:=λq r h=>by
  by_cases g:tp q=y
  ·rw[t1 q g,t1 r (by omega)]
  ·rw[t2 q g,t2 r (by omega),h]
 have a4:∀q,tp' q=q->tp q=q/\q≠y:=λq h=>by
  by_cases g:tp q=y
  ·rw[t1 q g]at h;subst h;omega
  ·rw[t2 q g]at h;exact⟨h,by omega⟩
 have b4:Q4 p.N.length tp'<Q4 p.N.length tp:=countP_lt (λq _ h=>G7 (a4 q (of_decide_eq_true h)).1) hy (G7 iy) (J0 λh=>(a4 y h).2 rfl);have b3:tp' x=x:=by rw[t2 x (by omega),ix]
 have b7:UpF p.N.length tp' dp' (up.set y (x:Int)):=by
  refine⟨by rw[P0];exact F.up.len,λq hq=>?_,λq hq=>?_,λq hq=>?_,λq hq=>?_⟩
  ·by_cases g:tp q=y
   ·rw[t1 q g];exact hx
   ·rw[t2 q g];exact F.up.lt q hq
  ·by_cases g:tp q=y
   ·rw[t1 q g];exact b3
   ·rw[t2 q g,t2 (tp q) (by rw[F.up.idem q hq];exact g)];exact F.up.idem q hq
  ·by_cases e:q=y
   ·rw[e];refine⟨x,hx,by rw[P9 (by rw[F.up.len];exact hy)],λh=>absurd rfl (a4 y h).2,λh=>⟨by rw[b3,t1 y iy],?_⟩⟩;rw[d1 y iy,d2 x (by omega)];omega
   ·obtain⟨w,w1,w2,w3,w4⟩:=F.up.at_ q hq;refine⟨w,w1,by rw[O6 (λh=>e h.symm)];exact w2,λh=>w3 (a4 q h).1,λh=>?_⟩;have g:tp q≠q:=λg=>h (by rw[t2 q (by omega)];exact g);obtain⟨k1,k2⟩:=w4 g;refine⟨keep _ _ k1,?_⟩;by_cases g2:tp q=y
    ·rw[d1 q g2,d1 w (by omega)];omega
    ·rw[d2 q g2,d2 w (by omega)];omega
  ·have:=F.up.few q hq;by_cases g:tp q=y
   ·rw[d1 q g];omega
   ·rw[d2 q g];omega
 have a0:∀f,Lab p.N.length tp' (W++new) f->Lab p.N.length tp (⟨(u:Int),(v:Int)⟩::W) f:=λf ⟨f1,f2⟩=>⟨λq r hq hr e=>f1 q r hq hr (keep _ _ e),λu' v' h=>by
  rcases L8.1 h with h|h
  ·injection h with h3 h4
   have e1:u'=u:=by omega
   have e2:v'=v:=by omega
   rw[e1,e2]
   exact f1 _ _ hu hv (by rw[t1 v b5,t2 u (by omega),b6])
  ·exact f2 u' v' (L6 _ h)⟩
 have a3:∀q r a,q<p.N.length->r<p.N.length->tp q=y->tp r=x->pnx p q a≠-1->pnx p r a≠-1->pot p q a=pot p r a/\∀f,Lab p.N.length tp' (W++new) f->f (pnx p q a).toNat=f (pnx p r a).toNat:=λq r a hq hr eq er h1 h2=>by
  have ha:a<p.I.toNat:=X9 λg=>by
   have a8:=H.row q hq;obtain⟨xr,yr,k1,k2,k3,k4,_⟩:=a8;apply h1;unfold pnx;rw[k1,H5,M2 (by omega),tD]
  rcases J.all a ha with k|k|⟨i,j,k1,k2,k3,k4,k5,k6⟩
  ·exact absurd (k r ((mx r).2 ⟨hr,er⟩)) h2
  ·exact absurd (k q ((my q).2 ⟨hq,eq⟩)) h1
  ·obtain⟨i1,i2⟩:=(mx i).1 k1;obtain⟨j1,j2⟩:=(my j).1 k2;obtain⟨a1,a2⟩:=F.cong r i a hr i1 (er.trans i2.symm) h2 k3;obtain⟨b1,b2⟩:=F.cong q j a hq j1 (eq.trans j2.symm) h1 k4;refine⟨by rw[b1,<- k5,a1],λf hf=>?_⟩;have ni:=H.at i1 ha;have nj:=H.at j1 ha;rw[b2 f (a0 f hf),a2 f (a0 f hf)];refine(hf.2 _ _ (M0 _ ?_)).symm;rw[show((↑(pnx p i a).toNat:Int))=pnx p i a by omega,show((↑(pnx p j a).toNat:Int))=pnx p j a by omega];exact k6
 refine⟨tp',dp',⟨b7,λq hq h=>?_,⟨by rw[P0];exact F.mem.len,λc hc h=>?_⟩,λq hq=>?_,λw hw=>?_,λf hf=>F.st f (a0 f hf),λq r a hq hr e h1 h2=>?_,by rw[J4];omega⟩,by rw[J4];omega⟩
 ·obtain⟨g1,g2⟩:=a4 q h;rw[d2 q (by omega)];exact F.z q hq g1
 ·obtain⟨g1,g2⟩:=a4 c h;by_cases e:c=x
  ·subst e;refine⟨Lx++Ly,by rw[P9 (by rw[F.mem.len];exact hc)],?_,λq=>?_⟩
   ·refine V5.2 ⟨lx,ly,λa ha b hb e=>?_⟩;subst e;exact hne (((mx a).1 ha).2.symm.trans ((my a).1 hb).2)
   ·rw[J2,mx,my];constructor
    ·rintro (⟨k1,k2⟩|⟨k1,k2⟩)
     ·exact⟨k1,by rw[t2 q (by omega),k2]⟩
     ·exact⟨k1,t1 q k2⟩
    ·rintro⟨k1,k2⟩;by_cases g:tp q=y
     ·exact .inr ⟨k1,g⟩
     ·exact .inl ⟨k1,by rw[<- t2 q g];exact k2⟩
  ·obtain⟨L,l1,l2,l3⟩:=F.mem.at_ c hc g1;refine⟨L,by rw[O6 (λh=>e h.symm)];exact l1,l2,λq=>?_⟩;rw[l3];refine and_congr_right λ_=>⟨λk=>by rw[t2 q (by omega),k],λk=>?_⟩;by_cases g:tp q=y
   ·rw[t1 q g]at k;exact absurd k.symm e
   ·rw[<- t2 q g];exact k
 ·by_cases g:tp q=y
  ·rw[t1 q g];have h1:=F.sound q hq;rw[g]at h1;exact h1.trans a9.symm
  ·rw[t2 q g];exact F.sound q hq
 ·rcases J2.1 hw with hw|hw
  ·exact F.wk w (O7 _ hw)
  ·obtain⟨b,i,j,u',v',h1,h2,h3,h4,h5⟩:=J.wk w hw;obtain⟨i1,i2⟩:=(mx i).1 h1;obtain⟨j1,j2⟩:=(my j).1 h2;refine⟨u',v',h5,(bA H h3).2.2,(bA H h4).2.2,.step b u' v' ?_ h3 h4⟩;have k1:=F.sound i i1;have k2:=F.sound j j1;rw[i2]at k1;rw[j2]at k2;exact k1.trans (a9.trans k2.symm)
 ·by_cases g1:tp q=y<;>by_cases g2:tp r=y
  ·obtain⟨k1,k2⟩:=F.cong q r a hq hr (by omega) h1 h2;exact⟨k1,λf hf=>k2 f (a0 f hf)⟩
  ·rw[t1 q g1,t2 r g2]at e;exact a3 q r a hq hr g1 e.symm h1 h2
  ·rw[t2 q g1,t1 r g2]at e;obtain⟨k1,k2⟩:=a3 r q a hr hq g2 e h2 h1;exact⟨k1.symm,λf hf=>(k2 f hf).symm⟩
  ·rw[t2 q g1,t2 r g2]at e;obtain⟨k1,k2⟩:=F.cong q r a hq hr e h1 h2;exact⟨k1,λf hf=>k2 f (a0 f hf)⟩
def ev_step(H:H9 p){tp dp:Nat->Nat}{up:A2}{mem:A4}{W:List T_A2}(F:EvF p s t tp dp up mem W) :
  (W=[]/\M1.s34 p up mem W=some (.inr (.inl up)))\/(M1.s34 p up mem W=some (.inr (.inr ([],false)))/\Q0 p s t)\/∃up' mem' W' tp' dp',M1.s34 p up mem W=some (.inl (up',mem',W'))/\EvF p s t tp' dp' up' mem' W'/\65*Q4 p.N.length tp'+W'.length<65*Q4 p.N.length tp+W.length:=by
 have hn:=H.n2;have hi:=H.i2;cases W with
 |nil=>exact .inl ⟨rfl,by unfold M1.s34;rw[B1 (by simp)]⟩
 |cons w W =>
  right;obtain⟨u,v,rfl,hu,hv,a3⟩:=F.wk w U8;have a0:=F.few;have a4:=lJ p.N.length tp;rw[G9]at a0;have e0:=top_eq F.up (by omega) hu;have e1:=top_eq F.up (by omega) hv;by_cases g:tp u=tp v
  ·right;refine⟨up,mem,W,tp,dp,?_,F.skip hu hv g,by rw[G9];omega⟩;unfold M1.s34;rw[C0 (by rw[G9];omega),B4 (x:=⟨(u:Int),(v:Int)⟩) rfl,e0,A5,B4 (x:=⟨(u:Int),(v:Int)⟩) rfl,e1,A5,C0,A5,W5];unfold M1.k33;rw[H1 (by simp)];rfl
  ·have hx:=F.up.lt u hu;have hy:=F.up.lt v hv;obtain⟨Lx,x1,x2,x3⟩:=F.mem.at_ _ hx (F.up.idem u hu);obtain⟨Ly,y1,y2,y3⟩:=F.mem.at_ _ hy (F.up.idem v hv);have lx:=xU x2 λq hq=>((x3 q).1 hq).1;have ly:=xU y2 λq hq=>((y3 q).1 hq).1;obtain⟨r,e,hr⟩:=loop_ev H x1 y1 (λq hq=>((x3 q).1 hq).1) (λq hq=>((y3 q).1 hq).1) (by omega) (by omega) (W0:=⟨(u:Int),(v:Int)⟩::W) (by rw[G9];omega)
   have es:M1.s34 p up mem (⟨(u:Int),(v:Int)⟩::W)=((Sum.elim (λ(a7:List T_A2)=>idx up (↑(tp v):Int) λa8=>idx mem (↑(tp u):Int) λa2=>idx mem (↑(tp v):Int) λa6=>chk (B5 (List.length a2+List.length a6) 8) (idx mem (↑(tp u):Int) λb2=>some (.inl ((List.set up (↑(tp v):Int).toNat (↑(tp u):Int)),(List.set mem (Int.toNat (↑(tp u):Int)) (a2++a6)),a7)))) some r):Option ((A2×A4×List T_A2)⊕((A2×A4×List T_A2)⊕(A2⊕(A2×Bool))))).bind (Sum.elim (λ(s:A2×A4×List T_A2)=>M1.k33 s.1 s.2.1 s.2.2) some):=by
    unfold M1.s34;rw[C0 (by rw[G9];omega),B4 (x:=⟨(u:Int),(v:Int)⟩) rfl,e0,A5,B4 (x:=⟨(u:Int),(v:Int)⟩) rfl,e1,A5,B1,e,A5]
   rw[es];rcases hr with⟨rfl,b,i,j,i1,j1,i2,j2,h⟩|⟨new,rfl,J⟩
   ·left;refine⟨by rw[eP,A5,eP],i,j,b,?_,i2,j2,h⟩;obtain⟨i3,i4⟩:=(x3 i).1 i1;obtain⟨j3,j4⟩:=(y3 j).1 j1;have k1:=F.sound i i3;have k2:=F.sound j j3;rw[i4]at k1;rw[j4]at k2;exact k1.trans ((F.sound u hu).symm.trans (a3.trans ((F.sound v hv).trans k2.symm)))
   ·right;obtain⟨tp',dp',F',hd⟩:=F.join H hu hv a3 g x2 y2 x3 y3 J;refine⟨_,_,_,tp',dp',?_,F',by rw[G9];exact hd⟩;rw[W5,D6 (i:=tp v) rfl (get_at (l:=up) (by rw[F.up.len];exact hy)),D6 (i:=tp u) rfl x1,D6 (i:=tp v) rfl y1,H1 (by unfold B5;rw[C3,C3];omega),D6 (i:=tp u) rfl x1,A5,W5];unfold M1.k33;rw[H1 (by simp),L5,I7,I7];rfl
end
end
section
section
variable {p:A8}{s t:Nat}
def repsU(n:Nat)(up:A2):Nat:=(List.range n).countP λ(q:Nat)=>decide (up[q]?=some (q:Int))
def UpF.reps{n:Nat}{tp dp:Nat->Nat}{up:A2}(U:UpF n tp dp up):repsU n up=Q4 n tp:=by
 unfold repsU Q4;refine xL λq hq=>?_;have hq:=M5.1 hq;obtain⟨w,w1,w2,w3,w4⟩:=U.at_ q hq;by_cases h:tp q=q
 ·rw[w2,G7 h,G7 (by rw[w3 h])]
 ·rw[w2,J0 h,J0 (λg=>by
   injection g with g
   obtain⟨_,k2⟩:=w4 h
   rw[show w=q by omega]at k2
   omega)]
def loop_evf(H:H9 p){tp dp:Nat->Nat}{up:A2}{mem:A4}{W:List T_A2}(F:EvF p s t tp dp up mem W) :
  ∃r,iter (λ(q:A2×A4×List T_A2)=>M1.s34 p q.1 q.2.1 q.2.2) fuel (up,mem,W)=some r /\
   ((r=.inr ([],false)/\Q0 p s t)\/∃up' mem' tp' dp',r=.inl up'/\EvF p s t tp' dp' up' mem' []):=by
 have hn:=H.n2;refine H4 (step:=λ(q:A2×A4×List T_A2)=>M1.s34 p q.1 q.2.1 q.2.2) (λq=>∃tp dp,EvF p s t tp dp q.1 q.2.1 q.2.2) (λq=>65*repsU p.N.length q.1+q.2.2.length) (λr=>(r=.inr ([],false)/\Q0 p s t)\/∃up' mem' tp' dp',r=.inl up'/\EvF p s t tp' dp' up' mem' []) (λ⟨up,mem,W⟩ ⟨tp,dp,F⟩=>?_) fuel _ ⟨tp,dp,F⟩ ?_
 ·simp only at F;simp only;rcases ev_step H F with⟨e1,e2⟩|⟨e1,e2⟩|⟨up',mem',W',tp',dp',e1,F',e2⟩
  ·rw[e1]at F;exact .inr ⟨_,e2,.inr ⟨up,mem,tp,dp,rfl,F⟩⟩
  ·exact .inr ⟨_,e1,.inl ⟨rfl,e2⟩⟩
  ·exact .inl ⟨(up',mem',W'),e1,⟨tp',dp',F'⟩,by simp only;rw[F.up.reps,F'.up.reps];exact e2⟩
 ·have h1:=F.up.reps;have h2:=F.few;have:=E6;simp only;omega
def EvF.done(H:H9 p)(hs:s<p.N.length)(ht:t<p.N.length){tp dp:Nat->Nat}{up:A2}{mem:A4}(F:EvF p s t tp dp up mem []):(∀q r,q<p.N.length->r<p.N.length->(tp q=tp r↔Cong p s t q r))/\¬Q0 p s t:=by
 have a2:Lab p.N.length tp [] tp:=⟨λ_ _ _ _ h=>h,λ_ _ h=>by cases h⟩
 have a0:∀{q r:Nat},Cong p s t q r->q=r\/(q<p.N.length/\r<p.N.length/\tp q=tp r):=λh=>cong_into H hs ht (F.st tp a2) (λq r a u v hq hr e hu hv=>by
  have:=(F.cong q r a hq hr e (by rw[hu];omega) (by rw[hv];omega)).2 tp a2
  rwa [hu,hv,I7,I7]at this) h
 refine⟨λq r hq hr=>⟨λh=>?_,λh=>?_⟩,λ⟨q,r,a,h,h1,h2,h3⟩=>?_⟩
 ·have k1:=F.sound q hq;have k2:=F.sound r hr;rw[h]at k1;exact k1.trans k2.symm
 ·rcases a0 h with rfl|⟨_,_,k⟩
  ·rfl
  ·exact k
 ·rcases a0 h with rfl|⟨hq,hr,k⟩
  ·exact h3 rfl
  ·exact h3 (F.cong q r a hq hr k h1 h2).1
def loop_flat(H:H9 p){tp dp:Nat->Nat}{up:A2}(U:UpF p.N.length tp dp up)(hz:∀q,q<p.N.length->tp q≠q->dp (tp q)<dp q):iter (λ(s:A2×Nat)=>M1.s36 up s.1 s.2) fuel (up,0)=some ((List.range p.N.length).map λ(q:Nat)=>(↑(tp q):Int)):=by
 have hn:=H.n2;have hl:=U.len
 have key:=H4 (step:=λ(s:A2×Nat)=>M1.s36 up s.1 s.2) (λs=>s.2<=p.N.length/\UpF p.N.length tp dp s.1/\Wrt (λq=>(↑(tp q):Int)) up s.2 s.1) (λs=>p.N.length-s.2) (λr=>r=(List.range p.N.length).map λ(q:Nat)=>(↑(tp q):Int)) (λ⟨y,q⟩ ⟨g1,g2,g3⟩=>by
  simp only at g1 g2 g3
  simp only[M1.s36]
  have a0:=g2.len
  by_cases h:q<p.N.length
  ·left
   refine⟨(y.set q (↑(tp q):Int),q+1),?_,⟨h,g2.flat hz h,g3.step (by omega) rfl⟩,by simp only;omega⟩
   rw[C0,top_eq g2 (by omega) h,A5,B4 (get_at (l:=y) (i:=q) (by omega))]
  ·right
   have e1:q=p.N.length:=by omega
   subst e1
   refine⟨_,by rw[B1],?_⟩
   rw[g3.done (by omega),hl]) fuel (up,0) ⟨D9 _,U,Wrt.zero _ _⟩ (by have:=E6;simp only;omega)
 obtain⟨r,e1,rfl⟩:=key;exact e1
def loop_start(H:H9 p):iter (λ(s:A2×A4×Nat)=>M1.s2 p s.1 s.2.1 s.2.2) fuel ((List.replicate p.N.length (0:Int)),(List.replicate p.N.length ([]:A2)),0)=some ((List.range p.N.length).map (λ(q:Nat)=>(q:Int)),(List.range p.N.length).map λ(q:Nat)=>[(q:Int)]):=by
 have hn:=H.n2
 have key:=H4 (step:=λ(s:A2×A4×Nat)=>M1.s2 p s.1 s.2.1 s.2.2) (λs=>s.2.2<=p.N.length/\s.1.length=p.N.length/\s.2.1.length=p.N.length/\(∀b,b<s.2.2->s.1[b]?=some (b:Int)/\s.2.1[b]?=some [(b:Int)])) (λs=>p.N.length-s.2.2) (λr=>r=((List.range p.N.length).map (λ(q:Nat)=>(q:Int)),(List.range p.N.length).map λ(q:Nat)=>[(q:Int)])) (λ⟨y,z,q⟩ ⟨g1,g2,g3,g4⟩=>by
  simp only at g1 g2 g3 g4
  simp only[M1.s2,J6]
  by_cases h:q<p.N.length
  ·left
   refine⟨(y.set q (q:Int),z.set q [(q:Int)],q+1),?_,⟨h,by rw[P0];exact g2,by rw[P0];exact g3,λb hb=>?_⟩,by simp only;omega⟩
   ·rw[C0,B4 (get_at (l:=y) (i:=q) (by omega)),B4 (get_at (l:=z) (i:=q) (by omega)),K3]
   ·simp only
    by_cases e:b=q
    ·subst e
     exact⟨P9 (by omega),P9 (by omega)⟩
    ·rw[O6 (λh=>e h.symm),O6 (λh=>e h.symm)]
     exact g4 b (cW (Nat.le_of_lt_succ hb) e)
  ·right
   have e1:q=p.N.length:=by omega
   subst e1
   refine⟨_,by rw[B1],?_⟩
   refine Prod.ext (aC λb=>?_) (aC λb=>?_)
   ·simp only
    by_cases hb:b<p.N.length
    ·rw[(g4 b hb).1,H7,Q6 hb];rfl
    ·rw[M2 (by omega),M2 (by rw[C3,P3];omega)]
   ·simp only
    by_cases hb:b<p.N.length
    ·rw[(g4 b hb).2,H7,Q6 hb];rfl
    ·rw[M2 (by omega),M2 (by rw[C3,P3];omega)]) fuel ((List.replicate p.N.length (0:Int)),(List.replicate p.N.length ([]:A2)),0) ⟨D9 _,J6 ..,J6 ..,λb hb=>absurd hb (N9 _)⟩ (by have:=E6;simp only;omega)
 obtain⟨r,e1,rfl⟩:=key;exact e1
def ev_fold(H:H9 p)(hs:s<p.N.length)(ht:t<p.N.length):(Q0 p s t/\M1 p (s:Int) (t:Int)=some ([],false))\/(¬Q0 p s t/\∃tp:Nat->Nat,M1 p (s:Int) (t:Int)=some ((List.range p.N.length).map (λ(q:Nat)=>(↑(tp q):Int)),true)/\(∀q,q<p.N.length->tp q<p.N.length)/\∀q r,q<p.N.length->r<p.N.length->(tp q=tp r↔Cong p s t q r)):=by
 have hn:=H.n2
 have F0:EvF p s t (λq=>q) (λ_=>0) ((List.range p.N.length).map λ(q:Nat)=>(q:Int)) ((List.range p.N.length).map λ(q:Nat)=>[(q:Int)]) [⟨(s:Int),(t:Int)⟩]:=by
  refine⟨⟨by rw[C3,P3],λq hq=>hq,λq _=>rfl,λq hq=>⟨q,hq,by rw[H7,Q6 hq];rfl,λ_=>rfl,λh=>absurd rfl h⟩,λq hq=>?_⟩,λq _ _=>rfl,⟨by rw[C3,P3],λc hc _=>⟨[c],by rw[H7,Q6 hc];rfl,by simp,λq=>⟨λh=>?_,λh=>J3.2 h.2⟩⟩⟩,λq _=>.refl q,λw hw=>⟨s,t,J3.1 hw,hs,ht,.base⟩,λf hf=>hf.2 s t (J3.2 rfl),λq r a hq hr e h1 h2=>?_,?_⟩
  ·have:=lJ p.N.length λq=>q;omega
  ·rw[J3.1 h];exact⟨hc,rfl⟩
  ·have e:q=r:=e;subst e;exact⟨rfl,λf _=>rfl⟩
  ·have:=lJ p.N.length λq=>q;rw[Q3];omega
 obtain⟨r,e1,hr⟩:=loop_evf H F0;unfold M1;rw[H1 ⟨by omega,by omega,by unfold B5;omega⟩,H1 ⟨by omega,by omega,by unfold B5;omega⟩,loop_start H,A5];unfold M1.k37;simp only;rw[e1,A5];rcases hr with⟨rfl,hc⟩|⟨up,mem,tp,dp,rfl,F⟩
 ·exact .inl ⟨hc,by rw[eP]⟩
 ·obtain⟨d1,d2⟩:=F.done H hs ht;refine .inr ⟨d2,tp,?_,F.up.lt,d1⟩;rw[W5,loop_flat H F.up (λq hq h=>?_),A5];obtain⟨w,w1,w2,w3,w4⟩:=F.up.at_ q hq;have:=(w4 h).2;rw[F.z _ (F.up.lt q hq) (F.up.idem q hq)];omega
end
end
def sumN:Nat->(Nat->Nat)->Nat
 |0,_=>0
 |n+1,f=>sumN n f+f n
def kG{f g:Nat->Nat}:∀{n:Nat},(∀i,i<n->f i=g i)->sumN n f=sumN n g
 |0,_=>rfl
 |n+1,h=>by unfold sumN;rw[kG λi hi=>h i (by omega),h n (by omega)]
def sumN_add(f g:Nat->Nat):∀n,sumN n (λi=>f i+g i)=sumN n f+sumN n g
 |0=>rfl
 |n+1=>by
  have h1:sumN (n+1) (λi=>f i+g i)=sumN n (λi=>f i+g i)+(f n+g n):=rfl;have h2:sumN (n+1) f=sumN n f+f n:=rfl;have h3:sumN (n+1) g=sumN n g+g n:=rfl;rw[h1,h2,h3,sumN_add f g n];omega
def sumN_zero:∀n,sumN n (λ_=>0)=0
 |0=>rfl
 |n+1=>by
  have h1:sumN (n+1) (λ_=>0)=sumN n (λ_=>0)+0:=rfl;rw[h1,sumN_zero n]
def rG(f:Nat->Nat->Nat)(m:Nat):∀n,sumN n (λi=>sumN m (f i))=sumN m λj=>sumN n λi=>f i j
 |0=>(sumN_zero m).symm
 |n+1=>by
  have h1:sumN (n+1) (λi=>sumN m (f i))=sumN n (λi=>sumN m (f i))+sumN m (f n):=rfl;rw[h1,rG f m n,<- sumN_add];rfl
def iC{f:Nat->Nat}{k:Nat}:∀{n:Nat},(∀i,i<n->f i<=k)->sumN n f<=n*k
 |0,_=>by unfold sumN;omega
 |n+1,h=>by
  have:=iC (n:=n) λi hi=>h i (by omega);have:=h n (by omega);unfold sumN;rw[eO];omega
def sumN_one{c v:Nat}:∀{n:Nat},sumN n (λi=>if c=i then v else 0)=if c<n then v else 0
 |0=>by unfold sumN;rw[if_neg (by omega)]
 |n+1=>by
  have h1:sumN (n+1) (λi=>if c=i then v else 0)=sumN n (λi=>if c=i then v else 0)+if c=n then v else 0:=rfl
  rw[h1,sumN_one];by_cases h:c=n
  ·subst h;rw[if_neg (by omega),if_pos rfl,if_pos (by omega)];omega
  ·rw[if_neg h];by_cases h2:c<n
   ·rw[if_pos h2,if_pos (by omega)];omega
   ·rw[if_neg h2,if_neg (by omega)]
def conf(p:A8)(tp:Nat->Nat)(q a:Nat):Nat:=if pnx p q a≠-1/\(List.range q).any (λq'=>decide (tp q'=tp q)&&decide (pnx p q' a≠-1))=true then 1 else 0
def lH{p:A8}{tp:Nat->Nat}{q c a:Nat}:(List.range q).any (λq'=>decide (tp q'=c)&&decide (pnx p q' a≠-1))=true↔∃q',q'<q/\tp q'=c/\pnx p q' a≠-1:=by
 rw[pX];constructor
 ·rintro⟨x,h1,h2⟩;rw[O8]at h2;exact⟨x,M5.1 h1,of_decide_eq_true h2.1,of_decide_eq_true h2.2⟩
 ·rintro⟨x,h1,h2,h3⟩;exact⟨x,M5.2 h1,by rw[G7 h2,G7 h3];rfl⟩
def conf_le(p:A8)(tp:Nat->Nat)(q a:Nat):conf p tp q a<=1:=by unfold conf;split<;>omega
def scP(p:A8)(tp:Nat->Nat):Nat:=sumN p.N.length λq=>sumN p.I.toNat λa=>conf p tp q a
def scP_congr{p:A8}{tp cl:Nat->Nat}(h:∀q r,q<p.N.length->r<p.N.length->(tp q=tp r↔cl q=cl r)):scP p tp=scP p cl:=by
 refine kG λq hq=>kG λa _=>?_;unfold conf
 have:(pnx p q a≠-1/\(List.range q).any (λq'=>decide (tp q'=tp q)&&decide (pnx p q' a≠-1))=true)↔(pnx p q a≠-1/\(List.range q).any (λq'=>decide (cl q'=cl q)&&decide (pnx p q' a≠-1))=true):=by
  rw[lH,lH];refine and_congr_right λ_=>⟨λ⟨x,h1,h2,h3⟩=>⟨x,h1,(h x q (by omega) hq).1 h2,h3⟩,λ⟨x,h1,h2,h3⟩=>⟨x,h1,(h x q (by omega) hq).2 h2,h3⟩⟩
 by_cases g:pnx p q a≠-1/\(List.range q).any (λq'=>decide (tp q'=tp q)&&decide (pnx p q' a≠-1))=true
 ·rw[if_pos g,if_pos (this.1 g)]
 ·rw[if_neg g,if_neg λk=>g (this.2 k)]
def cntK(p:A8)(cl:Nat->Nat)(c a n:Nat):Nat:=sumN n λq=>if cl q=c/\pnx p q a≠-1 then 1 else 0
def cntK_pos{p:A8}{cl:Nat->Nat}{c a:Nat}:∀{n:Nat},0<cntK p cl c a n↔∃q,q<n/\cl q=c/\pnx p q a≠-1
 |0=>⟨λh=>by unfold cntK sumN at h;omega,λ⟨q,h,_⟩=>by omega⟩
 |n+1=>by
  have ih:=cntK_pos (p:=p) (cl:=cl) (c:=c) (a:=a) (n:=n);have e:cntK p cl c a (n+1)=cntK p cl c a n+(if cl n=c/\pnx p n a≠-1 then 1 else 0):=rfl;rw[e];by_cases g:cl n=c/\pnx p n a≠-1
  ·rw[if_pos g];exact⟨λ_=>⟨n,by omega,g⟩,λ_=>by omega⟩
  ·rw[if_neg g,Y0,ih];refine⟨λ⟨q,h1,h2⟩=>⟨q,by omega,h2⟩,λ⟨q,h1,h2⟩=>⟨q,cW (by omega) λe=>g (by rw[<- e];exact h2),h2⟩⟩
def cntK_pred{p:A8}{cl:Nat->Nat}{c a:Nat}:∀{n:Nat},cntK p cl c a n-1=sumN n λq=>if cl q=c then conf p cl q a else 0
 |0=>rfl
 |n+1=>by
  have ih:=cntK_pred (p:=p) (cl:=cl) (c:=c) (a:=a) (n:=n);have e:cntK p cl c a (n+1)=cntK p cl c a n+(if cl n=c/\pnx p n a≠-1 then 1 else 0):=rfl;have e2:sumN (n+1) (λq=>if cl q=c then conf p cl q a else 0)=sumN n (λq=>if cl q=c then conf p cl q a else 0)+(if cl n=c then conf p cl n a else 0):=rfl;rw[e,e2,<- ih];by_cases g:cl n=c
  ·rw[if_pos g];by_cases g2:pnx p n a≠-1
   ·rw[if_pos ⟨g,g2⟩];have hp:=cntK_pos (p:=p) (cl:=cl) (c:=c) (a:=a) (n:=n);unfold conf;rw[g];by_cases g3:0<cntK p cl c a n
    ·rw[if_pos ⟨g2,lH.2 (hp.1 g3)⟩];clear hp;omega
    ·rw[if_neg (λk=>g3 (hp.2 (lH.1 k.2)))];clear hp;omega
   ·rw[if_neg (λk=>g2 k.2)];unfold conf;rw[if_neg (λk=>g2 k.1)];omega
  ·rw[if_neg (λk=>g k.1),if_neg g];omega
def scP_cnt{p:A8}{cl:Nat->Nat}(h:∀q,q<p.N.length->cl q<p.N.length):(sumN p.N.length λc=>sumN p.I.toNat λa=>cntK p cl c a p.N.length-1)=scP p cl:=by
 have e1:(sumN p.N.length λc=>sumN p.I.toNat λa=>cntK p cl c a p.N.length-1)=sumN p.N.length λc=>sumN p.N.length λq=>sumN p.I.toNat λa=>if cl q=c then conf p cl q a else 0:=kG λc _=>by
  rw[<- rG];exact kG λa _=>cntK_pred
 rw[e1,rG];refine kG λq hq=>?_;rw[rG];refine kG λa _=>?_;rw[sumN_one,if_pos (h q hq)]
def R36_score_eq{p:A8}(H:H9 p){cl:Nat->Nat}(hc:∀q,q<p.N.length->cl q<p.N.length):T5 p ((List.range p.N.length).map λ(q:Nat)=>(↑(cl q):Int))=some (↑(scP p cl):Int):=by
 have hn:=H.n2;have hi:=H.i2;have a7:=H.i1;generalize hC:(List.range p.N.length).map (λ(q:Nat)=>(↑(cl q):Int))=C;have hl:C.length=p.N.length:=by rw[<- hC,C3,P3]
 have a4:∀q,q<p.N.length->C[q]?=some (↑(cl q):Int):=λq hq=>by rw[<- hC,H7,Q6 hq];rfl
 have k1:∀c a,a<p.I.toNat->iter (λ(s:Nat×Nat)=>T5.s84 p C c a s.1 s.2) fuel (0,0)=some (cntK p cl c a p.N.length):=λc a ha=>by
  have key:=H4 (step:=λ(s:Nat×Nat)=>T5.s84 p C c a s.1 s.2) (λs=>s.2<=p.N.length/\s.1=cntK p cl c a s.2) (λs=>p.N.length-s.2) (λr=>r=cntK p cl c a p.N.length) (λ⟨k,q⟩ ⟨g1,g2⟩=>by
   simp only at g1 g2
   subst g2
   simp only[T5.s84]
   have hb:cntK p cl c a q<=q*1:=iC λi _=>by split<;>omega
   by_cases h:q<p.N.length
   ·left
    obtain⟨n1,n2,n3,n4,n5,xr,yr,a2,a5,a3,a9,_,_⟩:=H.at h ha
    have e:cntK p cl c a (q+1)=cntK p cl c a q+(if cl q=c/\pnx p q a≠-1 then 1 else 0):=rfl
    refine⟨(cntK p cl c a (q+1),q+1),?_,⟨h,rfl⟩,by simp only;omega⟩
    rw[C0,B4 (a4 q h)]
    by_cases g:cl q=c
    ·rw[C0,B4 a2,B4 a3]
     by_cases g2:pnx p q a≠-1
     ·rw[G7 g2,A5,F8,K3,e,if_pos ⟨g,g2⟩]
     ·rw[J0 g2,A5,G0,e,if_neg (λk=>g2 k.2)]
      rfl
    ·rw[B1,A5,G0,e,if_neg (λk=>g k.1)]
     rfl
   ·right
    have e1:q=p.N.length:=by omega
    subst e1
    exact⟨_,by rw[B1],rfl⟩) fuel (0,0) ⟨D9 _,rfl⟩ (by have:=E6;simp only;omega)
  obtain⟨r,e1,rfl⟩:=key;exact e1
 have a0:∀c a,cntK p cl c a p.N.length<=p.N.length*1:=λc a=>iC λi _=>by split<;>omega
 have k2:∀c (n0:Nat),n0<=1000000000000->iter (λ(s:Int×Nat)=>T5.s85 p C c s.1 s.2) fuel (↑n0,0)=some (↑(n0+sumN p.I.toNat λa=>cntK p cl c a p.N.length-1):Int):=λc n0 a6=>by
  have key:=H4 (step:=λ(s:Int×Nat)=>T5.s85 p C c s.1 s.2) (λs=>s.2<=p.I.toNat/\s.1=(↑(n0+sumN s.2 λa=>cntK p cl c a p.N.length-1):Int)) (λs=>p.I.toNat-s.2) (λr=>r=(↑(n0+sumN p.I.toNat λa=>cntK p cl c a p.N.length-1):Int)) (λ⟨k,a⟩ ⟨g1,g2⟩=>by
   simp only at g1 g2
   subst g2
   simp only[T5.s85]
   have hb:(sumN a λa=>cntK p cl c a p.N.length-1)<=a*p.N.length:=iC λi _=>by have:=a0 c i;omega
   have a8:a*p.N.length<=64*p.N.length:=bO _ (by omega)
   by_cases h:a<p.I.toNat
   ·left
    have:=a0 c a
    have e:(sumN (a+1) λa=>cntK p cl c a p.N.length-1)=(sumN a λa=>cntK p cl c a p.N.length-1)+(cntK p cl c a p.N.length-1):=rfl
    refine⟨((↑(n0+sumN (a+1) λa=>cntK p cl c a p.N.length-1):Int),a+1),?_,⟨h,rfl⟩,by simp only;omega⟩
    rw[C0,k1 c a h,A5,K3,K3,K3,e]
    congr 3
    omega
   ·right
    have e1:a=p.I.toNat:=by omega
    subst e1
    exact⟨_,by rw[B1],rfl⟩) fuel (↑n0,0) ⟨D9 _,rfl⟩ (by have:=E6;simp only;omega)
  obtain⟨r,e1,rfl⟩:=key;exact e1
 have key:=H4 (step:=λ(s:Int×Nat)=>T5.s86 p C s.1 s.2) (λs=>s.2<=p.N.length/\s.1=(↑(sumN s.2 λc=>sumN p.I.toNat λa=>cntK p cl c a p.N.length-1):Int)) (λs=>p.N.length-s.2) (λr=>r=(↑(scP p cl):Int)) (λ⟨k,c⟩ ⟨g1,g2⟩=>by
  simp only at g1 g2
  subst g2
  simp only[T5.s86]
  have hb:(sumN c λc=>sumN p.I.toNat λa=>cntK p cl c a p.N.length-1)<=c*(64*10000):=iC λi _=>aR (iC (k:=10000) λa _=>by have:=a0 i a;omega) (bO _ (by omega))
  by_cases h:c<p.N.length
  ·left
   refine⟨((↑(sumN (c+1) λc=>sumN p.I.toNat λa=>cntK p cl c a p.N.length-1):Int),c+1),?_,⟨h,rfl⟩,by simp only;omega⟩
   rw[C0,k2 c _ (by omega),A5]
   rfl
  ·right
   have e1:c=p.N.length:=by omega
   subst e1
   exact⟨_,by rw[B1],by rw[scP_cnt hc]⟩) fuel (0,0) ⟨D9 _,rfl⟩ (by have:=E6;simp only;omega)
 obtain⟨r,e1,rfl⟩:=key;unfold T5;rw[e1,A5]
def AM:lW=some true:=by decide +kernel
section
def mset_keys{O Z:Type}[BEq O]{k:O}{v:Z}{Q:O->Prop}(hk:Q k):∀{m:List (O×Z)},(∀x∈m,Q x.1)->∀x∈mset k v m,Q x.1
 |[],_,x,hx=>by
  unfold mset at hx;rw[J3.1 hx];exact hk
 |p::m,h,x,hx=>by
  unfold mset at hx;split at hx
  ·rcases L8.1 hx with rfl|hx
   ·exact hk
   ·exact h x (O7 _ hx)
  ·rcases L8.1 hx with rfl|hx
   ·exact h _ U8
   ·exact mset_keys hk (λy hy=>h y (O7 _ hy)) x hx
structure cG(p:A8)(tp:Nat->Nat)(q a:Nat)(m:List (A2×Bool)):Prop where
 keys:∀x∈m,List.length x.1=2
 at_:∀c b:Nat,(mget [(c:Int),(b:Int)] m).getD false=true↔∃r,(r<q\/r=q/\b<a)/\tp r=c/\pnx p r b≠-1
def cG.skip{p:A8}{tp:Nat->Nat}{q a:Nat}{m:List (A2×Bool)}(S:cG p tp q a m)(h:pnx p q a=-1):cG p tp q (a+1) m:=by
 refine⟨S.keys,λc b=>?_⟩;rw[S.at_];refine⟨λ⟨r,h1,h2,h3⟩=>⟨r,h1.imp id λk=>⟨k.1,by omega⟩,h2,h3⟩,λ⟨r,h1,h2,h3⟩=>⟨r,?_,h2,h3⟩⟩;rcases h1 with k|⟨k1,k2⟩
 ·exact .inl k
 ·refine .inr ⟨k1,cW (by omega) λe=>h3 (by rw[k1,e];exact h)⟩
def cG.put{p:A8}{tp:Nat->Nat}{q a:Nat}{m:List (A2×Bool)}(S:cG p tp q a m)(h:pnx p q a≠-1):cG p tp q (a+1) (mset [(↑(tp q):Int),(a:Int)] true m):=by
 refine⟨λx hx=>mset_keys (Q:=λk:A2=>k.length=2) (k:=[(↑(tp q):Int),(a:Int)]) rfl S.keys x hx,λc b=>?_⟩;have hb:∀x y:A2,(x==y)=true↔x=y:=λx y=>beq_iff_eq;by_cases e:c=tp q/\b=a
 ·rw[e.1,e.2,sL hb];exact⟨λ_=>⟨q,.inr ⟨rfl,by omega⟩,rfl,h⟩,λ_=>rfl⟩
 ·rw[mK hb (λg=>e (by
   injection g with g1 g2
   injection g2 with g2 _
   exact⟨by omega,by omega⟩)),S.at_]
  refine⟨λ⟨r,h1,h2,h3⟩=>⟨r,h1.imp id λk=>⟨k.1,by omega⟩,h2,h3⟩,λ⟨r,h1,h2,h3⟩=>⟨r,?_,h2,h3⟩⟩;rcases h1 with k|⟨k1,k2⟩
  ·exact .inl k
  ·refine .inr ⟨k1,cW (by omega) λe2=>e ⟨by rw[<- h2,k1],e2⟩⟩
def cG.row{p:A8}(H:H9 p){tp:Nat->Nat}{q:Nat}(hq:q<p.N.length){m:List (A2×Bool)}(S:cG p tp q p.I.toNat m):cG p tp (q+1) 0 m:=by
 refine⟨S.keys,λc b=>?_⟩;rw[S.at_];refine⟨λ⟨r,h1,h2,h3⟩=>⟨r,.inl ?_,h2,h3⟩,λ⟨r,h1,h2,h3⟩=>⟨r,?_,h2,h3⟩⟩
 ·rcases h1 with k|k<;>omega
 ·rcases h1 with k|k
  ·by_cases e:r=q
   ·refine .inr ⟨e,X9 λg=>h3 ?_⟩;obtain⟨xr,yr,k1,k2,k3,k4,_⟩:=H.row r (by omega);unfold pnx;rw[k1,H5,M2 (by omega),tD]
   ·exact .inl (by omega)
  ·omega
section
variable {p:A8}
def loop_srow(H:H9 p){tp:Nat->Nat}{ok:Bool}{C:A2}(hat:∀q,q<p.N.length->C[q]?=some (↑(tp q):Int)){q:Nat}(hq:q<p.N.length){e:A2}(he:p.N[q]?=some e){n0:Nat}(hn0:n0<=1000000000000){m0:List (A2×Bool)}(S0:cG p tp q 0 m0) :
  ∃m,iter (λ(s:Nat×(List (A2×Bool))×Nat)=>R0.s54 (C,ok) q e s.1 s.2.1 s.2.2) fuel (n0,m0,0)=some (n0+sumN p.I.toNat (λa=>conf p tp q a),m)/\cG p tp (q+1) 0 m:=by
 have hi:=H.i2;have a5:=H.i1
 have key:=H4 (step:=λ(s:Nat×(List (A2×Bool))×Nat)=>R0.s54 (C,ok) q e s.1 s.2.1 s.2.2) (λs=>s.2.2<=p.I.toNat/\s.1=n0+sumN s.2.2 (λa=>conf p tp q a)/\cG p tp q s.2.2 s.2.1) (λs=>p.I.toNat-s.2.2) (λr=>∃m,r=(n0+sumN p.I.toNat (λa=>conf p tp q a),m)/\cG p tp (q+1) 0 m) (λ⟨n,m,a⟩ ⟨g1,g2,S⟩=>by
  simp only at g1 g2 S
  subst g2
  simp only[R0.s54]
  have a4:e.length=p.I.toNat:=by
   obtain⟨xr,yr,k1,k2,k3,k4,_⟩:=H.row q hq
   rw[he]at k1
   injection k1 with k1
   rw[k1]
   omega
  have hb:(sumN a λa=>conf p tp q a)<=a*1:=iC λi _=>conf_le p tp q i
  by_cases h:a<p.I.toNat
  ·left
   obtain⟨n1,n2,n3,n4,n5,xr,yr,a0,a3,a2,a6,_,_⟩:=H.at hq h
   rw[he]at a0
   injection a0 with a0
   subst a0
   have es:(sumN (a+1) λa=>conf p tp q a)=(sumN a λa=>conf p tp q a)+conf p tp q a:=rfl
   rw[C0,B4 a2]
   by_cases t0:pnx p q a=-1
   ·refine⟨(n0+sumN (a+1) (λa=>conf p tp q a),m,a+1),?_,⟨h,rfl,S.skip t0⟩,by simp only;omega⟩
    rw[C0 t0,A5]
    unfold R0.k53
    rw[es,conf,if_neg (λk=>k.1 t0)]
    rfl
   ·refine⟨(n0+sumN (a+1) (λa=>conf p tp q a),mset [(↑(tp q):Int),(a:Int)] true m,a+1),?_,⟨h,rfl,S.put t0⟩,by simp only;omega⟩
    rw[B1 t0,B4 (hat q hq),H1 S.keys]
    have hs:=S.at_ (tp q) a
    by_cases g:(mget [(↑(tp q):Int),(a:Int)] m).getD false=true
    ·obtain⟨r,r1,r2,r3⟩:=hs.1 g
     rw[g,F8,K3,A5,B4 (hat q hq),H1 S.keys,A5]
     unfold R0.k53
     rw[es,conf,if_pos ⟨t0,lH.2 ⟨r,by omega,r2,r3⟩⟩]
     rfl
    ·have g':(mget [(↑(tp q):Int),(a:Int)] m).getD false=false:=by
      cases k:(mget [(↑(tp q):Int),(a:Int)] m).getD false with
      |true=>exact absurd k g
      |false=>rfl
     rw[g',G0,A5,B4 (hat q hq),H1 S.keys,A5]
     unfold R0.k53
     rw[es,conf,if_neg (λk=>g (hs.2 (by
      obtain⟨r,r1,r2,r3⟩:=lH.1 k.2
      exact⟨r,.inl r1,r2,r3⟩)))]
     rfl
  ·right
   have e1:a=p.I.toNat:=by omega
   subst e1
   exact⟨_,by rw[B1],m,rfl,S.row H hq⟩) fuel (n0,m0,0) ⟨D9 _,rfl,S0⟩ (by have:=E6;simp only;omega)
 obtain⟨r,e1,m,rfl,h⟩:=key;exact⟨m,e1,h⟩
def ev_score(H:H9 p){s t:Nat}(hs:s<p.N.length)(ht:t<p.N.length):(Q0 p s t/\R0 p (s:Int) (t:Int)=some (0,false))\/(¬Q0 p s t/\R0 p (s:Int) (t:Int)=some ((↑(scP p (clsOf p s t)):Int),true)):=by
 have hn:=H.n2;unfold R0;rcases ev_fold H hs ht with⟨h1,h2⟩|⟨h1,tp,h2,h3,h4⟩
 ·refine .inl ⟨h1,?_⟩;rw[h2,A5];rfl
 ·refine .inr ⟨h1,?_⟩;rw[h2,A5];generalize hC:(List.range p.N.length).map (λ(q:Nat)=>(↑(tp q):Int))=C;have a0:∀q,q<p.N.length->C[q]?=some (↑(tp q):Int):=λq hq=>by rw[<- hC,H7,Q6 hq];rfl
  simp only;rw[aS,G0]
  have key:=H4 (step:=λ(s:Nat×(List (A2×Bool))×Nat)=>R0.s56 p (C,true) s.1 s.2.1 s.2.2) (λs=>s.2.2<=p.N.length/\s.1=sumN s.2.2 (λq=>sumN p.I.toNat λa=>conf p tp q a)/\cG p tp s.2.2 0 s.2.1) (λs=>p.N.length-s.2.2) (λr=>r=scP p tp) (λ⟨n,m,q⟩ ⟨g1,g2,S⟩=>by
   simp only at g1 g2 S
   subst g2
   simp only[R0.s56]
   have hi:=H.i2
   have hb:(sumN q λq=>sumN p.I.toNat λa=>conf p tp q a)<=q*64:=iC λi _=>aR (iC (k:=1) λa _=>conf_le p tp i a) (by omega)
   by_cases h:q<p.N.length
   ·left
    obtain⟨xr,yr,k1,k2,k3,k4,_⟩:=H.row q h
    obtain⟨m',e1,S'⟩:=loop_srow (ok:=true) H a0 h k1 (n0:=sumN q λq=>sumN p.I.toNat λa=>conf p tp q a) (by omega) S
    refine⟨(sumN (q+1) (λq=>sumN p.I.toNat λa=>conf p tp q a),m',q+1),?_,⟨h,rfl,S'⟩,by simp only;omega⟩
    rw[C0,B4 k1,e1,A5]
    rfl
   ·right
    have e1:q=p.N.length:=by omega
    subst e1
    exact⟨scP p tp,by rw[B1];rfl,rfl⟩) fuel (0,[],0) ⟨D9 _,rfl,⟨λx hx=>(by cases hx),λc b=>⟨λh=>(by cases h),λ⟨r,h1,_⟩=>h1.elim (λk=>absurd k (N9 _)) λk=>absurd k.2 (N9 _)⟩⟩⟩ (by have:=E6;simp only;omega)
  obtain⟨r,e1,rfl⟩:=key;rw[e1,A5,scP_congr (tp:=tp) (cl:=clsOf p s t) λq r hq hr=>(h4 q r hq hr).trans xQ]
end
end
def scan_idx{V:Type}{p:V->Bool}:∀(l:List V) (j:Nat),scan (λi x=>if p x=true then some (i:Int) else none) j l=if l.any p=true then some (↑(j+l.findIdx p):Int) else none
 |[],_=>rfl
 |x::l,j=>by
  unfold scan;by_cases h:p x=true
  ·simp[h,List.findIdx_cons]
  ·have hf:p x=false:=by simpa using h
   rw[if_neg h];simp only;rw[scan_idx l (j+1)];simp only[List.any_cons,hf,wW,List.findIdx_cons,G0];split
   ·congr 2;omega
   ·rfl
def tindex_eq{l:List I0}{f:I0->Option Bool}{p:I0->Bool}(hl:l.length<=100000000000000)(hf:∀x∈l,f x=some (p x)) :
  fO l f=some (if l.any p=true then(↑(l.findIdx p):Int) else -1):=by
 unfold fO
 have key:=Z8 (step:=λs=>fO.s2 l f s) (l:=l) (λi x=>if p x=true then some (i:Int) else none) (λi x hx=>by
  simp only[fO.s2]
  rw[O3 hx,F8,B4 hx,hf x (I8 hx),A5]
  cases p x<;>rfl) (by
  simp only[fO.s2]
  rw[bY]
  rfl) hl
 rw[key,scan_idx,A5];by_cases h:l.any p=true
 ·rw[if_pos h,if_pos h,F7];rfl
 ·rw[if_neg h,if_neg h];rfl
def cindex_eq{l:A2}{f:Int->Option Bool}{p:Int->Bool}(hl:l.length<=100000000000000)(hf:∀x∈l,f x=some (p x)) :
  pT l f=some (l.any p):=by
 unfold pT gT
 have key:=Z8 (step:=λs=>gT.s2 l f s) (l:=l) (λi x=>if p x=true then some (i:Int) else none) (λi x hx=>by
  simp only[gT.s2]
  rw[O3 hx,F8,B4 hx,hf x (I8 hx),A5]
  cases p x<;>rfl) (by
  simp only[gT.s2]
  rw[bY]
  rfl) hl
 rw[key,scan_idx];by_cases h:l.any p=true
 ·rw[if_pos h,h];simp
 ·have h':l.any p=false:=by simpa using h
  rw[if_neg h,h'];rfl
def propI(t:I0)(n:Int):Int :=
 if W7 t.In n≠0 then W7 t.In n else if t.O.length≠t.In.length then 1 else if(t.O.all λy=>decide (0<=y/\y<=1048576))=true then 0 else 2
def propI_zero{t:I0}{n:Int}:propI t n=0↔cF n t:=by
 unfold propI cF;by_cases h1:W7 t.In n=0
 ·rw[if_neg (by simpa using h1)];by_cases h2:t.O.length=t.In.length
  ·rw[if_neg (by simpa using h2)];by_cases h3:(t.O.all λy=>decide (0<=y/\y<=1048576))=true
   ·rw[if_pos h3];exact⟨λ_=>⟨h1,h2,λy hy=>of_decide_eq_true (R4.1 h3 y hy)⟩,λ_=>rfl⟩
   ·rw[if_neg h3];exact⟨λh=>(by cases h),λh=>absurd (R4.2 λy hy=>G7 (h.2.2 y hy)) h3⟩
  ·rw[if_pos h2];exact⟨λh=>(by cases h),λh=>absurd h.2.1 h2⟩
 ·rw[if_pos h1];exact⟨λh=>absurd h h1,λh=>absurd h.1 h1⟩
def zox(t:I0)(n:Int)(h1:SmW t.In)(h2:SmW t.O):pA t n=some (propI t n):=by
 unfold pA propI;rw[AW _ _ h1,A5];by_cases g1:W7 t.In n=0
 ·rw[B1 (by simpa using g1),if_neg (by simpa using g1)];by_cases g2:t.O.length=t.In.length
  ·rw[B1,if_neg (by simpa using g2)]
   rw[cindex_eq (p:=λy=>!decide (0<=y/\y<=1048576)) (by unfold SmW at h2;omega) λy _=>by
    unfold pP
    by_cases a1:y<0
    ·rw[C0 a1,A5,J0 (show ¬(0<=y/\y<=1048576) by omega)];rfl
    ·by_cases a2:1048576<y
     ·rw[B1 a1,G7 a2,A5,J0 (show ¬(0<=y/\y<=1048576) by omega)];rfl
     ·rw[B1 a1,J0 a2,A5,G7 (show(0<=y/\y<=1048576) by omega)];rfl,A5]
   by_cases h:(t.O.all λy=>decide (0<=y/\y<=1048576))=true
   ·have h':(t.O.any λy=>!decide (0<=y/\y<=1048576))=false:=by
     rw[xK];intro y hy;have:=R4.1 h y hy;simp only[this,aS];exact Bool.false_ne_true
    rw[h',G0,if_pos h]
   ·have h':(t.O.any λy=>!decide (0<=y/\y<=1048576))=true:=by
     refine X9 λhn=>h (R4.2 λy hy=>?_);refine X9 λhm=>hn (pX.2 ⟨y,hy,?_⟩);have:decide (0<=y/\y<=1048576)=false:=by simpa only[Bool.not_eq_true]using hm
     rw[this];rfl
    rw[h',F8,if_neg h]
  ·rw[C0,if_pos g2]
 ·rw[C0 g1,if_pos g1]
def zE:∀a b:A2,G3 a b=G3 b a
 |[],[]=>rfl
 |[],_::_=>rfl
 |_::_,[]=>rfl
 |x::a,y::b=>by
  unfold G3;by_cases h:x=y
  ·rw[if_pos h,if_pos h.symm,zE a b]
  ·rw[if_neg h,if_neg λe=>h e.symm]
def Agree.symm{a b:I0}(h:Agree a b):Agree b a:=by
 unfold Agree at h ⊢;rw[zE];exact h.symm
def common_eq_iff{x y:A2}(h:x.length=y.length):G3 x y=y.length↔x=y:=by
 rw[rP];exact⟨λhp=>(hp.eq_of_length h.symm).symm,λe=>e ▸ cT _⟩
def BZ(a b:I0){n:Int}(ha:cF n a)(hb:cF n b)(h1:SmW a.In):∃d,mS a b=some d/\(0<=d↔¬Agree a b):=by
 have a2:a.In.length<=2000000:=h1;have hc:=mA a.In b.In;have la:=ha.2.1;have lb:=hb.2.1;unfold mS;rw[wF _ _ h1,A5];have hm:min (min (↑(G3 a.In b.In):Int) (a.O.length:Int)) (b.O.length:Int)=↑(G3 a.In b.In):=by omega
 rw[hm,H1 (by omega),H1 (by omega),I7,wF _ _ (by unfold SmW;rw[M7];omega),A5];have l1:(a.O.take (G3 a.In b.In)).length=G3 a.In b.In:=by rw[M7];omega
 have l2:(b.O.take (G3 a.In b.In)).length=G3 a.In b.In:=by rw[M7];omega
 have a3:=mA (a.O.take (G3 a.In b.In)) (b.O.take (G3 a.In b.In));have a0:=common_eq_iff (x:=a.O.take (G3 a.In b.In)) (y:=b.O.take (G3 a.In b.In)) (by omega);by_cases h:G3 (a.O.take (G3 a.In b.In)) (b.O.take (G3 a.In b.In))<G3 a.In b.In
 ·rw[C0];exact⟨_,rfl,λ_ hA=>by have:=a0.2 hA;omega,λ_=>by omega⟩
 ·rw[B1];exact⟨-1,rfl,λh=>absurd h (by decide),λhA=>absurd (a0.1 (by omega)) hA⟩
def clashO(l:List I0)(t:I0):Prop:=∃u∈l,¬Agree u t
instance (a b:I0):Decidable (Agree a b):=by unfold Agree;infer_instance
instance (l:List I0) (t:I0):Decidable (clashO l t):=by unfold clashO;infer_instance
def iK{w:A2}{n:Int}(h:W7 w n=0):w.length<=1024/\∀a∈w,0<=a/\a<n:=by
 unfold W7 at h;split at h
 ·split at h
  ·cases h
  ·split at h
   ·rename_i g1 g2 g3;exact⟨by omega,λa ha=>by simpa using R4.1 g3 a ha⟩
   ·cases h
 ·cases h
def scan_nil{V R:Type}:∀(l:List V) (j:Nat),scan (λ_ _=>(none:Option R)) j l=none
 |[],_=>rfl
 |_::l,j=>by
  unfold scan;exact scan_nil l (j+1)
def fits_tot{l:List I0}(hl:l.length<=1000000)(hw:∀t∈l,t.In.length<=1000000){n:Int}(hp:∀t∈l,cF n t)(hd:∀a∈l,∀b∈l,a.In=b.In->a=b):∃b,gP l=some b:=by
 have hf:∀a∈l,∀b∈l,gQ a b=some (lexI a.In b.In):=λa ha b _=>by
  unfold gQ;rw[yY _ _ (by have:=hw a ha;omega),A5]
 have ht:totB (λu0 u1=>gQ u0 u1) l=true:=by
  refine R4.2 λa ha=>R4.2 λb hb=>?_;simp only;rw[hf a ha b hb,hf b hb a ha];simp only[O8];have hz:=uA a.In b.In;have hs:=uI a.In b.In;refine⟨⟨⟨?_,?_⟩,?_⟩,R4.2 λc hc=>?_⟩
  ·rw[beq_iff_eq];by_cases h:a=b
   ·have:lexI a.In b.In=0:=hz.2 (by rw[h]);rw[G7 this,G7 h]
   ·have h2:¬lexI a.In b.In=0:=λe=>h (hd a ha b hb (hz.1 e));rw[J0 h2,J0 h]
  ·rw[beq_iff_eq];by_cases h:lexI a.In b.In<0
   ·rw[G7 h,G7 (by omega)]
   ·rw[J0 h,J0 (by omega)]
  ·have:=oL a.In b.In;exact G7 (by omega)
  ·rw[hf b hb c hc,hf a ha c hc];have r1:=oL a.In b.In;have r2:=oL b.In c.In;by_cases h1:lexI a.In b.In<0
   ·by_cases h2:lexI b.In c.In<0
    ·have:=uU a.In b.In c.In (by omega) (by omega);simp[h1,h2,this]
    ·simp[h1,h2]
   ·simp[h1]
 have a0:=gM (λu0 u1=>gQ u0 u1) l;generalize hS:dY (λu0 u1=>gQ u0 u1) l=S at a0;have a3:S.length=l.length:=a0.length_eq;unfold gP wO lS wR lG;rw[Q1,A5,H1 (by omega),ht,F8,hS,A5]
 have key:=H4 (step:=λ(s:Nat)=>gP.s2 S s) (λi=>1<=i) (λi=>S.length+1-i) (λ_=>True) (λi g1=>by
  simp only[gP.s2]
  by_cases h:i<S.length
  ·have hx:=get_at h
   have hy:=get_at (l:=S) (i:=i-1) (by omega)
   have mx:S[i]∈l:=a0.mem_iff.1 (P7 h)
   have my:S[i-1]∈l:=a0.mem_iff.1 (P7 _)
   obtain⟨d,a2,_⟩:=BZ S[i-1] S[i] (hp _ my) (hp _ mx) (by have:=hw _ my;unfold SmW;omega)
   rw[O3 hx,F8,B4 hx,D6 (i:=i-1) (by omega) hy,BX _ _ (by have:=hw _ mx;unfold SmW;omega),A5]
   by_cases q:S[i-1].In <+: S[i].In
   ·rw[C0 q,A5,F8]
    exact .inr ⟨_,rfl,trivial⟩
   ·rw[B1 q,D6 (i:=i-1) (by omega) hy,B4 hx,a2,A5,A5]
    by_cases z:0<=d
    ·rw[C0 z]
     exact .inr ⟨_,rfl,trivial⟩
    ·rw[B1 z]
     exact .inl ⟨_,rfl,by omega,by omega⟩
  ·rw[B1]
   exact .inr ⟨_,rfl,trivial⟩) fuel 1 (H0 _) (by have:=E6;omega)
 obtain⟨r,e,-⟩:=key;rw[e,A5];cases r with
 |inl u=>exact⟨true,rfl⟩
 |inr b=>exact⟨b,rfl⟩
def bS.dist{o:I4}(hv:bS o):∀a∈o.T,∀b∈o.T,a.In=b.In->a=b:=λa ha b hb e=>by
 obtain⟨i,hi,rfl⟩:=eU ha;obtain⟨j,hj,rfl⟩:=eU hb;rcases kR i j with h|h|h
 ·exact absurd (e ▸ cT _) (hv.apart i j _ _ h (get_at hi) (get_at hj)).1
 ·subst h;rfl
 ·exact absurd (e ▸ cT _) (hv.apart j i _ _ h (get_at hj) (get_at hi)).1
def AX{l:List I0}{f:I0->Option Bool}(hl:l.length<=100000000000000)(hf:∀x∈l,f x=some false):mT l f=some false:=by
 unfold mT
 have h:¬l.any (λ_=>false)=true:=λh=>by
  obtain⟨x,_,hx⟩:=pX.1 h;cases hx
 rw[tindex_eq (p:=λ_=>false) hl hf,if_neg h,A5];rfl
def zqc{o:I4}(ho:SmO o)(hv:bS o):bG o=some 0:=by
 obtain⟨i1,i2⟩:=hv.inp;have hn:=hv.num;have hs:=ho.2;unfold bG;rw[B1,J0 (by omega),A5,G0,B1]
 have key:=Z8 (step:=λs=>bG.s2 o s) (l:=o.T) (R:=Int) (λ_ _=>none) (λi x hx=>by
  obtain⟨hi,a3⟩:=F6.1 hx
  have mx:x∈o.T:=I8 hx
  obtain⟨p1,p2⟩:=hv.prop x mx
  have sx:SmW x.In:=by have:=(hs x mx).1;unfold SmW;omega
  have a4:propI x o.I=0:=propI_zero.2 p1
  have a5:x.In.length≠0:=λe=>p2 (V7 e)
  simp only[bG.s2]
  rw[O3 hx,F8,B4 hx,AW _ _ sx,A5,p1.1,B1 (by decide),B1,zox _ _ sx (hs x mx).2,A5,a4,B1 (by decide)]
  by_cases h0:0<i
  ·have hy:=get_at (l:=o.T) (i:=i-1) (by omega)
   have hc:=hv.asc (i-1) i _ _ (by omega) hy hx
   have my:=I8 hy
   unfold sP
   rw[C0,D6 (i:=i-1) (by omega) hy,wK _ _ (by have:=(hs _ my).1;omega),A5,A5,hc,J0 (by decide),A5,G0]
  ·rw[B1,A5,G0]) (by
  simp only[bG.s2]
  rw[bY,G0]) (by omega)
 rw[key,scan_nil,A5];simp only[W5];obtain⟨b,hb⟩:=fits_tot (l:=o.T) (by omega) (λt ht=>by have:=(iK (hv.prop t ht).1.1).1;omega) (λt ht=>(hv.prop t ht).1) hv.dist;rw[hb,A5];cases b with
 |true=>rfl
 |false =>
  rw[G0]
  have a2:=Z8 (step:=λs=>bG.s4 o s) (l:=o.T) (R:=Int) (λ_ _=>none) (λi x hx=>by
   obtain⟨hi,a3⟩:=F6.1 hx
   have mx:x∈o.T:=I8 hx
   have hl:(o.T.drop (i+1)).length<=100000000000000:=by rw[W3];omega
   have a0:∀u∈o.T.drop (i+1),u∈o.T/\¬x.In <+: u.In/\Agree x u:=λu hu=>by
    refine⟨bP hu,?_⟩
    obtain⟨k,hk,e⟩:=eU hu
    rw[List.getElem_drop]at e
    rw[W3]at hk
    exact hv.apart i (i+1+k) x u (by omega) hx (by rw[get_at (by omega),e])
   simp only[bG.s4]
   rw[O3 hx,F8,B4 hx,H1 (by omega),AX hl (λu hu=>by
    unfold pG
    rw[BX _ _ (by have:=(hs u (a0 u hu).1).1;unfold SmW;omega),A5,J0 (a0 u hu).2.1]),A5,G0,AX hl (λu hu=>by
    unfold pI
    obtain⟨d,d1,d2⟩:=BZ x u (hv.prop x mx).1 (hv.prop u (a0 u hu).1).1 (by have:=(hs x mx).1;unfold SmW;omega)
    rw[d1,A5,J0 (λh=>d2.1 h (a0 u hu).2.2)]),A5,G0]) (by
   simp only[bG.s4]
   rw[bY,G0]) (by omega)
  rw[a2,scan_nil,A5];rfl
def addT_pre(L:List Nat)(t:Int):L <+: addT L t:=by
 unfold addT;split
 ·exact cT _
 ·exact xN _ _
def oH:∀(x:A2) (L:List Nat),L <+: x.foldl addT L
 |[],L=>cT _
 |t::x,L=>by
  rw[jN];exact(addT_pre L t).trans (oH x _)
def foldl_mem:∀(x:A2) (L:List Nat) (t:Int),t∈x->t=-1\/t.toNat∈x.foldl addT L
 |u::x,L,t,h=>by
  rw[jN];rcases L8.1 h with rfl|h
  ·by_cases t0:t=-1
   ·exact .inl t0
   ·refine .inr ((oH x _).subset ?_);unfold addT;split
    ·rename_i g;exact g.resolve_left t0
    ·exact M0 _ (J3.2 rfl)
  ·exact foldl_mem x _ t h
def nN(R:Nat->A2):∀(f i:Nat) (L:List Nat),L <+: bfsL R f i L
 |0,_,L=>cT _
 |f+1,i,L=>by
  unfold bfsL;cases L[i]? with
  |none=>exact cT _
  |some c=>exact(oH (R c) L).trans (nN R f (i+1) _)
def xR(R:Nat->A2):∀(f i:Nat) (L:List Nat),(∀c,c∈L.take i->∀t,t∈R c->t=-1\/t.toNat∈L)->(bfsL R f i L).length<=f+i->∀c,c∈bfsL R f i L->∀t,t∈R c->t=-1\/t.toNat∈bfsL R f i L
 |0,i,L,h,hl=>by
  unfold bfsL at hl ⊢;rw[fS (by omega)]at h;exact h
 |f+1,i,L,h,hl=>by
  unfold bfsL at hl ⊢;cases e:L[i]? with
  |none =>
   have:L.length<=i:=CL.1 e;rw[fS this]at h;exact h
  |some c =>
   rw[e]at hl;refine xR R f (i+1) _ (λd hd t ht=>?_) (by simp only at hl;omega);obtain⟨hi,hc⟩:=F6.1 e;have hp:=oH (R c) L
   have htk:((R c).foldl addT L).take (i+1)=L.take i++[c]:=by
    obtain⟨T,hT⟩:=hp;rw[<- hT,tQ (by omega),jR hi,hc]
   rw[htk]at hd;rcases J2.1 hd with k|k
   ·exact(h d k t ht).elim .inl λk=>.inr (hp.subset k)
   ·rw[J3.1 k]at ht;exact foldl_mem _ _ _ ht
def mJ{Q:A8}(R:RenOk Q){c a:Nat}(hc:c∈ordP Q)(ha:a<Q.I.toNat):gx Q.N c a=-1\/(gx Q.N c a).toNat∈ordP Q:=by
 obtain⟨nums,_,A⟩:=jG R;have a0:=A.le;obtain⟨x,x1,x2,x3⟩:=R.gn.at (A.lt c hc) ha;refine xR (λc=>(Q.N[c]?).getD []) (Q.N.length+1) 0 [Q.S.toNat] (λd hd=>by simp at hd) (by have:(bfsL (λc=>(Q.N[c]?).getD []) (Q.N.length+1) 0 [Q.S.toNat]).length<=Q.N.length:=a0;omega) c hc _ ?_;rw[x1,H5];exact I8 x2
def renP_ok{Q:A8}(R:RenOk Q)(hi:1<=Q.I)(hn:Q.N.length<=4096)(ho:∀c a,c∈ordP Q->a<Q.I.toNat->gx Q.N c a≠-1->0<=gx Q.O c a/\gx Q.O c a<=1048576):H9 (renP Q):=by
 obtain⟨nums,_,A⟩:=jG R;have a3:=A.le
 have a0:0<(ordP Q).length:=by
  have:=(nN (λc=>(Q.N[c]?).getD []) (Q.N.length+1) 0 [Q.S.toNat]).length_le;exact this
 unfold renP;refine⟨hi,R.i2,by simp only[C3];exact a0,by simp only[C3];omega,by simp only[C3];omega,by simp only[C3],λs hs=>?_⟩;simp only[C3]at hs ⊢;have hx:=get_at hs;have hc:(ordP Q)[s]∈ordP Q:=P7 hs;refine⟨V8 Q (ordP Q) (ordP Q)[s],Z6 Q (ordP Q)[s],by rw[H7,hx];rfl,by rw[H7,hx];rfl,?_,?_,λa t o h1 h2=>?_⟩
 ·unfold V8;rw[C3,P3];omega
 ·unfold Z6;rw[C3,P3];omega
 ·unfold V8 at h1;unfold Z6 at h2;rw[H7]at h1 h2;by_cases ha:a<Q.I.toNat
  ·rw[Q6 ha]at h1 h2;have h1:numT (ordP Q) (gx Q.N (ordP Q)[s] a)=t:=by injection h1
   have h2:(if gx Q.N (ordP Q)[s] a=-1 then(-1:Int) else gx Q.O (ordP Q)[s] a)=o:=by injection h2
   rw[<- h1,<- h2];unfold numT;by_cases t0:gx Q.N (ordP Q)[s] a=-1
   ·rw[if_neg (λg=>g.1 t0),if_pos t0];omega
   ·have hm:=(mJ R hc ha).resolve_left t0;have a2:=cV hm;obtain⟨o1,o2⟩:=ho _ a hc ha t0;rw[if_pos ⟨t0,hm⟩,if_neg t0];omega
  ·rw[M2 (by rw[P3];omega)]at h1;cases h1
section
def place_gen{L:A2}{d:Int}(hl:L.length<=10000000):aO L d=some (↑(L.idxOf d):Int):=by
 have key:=H4 (step:=λ(i:Nat)=>aO.s2 L d i) (λi=>i<=L.length/\d∉L.take i) (λi=>L.length-i) (λr=>r=L.idxOf d) (λi ⟨g1,g2⟩=>by
  simp only[aO.s2]
  by_cases h:i<L.length
  ·have hx:=get_at h
   rw[C0,B4 hx,A5]
   by_cases e:L[i]=d
   ·right
    refine⟨i,by rw[B1 (λg=>g e)],?_⟩
    have hL:L=L.take i++L[i]::L.drop (i+1):=by rw[<- eW h,tR]
    rw[hL,kS,if_neg g2,e,List.idxOf_cons_self,F7,M7]
    omega
   ·left
    refine⟨i+1,by rw[C0 e,K3],⟨h,λhm=>?_⟩,by omega⟩
    rw[jR h]at hm
    rcases J2.1 hm with k|k
    ·exact g2 k
    ·exact e (J3.1 k).symm
  ·right
   have e1:i=L.length:=by omega
   subst e1
   rw[V2]at g2
   exact⟨L.length,by rw[B1,A5,G0],(xE g2).symm⟩) fuel 0 ⟨D9 _,by simp⟩ (by have:=E6;omega)
 obtain⟨r,e1,rfl⟩:=key;unfold aO;rw[e1,A5]
section
variable {p:A8}
def aY(p:A8)(red:List Bool)(r a b:Nat):Prop:=red[r]?=some true/\pnx p r a=(b:Int)/\red[b]?=some false
end
end
section
section
variable {p:A8}
def HasP(p:A8)(red:List Bool)(k b:Nat):Prop:=∃r a,r<k/\red[r]?=some true/\pnx p r a=(b:Int)
def loop_s13(H:H9 p){red:List Bool}(hr:red.length=p.N.length)(b:Nat):∃is:Bool,iter (λ(s:Bool×Nat)=>U9.s13 p red b s.1 s.2) fuel (false,0)=some is/\(is=true↔HasP p red p.N.length b):=by
 have hi:=H.i2;have hn:=H.n2
 have key:=H4 (step:=λ(s:Bool×Nat)=>U9.s13 p red b s.1 s.2) (λs=>s.2<=p.N.length/\(s.1=true↔HasP p red s.2 b)) (λs=>p.N.length-s.2) (λis=>is=true↔HasP p red p.N.length b) (λ⟨is,r⟩ ⟨g1,g2⟩=>by
  simp only at g1 g2
  simp only[U9.s13]
  by_cases h:r<p.N.length
  ·left
   have hx:=get_at (l:=red) (i:=r) (by omega)
   rw[C0]
   cases is with
   |true =>
    obtain⟨r',a,q1,q2⟩:=g2.1 rfl
    exact⟨(true,r+1),by rw[F8],⟨h,λ_=>⟨r',a,by simp only;omega,q2⟩,λ_=>rfl⟩,by simp only;omega⟩
   |false =>
    have a2:¬HasP p red r b:=λh=>by have:=g2.2 h;cases this
    rw[G0,B4 hx]
    cases hb:red[r]with
    |false =>
     refine⟨(false,r+1),by rw[G0],⟨h,⟨(λh=>by cases h),λ⟨r',a,q1,q2,q3⟩=>?_⟩⟩,by simp only;omega⟩
     simp only at q1
     by_cases e:r'=r
     ·rw[e,hx,hb]at q2
      cases q2
     ·exact absurd ⟨r',a,by omega,q2,q3⟩ a2
    |true =>
     obtain⟨x,x1,x2⟩:=H.gn.row r h
     have a0:x.idxOf (b:Int)<x.length↔∃a,pnx p r a=(b:Int):=by
      constructor
      ·intro h1
       have h2:=kX h1
       refine⟨x.idxOf (b:Int),?_⟩
       unfold pnx
       rw[x1,H5,get_at h1,H5,h2]
      ·rintro⟨a,ha⟩
       refine cV ?_
       unfold pnx at ha
       rw[x1,H5]at ha
       cases e:x[a]? with
       |none =>
        rw[e,tD]at ha
        omega
       |some v =>
        rw[e,H5]at ha
        rw[<- ha]
        exact I8 e
     refine⟨(decide ((↑(x.idxOf (b:Int)):Int)<p.I),r+1),by rw[F8,B4 x1,place_gen (by omega),A5],⟨h,λh1=>?_,λ⟨r',a,q1,q2,q3⟩=>?_⟩,by simp only;omega⟩
     ·have h1:=of_decide_eq_true h1
      obtain⟨a,ha⟩:=a0.1 (by omega)
      exact⟨r,a,by simp only;omega,by rw[hx,hb],ha⟩
     ·simp only at q1 ⊢
      by_cases e:r'=r
      ·rw[e]at q3
       have:=a0.2 ⟨a,q3⟩
       exact G7 (by have:=H.i1;omega)
      ·exact absurd ⟨r',a,by omega,q2,q3⟩ a2
  ·right
   have e1:r=p.N.length:=by omega
   subst e1
   exact⟨_,by rw[B1],g2⟩) fuel (false,0) ⟨D9 _,λh=>(by cases h),λ⟨r',a,q1,_⟩=>absurd q1 (N9 _)⟩ (by have:=E6;simp only;omega)
 exact key
def rY(H:H9 p){red:List Bool}(hr:red.length=p.N.length):∃L:List Nat,U9 p red=some (E2 L)/\(∀b,b∈L↔∃r a,aY p red r a b)/\L.Pairwise (·<·):=by
 have hn:=H.n2
 have key:=H4 (step:=λ(s:A2×Nat)=>U9.s14 p red s.1 s.2) (λs=>s.2<=p.N.length/\∃L:List Nat,s.1=E2 L/\L.length<=s.2/\(∀b,b∈L↔b<s.2/\HasP p red p.N.length b/\red[b]?=some false)/\L.Pairwise (·<·)) (λs=>p.N.length-s.2) (λq=>∃L:List Nat,q=E2 L/\(∀b,b∈L↔b<p.N.length/\HasP p red p.N.length b/\red[b]?=some false)/\L.Pairwise (·<·)) (λ⟨y,b⟩ ⟨g1,L,g2,g3,g4,g5⟩=>by
  simp only at g1 g2 g3 g4
  subst g2
  have a3:(E2 L).length=L.length:=by unfold E2;rw[C3]
  simp only[U9.s14]
  by_cases h:b<p.N.length
  ·left
   have hx:=get_at (l:=red) (i:=b) (by omega)
   obtain⟨is,e1,e2⟩:=loop_s13 H hr b
   have a0:¬(HasP p red p.N.length b/\red[b]?=some false)->∀d,d∈L↔d<b+1/\HasP p red p.N.length d/\red[d]?=some false:=λa2 d=>by
    rw[g4 d]
    constructor
    ·exact λq=>⟨by omega,q.2⟩
    ·exact λq=>⟨cW (by omega) λe=>a2 (by rw[<- e];exact q.2),q.2⟩
   rw[C0,e1,A5]
   cases is with
   |false =>
    have a2:¬HasP p red p.N.length b:=λh=>by have:=e2.2 h;cases this
    exact⟨(E2 L,b+1),by rw[G0,A5,G0],⟨h,L,rfl,by simp only;omega,a0 (λq=>a2 q.1),g5⟩,by simp only;omega⟩
   |true =>
    rw[F8,B4 hx,A5]
    cases hb:red[b]with
    |true =>
     exact⟨(E2 L,b+1),by rw[aS,G0],⟨h,L,rfl,by simp only;omega,a0 (λq=>by have q2:=q.2;rw[hx,hb]at q2;cases q2),g5⟩,by simp only;omega⟩
    |false =>
     refine⟨(E2 (L++[b]),b+1),?_,⟨h,L++[b],rfl,by simp only[J4,Q3];omega,λd=>?_,?_⟩,by simp only;omega⟩
     ·rw[cR,F8,Q1]
      unfold E2
      rw[L5]
      rfl
     ·simp only
      rw[J2,J3,g4 d]
      constructor
      ·rintro (q|q)
       ·exact⟨by omega,q.2⟩
       ·rw[q];exact⟨by omega,e2.1 rfl,by rw[hx,hb]⟩
      ·intro q
       by_cases e:d=b
       ·exact .inr e
       ·exact .inl ⟨by omega,q.2⟩
     ·refine nG.2 ⟨g5,by simp,λu hu v hv=>?_⟩
      rw[J3.1 hv]
      exact((g4 u).1 hu).1
  ·right
   have e1:b=p.N.length:=by omega
   subst e1
   exact⟨_,by rw[B1],L,rfl,g4,g5⟩) fuel ([],0) ⟨D9 _,[],rfl,D9 _,λb=>⟨λh=>(by cases h),λh=>absurd h.1 (N9 _)⟩,List.Pairwise.nil⟩ (by have:=E6;simp only;omega)
 obtain⟨q,e,L,rfl,c1,c2⟩:=key;refine⟨L,by unfold U9;rw[e,A5],λb=>?_,c2⟩;rw[c1 b];constructor
 ·rintro⟨_,⟨r,a,_,q1,q2⟩,q3⟩;exact⟨r,a,q1,q2,q3⟩
 ·rintro⟨r,a,q1,q2,q3⟩;obtain⟨m1,m2,m3⟩:=bA H q2;exact⟨m3,⟨r,a,m1,q1,q2⟩,q3⟩
end
end
inductive RS(p:A8):Nat->Prop
 |st:RS p p.S.toNat
 |step {q:Nat} (a u:Nat) (h:RS p q) (hu:pnx p q a=(u:Int)):RS p u
def Conn(p:A8):Prop:=∀q,q<p.N.length->RS p q
def uY(Q:A8):Q.S.toNat∈ordP Q:=(nN (λc=>(Q.N[c]?).getD []) (Q.N.length+1) 0 [Q.S.toNat]).subset (J3.2 rfl)
def dT.mem{p Q:A8}{cl:Nat->Nat}(H:H9 p)(K:dT p Q cl){q:Nat}(h:RS p q):cl q∈ordP Q:=by
 induction h with
 |st =>
  have:=uY Q
  rwa [K.st,I7]at this
 |step a u h hu ih =>
  obtain⟨h1,h2,h3⟩:=bA H hu;rename_i q;have hc:=K.lt q h1;have a2:=K.idem q h1;have a0:pnx p q a≠-1:=by omega
  obtain⟨r1,r2⟩:=K.row (cl q) a hc h2 a2;by_cases k:gx Q.N (cl q) a=-1
  ·exact absurd (r1 k q h1 rfl) a0
  ·obtain⟨e,_⟩:=(r2 k).2 q h1 rfl a0;rw[hu,I7]at e;have:=(mJ K.ren ih (a:=a) (by rw[K.inp];exact h2)).resolve_left k
   rwa [e,I7]at this
def zR(P:Nat->Prop):∀(x:A2) (L:List Nat),(∀c,c∈L->P c)->(∀t,t∈x->t≠-1->P t.toNat)->∀c,c∈x.foldl addT L->P c
 |[],L,h,_,c,hc=>h c hc
 |t::x,L,h,hx,c,hc=>by
  rw[jN]at hc;refine zR P x _ (λd hd=>?_) (λu hu=>hx u (O7 _ hu)) c hc;unfold addT at hd;split at hd
  ·exact h d hd
  ·rename_i g;rcases J2.1 hd with k|k
   ·exact h d k
   ·rw[J3.1 k];exact hx t U8 λe=>g (.inl e)
def tT(R:Nat->A2)(P:Nat->Prop)(hR:∀c,P c->∀t,t∈R c->t≠-1->P t.toNat):∀(f i:Nat) (L:List Nat),(∀c,c∈L->P c)->∀c,c∈bfsL R f i L->P c
 |0,_,L,h,c,hc=>h c hc
 |f+1,i,L,h,c,hc=>by
  unfold bfsL at hc;cases e:L[i]? with
  |none =>
   rw[e]at hc;exact h c hc
  |some d =>
   rw[e]at hc;exact tT R P hR f (i+1) _ (zR P _ _ h (hR d (h d (I8 e)))) c hc
def renP_conn{Q:A8}(R:RenOk Q):Conn (renP Q):=by
 obtain⟨nums,_,A⟩:=jG R
 have a3:∀c a,c∈ordP Q->a<Q.I.toNat->gx Q.N c a≠-1->pnx (renP Q) ((ordP Q).idxOf c) a=(↑((ordP Q).idxOf (gx Q.N c a).toNat):Int):=λc a hc ha h=>by
  have hm:=(mJ R hc ha).resolve_left h;have a2:=cV hc;unfold pnx renP;rw[H7,get_at a2,K6,H5,kX a2];unfold V8;rw[H7,Q6 ha,K6,H5];unfold numT;rw[if_pos ⟨h,hm⟩]
 have h0:(ordP Q).idxOf Q.S.toNat=0:=by
  obtain⟨T,hT⟩:=nN (λc=>(Q.N[c]?).getD []) (Q.N.length+1) 0 [Q.S.toNat];unfold ordP;rw[<- hT];simp
 have key:∀c,c∈ordP Q->c∈ordP Q/\RS (renP Q) ((ordP Q).idxOf c):=by
  refine tT (λc=>(Q.N[c]?).getD []) (λc=>c∈ordP Q/\RS (renP Q) ((ordP Q).idxOf c)) (λc hc t ht t0=>?_) (Q.N.length+1) 0 [Q.S.toNat] λc hc=>?_
  ·obtain⟨h1,h2⟩:=hc;obtain⟨x,x1,x2⟩:=R.gn.row c (A.lt c h1);simp only[x1,H5]at ht;obtain⟨a,ha,a4⟩:=dP.1 ht
   have hg:gx Q.N c a=t:=by
    unfold gx;rw[x1,H5,get_at ha,H5,a4]
   have a0:gx Q.N c a≠-1:=by rw[hg];exact t0
   have hm:=(mJ R h1 (a:=a) (by omega)).resolve_left a0;have hp:=a3 c a h1 (by omega) a0;rw[hg]at hm hp;exact⟨hm,.step a _ h2 hp⟩
  ·rw[J3.1 hc];refine⟨uY Q,?_⟩;rw[h0];exact .st
 intro s hs
 have hs:s<(ordP Q).length:=by
  unfold renP at hs;simpa using hs
 have h1:=(key (ordP Q)[s] (P7 hs)).2
 rwa [A.nd.idxOf_getElem s hs]at h1
section
section
variable {p:A8}
end
end
section
section
variable {p:A8}
end
end
def iter_pair{S R S' R':Type}{step1:S->Option (S⊕R)}{step2:S'->Option (S'⊕R')}(I:S->S'->Prop)(m:S->Nat)(Q:R->R'->Prop)(h:∀s s',I s s'->(∃t t',step1 s=some (.inl t)/\step2 s'=some (.inl t')/\I t t'/\m t<m s)\/∃r r',step1 s=some (.inr r)/\step2 s'=some (.inr r')/\Q r r') :
  ∀(n:Nat) (s:S) (s':S'),I s s'->m s<n->∃r r',iter step1 n s=some r/\iter step2 n s'=some r'/\Q r r'
 |0,_,_,_,hm=>absurd hm (N9 _)
 |n+1,s,s',hi,hm=>by
  unfold iter;rcases h s s' hi with⟨t,t',e1,e2,h1,h2⟩|⟨r,r',e1,e2,h1⟩
  ·rw[e1,e2];exact iter_pair I m Q h n t t' h1 (by omega)
  ·rw[e1,e2];exact⟨r,r',rfl,rfl,h1⟩
def jS(red:List Bool):Nat:=red.countP λb=>!b
def whites_set{red:List Bool}:∀{b:Nat},red[b]?=some false->jS (red.set b true)<jS red:=by
 induction red with
 |nil=>intro b h;cases h
 |cons x red ih =>
  intro b h;cases b with
  |zero =>
   have h:x=false:=by injection h
   subst h;unfold jS;simp
  |succ b =>
   have h:=ih (b:=b) h;unfold jS at h ⊢;rw[xO,jO,jO];omega
structure LrnI(p:A8)(red:List Bool):Prop where
 ok:H9 p
 con:Conn p
 len:red.length=p.N.length
section
def kids(R:Nat->A2)(c t:Nat):Prop:=(t:Int)∈R c
section
variable {R:Nat->A2}{lt:Nat->Nat->Prop}{st:Nat}
def yA{c:Nat}(hrow:∀(i j:Nat) (u v:Nat),i<j->(R c)[i]?=some (u:Int)->(R c)[j]?=some (v:Int)->lt u v)(hrng:∀t,t∈R c->t=-1\/0<=t){L:List Nat}(hL:L.Pairwise lt)(hk:∀w t,w∈L->kids R c t->lt w t) :
  ∀k,k<=(R c).length->(((R c).take k).foldl addT L).Pairwise lt/\∀w,w∈((R c).take k).foldl addT L->w∈L\/∃i,i<k/\(R c)[i]?=some (w:Int)
 |0,_=>by
  rw[wY];exact⟨hL,λw h=>.inl h⟩
 |k+1,hk1=>by
  obtain⟨h1,h2⟩:=yA hrow hrng hL hk k (by omega);have hx:=get_at (l:=R c) (i:=k) (by omega);rw[jR (by omega),qI];generalize ((R c).take k).foldl addT L=A at h1 h2;show(addT A (R c)[k]).Pairwise lt/\∀w,w∈addT A (R c)[k]->_;have hkeep:∀w,w∈A->w∈L\/∃i,i<k+1/\(R c)[i]?=some (w:Int):=λw h=>(h2 w h).elim .inl λ⟨i,q1,q2⟩=>.inr ⟨i,by omega,q2⟩;unfold addT;split
  ·exact⟨h1,hkeep⟩
  ·rename_i g;have hne:(R c)[k]≠-1:=λe=>g (.inl e);have hge:0<=(R c)[k]:=(hrng _ (P7 _)).resolve_left hne;have hto:(↑(R c)[k].toNat:Int)=(R c)[k]:=by omega
   refine⟨nG.2 ⟨h1,by simp,λu hu v hv=>?_⟩,λw hw=>?_⟩
   ·rw[J3.1 hv];rcases h2 u hu with q|⟨i,q1,q2⟩
    ·exact hk u _ q (by unfold kids;rw[hto];exact P7 _)
    ·exact hrow i k u _ q1 q2 (by rw[hto];exact hx)
   ·rcases J2.1 hw with q|q
    ·exact hkeep w q
    ·refine .inr ⟨k,jQ _,?_⟩;rw[J3.1 q,hto];exact hx
def xX(hrow:∀(c i j u v:Nat),i<j->(R c)[i]?=some (u:Int)->(R c)[j]?=some (v:Int)->lt u v)(hrng:∀c t,t∈R c->t=-1\/0<=t)(hst:∀c t,kids R c t->lt st t)(hch:∀u v c d,lt u v->kids R u c->kids R v d->lt c d) :
  ∀(f i:Nat) (L:List Nat),L.Pairwise lt->(∀w,w∈L->w=st\/∃j u,j<i/\L[j]?=some u/\kids R u w)->(bfsL R f i L).Pairwise lt
 |0,_,L,h1,_=>h1
 |f+1,i,L,h1,h2=>by
  unfold bfsL;cases e:L[i]? with
  |none=>exact h1
  |some c =>
   obtain⟨hi,hc⟩:=F6.1 e
   obtain⟨q1,q2⟩:=yA (c:=c) (λi j u v=>hrow c i j u v) (hrng c) h1 (λw t hw ht=>by
    rcases h2 w hw with h|⟨j,u,j1,j2,j3⟩
    ·rw[h];exact hst c t ht
    ·obtain⟨hj,hu⟩:=F6.1 j2
     have:=(iQ.1 h1) j i hj hi j1
     rw[hu,hc]at this
     exact hch u c w t this j3 ht) (R c).length (H0 _)
   rw[V2]at q1 q2;refine xX hrow hrng hst hch f (i+1) _ q1 λw hw=>?_
   have hget:∀(j u:Nat),L[j]?=some u->((R c).foldl addT L)[j]?=some u:=λj u h=>by
    have h3:=oH (R c) L;generalize (R c).foldl addT L=A at h3;obtain⟨T,rfl⟩:=h3;rw[P2 (F6.1 h).1];exact h
   rcases q2 w hw with h|⟨k,_,hk⟩
   ·rcases h2 w h with g|⟨j,u,j1,j2,j3⟩
    ·exact .inl g
    ·exact .inr ⟨j,u,by omega,hget j u j2,j3⟩
   ·exact .inr ⟨i,c,jQ _,hget i c e,I8 hk⟩
end
end
def grid_ext{n I:Nat}{N N':A4}(G:Grid n I N)(G':Grid n I N')(h:∀q a,q<n->a<I->gx N q a=gx N' q a):N=N':=by
 refine aC λq=>?_;by_cases hq:q<n
 ·obtain⟨x,h1,h2⟩:=G.row q hq;obtain⟨x',a2,a5⟩:=G'.row q hq;rw[h1,a2];congr 1;refine aC λa=>?_;by_cases ha:a<I
  ·obtain⟨z,z1,z2,z3⟩:=G.at hq ha;obtain⟨z',a0,a3,a4⟩:=G'.at hq ha;rw[h1]at z1;rw[a2]at a0;injection z1 with z1
   injection a0 with a0
   subst z1;subst a0;rw[z2,a3,h q a hq ha]
  ·rw[M2 (by omega),M2 (by omega)]
 ·have l1:=G.len;have l2:=G'.len;rw[M2 (by omega),M2 (by omega)]
def oB{W:A4}(hn:W.Nodup){i:Nat}{w:A2}(h:W[i]?=some w):W.idxOf w=i:=by
 obtain⟨hi,e⟩:=F6.1 h;have hm:w∈W:=I8 h;have a0:=cV hm;refine(List.getElem_inj (h₀:=a0) (h₁:=hi) hn).1 ?_;rw[kX a0,e]
def fX{W:A4}{w:A2}(h:w∈W):W[W.idxOf w]?=some w:=by
 have a0:=cV h;rw[get_at a0,kX a0]
structure P8(W:A4)(I:Nat)(D:A2->Prop)(ov:A2->Int)(N O:A4):Prop where
 gn:Grid W.length I N
 go:Grid W.length I O
 yes:∀q (a:Nat) w,W[q]?=some w->a<I->D (w++[(a:Int)])->gx N q a=(↑(W.idxOf (w++[(a:Int)])):Int)/\gx O q a=ov (w++[(a:Int)])
 no:∀q (a:Nat) w,W[q]?=some w->a<I->¬D (w++[(a:Int)])->gx N q a=-1/\gx O q a=-1
def P8.congr{W:A4}{I:Nat}{D D':A2->Prop}{ov:A2->Int}{N O:A4}(T:P8 W I D ov N O)(h:∀w∈W,∀a:Nat,a<I->(D (w++[(a:Int)])↔D' (w++[(a:Int)]))):P8 W I D' ov N O :=
 ⟨T.gn,T.go,λq a w hw ha hd=>T.yes q a w hw ha ((h w (I8 hw) a ha).2 hd),λq a w hw ha hd=>T.no q a w hw ha λg=>hd ((h w (I8 hw) a ha).1 g)⟩
def P8.uniq{W:A4}{I:Nat}{D:A2->Prop}{ov:A2->Int}{N O N' O':A4}(T:P8 W I D ov N O)(T':P8 W I D ov N' O'):N=N'/\O=O':=by
 have key:∀q a,q<W.length->a<I->gx N q a=gx N' q a/\gx O q a=gx O' q a:=λq a hq ha=>by
  have hw:=get_at hq;by_cases d:D (W[q]++[(a:Int)])
  ·obtain⟨h1,h2⟩:=T.yes q a _ hw ha d;obtain⟨a0,a2⟩:=T'.yes q a _ hw ha d;exact⟨h1.trans a0.symm,h2.trans a2.symm⟩
  ·obtain⟨h1,h2⟩:=T.no q a _ hw ha d;obtain⟨a0,a2⟩:=T'.no q a _ hw ha d;exact⟨h1.trans a0.symm,h2.trans a2.symm⟩
 exact⟨grid_ext T.gn T'.gn λq a h1 h2=>(key q a h1 h2).1,grid_ext T.go T'.go λq a h1 h2=>(key q a h1 h2).2⟩
def P8.put{W:A4}{I:Nat}{D:A2->Prop}{ov:A2->Int}{N O:A4}(T:P8 W I D ov N O)(hnd:W.Nodup){q a:Nat}{w x y:A2}(hw:W[q]?=some w)(ha:a<I)(hx:N[q]?=some x)(hy:O[q]?=some y) :
  P8 W I (λv=>D v\/v=w++[(a:Int)]) ov (N.set q (x.set a (↑(W.idxOf (w++[(a:Int)])):Int))) (O.set q (y.set a (ov (w++[(a:Int)])))):=by
 have hq:q<W.length:=(F6.1 hw).1;obtain⟨g1,g2⟩:=T.gn.put hq ha hx (↑(W.idxOf (w++[(a:Int)])):Int);obtain⟨k1,k2⟩:=T.go.put hq ha hy (ov (w++[(a:Int)]))
 have a4:∀(q' b:Nat) (w':A2),W[q']?=some w'->w'++[(b:Int)]=w++[(a:Int)]->q'=q/\b=a:=λq' b w' a0 e=>by
  obtain⟨e1,e2⟩:=List.append_inj' e rfl;subst e1;have h1:=oB hnd a0;have h2:=oB hnd hw;refine⟨by omega,?_⟩;injection e2 with e2 _
  omega
 refine⟨g1,k1,λq' b w' a0 hb hd=>?_,λq' b w' a0 hb hd=>?_⟩
 ·have a3:q'<W.length:=(F6.1 a0).1;rw[g2 q' b a3 hb,k2 q' b a3 hb];by_cases e:w'++[(b:Int)]=w++[(a:Int)]
  ·obtain⟨e1,e2⟩:=a4 q' b w' a0 e;rw[if_pos ⟨e1,e2⟩,if_pos ⟨e1,e2⟩,e];exact⟨rfl,rfl⟩
  ·have a2:¬(q'=q/\b=a):=λ⟨e1,e2⟩=>e (by
    subst e1;subst e2
    rw[hw]at a0
    injection a0 with a0
    rw[a0])
   rw[if_neg a2,if_neg a2];exact T.yes q' b w' a0 hb (hd.resolve_right e)
 ·have a3:q'<W.length:=(F6.1 a0).1;rw[g2 q' b a3 hb,k2 q' b a3 hb]
  have a2:¬(q'=q/\b=a):=λ⟨e1,e2⟩=>hd (.inr (by
   subst e1;subst e2
   rw[hw]at a0
   injection a0 with a0
   rw[a0]))
  rw[if_neg a2,if_neg a2];exact T.no q' b w' a0 hb λh=>hd (.inl h)
def sD{N:A4}{r:A2}{q:Nat}(h:q<N.length)(a:Nat):gx (N++[r]) q a=gx N q a:=by
 unfold gx;rw[P2 h]
def vZ{N:A4}{I:Nat}(a:Nat):gx (N++[List.replicate I (-1)]) N.length a=-1:=by
 unfold gx;rw[V6 (H0 _),V1];simp only[xI,H5,W4];split<;>rfl
def Grid.snoc{n I:Nat}{N:A4}(G:Grid n I N):Grid (n+1) I (N++[List.replicate I (-1)]):=by
 have hl:=G.len;refine⟨by rw[J4,hl];rfl,λq hq=>?_⟩;by_cases h:q<n
 ·rw[P2 (by omega)];exact G.row q h
 ·have e:q=N.length:=by omega
  rw[e,V6 (H0 _),V1];exact⟨_,rfl,J6⟩
def P8.grow{W:A4}{I:Nat}{D:A2->Prop}{ov:A2->Int}{N O:A4}(T:P8 W I D ov N O){v:A2}(hD:∀u,D u->u∈W)(hv:∀a:Nat,¬D (v++[(a:Int)])) :
  P8 (W++[v]) I D ov (N++[List.replicate I (-1)]) (O++[List.replicate I (-1)]):=by
 have l1:=T.gn.len;have l2:=T.go.len;have a0:(W++[v]).length=W.length+1:=by rw[J4];rfl
 refine⟨a0 ▸ T.gn.snoc,a0 ▸ T.go.snoc,λq a w hw ha hd=>?_,λq a w hw ha hd=>?_⟩
 ·have hq:q<W.length:=by
   rcases K4 q W.length with h|h
   ·exact h
   ·rw[V6 h]at hw
    have:v=w:=by
     obtain⟨h1,h2⟩:=F6.1 hw;simp only[Q3]at h1;have e:q-W.length=0:=by omega
     simpa[e]using h2
    subst this;exact absurd hd (hv a)
  rw[P2 hq]at hw;rw[sD (by omega),sD (by omega),kS,if_pos (hD _ hd)];exact T.yes q a w hw ha hd
 ·rcases K4 q W.length with h|h
  ·rw[P2 h]at hw;rw[sD (by omega),sD (by omega)];exact T.no q a w hw ha hd
  ·obtain⟨h1,h2⟩:=F6.1 hw;have e:q=W.length:=by omega
   constructor
   ·rw[e,<- l1];exact vZ a
   ·rw[e,<- l2];exact vZ a
def P8.start{I:Nat}{ov:A2->Int}:P8 [[]] I (λv=>v∈[([]:A2)]) ov [List.replicate I (-1)] [List.replicate I (-1)]:=by
 have g:Grid 1 I [List.replicate I (-1:Int)]:=⟨rfl,λq hq=>by
  have e:q=0:=by omega
  subst e
  exact⟨_,rfl,J6⟩⟩
 refine⟨g,g,λq a w hw ha hd=>?_,λq a w hw ha hd=>?_⟩
 ·rw[J3]at hd;exact absurd hd (by simp)
 ·have h1:=(F6.1 hw).1;have e:q=0:=by simp only[Q3]at h1;omega
  subst e;have:=vZ (N:=[]) (I:=I) a;exact⟨this,this⟩
def P8.blank{S:A4}{I:Nat}{ov:A2->Int}:P8 S I (λ_=>False) ov (List.replicate S.length (List.replicate I (-1))) (List.replicate S.length (List.replicate I (-1))):=by
 have g:Grid S.length I (List.replicate S.length (List.replicate I (-1:Int))):=⟨J6,λq hq=>⟨_,by rw[W4,if_pos hq],J6⟩⟩;refine⟨g,g,λq a w hw ha hd=>hd.elim,λq a w hw ha hd=>?_⟩;have hq:=(F6.1 hw).1
 have:gx (List.replicate S.length (List.replicate I (-1:Int))) q a=-1:=by
  unfold gx;rw[W4,if_pos hq,H5,W4];split<;>rfl
 exact⟨this,this⟩
structure Stem(W:A4):Prop where
 nd:W.Nodup
 hd:W[0]?=some []
 pc:∀w x,w++[x]∈W->w∈W
def Stem.grow{W:A4}(H:Stem W){w:A2}{x:Int}(hw:w∈W)(h:w++[x]∉W):Stem (W++[w++[x]]):=by
 refine⟨V5.2 ⟨H.nd,by simp,λu hu v hv e=>?_⟩,?_,λu y hu=>?_⟩
 ·rw[J3.1 hv]at e;exact h (e ▸ hu)
 ·have:=(F6.1 H.hd).1;rw[P2 this];exact H.hd
 ·rcases J2.1 hu with g|g
  ·exact L6 _ (H.pc u y g)
  ·obtain⟨e,_⟩:=List.append_inj' (J3.1 g) rfl;exact L6 _ (e ▸ hw)
def common_ge:∀(u a b:A2),u <+: a->u <+: b->u.length<=G3 a b
 |[],_,_,_,_=>D9 _
 |x::u,[],_,h,_=>by simp at h
 |x::u,_::_,[],_,h=>by simp at h
 |x::u,y::a,z::b,h1,h2=>by
  rw[List.cons_prefix_cons]at h1 h2;obtain⟨rfl,h1⟩:=h1;obtain⟨rfl,h2⟩:=h2;have:=common_ge u a b h1 h2;simp only[G3,if_pos,G9];omega
def ovT(l:List I0)(w:A2):Int:=((l.find? λt=>decide (w <+: t.In)).map λt=>(t.O[w.length-1]?).getD 0).getD 0
def agree_at{a b:I0}(h:Agree a b){u:A2}(h1:u <+: a.In)(h2:u <+: b.In){k:Nat}(hk:k<u.length):a.O[k]?=b.O[k]?:=by
 have hc:=common_ge u a.In b.In h1 h2;unfold Agree at h;have:=congrArg (λl=>l[k]?) h;simp only[List.getElem?_take_of_lt (show k<G3 a.In b.In by omega)]at this;exact this
def ovT_eq{o:I4}(hv:bS o){t:I0}(ht:t∈o.T){k:Nat}(hk:k<t.In.length):t.O[k]?=some (ovT o.T (t.In.take (k+1))):=by
 have a0:(t.In.take (k+1)).length=k+1:=by rw[M7];omega
 have hl:=(hv.prop t ht).1.2.1;unfold ovT;cases e:o.T.find? λu=>decide (t.In.take (k+1) <+: u.In) with
 |none=>exact absurd (kQ _ _) (by simpa using List.find?_eq_none.1 e t ht)
 |some u =>
  have hu:u∈o.T:=List.mem_of_find?_eq_some e;have hp:t.In.take (k+1) <+: u.In:=by simpa using List.find?_some e
  have hA:Agree t u:=by
   by_cases g:t=u
   ·rw[g];rfl
   ·obtain⟨i,hi,rfl⟩:=eU ht;obtain⟨j,hj,rfl⟩:=eU hu;rcases kR i j with h|h|h
    ·exact(hv.apart i j _ _ h (get_at hi) (get_at hj)).2
    ·subst h;exact absurd rfl g
    ·exact(hv.apart j i _ _ h (get_at hj) (get_at hi)).2.symm
  have:=agree_at hA (kQ _ _) hp (k:=k) (by omega);rw[K6,H5,a0,tI,<- this,get_at (by omega),H5]
def allP(o:I4):A4:=preL ([]::o.T.map λt=>t.In)
def oW{x w:A2}:w∈Y6 x↔w <+: x:=by
 unfold Y6;rw[I3];constructor
 ·rintro⟨k,_,rfl⟩;exact kQ _ _
 ·intro h;refine⟨w.length,M5.2 (by have:=h.length_le;omega),(tO.1 h).symm⟩
def iE{o:I4}{w:A2}:w∈allP o↔w=[]\/∃t∈o.T,w <+: t.In:=by
 unfold allP preL;rw[eR];constructor
 ·rintro⟨x,hx,hw⟩;rcases L8.1 hx with rfl|hx
  ·exact .inl (List.prefix_nil.1 (oW.1 hw))
  ·obtain⟨t,ht,rfl⟩:=I3.1 hx;exact .inr ⟨t,ht,oW.1 hw⟩
 ·rintro (rfl|⟨t,ht,hw⟩)
  ·exact⟨[],U8,oW.2 (cT _)⟩
  ·exact⟨t.In,O7 _ (I3.2 ⟨t,ht,rfl⟩),oW.2 hw⟩
structure TrI(o:I4)(W:A4)(N O:A4):Prop where
 st:Stem W
 tm:P8 W o.I.toNat (λv=>v∈W) (ovT o.T) N O
 sub:∀v∈W,v∈allP o
def TrI.le{o:I4}{W N O:A4}(K:TrI o W N O):W.length<=(allP o).length:=iH K.st.nd K.sub
def TrI.take{o:I4}{W N O:A4}(K:TrI o W N O){w:A2}(h:w∈W):∀n k,k+n=w.length->w.take k∈W
 |0,k,e=>by rw[fS (by omega)];exact h
 |n+1,k,e=>by
  have:=K.take h n (k+1) (by omega);rw[jR (by omega)]at this;exact K.st.pc _ _ this
def tree_s54{o:I4}(hv:bS o)(hP:(allP o).length<=4090){t:I0}(ht:t∈o.T){W N O:A4}(K:TrI o W N O){q k:Nat}(hk:k<t.In.length)(hq:W[q]?=some (t.In.take k)) :
  ∃(W' N' O':A4) (q':Nat),P6.s54 o t N O (q:Int) k=some (.inl (N',O',(q':Int),k+1))/\TrI o W' N' O'/\W'[q']?=some (t.In.take (k+1))/\∀v∈W,v∈W':=by
 obtain⟨i1,i2⟩:=hv.inp;have b4:=K.le;have a3:=(iK (hv.prop t ht).1.1).2;have a9:=get_at hk;obtain⟨c1,c2⟩:=a3 _ (P7 hk);have hx:=a9;generalize t.In[k]=e at c1 c2 hx;obtain⟨a,rfl⟩:=tN c1;have ha:a<o.I.toNat:=by omega
 have a0:t.In.take (k+1)=t.In.take k++[(a:Int)]:=by
  rw[xJ,hx];rfl
 have a2:q<W.length:=(F6.1 hq).1;have lN:=K.tm.gn.len;have lO:=K.tm.go.len;obtain⟨x,x1,x2,x3⟩:=K.tm.gn.at a2 ha;obtain⟨y,y1,y2,y3⟩:=K.tm.go.at a2 ha;have a4:=ovT_eq hv ht hk
 have a5:Z9 o.I=some (List.replicate o.I.toNat (-1)):=by
  have:=sF (x:=o.I.toNat) (by omega)
  rwa [qA (by omega)]at this
 simp only[P6.s54];rw[O3 hx,F8,B4 hx,D6 rfl x1,D6 rfl x2];by_cases hm:t.In.take k++[(a:Int)]∈W
 ·obtain⟨g1,g2⟩:=K.tm.yes q a _ hq ha hm;rw[B1,A5];simp only[W5,P6.k53];rw[D6 rfl x1,D6 rfl x2,g1];refine⟨W,N,O,_,rfl,K,?_,λv h=>h⟩;rw[a0];exact fX hm
 ·obtain⟨g1,g2⟩:=K.tm.no q a _ hq ha hm;have a7:=K.st.grow (I8 hq) hm;have b2:∀b:Nat,¬(t.In.take k++[(a:Int)])++[(b:Int)]∈W:=λb h=>hm (K.st.pc _ _ h);have T1:=K.tm.grow (v:=t.In.take k++[(a:Int)]) (λu h=>h) b2;have b3:(W++[t.In.take k++[(a:Int)]])[q]?=some (t.In.take k):=by rw[P2 a2];exact hq
  have T2:=T1.put a7.nd b3 ha (by rw[P2 (by omega)];exact x1) (by rw[P2 (by omega)];exact y1)
  have a6:(W++[t.In.take k++[(a:Int)]]).idxOf (t.In.take k++[(a:Int)])=N.length:=by
   rw[kS,if_neg hm,lN];simp
  rw[a6,List.set_append_left _ _ (by omega),List.set_append_left _ _ (by omega)]at T2;rw[a0]at a4;rw[C0 g1,B1,D6 rfl x1,D6 rfl y1,B4 a4,D6 rfl x2,D6 rfl y2,a5,A5,H1 (by rw[P0];unfold B5;simp only[Q3];omega),A5,H1 (by rw[P0];unfold B5;simp only[Q3];omega),A5];simp only[W5,P6.k53,I7];rw[D6 (i:=q) (x:=x.set a (N.length:Int)) rfl (by rw[P2 (by rw[P0];omega),P9 (by omega)]),D6 (i:=a) (x:=(N.length:Int)) rfl (P9 (by omega))];refine⟨W++[t.In.take k++[(a:Int)]],_,_,N.length,rfl,⟨a7,T2.congr λw hw b hb=>?_,λv a8=>?_⟩,?_,λv h=>L6 _ h⟩
  ·rw[J2,J3]
  ·rcases J2.1 a8 with h|h
   ·exact K.sub v h
   ·rw[J3.1 h,<- a0];exact iE.2 (.inr ⟨t,ht,kQ _ _⟩)
  ·rw[lN,a0,V6 (H0 _),V1];rfl
def tree_loop54{o:I4}(hv:bS o)(hP:(allP o).length<=4090){t:I0}(ht:t∈o.T){W N O:A4}(K:TrI o W N O) :
  ∃(W' N' O':A4),iter (λ(s:A4×A4×Int×Nat)=>P6.s54 o t s.1 s.2.1 s.2.2.1 s.2.2.2) fuel (N,O,0,0)=some (.inl (N',O'))/\TrI o W' N' O'/\t.In∈W'/\∀v∈W,v∈W':=by
 have hl:=(iK (hv.prop t ht).1.1).1
 have key:=H4 (step:=λ(s:A4×A4×Int×Nat)=>P6.s54 o t s.1 s.2.1 s.2.2.1 s.2.2.2) (λs=>∃(W':A4) (q:Nat),s.2.2.1=(q:Int)/\s.2.2.2<=t.In.length/\W'[q]?=some (t.In.take s.2.2.2)/\TrI o W' s.1 s.2.1/\∀v∈W,v∈W') (λs=>t.In.length-s.2.2.2)
  (λr=>∃(W' N' O':A4),r=.inl (N',O')/\TrI o W' N' O'/\t.In∈W'/\∀v∈W,v∈W') (λ⟨N,O,s,k⟩ ⟨W1,q,h1,h2,h3,h4,h5⟩=>by
  simp only at h1 h2 h3 h4 h5 ⊢
  subst h1
  by_cases hk:k<t.In.length
  ·obtain⟨W',N',O',q',e,k1,k2,k3⟩:=tree_s54 hv hP ht h4 hk h3
   exact .inl ⟨_,e,⟨W',q',rfl,hk,k2,k1,λv hv=>k3 v (h5 v hv)⟩,by simp only;omega⟩
  ·right
   simp only[P6.s54]
   rw[B1]
   refine⟨_,rfl,W1,N,O,rfl,h4,?_,h5⟩
   rw[fS (by omega)]at h3
   exact I8 h3) fuel (N,O,0,0) ⟨W,0,rfl,D9 _,by rw[wY];exact K.st.hd,K,λv h=>h⟩ (by have:=E6;simp only;omega)
 obtain⟨r,e,W',N',O',rfl,q⟩:=key;exact⟨W',N',O',e,q⟩
def tree_loop56{o:I4}(hv:bS o)(hP:(allP o).length<=4090) :
  ∃(W N O:A4),iter (λ(s:A4×A4×Nat)=>P6.s56 o s.1 s.2.1 s.2.2) fuel ([List.replicate o.I.toNat (-1)],[List.replicate o.I.toNat (-1)],0)=some (.inl (N,O))/\TrI o W N O/\∀v,v∈W↔v∈allP o:=by
 have hn:=hv.num
 have K0:TrI o [[]] [List.replicate o.I.toNat (-1)] [List.replicate o.I.toNat (-1)] :=
  ⟨⟨by simp,rfl,λw x h=>by simp at h⟩,P8.start,λv h=>by
   rw[J3]at h
   exact iE.2 (.inl h)⟩
 have key:=H4 (step:=λ(s:A4×A4×Nat)=>P6.s56 o s.1 s.2.1 s.2.2) (λs=>∃W,s.2.2<=o.T.length/\TrI o W s.1 s.2.1/\∀j t,j<s.2.2->o.T[j]?=some t->t.In∈W) (λs=>o.T.length-s.2.2)
  (λr=>∃(W N O:A4),r=.inl (N,O)/\TrI o W N O/\∀t∈o.T,t.In∈W) (λ⟨N,O,i⟩ ⟨W,h1,h2,h3⟩=>by
  simp only at h1 h2 h3 ⊢
  simp only[P6.s56]
  by_cases hi:i<o.T.length
  ·have hx:=get_at hi
   obtain⟨W',N',O',e,k1,k2,k3⟩:=tree_loop54 hv hP (P7 hi) h2
   rw[O3 hx,F8,B4 hx,e,A5]
   refine .inl ⟨_,rfl,⟨W',hi,k1,λj t hj ht=>?_⟩,by simp only;omega⟩
   rcases K4 j i with h|h
   ·exact k3 _ (h3 j t h ht)
   ·have ej:j=i:=by simp only at hj;omega
    subst ej
    rw[hx]at ht
    injection ht with ht
    subst ht
    exact k2
  ·rw[B1]
   refine .inr ⟨_,rfl,W,N,O,rfl,h2,λt ht=>?_⟩
   obtain⟨j,hj,e⟩:=eU ht
   exact h3 j t (by omega) (by rw[get_at hj,e])) fuel ([List.replicate o.I.toNat (-1)],[List.replicate o.I.toNat (-1)],0) ⟨[[]],D9 _,K0,λj t hj=>absurd hj (N9 _)⟩ (by have:=E6;simp only;omega)
 obtain⟨r,e,W,N,O,rfl,K,a0⟩:=key;refine⟨W,N,O,e,K,λv=>⟨K.sub v,λh=>?_⟩⟩;rcases iE.1 h with rfl|⟨t,ht,hp⟩
 ·exact I8 K.st.hd
 ·have:=K.take (a0 t ht) (t.In.length-v.length) v.length (by have:=hp.length_le;omega)
  rwa [<- tO.1 hp]at this
section
def uK:∀(x y:A2) (a b:Int),x.length=y.length->(lexI x y=-1\/x=y/\a<b)->lexI (x++[a]) (y++[b])=-1
 |[],[],a,b,_,h=>by
  rcases h with h|⟨_,h⟩
  ·simp[lexI]at h
  ·simp[lexI,h]
 |[],_::_,_,_,h,_=>by simp at h
 |_::_,[],_,_,h,_=>by simp at h
 |u::x,v::y,a,b,hl,h=>by
  have ih:=uK x y a b (by simpa using hl);simp only[jP,lexI];by_cases h1:u<v
  ·rw[if_pos h1]
  ·rw[if_neg h1];rcases h with h|⟨h,h2⟩
   ·simp only[lexI,if_neg h1]at h;by_cases h3:v<u
    ·rw[if_pos h3]at h;exact absurd h (by decide)
    ·rw[if_neg h3]at h ⊢;exact ih (.inl h)
   ·injection h with e1 e2
    rw[if_neg (by omega)];exact ih (.inr ⟨e2,h2⟩)
def tZ{x y:A2}{a b:Int}(h:cmpW x y=-1\/x=y/\a<b):cmpW (x++[a]) (y++[b])=-1:=by
 unfold cmpW at h ⊢;simp only[J4,Q3];by_cases h1:x.length<y.length
 ·rw[if_pos (by omega)]
 ·rcases h with h|⟨rfl,h⟩
  ·rw[if_neg h1]at h;by_cases h2:y.length<x.length
   ·rw[if_pos h2]at h;exact absurd h (by decide)
   ·rw[if_neg h2]at h;rw[if_neg (by omega),if_neg (by omega)];exact uK x y a b (by omega) (.inl h)
  ·rw[if_neg (by omega),if_neg (by omega)];exact uK x x a b rfl (.inr ⟨rfl,h⟩)
def wd(W:A4)(c:Nat):A2:=(W[c]?).getD []
def eX{W:A4}{c:Nat}{w:A2}(h:W[c]?=some w):wd W c=w:=by
 unfold wd;rw[h,H5]
section
variable {W N O:A4}{I:Nat}{ov:A2->Int}
def tree_kid(T:P8 W I (λv=>v∈W) ov N O){c i u:Nat}(h:((N[c]?).getD [])[i]?=some (u:Int)) :
  c<W.length/\i<I/\W[u]?=some (wd W c++[(i:Int)]):=by
 have hl:=T.gn.len
 have hc:c<W.length:=by
  rcases K4 c W.length with g|g
  ·exact g
  ·rw[M2 (l:=N) (by omega)]at h;simp at h
 have hi:i<I:=by
  obtain⟨x,x1,x2⟩:=T.gn.row c hc;rw[x1,H5]at h;have:=(F6.1 h).1;omega
 refine⟨hc,hi,?_⟩
 have hg:gx N c i=(u:Int):=by
  unfold gx;rw[h,H5]
 have hw:=get_at hc;rw[eX hw];by_cases d:W[c]++[(i:Int)]∈W
 ·have:=(T.yes c i _ hw hi d).1;have e:u=W.idxOf (W[c]++[(i:Int)]):=by omega
  rw[e];exact fX d
 ·have:=(T.no c i _ hw hi d).1;omega
def tree_ren(H:Stem W)(T:P8 W I (λv=>v∈W) ov N O)(hI:I<=64)(hn:W.length<=1000000):RenOk (⟨(I:Int),0,N,O⟩:A8):=by
 have hl:=T.gn.len;have h0:=(F6.1 H.hd).1;refine⟨by simp,by simp only;omega,by simp only;omega,⟨0,rfl,by simp only;omega⟩,?_,?_,λq a hq ha=>?_⟩
 ·simp only[I7,hl];exact T.gn
 ·simp only[I7,hl];exact T.go
 ·simp only[I7]at hq ha ⊢;rw[hl]at hq;have hw:=get_at hq;by_cases d:W[q]++[(a:Int)]∈W
  ·refine .inr ⟨_,(T.yes q a _ hw ha d).1,?_⟩;rw[hl];exact cV d
  ·exact .inl (T.no q a _ hw ha d).1
def tree_ord(H:Stem W)(T:P8 W I (λv=>v∈W) ov N O)(hI:I<=64)(hn:W.length<=1000000)(hlet:∀w x,w++[x]∈W->∃a:Nat,x=(a:Int)/\a<I) :
  (ordP (⟨(I:Int),0,N,O⟩:A8)).map (wd W)=sortW W:=by
 have R:=tree_ren H T hI hn;have hl:=T.gn.len;obtain⟨nums,_,A⟩:=jG R;have h0:=H.hd
 have a0:∀{c t:Nat},kids (λc=>(N[c]?).getD []) c t->∃i,W[t]?=some (wd W c++[(i:Int)]):=λ{c t} h=>by
  obtain⟨i,hi,e⟩:=eU h;exact⟨i,(tree_kid T (by rw[get_at hi,e])).2.2⟩
 have hs:(ordP (⟨(I:Int),0,N,O⟩:A8)).Pairwise (λu v=>cmpW (wd W u) (wd W v)=-1):=by
  unfold ordP;simp only;refine xX (R:=λc=>(N[c]?).getD []) (lt:=λu v=>cmpW (wd W u) (wd W v)=-1) (st:=Int.toNat 0) (λc i j u v a6 h1 h2=>?_) (λc t ht=>?_) (λc t ht=>?_) (λu v c d a5 hu hv=>?_) _ 0 [Int.toNat 0] (by simp) (λw hw=>.inl (J3.1 hw))
  ·rw[eX (tree_kid T h1).2.2,eX (tree_kid T h2).2.2];exact tZ (.inr ⟨rfl,by omega⟩)
  ·obtain⟨i,hi,e⟩:=eU ht
   have hc:c<N.length:=by
    rcases K4 c N.length with g|g
    ·exact g
    ·rw[M2 g]at hi;simp at hi
   have hx:=get_at hc
   have a4:i<I:=by
    obtain⟨x,x1,x2⟩:=T.gn.row c (by omega);rw[x1]at hi;simp only[H5]at hi;omega
   have hg:gx N c i=t:=by
    unfold gx;rw[get_at (l:=(N[c]?).getD []) hi,H5,e]
   rcases R.rng c i (by simp only;omega) (by simpa using a4) with q|⟨u,q,_⟩
   ·simp only at q;exact .inl (by omega)
   ·simp only at q;exact .inr (by omega)
  ·obtain⟨i,hi⟩:=a0 ht;rw[eX hi,eX (c:=Int.toNat 0) h0];unfold cmpW;rw[if_pos (by simp)]
  ·obtain⟨i,hi⟩:=a0 hu;obtain⟨j,hj⟩:=a0 hv;rw[eX hi,eX hj];exact tZ (.inl a5)
 have a3:∀(n:Nat) (w:A2),w.length=n->w∈W->W.idxOf w∈ordP (⟨(I:Int),0,N,O⟩:A8):=by
  intro n
  induction n with
  |zero =>
   intro w hw hm;have:w=[]:=V7 hw;subst this;rw[oB H.nd h0];exact uY _
  |succ n ih =>
   intro w hw hm;rcases List.eq_nil_or_concat w with rfl|⟨v,x,rfl⟩
   ·simp at hw
   rw[List.concat_eq_append]at hw hm ⊢;obtain⟨a,rfl,ha⟩:=hlet v x hm;have hv:=H.pc v _ hm;have h1:=ih v (by simpa using hw) hv;have hy:=(T.yes _ a v (fX hv) ha hm).1;have h2:=(mJ R h1 (a:=a) (by simpa using ha)).resolve_left (by simp only;omega);simp only[hy,I7]at h2;exact h2
 refine nQ (qJ.2 hs) (fG W) λw=>?_;rw[bD];constructor
 ·intro h;obtain⟨c,hc,rfl⟩:=I3.1 h;have a2:c<W.length:=by have:=A.lt c hc;simp only at this;omega
  rw[eX (get_at a2)];exact P7 a2
 ·intro h;exact I3.2 ⟨_,a3 _ w rfl h,eX (fX h)⟩
def tree_sorted(H:Stem W)(T:P8 W I (λv=>v∈W) ov N O)(hI:I<=64)(hn:W.length<=1000000)(hlet:∀w x,w++[x]∈W->∃a:Nat,x=(a:Int)/\a<I) :
  P8 (sortW W) I (λv=>v∈sortW W) ov (renP (⟨(I:Int),0,N,O⟩:A8)).N (renP (⟨(I:Int),0,N,O⟩:A8)).O:=by
 have R:=tree_ren H T hI hn;have hl:=T.gn.len;obtain⟨nums,_,A⟩:=jG R;have a0:=tree_ord H T hI hn hlet
 have a9:(sortW W).Nodup:=(fG W).imp λ{a b} h e=>by
  rw[e,kE]at h;exact absurd h (by decide)
 have a7:=A.lt;unfold renP;simp only;generalize ordP (⟨(I:Int),0,N,O⟩:A8)=F at a0 a7;have b2:F.length=(sortW W).length:=by rw[<- a0,C3]
 have hF:∀(q:Nat) (w:A2),(sortW W)[q]?=some w->∃c,F[q]?=some c/\W[c]?=some w:=λq w h=>by
  rw[<- a0,H7]at h;cases e:F[q]? with
  |none=>rw[e]at h;simp at h
  |some c =>
   rw[e]at h;simp only[K6,E0]at h;have hc:=a7 c (I8 e);simp only at hc;have hw:=get_at (l:=W) (i:=c) (by omega);rw[eX hw]at h;exact⟨c,rfl,by rw[hw,h]⟩
 have a8:∀v,v∈W->F.idxOf (W.idxOf v)=(sortW W).idxOf v/\W.idxOf v∈F:=λv hv=>by
  have hm:v∈sortW W:=(bD W v).2 hv;obtain⟨c,h1,h2⟩:=hF _ v (fX hm);have hc:=oB H.nd h2;have a6:W.idxOf v∈F:=by rw[hc];exact I8 h1
  refine⟨?_,a6⟩;have a5:=cV a6
  have h3:(sortW W)[F.idxOf (W.idxOf v)]?=some v:=by
   rw[<- a0,H7,get_at a5,kX a5,K6,eX (fX hv)]
  exact(oB a9 h3).symm
 have a3:∀(f:Nat->A2) (g:Nat->Nat->Int),(∀c,f c=(List.range I).map (g c))->∀q a c,F[q]?=some c->a<I->gx (F.map f) q a=g c a:=λf g hf q a c hq ha=>by
  unfold gx;rw[H7,hq,K6,H5,hf,H7,Q6 ha,K6,H5]
 have a2:∀(f:Nat->A2),(∀c,(f c).length=I)->Grid (sortW W).length I (F.map f):=λf hf=>⟨by rw[C3,b2],λq hq=>by
  rw[H7,get_at (l:=F) (by omega),K6]
  exact⟨_,rfl,hf _⟩⟩
 refine⟨a2 _ λc=>by unfold V8;simp,a2 _ λc=>by unfold Z6;simp,λq a w hw ha hd=>?_,λq a w hw ha hd=>?_⟩
 ·obtain⟨c,h1,h2⟩:=hF q w hw;have a4:=(bD W _).1 hd;obtain⟨y1,y2⟩:=T.yes c a w h2 ha a4;obtain⟨z1,z2⟩:=a8 _ a4;rw[a3 _ (λc a=>numT F (gx N c a)) (λc=>by unfold V8;simp) q a c h1 ha,a3 _ (λc a=>if gx N c a=-1 then(-1:Int) else gx O c a) (λc=>by unfold Z6;simp) q a c h1 ha];rw[y1,y2];refine⟨?_,if_neg (by omega)⟩;unfold numT;rw[if_pos ⟨by omega,by rw[I7];exact z2⟩,I7,z1]
 ·obtain⟨c,h1,h2⟩:=hF q w hw;obtain⟨y1,y2⟩:=T.no c a w h2 ha λh=>hd ((bD W _).2 h);rw[a3 _ (λc a=>numT F (gx N c a)) (λc=>by unfold V8;simp) q a c h1 ha,a3 _ (λc a=>if gx N c a=-1 then(-1:Int) else gx O c a) (λc=>by unfold Z6;simp) q a c h1 ha];rw[y1];refine⟨?_,if_pos rfl⟩;unfold numT;rw[if_neg λh=>h.1 rfl]
end
end
section
def ne_before{l:A4}{w:A2}{i:Nat}(h:i<l.idxOf w){x:A2}(hx:l[i]?=some x):x≠w:=by
 obtain⟨hi,e⟩:=F6.1 hx;intro g;have:=List.not_of_lt_findIdx (xs:=l) (p:=λy=>y==w) h;rw[e,g]at this;simp at this
def zT{l:A4}{w:A2}(hl:l.length<=1000000)(hs:∀x∈l,SmW x)(h:w∈l):fD l w=some (↑(l.idxOf w):Int):=by
 have a0:=cV h;unfold fD
 have key:=S1 (step:=λ(s:Nat)=>fD.s2 l w s) (r:=l.idxOf w) (λi=>i<=l.idxOf w) (λi=>l.length-i) (λi g=>by
  have hi:i<l.length:=by omega
  have hx:=get_at hi
  simp only[fD.s2]
  rw[O3 hx,F8,B4 hx,sB _ _ (hs _ (P7 hi)),A5,A5]
  by_cases e:i=l.idxOf w
  ·right
   have:l[i]=w:=by
    have:=fX h
    rw[<- e,hx]at this
    injection this
   rw[G7 this,aS,G0,e]
  ·left
   rw[J0 (ne_before (by omega) hx),cR,F8,K3]
   exact⟨_,rfl,by omega,by omega⟩) (n:=fuel) (s:=0) (D9 _) (by have:=E6;omega)
 rw[key,A5]
def blank_row{I:Nat}(hI:I<=64):iter (λ(s:A2×A2×Nat)=>U2.s18 (I:Int) s.1 s.2.1 s.2.2) fuel ([],[],0)=some (List.replicate I (-1),List.replicate I (-1)):=by
 refine S1 (λs=>s.2.2<=I/\s.1=List.replicate s.2.2 (-1)/\s.2.1=List.replicate s.2.2 (-1)) (λs=>I-s.2.2) (λ⟨y,z,a⟩ ⟨g1,g2,g3⟩=>?_) ⟨D9 _,rfl,rfl⟩ (by have:=E6;simp only;omega);simp only at g1 g2 g3;subst g2;subst g3;simp only[U2.s18];by_cases h:a<I
 ·left;rw[C0,H1 (by rw[J6];unfold B5;omega),H1 (by rw[J6];unfold B5;omega),K3];exact⟨_,rfl,⟨h,qC.symm,qC.symm⟩,by simp only;omega⟩
 ·right;have e:a=I:=by omega
  subst e;rw[B1]
def R35_blank_eq{I n:Nat}(hI:I<=64)(hn:n<=1000000):U2 (I:Int) (n:Int)=some ⟨(I:Int),0,List.replicate n (List.replicate I (-1)),List.replicate n (List.replicate I (-1))⟩:=by
 unfold U2
 have key:=S1 (step:=λ(s:A4×A4×Nat)=>U2.s20 (I:Int) (n:Int) s.1 s.2.1 s.2.2) (r:=(List.replicate n (List.replicate I (-1)),List.replicate n (List.replicate I (-1)))) (λs=>s.2.2<=n/\s.1=List.replicate s.2.2 (List.replicate I (-1))/\s.2.1=List.replicate s.2.2 (List.replicate I (-1))) (λs=>n-s.2.2) (λ⟨y,z,a⟩ ⟨g1,g2,g3⟩=>by
  simp only at g1 g2 g3
  subst g2
  subst g3
  simp only[U2.s20]
  by_cases h:a<n
  ·left
   rw[C0,blank_row hI,A5]
   simp only[U2.k19]
   rw[H1 (by rw[J6];unfold B5;simp only[Q3];omega),H1 (by rw[J6];unfold B5;simp only[Q3];omega),K3]
   exact⟨_,rfl,⟨h,qC.symm,qC.symm⟩,by simp only;omega⟩
  ·right
   have e:a=n:=by omega
   subst e
   rw[B1]) (n:=fuel) (s:=([],[],0)) ⟨D9 _,rfl,rfl⟩ (by have:=E6;simp only;omega)
 rw[key,A5];rfl
def ref_s2{o:I4}(hn:o.T.length<=10000):iter (λ(s:A4×Nat)=>P5.s2 o s.1 s.2) fuel ([[]],0)=some ([]::o.T.map λt=>t.In):=by
 refine S1 (λs=>s.2<=o.T.length/\s.1=[]::((o.T.take s.2).map λt=>t.In)) (λs=>o.T.length-s.2) (λ⟨y,i⟩ ⟨g1,g2⟩=>?_) ⟨D9 _,rfl⟩ (by have:=E6;simp only;omega);simp only at g1 g2;subst g2;simp only[P5.s2];by_cases h:i<o.T.length
 ·left;have hx:=get_at h;rw[O3 hx,F8,B4 hx,H1 (by simp only[G9,C3,M7];unfold B5;omega)];refine⟨_,rfl,⟨h,?_⟩,by simp only;omega⟩;simp only;rw[bC hx,L5];rfl
 ·right;rw[B1,fS (by omega)]
section
variable {o:I4}{S:A4}
def ref_s20(hv:bS o)(hS:S.length<=1000000)(hs:∀x∈S,SmW x)(hnd:S.Nodup){t:I0}(ht:t∈o.T)(hin:∀k,t.In.take k∈S){D:A2->Prop}{N O:A4}(T:P8 S o.I.toNat D (ovT o.T) N O){k:Nat}(hk:k<t.In.length) :
  ∃N' O',P5.s20 S t N O k=some (.inl (N',O',k+1))/\P8 S o.I.toNat (λv=>D v\/v=t.In.take (k+1)) (ovT o.T) N' O':=by
 obtain⟨i1,i2⟩:=hv.inp;have a0:=(iK (hv.prop t ht).1.1).2;have a5:=get_at hk;obtain⟨c1,c2⟩:=a0 _ (P7 hk);have hx:=a5;generalize t.In[k]=e at c1 c2 hx;obtain⟨a,rfl⟩:=tN c1;have ha:a<o.I.toNat:=by omega
 have a3:t.In.take (k+1)=t.In.take k++[(a:Int)]:=by
  rw[xJ,hx];rfl
 have hq:=fX (hin k);have a2:=cV (hin k);obtain⟨x,x1,x2,x3⟩:=T.gn.at a2 ha;obtain⟨y,y1,y2,y3⟩:=T.go.at a2 ha;have a4:=ovT_eq hv ht hk;have T2:=T.put hnd hq ha x1 y1;rw[<- a3]at T2;simp only[P5.s20];rw[O3 hx,F8,H1 (by omega),zT hS hs (hin k),A5,D6 rfl x1,B4 hx,H1 (by omega),zT hS hs (hin (k+1)),A5,D6 rfl x2,D6 rfl y1,B4 hx,B4 a4,D6 rfl y2];exact⟨_,_,rfl,T2⟩
def linkD(o:I4)(i:Nat)(v:A2):Prop:=∃(j:Nat) (t:I0),j<i/\o.T[j]?=some t/\v <+: t.In
def ref_loop20(hv:bS o)(hS:S.length<=1000000)(hs:∀x∈S,SmW x)(hnd:S.Nodup){i:Nat}{t:I0}(hi:o.T[i]?=some t)(hin:∀k,t.In.take k∈S){N O:A4}(T:P8 S o.I.toNat (linkD o i) (ovT o.T) N O) :
  ∃N' O',iter (λ(s:A4×A4×Nat)=>P5.s20 S t s.1 s.2.1 s.2.2) fuel (N,O,0)=some (N',O')/\P8 S o.I.toNat (linkD o (i+1)) (ovT o.T) N' O':=by
 have ht:=I8 hi;have hl:=(iK (hv.prop t ht).1.1).1
 have key:=H4 (step:=λ(s:A4×A4×Nat)=>P5.s20 S t s.1 s.2.1 s.2.2) (λs=>s.2.2<=t.In.length/\P8 S o.I.toNat (λv=>linkD o i v\/∃j,j<s.2.2/\v=t.In.take (j+1)) (ovT o.T) s.1 s.2.1) (λs=>t.In.length-s.2.2)
  (λr=>P8 S o.I.toNat (linkD o (i+1)) (ovT o.T) r.1 r.2) (λ⟨N,O,k⟩ ⟨h1,h2⟩=>by
  simp only at h1 h2 ⊢
  by_cases hk:k<t.In.length
  ·obtain⟨N',O',e,T'⟩:=ref_s20 hv hS hs hnd ht hin h2 hk
   refine .inl ⟨_,e,⟨hk,T'.congr λw hw b hb=>?_⟩,by simp only;omega⟩
   simp only
   constructor
   ·rintro ((h|⟨j,h3,h4⟩)|h)
    ·exact .inl h
    ·exact .inr ⟨j,by omega,h4⟩
    ·exact .inr ⟨k,by omega,h⟩
   ·rintro (h|⟨j,h3,h4⟩)
    ·exact .inl (.inl h)
    ·rcases K4 j k with g|g
     ·exact .inl (.inr ⟨j,g,h4⟩)
     ·have:j=k:=by omega
      subst this
      exact .inr h4
  ·simp only[P5.s20]
   rw[B1]
   refine .inr ⟨_,rfl,h2.congr λw hw b hb=>?_⟩
   have ek:k=t.In.length:=by omega
   subst ek
   constructor
   ·rintro (⟨j,u,h3,h4,h5⟩|⟨j,h3,h4⟩)
    ·exact⟨j,u,by omega,h4,h5⟩
    ·exact⟨i,t,by omega,hi,h4 ▸ kQ _ _⟩
   ·rintro⟨j,u,h3,h4,h5⟩
    rcases K4 j i with g|g
    ·exact .inl ⟨j,u,g,h4,h5⟩
    ·have ej:j=i:=by omega
     subst ej
     rw[hi]at h4
     injection h4 with h4
     subst h4
     have a0:=h5.length_le
     rw[J4,Q3]at a0
     refine .inr ⟨w.length,by omega,?_⟩
     have:=tO.1 h5
     rwa [J4,Q3]at this) fuel (N,O,0) ⟨D9 _,T.congr λw hw b hb=>⟨.inl,λh=>h.elim id λ⟨j,h,_⟩=>absurd h (N9 _)⟩⟩ (by have:=E6;simp only;omega)
 obtain⟨r,e,q⟩:=key;exact⟨r.1,r.2,e,q⟩
def ref_loop22(hv:bS o)(hS:S.length<=1000000)(hs:∀x∈S,SmW x)(hnd:S.Nodup)(hin:∀t∈o.T,∀k,t.In.take k∈S){N O:A4}(T:P8 S o.I.toNat (λ_=>False) (ovT o.T) N O) :
  ∃N' O',iter (λ(s:A4×A4×Nat)=>P5.s22 o S s.1 s.2.1 s.2.2) fuel (N,O,0)=some (N',O')/\P8 S o.I.toNat (λv=>v=[]\/∃t∈o.T,v <+: t.In) (ovT o.T) N' O':=by
 have hn:=hv.num
 have key:=H4 (step:=λ(s:A4×A4×Nat)=>P5.s22 o S s.1 s.2.1 s.2.2) (λs=>s.2.2<=o.T.length/\P8 S o.I.toNat (linkD o s.2.2) (ovT o.T) s.1 s.2.1) (λs=>o.T.length-s.2.2)
  (λr=>P8 S o.I.toNat (λv=>v=[]\/∃t∈o.T,v <+: t.In) (ovT o.T) r.1 r.2) (λ⟨N,O,i⟩ ⟨h1,h2⟩=>by
  simp only at h1 h2 ⊢
  simp only[P5.s22]
  by_cases hi:i<o.T.length
  ·have hx:=get_at hi
   obtain⟨N',O',e,T'⟩:=ref_loop20 hv hS hs hnd hx (hin _ (P7 hi)) h2
   rw[O3 hx,F8,B4 hx,e,A5]
   exact .inl ⟨_,rfl,⟨hi,T'⟩,by simp only;omega⟩
  ·rw[B1]
   refine .inr ⟨_,rfl,h2.congr λw hw b hb=>?_⟩
   constructor
   ·rintro⟨j,t,h3,h4,h5⟩
    exact .inr ⟨t,I8 h4,h5⟩
   ·rintro (h|⟨t,h3,h4⟩)
    ·exact absurd h (by simp)
    ·obtain⟨j,hj,e⟩:=eU h3
     exact⟨j,t,by omega,by rw[get_at hj,e],h4⟩) fuel (N,O,0) ⟨D9 _,T.congr λw hw b hb=>⟨False.elim,λ⟨j,_,h,_⟩=>absurd h (N9 _)⟩⟩ (by have:=E6;simp only;omega)
 obtain⟨r,e,q⟩:=key;exact⟨r.1,r.2,e,q⟩
end
def ovT_rng{o:I4}(hv:bS o){v:A2}{x:Int}(h:v++[x]∈allP o):(∃a:Nat,x=(a:Int)/\a<o.I.toNat)/\0<=ovT o.T (v++[x])/\ovT o.T (v++[x])<=1048576:=by
 obtain⟨i1,i2⟩:=hv.inp;obtain⟨t,ht,hp⟩:=(iE.1 h).resolve_left (by simp);have a2:=hp.length_le;rw[J4,Q3]at a2;have he:=tO.1 hp;rw[J4,Q3]at he;have hx:x∈t.In:=hp.subset (M0 _ (J3.2 rfl));obtain⟨c1,c2⟩:=(iK (hv.prop t ht).1.1).2 x hx;have a0:=ovT_eq hv ht (k:=v.length) (by omega);rw[<- he]at a0;obtain⟨o1,o2⟩:=(hv.prop t ht).1.2.2 _ (I8 a0);exact⟨⟨x.toNat,by omega,by omega⟩,o1,o2⟩
def tree_both{o:I4}(ho:SmO o)(hv:bS o)(hP:(allP o).length<=4090) :
  ∃P:A8,P6 o=some (P,0)/\P5 o=some (P,0)/\H9 P/\Conn P/\P.S=0/\P.I=o.I/\P8 (sortW (allP o)) o.I.toNat (λv=>v∈sortW (allP o)) (ovT o.T) P.N P.O:=by
 obtain⟨i1,i2⟩:=hv.inp;have hn:=hv.num;obtain⟨W,N,O,e1,K,hW⟩:=tree_loop56 hv hP;have b6:=K.le;have a0:(o.I.toNat:Int)=o.I:=qA (by omega);have hI:o.I.toNat<=64:=by omega
 have a6:∀w x,w++[x]∈W->∃a:Nat,x=(a:Int)/\a<o.I.toNat:=λw x h=>(ovT_rng hv (K.sub _ h)).1;have R:=tree_ren K.st K.tm hI (by omega);have TS:=tree_sorted K.st K.tm hI (by omega) a6;have b3:sortW W=sortW (allP o):=nQ (fG _) (fG _) λx=>by rw[bD,bD];exact hW x
 rw[b3,a0]at TS;rw[a0]at R;obtain⟨nums,e2,A⟩:=jG R;have hl:=K.tm.gn.len
 have b5:H9 (renP (⟨o.I,0,N,O⟩:A8)):=renP_ok R i1 (by simp only;omega) λc a hc ha a7=>by
  have b4:c<W.length:=by have:=A.lt c hc;simp only at this;omega
  have hw:=get_at b4;simp only at ha a7 ⊢;by_cases d:W[c]++[(a:Int)]∈W
  ·rw[(K.tm.yes c a _ hw ha d).2];exact(ovT_rng hv (K.sub _ d)).2
  ·exact absurd (K.tm.no c a _ hw ha d).1 a7
 have a4:Z9 o.I=some (List.replicate o.I.toNat (-1)):=by
  have:=sF (x:=o.I.toNat) (by omega)
  rwa [a0]at this
 refine⟨renP ⟨o.I,0,N,O⟩,?_,?_,b5,renP_conn R,rfl,rfl,TS⟩
 ·unfold P6;rw[zqc ho hv,A5,B1 (by decide),a4,A5,A5,e1,A5];simp only[W5,P6.k57];rw[e2,A5]
 ·have b7:(sortW (allP o)).length<=(allP o).length:=AN _
  have a2:∀x∈allP o,x.length<=1024:=λx hx=>by
   rcases iE.1 hx with rfl|⟨t,ht,hp⟩
   ·simp
   ·have:=(iK (hv.prop t ht).1.1).1;have:=hp.length_le;omega
  have a9:∀x∈sortW (allP o),SmW x:=λx hx=>by
   have:=a2 x ((bD _ _).1 hx);unfold SmW;omega
  have a3:∀x∈[]::o.T.map (λt=>t.In),x.length<=1024:=λx hx=>by
   rcases L8.1 hx with rfl|hx
   ·simp
   ·obtain⟨t,ht,rfl⟩:=I3.1 hx;exact(iK (hv.prop t ht).1.1).1
  have a5:aP ([]::o.T.map λt=>t.In)=some (sortW (allP o)):=zs5 (l:=[]::o.T.map λt=>t.In) ⟨by simp only[G9,C3];omega,λx hx=>by have:=a3 x hx;unfold SmW;omega⟩ (λx hx=>by have:=a3 x hx;omega) ⟨by show(allP o).length<=_;omega,λx hx=>by have:=a2 x hx;unfold SmW;omega⟩
  have b2:(sortW (allP o)).Nodup:=(fG _).imp λ{a b} h e=>by
   rw[e,kE]at h;exact absurd h (by decide)
  have a8:=R35_blank_eq (I:=o.I.toNat) (n:=(sortW (allP o)).length) hI (by omega);rw[a0]at a8;obtain⟨N',O',e3,T3⟩:=ref_loop22 hv (S:=sortW (allP o)) (by omega) a9 b2 (λt ht k=>(bD _ _).2 (iE.2 (.inr ⟨t,ht,kQ _ _⟩))) P8.blank;obtain⟨q1,q2⟩:=TS.uniq (T3.congr λw hw b hb=>by rw[bD,iE]);unfold P5;rw[ref_s2 hn,A5,a5,A5];rw[B1,a8,A5];simp only;rw[e3,A5];simp only[P5.k23];rw[<- q1,<- q2];rfl
end
def R35_Large_eq{o:I4}(ho:SmO o):∃b,fH o=some b/\(b=false->(allP o).length<=61/\o.I<=4):=by
 obtain⟨hn,hs⟩:=ho;unfold fH
 have key:=H4 (step:=λ(s:Nat×Nat)=>fH.s2 o s.1 s.2) (λs=>s.2<=o.T.length/\s.1<=2000000/\s.1=(preL ((o.T.take s.2).map λt=>t.In)).length) (λs=>o.T.length-s.2) (λn=>60<n\/n+1=(allP o).length) (λ⟨n,i⟩ ⟨g1,g2,g3⟩=>by
  simp only at g1 g2 g3
  simp only[fH.s2]
  by_cases h:i<o.T.length
  ·have hx:=get_at h
   have a0:=(hs _ (P7 h)).1
   rw[O3 hx,F8,A5]
   by_cases h2:n<=60
   ·left
    rw[C0,K3,B4 hx,K3,K3]
    refine⟨_,rfl,⟨h,by simp only;omega,?_⟩,by simp only;omega⟩
    simp only
    rw[bC hx,L5,pZ]
    unfold preL at g3 ⊢
    rw[nE,J4,<- g3,List.flatMap_singleton,pH]
    omega
   ·right
    rw[B1]
    exact⟨_,rfl,.inl (by omega)⟩
  ·right
   rw[B1,A5,G0]
   refine⟨_,rfl,.inr ?_⟩
   rw[fS (by omega)]at g3
   unfold allP
   unfold preL at g3 ⊢
   rw[V4,J4,<- g3,pH]
   simp only[K5]
   omega) fuel (0,0) ⟨D9 _,by simp,rfl⟩ (by have:=E6;simp only;omega)
 obtain⟨n,e,hq⟩:=key;rw[e,A5];by_cases h:60<n
 ·rw[C0,A5];exact⟨true,rfl,λh=>by cases h⟩
 ·rw[B1,A5];refine⟨_,rfl,λhb=>?_⟩;have:=of_decide_eq_false hb;omega
def H9.sml{p:A8}(H:H9 p):SmL p.N/\SmL p.O:=by
 have hn:=H.n2;have ho:=H.ol;have hi:=H.i2;refine⟨⟨by omega,λx hx=>?_⟩,by omega,λx hx=>?_⟩
 ·obtain⟨q,hq,e⟩:=eU hx;obtain⟨x',y,h1,h2,h3,h4,h5⟩:=H.row q hq;rw[get_at hq,e]at h1;injection h1 with h1
  subst h1;unfold SmW;omega
 ·obtain⟨q,hq,e⟩:=eU hx;obtain⟨x',y,h1,h2,h3,h4,h5⟩:=H.row q (by omega);rw[get_at hq,e]at h2;injection h2 with h2
  subst h2;unfold SmW;omega
def red0(p:A8):List Bool:=List.set (List.replicate p.N.length false) 0 true
def learn_start{P:A8}(H:H9 P)(G:Conn P):LrnI P (red0 P):=⟨H,G,by unfold red0;rw[P0,J6]⟩
def H9.valid{p:A8}(H:H9 p):dX p=0:=by
 have h1:=H.i1;have h2:=H.i2;have h3:=H.n1;have h4:=H.n2;have h5:=H.st;have h6:=H.ol
 have hs:scan (rowG p) 0 p.N=none:=eG.2 λs x hx=>by
  have a0:=(F6.1 hx).1;obtain⟨x',y,e1,e2,e3,e4,e5⟩:=H.row s a0;rw[hx]at e1;injection e1 with e1
  subst e1;unfold rowG;rw[F7,e2,H5,if_neg (by omega)];refine eG.2 λa t ht=>?_;have a2:=(F6.1 ht).1;have ho:=get_at (l:=y) (i:=a) (by omega);obtain⟨k1,k2,k3,k4,k5⟩:=e5 a t _ ht ho
  have hc:bT p.N.length t y[a]=0:=by
   unfold bT;rw[if_neg (by omega),if_neg (λh=>h (propext k5))]
  unfold dR;rw[F7,ho,H5,hc,if_neg (λh=>h rfl)]
 unfold dX;rw[if_neg (by omega),if_neg (by omega),if_neg (by omega),if_neg (by omega),if_neg (by omega),hs]
def Goes(p:A8):Nat->A2->A2->Nat->Prop
 |q,[],y,c=>y=[]/\c=q
 |q,x::w,y,c=>∃(a u:Nat) (y':A2),x=(a:Int)/\pnx p q a=(u:Int)/\y=pot p q a::y'/\Goes p u w y' c
def Goes.snoc{p:A8}:∀{w y:A2} {q c:Nat},Goes p q w y c->∀{a u:Nat},pnx p c a=(u:Int)->Goes p q (w++[(a:Int)]) (y++[pot p c a]) u
 |[],y,q,c,h,a,u,hu=>by
  obtain⟨rfl,rfl⟩:=h;exact⟨a,u,[],rfl,hu,rfl,rfl,rfl⟩
 |x::w,y,q,c,h,a,u,hu=>by
  obtain⟨b,v,y',h1,h2,rfl,h4⟩:=h;exact⟨b,v,_,h1,h2,rfl,h4.snoc hu⟩
def Goes.rs{p:A8}:∀{w y:A2} {q c:Nat},RS p q->Goes p q w y c->RS p c
 |[],y,q,c,hq,h=>by rw[h.2];exact hq
 |x::w,y,q,c,hq,h=>by
  obtain⟨b,v,z,h1,h2,rfl,h4⟩:=h;exact h4.rs (.step b v hq h2)
structure Hom(p p':A8)(h:Nat->Nat):Prop where
 inp:p'.I=p.I
 st:p'.S.toNat=h p.S.toNat
 mv:∀q a (u:Nat),RS p q->pnx p q a=(u:Int)->pnx p' (h q) a=(↑(h u):Int)/\pot p' (h q) a=pot p q a
def Hom.goes{p p':A8}{h:Nat->Nat}(K:Hom p p' h):∀{w y:A2} {q c:Nat},RS p q->Goes p q w y c->Goes p' (h q) w y (h c)
 |[],y,q,c,hq,g=>by
  obtain⟨rfl,rfl⟩:=g;exact⟨rfl,rfl⟩
 |x::w,y,q,c,hq,g=>by
  obtain⟨b,v,z,h1,h2,rfl,h4⟩:=g;obtain⟨k1,k2⟩:=K.mv q b v hq h2;exact⟨b,h v,z,h1,k1,by rw[k2],K.goes (.step b v hq h2) h4⟩
def renP_at{Q:A8}(R:RenOk Q){c a:Nat}(hc:c∈ordP Q)(ha:a<Q.I.toNat)(h:gx Q.N c a≠-1):pnx (renP Q) ((ordP Q).idxOf c) a=(↑((ordP Q).idxOf (gx Q.N c a).toNat):Int)/\pot (renP Q) ((ordP Q).idxOf c) a=gx Q.O c a:=by
 have hm:=(mJ R hc ha).resolve_left h;have a0:=cV hc;constructor
 ·unfold pnx renP;rw[H7,get_at a0,K6,H5,kX a0];unfold V8;rw[H7,Q6 ha,K6,H5];unfold numT;rw[if_pos ⟨h,hm⟩]
 ·unfold pot renP;rw[H7,get_at a0,K6,H5,kX a0];unfold Z6;rw[H7,Q6 ha,K6,H5,if_neg h]
def fold_hom{p Q:A8}{cl:Nat->Nat}(H:H9 p)(K:dT p Q cl):Hom p (renP Q) λq=>(ordP Q).idxOf (cl q):=by
 refine⟨K.inp,?_,λq a u hq hu=>?_⟩
 ·have h0:(ordP Q).idxOf Q.S.toNat=0:=by
   obtain⟨T,hT⟩:=nN (λc=>(Q.N[c]?).getD []) (Q.N.length+1) 0 [Q.S.toNat];unfold ordP;rw[<- hT];simp
  rw[K.st,I7]at h0;rw[h0];rfl
 ·obtain⟨h1,h2,h3⟩:=bA H hu;have hc:=K.lt q h1;obtain⟨r1,r2⟩:=K.row (cl q) a hc h2 (K.idem q h1);have a0:pnx p q a≠-1:=by omega
  have hg:gx Q.N (cl q) a≠-1:=λe=>a0 (r1 e q h1 rfl);obtain⟨k1,k2⟩:=(r2 hg).2 q h1 rfl a0;obtain⟨l1,l2⟩:=renP_at K.ren (K.mem H hq) (by rw[K.inp];exact h2) hg;rw[l1,l2,k1,k2,I7,hu,I7];exact⟨rfl,rfl⟩
def tree_goes{S:A4}{I:Nat}{ov:A2->Int}{P:A8}(T:P8 S I (λv=>v∈S) ov P.N P.O){t:I0}(hl:t.O.length=t.In.length)(hS:∀k,t.In.take k∈S)(hlet:∀x∈t.In,∃a:Nat,x=(a:Int)/\a<I)(hov:∀k,k<t.In.length->t.O[k]?=some (ov (t.In.take (k+1)))) :
  ∀n k,k+n=t.In.length->Goes P (S.idxOf (t.In.take k)) (t.In.drop k) (t.O.drop k) (S.idxOf t.In)
 |0,k,e=>by
  rw[qG (by omega),qG (by omega),fS (by omega)];exact⟨rfl,rfl⟩
 |n+1,k,e=>by
  have hk:k<t.In.length:=by omega
  obtain⟨a,ha,hI⟩:=hlet _ (P7 hk);have hx:=get_at hk
  have a0:t.In.take (k+1)=t.In.take k++[(a:Int)]:=by
   rw[xJ,hx,ha];rfl
  have hm:=hS (k+1);rw[a0]at hm;obtain⟨h1,h2⟩:=T.yes _ a _ (fX (hS k)) hI hm;have ho:=hov k hk;have a2:=get_at (l:=t.O) (i:=k) (by omega);rw[a2]at ho;injection ho with ho
  rw[eW hk,eW (by omega:k<t.O.length)];refine⟨a,S.idxOf (t.In.take (k+1)),t.O.drop (k+1),ha,by rw[a0];exact h1,?_,tree_goes T hl hS hlet hov n (k+1) (by omega)⟩;rw[ho,a0,<- h2];rfl
def sort_nil{l:A4}(h:[]∈l):(sortW l).idxOf []=0:=by
 have hm:[]∈sortW l:=(bD l []).2 h;have hi:=fX hm;rcases eT ((sortW l).idxOf []) with e|e
 ·exact e
 ·have a0:=cV hm;have:=(fG l).get e (get_at (by omega)) hi;unfold cmpW at this;rw[if_neg (by simp)]at this;split at this
  ·exact absurd this (by decide)
  ·rename_i g;have e0:(sortW l)[0]'(by omega)=[]:=V7 (by simpa using g);rw[e0]at this;exact absurd this (by decide)
def tree_run{o:I4}(hv:bS o){P:A8}(h0:P.S=0)(T:P8 (sortW (allP o)) o.I.toNat (λv=>v∈sortW (allP o)) (ovT o.T) P.N P.O){t:I0}(ht:t∈o.T):Goes P P.S.toNat t.In t.O ((sortW (allP o)).idxOf t.In):=by
 obtain⟨i1,i2⟩:=hv.inp
 have:=tree_goes T (hv.prop t ht).1.2.1 (λk=>(bD _ _).2 (iE.2 (.inr ⟨t,ht,kQ _ _⟩))) (λx hx=>by
  obtain⟨c1,c2⟩:=(iK (hv.prop t ht).1.1).2 x hx
  exact⟨x.toNat,by omega,by omega⟩) (λk hk=>ovT_eq hv ht hk) t.In.length 0 (by omega)
 rw[wY,pW,pW,sort_nil (iE.2 (.inl rfl))]at this;rw[h0];exact this
section
section
variable {p:A8}
def dT.ord{Q:A8}{cl:Nat->Nat}(H:H9 p)(K:dT p Q cl):OrdI p.N.length cl (ordP Q):=by
 obtain⟨nums,_,A⟩:=jG K.ren;refine⟨A.nd,λc hc=>⟨by have:=A.lt c hc;rwa [K.len]at this,?_⟩⟩;have a3:=H.st
 have key:=tT (λc=>(Q.N[c]?).getD []) (λc=>c<p.N.length/\cl c=c) (λc ⟨h1,h2⟩ t ht a2=>by
  obtain⟨i,hi,e⟩:=eU ht
  obtain⟨x,x1,x2⟩:=K.ren.gn.row c (by rw[K.len];exact h1)
  have a0:i<p.I.toNat:=by
   rw[x1,H5,x2,K.inp]at hi
   exact hi
  have hg:gx Q.N c i=t:=by
   unfold gx
   rw[get_at (l:=(Q.N[c]?).getD []) hi,H5,e]
  obtain⟨⟨r,r1,r2,r3⟩,h4⟩:=(K.row c i h1 a0 h2).2 (by rw[hg];exact a2)
  obtain⟨h5,_⟩:=h4 r r1 r2 r3
  rw[hg]at h5
  obtain⟨b1,b2,_⟩:=H.at r1 a0
  rw[h5,I7]
  exact⟨K.lt _ (by omega),K.idem _ (by omega)⟩) (Q.N.length+1) 0 [Q.S.toNat] (λc hc=>by
  rw[J3.1 hc,K.st,I7]
  exact⟨K.lt _ (by omega),K.idem _ (by omega)⟩) c hc
 exact key.2
def quo_part{Q:A8}{cl:Nat->Nat}(H:H9 p)(K:dT p Q cl):H9 (renP Q)/\(renP Q).N.length<=p.N.length/\((∃x,x<p.N.length/\cl x≠x)->(renP Q).N.length<p.N.length):=by
 have hO:=K.ord H;have a0:(renP Q).N.length=(ordP Q).length:=by unfold renP;simp only[C3]
 refine⟨renP_ok K.ren (by rw[K.inp];exact H.i1) (by rw[K.len];exact H.n2) λc a hc ha h=>?_,by rw[a0];exact hO.le,λ⟨x,x1,x2⟩=>?_⟩
 ·obtain⟨c1,c2⟩:=hO.lt c hc;rw[K.inp]at ha;obtain⟨⟨r,r1,r2,r3⟩,h3⟩:=(K.row c a c1 ha c2).2 h;obtain⟨_,h4⟩:=h3 r r1 r2 r3;obtain⟨b1,b2,b3,b4,b5,_⟩:=H.at r1 ha;rw[<- h4];exact⟨by omega,b4⟩
 ·rw[a0]
  have:=iH (a:=x::ordP Q) (b:=List.range p.N.length) (aU.2 ⟨λh=>x2 (hO.lt x h).2,hO.nd⟩) λy hy=>by
   rcases L8.1 hy with rfl|hy
   ·exact M5.2 x1
   ·exact M5.2 (hO.lt y hy).1
  rw[G9,P3]at this;omega
structure BlueB(p:A8)(red:List Bool)(b:Nat):Prop where
 lt:b<p.N.length
 wh:red[b]?=some false
 ex:∃r a,aY p red r a b
 le:∀r a c,aY p red r a c->b<=c
structure FoldB(p:A8)(red:List Bool)(r0 b:Nat)(Q:A8)(cl:Nat->Nat)(red':List Bool):Prop where
 rd0:red[r0]?=some true
 no:¬Q0 p r0 b
 quo:dT p Q cl
 cls:∀q,q<p.N.length->cl q=clsOf p r0 b q
 rds:∀i,red'[i]?=some true↔∃q,red[q]?=some true/\(ordP Q).idxOf (cl q)=i
 ok:LrnI (renP Q) red'
 lt:(renP Q).N.length<p.N.length
end
end
section
section
variable {p:A8}
noncomputable def scF(p:A8)(r b:Nat):Nat:=scP p (clsOf p r b)
noncomputable def bestF(p:A8)(red:List Bool)(b:Nat):Nat->Option (Nat×Nat)
 |0=>none
 |k+1=>by
  classical
  exact if red[k]?=some true/\¬Q0 p k b/\∀x,bestF p red b k=some x->x.2<scF p k b then some (k,scF p k b) else bestF p red b k
def oP{red:List Bool}{b k:Nat}(h:red[k]?=some true/\¬Q0 p k b/\∀x,bestF p red b k=some x->x.2<scF p k b):bestF p red b (k+1)=some (k,scF p k b):=by
 rw[bestF,if_pos h]
def iG{red:List Bool}{b k:Nat}(h:¬(red[k]?=some true/\¬Q0 p k b/\∀x,bestF p red b k=some x->x.2<scF p k b)):bestF p red b (k+1)=bestF p red b k:=by
 rw[bestF,if_neg h]
def yR{red:List Bool}{b:Nat}:∀{k:Nat} {x:Nat×Nat},bestF p red b k=some x->x.1<k/\red[x.1]?=some true/\¬Q0 p x.1 b/\x.2=scF p x.1 b
 |0,x,h=>by rw[bestF]at h;cases h
 |k+1,x,h=>by
  by_cases g:red[k]?=some true/\¬Q0 p k b/\∀x,bestF p red b k=some x->x.2<scF p k b
  ·rw[oP g]at h;injection h with h
   subst h;exact⟨jQ _,g.1,g.2.1,rfl⟩
  ·rw[iG g]at h;obtain⟨h1,h2⟩:=yR h;exact⟨by omega,h2⟩
def yE{red:List Bool}{b:Nat}:∀{k:Nat},bestF p red b k=none->∀r,r<k->red[r]?=some true->Q0 p r b
 |0,_,r,hr,_=>absurd hr (N9 _)
 |k+1,h,r,hr,hred=>by
  by_cases g:red[k]?=some true/\¬Q0 p k b/\∀x,bestF p red b k=some x->x.2<scF p k b
  ·rw[oP g]at h;cases h
  ·rw[iG g]at h;by_cases e:r=k
   ·subst e;refine X9 λc=>g ⟨hred,c,λx hx=>?_⟩;rw[h]at hx;cases hx
   ·exact yE h r (by omega) hred
def encB(b:Nat):Option (Nat×Nat)->Int×Int×Nat
 |none=>(0,0,0)
 |some x=>((x.2:Int),(b:Int),x.1)
def encBC(b:Nat):Option (Nat×Nat)->X8
 |none=>⟨0,0,0⟩
 |some x=>⟨(x.2:Int),(b:Int),(x.1:Int)⟩
def cz_false{c:X8}(h:c.blue≠0):(decide (c.score=0)&&(decide (c.blue=0)&&(decide (c.red=0)&&true)))=false:=by
 rw[J0 h];simp
def ev_best(H:H9 p){red:List Bool}(hr:red.length=p.N.length){b:Nat}(hb:b<p.N.length)(h0:b≠0):aK p red (b:Int)=some (encBC b (bestF p red b p.N.length)):=by
 have hn:=H.n2
 have key:=H4 (step:=λ(s:Int×Int×Nat×Nat)=>aK.s10 p red (b:Int) s.1 s.2.1 s.2.2.1 s.2.2.2) (λs=>s.2.2.2<=p.N.length/\(s.1,s.2.1,s.2.2.1)=encB b (bestF p red b s.2.2.2)) (λs=>p.N.length-s.2.2.2) (λr=>r=encB b (bestF p red b p.N.length)) (λ⟨x,y,z,k⟩ ⟨g1,g2⟩=>by
  simp only at g1 g2
  simp only[aK.s10]
  by_cases h:k<p.N.length
  ·left
   have hx:=get_at (l:=red) (i:=k) (by omega)
   rw[C0,B4 hx]
   cases hc:red[k]with
   |false =>
    have hs:bestF p red b (k+1)=bestF p red b k:=iG λg=>by rw[hx,hc]at g;cases g.1
    exact⟨(x,y,z,k+1),by rw[cR,F8,A5];rfl,⟨h,by simp only;rw[hs,g2]⟩,by simp only;omega⟩
   |true =>
    rw[hc]at hx
    rw[aS,G0]
    rcases ev_score H h hb with⟨f1,f2⟩|⟨f1,f2⟩
    ·have hs:bestF p red b (k+1)=bestF p red b k:=iG λg=>g.2.1 f1
     exact⟨(x,y,z,k+1),by rw[f2,A5,G0,A5,G0,A5];rfl,⟨h,by simp only;rw[hs,g2]⟩,by simp only;omega⟩
    ·have f2:R0 p (k:Int) (b:Int)=some ((↑(scF p k b):Int),true):=f2
     rw[f2,A5,F8]
     cases hB:bestF p red b k with
     |none =>
      rw[hB]at g2
      simp only[encB,G6]at g2
      obtain⟨rfl,rfl,rfl⟩:=g2
      have hs:bestF p red b (k+1)=some (k,scF p k b):=oP ⟨hx,f1,λx h=>by rw[hB]at h;cases h⟩
      exact⟨((↑(scF p k b):Int),(b:Int),k,k+1),by rw[show(decide ((0:Int)=0)&&(decide ((0:Int)=0)&&(decide ((↑(0:Nat):Int)=0)&&true)))=true from rfl,F8,A5,F8,A5];rfl,⟨h,by simp only;rw[hs];rfl⟩,by simp only;omega⟩
     |some w =>
      rw[hB]at g2
      simp only[encB,G6]at g2
      obtain⟨rfl,rfl,rfl⟩:=g2
      have hz:(decide ((w.2:Int)=0)&&(decide ((b:Int)=0)&&(decide ((w.1:Int)=0)&&true)))=false:=by
       rw[J0 (by omega:¬(b:Int)=0)]
       simp
      rw[hz,G0,A5]
      by_cases a0:w.2<scF p k b
      ·have hs:bestF p red b (k+1)=some (k,scF p k b):=oP ⟨hx,f1,λx h=>by rw[hB]at h;injection h with h;rw[<- h];exact a0⟩
       exact⟨((↑(scF p k b):Int),(b:Int),k,k+1),by rw[C0 (by simp only;omega),A5];rfl,⟨h,by simp only;rw[hs];rfl⟩,by simp only;omega⟩
      ·have hs:bestF p red b (k+1)=some w:=(iG λg=>a0 (g.2.2 w hB)).trans hB
       exact⟨((w.2:Int),(b:Int),w.1,k+1),by rw[B1 (by simp only;omega),A5];rfl,⟨h,by simp only;rw[hs];rfl⟩,by simp only;omega⟩
  ·right
   have e1:k=p.N.length:=by omega
   subst e1
   exact⟨(x,y,z),by rw[B1],g2⟩) fuel (0,0,0,0) ⟨D9 _,rfl⟩ (by have:=E6;simp only;omega)
 obtain⟨r,e1,rfl⟩:=key;unfold aK;rw[e1,A5];cases bestF p red b p.N.length<;>rfl
noncomputable def clsL(p:A8)(r b:Nat):A2:=(List.range p.N.length).map λq=>(↑(clsOf p r b q):Int)
noncomputable def encR(p:A8)(b:Nat):Option (Nat×Nat)->A2×Int
 |none=>([],-1)
 |some x=>(clsL p x.1 b,(x.2:Int))
def ref_best(H:H9 p){red:List Bool}(hr:red.length=p.N.length){b:Nat}(hb:b<p.N.length):aA p red (b:Int)=some (encR p b (bestF p red b p.N.length)):=by
 have hn:=H.n2
 have key:=H4 (step:=λ(s:A2×Int×Nat)=>aA.s8 p red (b:Int) s.1 s.2.1 s.2.2) (λs=>s.2.2<=p.N.length/\(s.1,s.2.1)=encR p b (bestF p red b s.2.2)) (λs=>p.N.length-s.2.2) (λr=>r=encR p b (bestF p red b p.N.length)) (λ⟨x,y,k⟩ ⟨g1,g2⟩=>by
  simp only at g1 g2
  simp only[aA.s8]
  by_cases h:k<p.N.length
  ·left
   have hx:=get_at (l:=red) (i:=k) (by omega)
   rw[C0,B4 hx]
   cases hc:red[k]with
   |false =>
    have hs:bestF p red b (k+1)=bestF p red b k:=iG λg=>by rw[hx,hc]at g;cases g.1
    exact⟨(x,y,k+1),by rw[cR,F8,A5];rfl,⟨h,by simp only;rw[hs,g2]⟩,by simp only;omega⟩
   |true =>
    rw[hc]at hx
    rw[aS,G0]
    rcases ztv H h hb with⟨f1,f2⟩|⟨f1,f2⟩
    ·have hs:bestF p red b (k+1)=bestF p red b k:=iG λg=>g.2.1 f1
     exact⟨(x,y,k+1),by rw[f2,A5,G0,A5,G0,A5];rfl,⟨h,by simp only;rw[hs,g2]⟩,by simp only;omega⟩
    ·have f2:L2 p (k:Int) (b:Int)=some (clsL p k b,true):=f2
     have f3:T5 p (clsL p k b)=some (↑(scF p k b):Int):=R36_score_eq H λq hq=>Nat.lt_of_le_of_lt (rS q).1 hq
     rw[f2,A5,F8,f3,A5,A5]
     have hm:decide (y<(↑(scF p k b):Int))=true↔∀x,bestF p red b k=some x->x.2<scF p k b:=by
      cases hB:bestF p red b k with
      |none =>
       rw[hB]at g2
       simp only[encR,G6]at g2
       rw[decide_eq_true_iff]
       exact⟨λ_ x h=>(by cases h),λ_=>by omega⟩
      |some w =>
       rw[hB]at g2
       simp only[encR,G6]at g2
       rw[decide_eq_true_iff]
       exact⟨λh x hx=>by injection hx with hx;rw[<- hx];omega,λh=>by have:=h w rfl;omega⟩
     by_cases a0:decide (y<(↑(scF p k b):Int))=true
     ·have hs:bestF p red b (k+1)=some (k,scF p k b):=oP ⟨hx,f1,hm.1 a0⟩
      exact⟨(clsL p k b,(↑(scF p k b):Int),k+1),by rw[a0,F8,A5,A5];rfl,⟨h,by simp only;rw[hs];rfl⟩,by simp only;omega⟩
     ·have hs:bestF p red b (k+1)=bestF p red b k:=iG λg=>a0 (hm.2 g.2.2)
      have a2:decide (y<(↑(scF p k b):Int))=false:=by
       cases k:decide (y<(↑(scF p k b):Int)) with
       |true=>exact absurd k a0
       |false=>rfl
      exact⟨(x,y,k+1),by rw[a2,G0,A5];rfl,⟨h,by simp only;rw[hs,g2]⟩,by simp only;omega⟩
  ·right
   have e1:k=p.N.length:=by omega
   subst e1
   exact⟨(x,y),by rw[B1],g2⟩) fuel ([],-1,0) ⟨D9 _,rfl⟩ (by have:=E6;simp only;omega)
 obtain⟨r,e1,rfl⟩:=key;unfold aA;rw[e1,A5];rfl
end
end
section
def ascN_ext:∀{l m:List Nat},l.Pairwise (·<·)->m.Pairwise (·<·)->(∀x,x∈l↔x∈m)->l=m
 |[],[],_,_,_=>rfl
 |[],y::m,_,_,h=>by have:=(h y).2 U8;cases this
 |x::l,[],_,_,h=>by have:=(h x).1 U8;cases this
 |x::l,y::m,hl,hm,h=>by
  rw[fQ]at hl hm
  have e:x=y:=by
   rcases L8.1 ((h x).1 U8) with k|k
   ·exact k
   ·rcases L8.1 ((h y).2 U8) with k2|k2
    ·exact k2.symm
    ·have:=hl.1 y k2;have:=hm.1 x k;omega
  subst e;rw[ascN_ext hl.2 hm.2 λz=>⟨λhz=>?_,λhz=>?_⟩]
  ·rcases L8.1 ((h z).1 (O7 _ hz)) with k|k
   ·rw[k]at hz;exact absurd (hl.1 x hz) (pV _)
   ·exact k
  ·rcases L8.1 ((h z).2 (O7 _ hz)) with k|k
   ·rw[k]at hz;exact absurd (hm.1 x hz) (pV _)
   ·exact k
section
variable {p:A8}
structure BlM(p:A8)(red:List Bool)(r k:Nat)(is:List Bool):Prop where
 len:is.length=p.N.length
 at_:∀b,is[b]?=some true↔∃r' a,(r'<r\/r'=r/\a<k)/\aY p red r' a b
def BlM.skip{red is:List Bool}{r k:Nat}(B:BlM p red r k is)(h:∀b,¬aY p red r k b):BlM p red r (k+1) is:=by
 refine⟨B.len,λb=>?_⟩;rw[B.at_];refine⟨λ⟨r',a,h1,h2⟩=>⟨r',a,by omega,h2⟩,λ⟨r',a,h1,h2⟩=>⟨r',a,?_,h2⟩⟩;rcases h1 with h1|⟨h1,h3⟩
 ·exact .inl h1
 ·exact .inr ⟨h1,cW (by omega) λe=>h b (by rw[<- h1,<- e];exact h2)⟩
def BlM.put{red is:List Bool}{r k b:Nat}(B:BlM p red r k is)(hb:b<p.N.length)(h:aY p red r k b):BlM p red r (k+1) (is.set b true):=by
 refine⟨by rw[P0];exact B.len,λc=>?_⟩;by_cases e:c=b
 ·rw[e,P9 (by rw[B.len];exact hb)];exact⟨λ_=>⟨r,k,.inr ⟨rfl,by omega⟩,h⟩,λ_=>rfl⟩
 ·rw[O6 (λg=>e g.symm),B.at_];refine⟨λ⟨r',a,h1,h2⟩=>⟨r',a,by omega,h2⟩,λ⟨r',a,h1,h2⟩=>⟨r',a,?_,h2⟩⟩;rcases h1 with h1|⟨h1,h3⟩
  ·exact .inl h1
  ·refine .inr ⟨h1,cW (by omega) λe2=>e ?_⟩;have q1:=h2.2.1;have q2:=h.2.1;rw[h1,e2]at q1;omega
def BlM.row(H:H9 p){red is:List Bool}{r:Nat}(B:BlM p red r p.I.toNat is):BlM p red (r+1) 0 is:=by
 refine⟨B.len,λb=>?_⟩;rw[B.at_];refine⟨λ⟨r',a,h1,h2⟩=>⟨r',a,by omega,h2⟩,λ⟨r',a,h1,h2⟩=>⟨r',a,?_,h2⟩⟩;have:=(bA H h2.2.1).2.1;omega
def loop_brow(H:H9 p){red:List Bool}(hr:red.length=p.N.length){r:Nat}(hrl:r<p.N.length){e:Bool}(he:red[r]?=some e){x:A2}(hx:p.N[r]?=some x){is0:List Bool}(B0:BlM p red r 0 is0) :
  ∃is,iter (λ(s:List Bool×Nat)=>U5.s13 red e x s.1 s.2) fuel (is0,0)=some is/\BlM p red (r+1) 0 is:=by
 have hi:=H.i2;have a6:=H.i1
 have key:=H4 (step:=λ(s:List Bool×Nat)=>U5.s13 red e x s.1 s.2) (λs=>s.2<=p.I.toNat/\BlM p red r s.2 s.1) (λs=>p.I.toNat-s.2) (λis=>BlM p red (r+1) 0 is) (λ⟨is,k⟩ ⟨g1,B⟩=>by
  simp only at g1 B
  simp only[U5.s13]
  have a8:x.length=p.I.toNat:=by
   obtain⟨xr,yr,k1,k2,k3,k4,_⟩:=H.row r hrl
   rw[hx]at k1
   injection k1 with k1
   rw[k1];omega
  by_cases h:k<p.I.toNat
  ·left
   obtain⟨n1,n2,n3,n4,n5,xr,yr,a0,a7,a5,a9,_,_⟩:=H.at hrl h
   rw[hx]at a0
   injection a0 with a0
   subst a0
   rw[C0,B4 a5]
   cases e with
   |false =>
    exact⟨(is,k+1),by rw[G0,A5,G0],⟨h,B.skip λb c=>(by have:=c.1;rw[he]at this;cases this)⟩,by simp only;omega⟩
   |true =>
    rw[F8]
    by_cases t0:pnx p r k=-1
    ·exact⟨(is,k+1),by rw[B1 (λg=>g t0),A5,G0],⟨h,B.skip λb c=>(by have:=c.2.1;omega)⟩,by simp only;omega⟩
    ·obtain⟨b,hb⟩:∃b:Nat,pnx p r k=(b:Int):=⟨(pnx p r k).toNat,by omega⟩
     have a4:=(bA H hb).2.2
     have a2:=get_at (l:=red) (i:=b) (by omega)
     rw[C0 t0,D6 (i:=b) hb a2,A5]
     cases hc:red[b]with
     |true =>
      exact⟨(is,k+1),by rw[aS,G0],⟨h,B.skip λc a3=>(by
       have q1:=a3.2.1
       have q2:=a3.2.2
       rw[show c=b by omega,a2,hc]at q2
       cases q2)⟩,by simp only;omega⟩
     |false =>
      exact⟨(is.set b true,k+1),by rw[cR,F8,D6 (i:=b) hb (get_at (l:=is) (i:=b) (by rw[B.len];exact a4)),hb,I7],⟨h,B.put a4 ⟨he,hb,by rw[a2,hc]⟩⟩,by simp only;omega⟩
  ·right
   have e1:k=p.I.toNat:=by omega
   subst e1
   exact⟨_,by rw[B1],B.row H⟩) fuel (is0,0) ⟨D9 _,B0⟩ (by have:=E6;simp only;omega)
 exact key
def ev_bluesP(H:H9 p){red:List Bool}(hr:red.length=p.N.length):∃L:List Nat,U5 p red=some (E2 L)/\(∀b,b∈L↔∃r a,aY p red r a b)/\L.length<=p.N.length/\L.Pairwise (·<·):=by
 have hn:=H.n2
 have k1:=H4 (step:=λ(s:List Bool×Nat)=>U5.s14 p red s.1 s.2) (λs=>s.2<=p.N.length/\BlM p red s.2 0 s.1) (λs=>p.N.length-s.2) (λis=>BlM p red p.N.length 0 is) (λ⟨is,r⟩ ⟨g1,B⟩=>by
  simp only at g1 B
  simp only[U5.s14]
  by_cases h:r<p.N.length
  ·left
   have hx:=get_at (l:=red) (i:=r) (by omega)
   have hp:=get_at (l:=p.N) (i:=r) h
   obtain⟨a2,e1,B'⟩:=loop_brow H hr h hx hp B
   exact⟨(a2,r+1),by rw[C0,B4 hx,B4 hp,e1,A5],⟨h,B'⟩,by simp only;omega⟩
  ·right
   have e1:r=p.N.length:=by omega
   subst e1
   exact⟨_,by rw[B1],B⟩) fuel (List.replicate red.length false,0) ⟨D9 _,⟨by rw[J6,hr],λb=>⟨λh=>(by
   simp only[W4]at h
   split at h
   ·injection h with h;cases h
   ·cases h),λ⟨r',a,h1,_⟩=>absurd h1 (by simp only;omega)⟩⟩⟩ (by have:=E6;simp only;omega)
 obtain⟨is,e1,B⟩:=k1;have a3:=B.len
 have k2:=H4 (step:=λ(s:A2×Nat)=>U5.s16 is s.1 s.2) (λs=>s.2<=p.N.length/\∃L:List Nat,s.1=E2 L/\L.length<=s.2/\(∀b,b∈L↔b<s.2/\is[b]?=some true)/\L.Pairwise (·<·)) (λs=>p.N.length-s.2) (λq=>∃L:List Nat,q=E2 L/\L.length<=p.N.length/\(∀b,b∈L↔b<p.N.length/\is[b]?=some true)/\L.Pairwise (·<·)) (λ⟨y,b⟩ ⟨g1,L,g2,g3,g4,g5⟩=>by
  simp only at g1 g2 g3 g4
  subst g2
  have a0:(E2 L).length=L.length:=by unfold E2;rw[C3]
  simp only[U5.s16]
  by_cases h:b<p.N.length
  ·left
   have hx:=get_at (l:=is) (i:=b) (by omega)
   rw[C0,B4 hx]
   cases hb:is[b]with
   |false =>
    refine⟨(E2 L,b+1),by rw[G0],⟨h,L,rfl,by simp only;omega,λd=>?_,g5⟩,by simp only;omega⟩
    simp only
    rw[g4 d]
    exact⟨λq=>⟨by omega,q.2⟩,λq=>⟨cW (by omega) λe=>(by have q2:=q.2;rw[e,hx,hb]at q2;cases q2),q.2⟩⟩
   |true =>
    refine⟨(E2 (L++[b]),b+1),?_,⟨h,L++[b],rfl,by simp only[J4,Q3];omega,λd=>?_,?_⟩,by simp only;omega⟩
    ·rw[F8,Q1]
     unfold E2
     rw[L5]
     rfl
    ·simp only
     rw[J2,J3,g4 d]
     constructor
     ·rintro (q|q)
      ·exact⟨by omega,q.2⟩
      ·rw[q];exact⟨by omega,by rw[hx,hb]⟩
     ·intro q
      by_cases e:d=b
      ·exact .inr e
      ·exact .inl ⟨by omega,q.2⟩
    ·refine nG.2 ⟨g5,by simp,λu hu v hv=>?_⟩
     rw[J3.1 hv]
     exact((g4 u).1 hu).1
  ·right
   have e1:b=p.N.length:=by omega
   subst e1
   exact⟨_,by rw[B1],L,rfl,g3,g4,g5⟩) fuel ([],0) ⟨D9 _,[],rfl,D9 _,λb=>⟨λh=>(by cases h),λh=>absurd h.1 (N9 _)⟩,List.Pairwise.nil⟩ (by have:=E6;simp only;omega)
 obtain⟨q,e2,L,rfl,c0,c1,c2⟩:=k2
 have hm:∀b,b∈L↔∃r a,aY p red r a b:=λb=>by
  rw[c1,B.at_];constructor
  ·rintro⟨_,r',a,_,h⟩;exact⟨r',a,h⟩
  ·rintro⟨r',a,h⟩;obtain⟨q1,q2,q3⟩:=bA H h.2.1;exact⟨q3,r',a,.inl q1,h⟩
 refine⟨L,?_,hm,c0,c2⟩;unfold U5;rw[H1 ⟨by omega,bN _,by unfold B5;omega⟩,e1,A5,e2,A5]
def ev_blues(H:H9 p){red:List Bool}(hr:red.length=p.N.length):∃L:List Nat,U5 p red=some (E2 L)/\U9 p red=some (E2 L)/\(∀b,b∈L↔∃r a,aY p red r a b)/\L.length<=p.N.length/\L.Pairwise (·<·):=by
 obtain⟨L,h1,h2,h3,h4⟩:=ev_bluesP H hr;obtain⟨L',r1,r2,r3⟩:=rY H hr;have a0:L=L':=ascN_ext h4 r3 λb=>(h2 b).trans (r2 b).symm;exact⟨L,h1,by rw[a0];exact r1,h2,h3,h4⟩
noncomputable def chF(p:A8)(red:List Bool):Option (Nat×Nat×Nat)->List Nat->Nat⊕Option (Nat×Nat×Nat)
 |acc,[]=>.inr acc
 |acc,b::l=>match bestF p red b p.N.length with
  |none=>.inl b
  |some w=>chF p red (match acc with|none=>some (w.2,b,w.1)|some x=>if x.1<w.2 then some (w.2,b,w.1) else acc) l
def encC:Option (Nat×Nat×Nat)->X8
 |none=>⟨0,0,0⟩
 |some x=>⟨(x.1:Int),(x.2.1:Int),(x.2.2:Int)⟩
def outCh:Nat⊕Option (Nat×Nat×Nat)->X8×Int
 | .inl b=>(⟨0,0,0⟩,(b:Int))
 | .inr x=>(encC x,-1)
def chF_inl{red:List Bool}{b:Nat}:∀{L:List Nat} {acc:Option (Nat×Nat×Nat)},chF p red acc L=.inl b->b∈L/\bestF p red b p.N.length=none
 |[],acc,h=>by cases h
 |c::L,acc,h=>by
  rw[chF]at h;cases hB:bestF p red c p.N.length with
  |none =>
   rw[hB]at h;injection h with h
   rw[<- h];exact⟨U8,hB⟩
  |some w =>
   rw[hB]at h;obtain⟨h1,h2⟩:=chF_inl h;exact⟨O7 _ h1,h2⟩
def chF_inr{red:List Bool}{r:Option (Nat×Nat×Nat)}:∀{L:List Nat} {acc:Option (Nat×Nat×Nat)},chF p red acc L=.inr r->(r=acc/\(L=[]\/acc≠none))\/∃n b q,r=some (n,b,q)/\b∈L/\bestF p red b p.N.length=some (q,n)
 |[],acc,h=>by
  injection h with h
  exact .inl ⟨h.symm,.inl rfl⟩
 |c::L,acc,h=>by
  rw[chF]at h;cases hB:bestF p red c p.N.length with
  |none=>rw[hB]at h;cases h
  |some w =>
   rw[hB]at h;rcases chF_inr h with⟨h1,_⟩|⟨n,b,q,h1,h2,h3⟩
   ·cases acc with
    |none=>exact .inr ⟨w.2,c,w.1,h1,U8,hB⟩
    |some x =>
     simp only at h1;split at h1
     ·exact .inr ⟨w.2,c,w.1,h1,U8,hB⟩
     ·exact .inl ⟨h1,.inr (by simp)⟩
   ·exact .inr ⟨n,b,q,h1,O7 _ h2,h3⟩
def ev_choose(H:H9 p){red:List Bool}(hr:red.length=p.N.length){L:List Nat}(hL:∀b,b∈L->b<p.N.length/\b≠0)(hl:L.length<=1000000):aQ p red (E2 L)=some (outCh (chF p red none L)):=by
 have a3:(E2 L).length=L.length:=by unfold E2;rw[C3]
 have key:=H4 (step:=λ(s:Int×Int×Int×Nat)=>aQ.s2 p red (E2 L) s.1 s.2.1 s.2.2.1 s.2.2.2) (λs=>s.2.2.2<=L.length/\∃acc,(⟨s.1,s.2.1,s.2.2.1⟩:X8)=encC acc/\chF p red acc (L.drop s.2.2.2)=chF p red none L/\∀x,acc=some x->x.2.1≠0) (λs=>L.length-s.2.2.2) (λr=>(∃x y z,r=.inl (x,y,z)/\((⟨x,y,z⟩:X8),-1)=outCh (chF p red none L))\/r=.inr (outCh (chF p red none L))) (λ⟨x,y,z,i⟩ ⟨g1,acc,g2,g3,g4⟩=>by
  simp only at g1 g2 g3
  simp only[aQ.s2]
  by_cases h:i<L.length
  ·have hx:=get_at (l:=L) (i:=i) h
   generalize hb:L[i]=b at hx
   obtain⟨b1,b2⟩:=hL b (I8 hx)
   have hc:(E2 L)[i]?=some (b:Int):=by unfold E2;rw[H7,hx];rfl
   have hd:L.drop i=b::L.drop (i+1):=by rw[eW h,hb]
   rw[hd,chF]at g3
   rw[C0,B4 hc,ev_best H hr b1 b2,A5]
   cases hB:bestF p red b p.N.length with
   |none =>
    right
    rw[hB]at g3
    refine⟨.inr (outCh (chF p red none L)),?_,.inr rfl⟩
    rw[<- g3]
    rfl
   |some w =>
    left
    rw[hB]at g3
    have hz:(decide ((encBC b (some w)).score=0)&&(decide ((encBC b (some w)).blue=0)&&(decide ((encBC b (some w)).red=0)&&true)))=false:=cz_false (show(b:Int)≠0 by omega)
    rw[hz,G0]
    cases acc with
    |none =>
     simp only[encC,X8.mk.injEq]at g2
     obtain⟨rfl,rfl,rfl⟩:=g2
     exact⟨((w.2:Int),(b:Int),(w.1:Int),i+1),by rw[show(decide ((0:Int)=0)&&(decide ((0:Int)=0)&&(decide ((0:Int)=0)&&true)))=true from rfl,F8,A5,F8];rfl,⟨h,some (w.2,b,w.1),rfl,g3,λx hx=>(by injection hx with hx;rw[<- hx];exact b2)⟩,by simp only;omega⟩
    |some v =>
     have hv:=g4 v rfl
     simp only[encC,X8.mk.injEq]at g2
     obtain⟨rfl,rfl,rfl⟩:=g2
     have a0:=cz_false (c:=⟨(v.1:Int),(v.2.1:Int),(v.2.2:Int)⟩) (show(v.2.1:Int)≠0 by omega)
     simp only at a0
     rw[a0,G0,A5]
     simp only at g3
     by_cases a2:v.1<w.2
     ·rw[if_pos a2]at g3
      exact⟨((w.2:Int),(b:Int),(w.1:Int),i+1),by rw[C0 (show(v.1:Int)<(encBC b (some w)).score by simp only[encBC];omega)];rfl,⟨h,some (w.2,b,w.1),rfl,g3,λx hx=>(by injection hx with hx;rw[<- hx];exact b2)⟩,by simp only;omega⟩
     ·rw[if_neg a2]at g3
      exact⟨((v.1:Int),(v.2.1:Int),(v.2.2:Int),i+1),by rw[B1 (show ¬(v.1:Int)<(encBC b (some w)).score by simp only[encBC];omega)],⟨h,some v,rfl,g3,g4⟩,by simp only;omega⟩
  ·right
   have e1:i=L.length:=by omega
   subst e1
   rw[tE,chF]at g3
   refine⟨.inl (x,y,z),by rw[B1],.inl ⟨x,y,z,rfl,?_⟩⟩
   rw[<- g3,g2]
   rfl) fuel (0,0,0,0) ⟨D9 _,none,rfl,rfl,λx hx=>(by cases hx)⟩ (by have:=E6;simp only;omega)
 obtain⟨r,e1,hr⟩:=key;unfold aQ;rw[e1,A5];rcases hr with⟨x,y,z,rfl,h⟩|rfl
 ·rw[W5];unfold aQ.k3;rw[h]
 ·rw[eP]
noncomputable def encRC(p:A8):Option (Nat×Nat×Nat)->A2×Int
 |none=>([],-1)
 |some x=>(clsL p x.2.2 x.2.1,(x.1:Int))
def ref_choose(H:H9 p){red:List Bool}(hr:red.length=p.N.length){L:List Nat}(hL:∀b,b∈L->b<p.N.length)(hl:L.length<=1000000):∃r,iter (λ(s:A2×Int×Int×Nat)=>N4.s41 p.I p.S p.N p.O red (E2 L) s.1 s.2.1 s.2.2.1 s.2.2.2) fuel ([],(-1:Int),(-1:Int),0)=some r/\((∃b,chF p red none L=.inl b/\r.2=(b:Int))\/∃acc,chF p red none L=.inr acc/\r=((encRC p acc).1,-1)):=by
 have a2:(E2 L).length=L.length:=by unfold E2;rw[C3]
 refine H4 (step:=λ(s:A2×Int×Int×Nat)=>N4.s41 p.I p.S p.N p.O red (E2 L) s.1 s.2.1 s.2.2.1 s.2.2.2) (λs=>s.2.2.2<=L.length/\((s.2.2.1=-1/\∃acc,(s.1,s.2.1)=encRC p acc/\chF p red acc (L.drop s.2.2.2)=chF p red none L)\/∃b:Nat,s.2.2.1=(b:Int)/\chF p red none L=.inl b)) (λs=>L.length-s.2.2.2) _ (λ⟨x,y,z,i⟩ ⟨g1,g⟩=>?_) fuel ([],-1,-1,0) ⟨D9 _,.inl ⟨rfl,none,rfl,rfl⟩⟩ (by have:=E6;simp only;omega);simp only at g1 g;simp only[N4.s41];rcases g with⟨rfl,acc,g2,g3⟩|⟨b,rfl,g2⟩
 ·by_cases h:i<L.length
  ·left;have hx:=get_at (l:=L) (i:=i) h;generalize hb:L[i]=b at hx;have b1:=hL b (I8 hx);have hc:(E2 L)[i]?=some (b:Int):=by unfold E2;rw[H7,hx];rfl
   have hd:L.drop i=b::L.drop (i+1):=by rw[eW h,hb]
   rw[hd,chF]at g3;have a3:aA (⟨p.I,p.S,p.N,p.O⟩:A8) red (b:Int)=some (encR p b (bestF p red b p.N.length)):=ref_best H hr b1
   have hy:-1<=y:=by
    cases acc with
    |none=>simp only[encRC,G6]at g2;omega
    |some v=>simp only[encRC,G6]at g2;omega
   rw[C0,G7 rfl,A5,F8,B4 hc,a3,A5];cases hB:bestF p red b p.N.length with
   |none =>
    rw[hB]at g3;simp only at g3;exact⟨(x,y,(b:Int),i+1),by rw[C0 (show(encR p b none).2=-1 from rfl),B4 hc,A5,B1 (show ¬y<(encR p b none).2 by simp only[encR];omega),K3],⟨h,.inr ⟨b,rfl,g3.symm⟩⟩,by simp only;omega⟩
   |some w =>
    rw[hB]at g3;rw[B1 (show ¬(encR p b (some w)).2=-1 by simp only[encR];omega),A5];cases acc with
    |none =>
     simp only[encRC,G6]at g2;obtain⟨rfl,rfl⟩:=g2;exact⟨(clsL p w.1 b,(w.2:Int),-1,i+1),by rw[C0 (show -1<(encR p b (some w)).2 by simp only[encR];omega),K3];rfl,⟨h,.inl ⟨rfl,some (w.2,b,w.1),rfl,g3⟩⟩,by simp only;omega⟩
    |some v =>
     simp only[encRC,G6]at g2;obtain⟨rfl,rfl⟩:=g2;simp only at g3;by_cases a0:v.1<w.2
     ·rw[if_pos a0]at g3;exact⟨(clsL p w.1 b,(w.2:Int),-1,i+1),by rw[C0 (show(v.1:Int)<(encR p b (some w)).2 by simp only[encR];omega),K3];rfl,⟨h,.inl ⟨rfl,some (w.2,b,w.1),rfl,g3⟩⟩,by simp only;omega⟩
     ·rw[if_neg a0]at g3;exact⟨(clsL p v.2.2 v.2.1,(v.1:Int),-1,i+1),by rw[B1 (show ¬(v.1:Int)<(encR p b (some w)).2 by simp only[encR];omega),K3],⟨h,.inl ⟨rfl,some v,rfl,g3⟩⟩,by simp only;omega⟩
  ·right;have e1:i=L.length:=by omega
   subst e1;rw[tE,chF]at g3;refine⟨(x,-1),by rw[B1,A5,G0],.inr ⟨acc,g3.symm,?_⟩⟩;rw[<- g2]
 ·right;refine⟨(x,(b:Int)),?_,.inl ⟨b,g2,rfl⟩⟩
  have:(cond (decide ((i:Int)<(↑(E2 L).length:Int))) (some (decide ((b:Int)=-1))) (some false):Option Bool)=some false:=by
   rw[J0 (by omega:¬(b:Int)=-1)];cases decide ((i:Int)<(↑(E2 L).length:Int))<;>rfl
  rw[this,A5,G0]
end
end
section
def FolT(n:Nat)(h:Nat->Nat)(to:A2):Prop:=to.length=n/\∀u,u<n->to[u]?=some (-1)\/to[u]?=some (↑(h u):Int)
def unv(to:A2):Nat:=to.countP λx=>decide (x=-1)
def unv_set{to:A2}{x:Int}(hx:x≠-1):∀{b:Nat},to[b]?=some (-1)->unv (to.set b x)+1=unv to:=by
 induction to with
 |nil=>intro b h;cases h
 |cons y to ih =>
  intro b h;cases b with
  |zero =>
   have h:y=-1:=by injection h
   subst h;unfold unv;rw[xP,jO,jO,J0 hx,G7 rfl];simp
  |succ b =>
   have h:=ih (b:=b) h;unfold unv at h ⊢;rw[xO,jO,jO];omega
section
variable {p q:A8}{h:Nat->Nat}
structure FolR(p:A8)(h:Nat->Nat)(v:Nat)(to0:A2)(w0:A2)(to w:A2)(a:Nat):Prop where
 t:FolT p.N.length h to
 mono:∀u:Nat,to0[u]?=some (↑(h u):Int)->to[u]?=some (↑(h u):Int)
 row:∀b u:Nat,b<a->pnx p v b=(u:Int)->to[u]?=some (↑(h u):Int)
 new:∃new:A2,w=w0++new/\(∀x∈new,∃u:Nat,x=(u:Int)/\u<p.N.length/\to[u]?=some (↑(h u):Int))/\∀u:Nat,to[u]?=some (↑(h u):Int)->to0[u]?=some (↑(h u):Int)\/(u:Int)∈new
 few:2*unv to+w.length<=2*unv to0+w0.length
def loop_frow(H:H9 p)(Hq:H9 q)(K:Hom p q h){v:Nat}(hv:v<p.N.length)(hrs:RS p v)(hlt:h v<q.N.length){to0 w0:A2}(T0:FolT p.N.length h to0)(hv0:to0[v]?=some (↑(h v):Int)){e:A2}(he:p.N[v]?=some e)(hl:2*unv to0+w0.length<=1000000) :
  ∃to w,iter (λ(s:A2×A2×Nat)=>R7.s20 q (v:Int) e s.1 s.2.1 s.2.2) fuel (to0,w0,0)=some (to,w)/\FolR p h v to0 w0 to w p.I.toNat:=by
 have hi:=H.i2;have b8:=H.i1
 have b7:e.length=p.I.toNat:=by
  obtain⟨xr,yr,k1,k2,k3,k4,_⟩:=H.row v hv;rw[he]at k1;injection k1 with k1
  rw[k1];omega
 have key:=H4 (step:=λ(s:A2×A2×Nat)=>R7.s20 q (v:Int) e s.1 s.2.1 s.2.2) (λs=>s.2.2<=p.I.toNat/\FolR p h v to0 w0 s.1 s.2.1 s.2.2) (λs=>p.I.toNat-s.2.2) (λr=>∃to w,r=(to,w)/\FolR p h v to0 w0 to w p.I.toNat) (λ⟨to,w,a⟩ ⟨g1,R⟩=>by
  simp only at g1 R
  simp only[R7.s20]
  by_cases ha:a<p.I.toNat
  ·left
   obtain⟨n1,n2,n3,n4,n5,xr,yr,a4,b5,a8,c6,_,_⟩:=H.at hv ha
   rw[he]at a4
   injection a4 with a4
   subst a4
   rw[C0,B4 a8]
   by_cases t0:pnx p v a=-1
   ·refine⟨(to,w,a+1),by rw[B1 (λg=>g t0),A5,G0],⟨ha,R.t,R.mono,λb u hb hu=>?_,R.new,R.few⟩,by simp only;omega⟩
    by_cases e2:b=a
    ·rw[e2,t0]at hu;omega
    ·exact R.row b u (by simp only at hb;omega) hu
   ·obtain⟨u,hu⟩:∃u:Nat,pnx p v a=(u:Int):=⟨(pnx p v a).toNat,by omega⟩
    have a6:=(bA H hu).2.2
    obtain⟨m1,m2⟩:=K.mv v a u hrs hu
    rw[C0 t0]
    rcases R.t.2 u a6 with a0|a0
    ·-- a new state
     have a7:=R.mono v hv0
     have b6:u≠v:=λe=>by
      rw[e,a7]at a0
      injection a0 with a0
      omega
     obtain⟨_,b2,_⟩:=bA Hq m1
     obtain⟨_,_,_,_,_,xq,yq,a9,c0,a5,b4,_,_⟩:=Hq.at hlt b2
     rw[m1]at a5
     have b9:=unv_set (to:=to) (x:=(↑(h u):Int)) (by omega) a0
     have a2:(to.set u (↑(h u):Int))[u]?=some (↑(h u):Int):=P9 (by rw[R.t.1];exact a6)
     have a3:∀x:Nat,to[x]?=some (↑(h x):Int)->(to.set u (↑(h u):Int))[x]?=some (↑(h x):Int):=λx hx=>by
      by_cases e:x=u
      ·rw[e];exact a2
      ·rw[O6 (λg=>e g.symm)];exact hx
     obtain⟨new,w1,w2,w3⟩:=R.new
     have b3:=R.few
     refine⟨(to.set u (↑(h u):Int),w++[(u:Int)],a+1),?_,⟨ha,⟨by simp only[P0];exact R.t.1,λx hx=>?_⟩,λx hx=>a3 x (R.mono x hx),λb x hb hx=>?_,⟨new++[(u:Int)],by simp only;rw[w1,cU],λx hx=>?_,λx hx=>?_⟩,by simp only[J4,Q3];omega⟩,by simp only;omega⟩
     ·rw[D6 (i:=u) hu a0,G7 rfl,A5,F8,D6 (i:=v) rfl a7,D6 (i:=h v) rfl a9,B4 a5,D6 (i:=u) hu a0,Q1,hu,I7]
     ·simp only
      by_cases e:x=u
      ·rw[e];exact .inr a2
      ·rw[O6 (λg=>e g.symm)];exact R.t.2 x hx
     ·simp only at hb ⊢
      by_cases e:b=a
      ·rw[e,hu]at hx
       rw[show x=u by omega]
       exact a2
      ·exact a3 x (R.row b x (by omega) hx)
     ·rcases J2.1 hx with hx|hx
      ·obtain⟨y,y1,y2,y3⟩:=w2 x hx
       exact⟨y,y1,y2,a3 y y3⟩
      ·exact⟨u,J3.1 hx,a6,a2⟩
     ·simp only at hx
      by_cases e:x=u
      ·rw[e];exact .inr (M0 _ (J3.2 rfl))
      ·rw[O6 (λg=>e g.symm)]at hx
       exact(w3 x hx).imp id λk=>L6 _ k
    ·refine⟨(to,w,a+1),by rw[D6 (i:=u) hu a0,J0 (by omega),A5,G0],⟨ha,R.t,R.mono,λb x hb hx=>?_,R.new,R.few⟩,by simp only;omega⟩
     simp only at hb ⊢
     by_cases e2:b=a
     ·rw[e2,hu]at hx
      rw[show x=u by omega]
      exact a0
     ·exact R.row b x (by omega) hx
  ·right
   have e1:a=p.I.toNat:=by omega
   subst e1
   exact⟨_,by rw[B1],to,w,rfl,R⟩) fuel (to0,w0,0) ⟨D9 _,T0,λ_ g=>g,λb u hb=>absurd hb (N9 _),⟨[],(bJ _).symm,λx hx=>(by cases hx),λu hu=>.inl hu⟩,H0 _⟩ (by have:=E6;simp only;omega)
 obtain⟨r,e1,to,w,rfl,R⟩:=key;exact⟨to,w,e1,R⟩
structure FolI(p q:A8)(red:List Bool)(h:Nat->Nat)(to:A2)(out:List Bool)(w:A2):Prop where
 t:FolT p.N.length h to
 ol:out.length=q.N.length
 st:to[p.S.toNat]?=some (↑(h p.S.toNat):Int)
 wk:∀x∈w,∃u:Nat,x=(u:Int)/\u<p.N.length/\to[u]?=some (↑(h u):Int)
 few:2*unv to+w.length<=2*p.N.length+1
 d:∃D:Nat->Prop,(∀v,D v->v<p.N.length/\to[v]?=some (↑(h v):Int))/\(∀u:Nat,to[u]?=some (↑(h u):Int)->D u\/(u:Int)∈w)/\(∀v,D v->∀a u:Nat,pnx p v a=(u:Int)->to[u]?=some (↑(h u):Int))/\∀j,out[j]?=some true↔∃v,D v/\red[v]?=some true/\h v=j
def ev_follow(H:H9 p)(Hq:H9 q)(K:Hom p q h)(G:Conn p)(hlt:∀v,v<p.N.length->h v<q.N.length){red:List Bool}(hr:red.length=p.N.length):∃out,R7 p q red=some out/\out.length=q.N.length/\∀j,out[j]?=some true↔∃v,red[v]?=some true/\h v=j:=by
 have hn:=H.n2;have c0:=Hq.n2;have c7:=H.st;have c6:=Hq.st;have hs:p.S.toNat<p.N.length:=by omega
 have k1:=H4 (step:=λ(s:A2×Nat)=>R7.s2 p s.1 s.2) (λs=>s.2<=p.N.length/\Wrt (λ_=>-1) (List.replicate p.N.length 0) s.2 s.1) (λs=>p.N.length-s.2) (λr=>r=List.replicate p.N.length (-1)) (λ⟨y,k⟩ ⟨g1,g2⟩=>by
  simp only at g1 g2
  simp only[R7.s2,J6]
  have b5:=g2.len
  rw[J6]at b5
  by_cases hk:k<p.N.length
  ·left
   exact⟨(y.set k (-1),k+1),by rw[C0,B4 (get_at (l:=y) (i:=k) (by omega)),K3],⟨hk,g2.step (by rw[J6];exact hk) rfl⟩,by simp only;omega⟩
  ·right
   have e1:k=p.N.length:=by omega
   subst e1
   refine⟨_,by rw[B1],?_⟩
   rw[g2.done (by rw[J6];exact H0 _),J6,List.map_const',P3]) fuel (List.replicate p.N.length 0,0) ⟨D9 _,Wrt.zero _ _⟩ (by have:=E6;simp only;omega)
 obtain⟨r,e1,rfl⟩:=k1
 have c8:unv (List.replicate p.N.length (-1))=p.N.length:=by
  unfold unv;rw[List.countP_replicate,if_pos (G7 rfl)]
 have b2:(List.replicate p.N.length (-1:Int))[p.S.toNat]?=some (-1):=by rw[W4,if_pos hs]
 have b9:=unv_set (x:=(↑(h p.S.toNat):Int)) (by omega) b2;have a3:((List.replicate p.N.length (-1:Int)).set p.S.toNat (↑(h p.S.toNat):Int))[p.S.toNat]?=some (↑(h p.S.toNat):Int):=P9 (by rw[J6];exact hs)
 have a5:∀u,u≠p.S.toNat->((List.replicate p.N.length (-1:Int)).set p.S.toNat (↑(h p.S.toNat):Int))[u]?=if u<p.N.length then some (-1) else none:=λu hu=>by
  rw[O6 (λg=>hu g.symm),W4]
 have k2:=H4 (step:=λ(s:A2×List Bool×A2)=>R7.s22 p q red s.1 s.2.1 s.2.2) (λs=>FolI p q red h s.1 s.2.1 s.2.2) (λs=>2*unv s.1+s.2.2.length) (λout=>out.length=q.N.length/\∀j,out[j]?=some true↔∃v,red[v]?=some true/\h v=j) (λ⟨to,out,w⟩ F=>by
  simp only at F
  simp only[R7.s22]
  obtain⟨D,d1,d2,d3,d4⟩:=F.d
  cases w with
  |nil =>
   right
   refine⟨out,by rw[B1 (by simp)],F.ol,λj=>?_⟩
   have b3:∀v,RS p v->D v:=λv hv=>by
    have:to[v]?=some (↑(h v):Int):=by
     induction hv with
     |st=>exact F.st
     |step a u _ hu ih=>exact d3 _ ((d2 _ ih).elim id λk=>by cases k) a u hu
    exact(d2 v this).elim id λk=>by cases k
   rw[d4]
   exact⟨λ⟨v,_,h2,h3⟩=>⟨v,h2,h3⟩,λ⟨v,h2,h3⟩=>⟨v,b3 v (G v (by have:=(F6.1 h2).1;omega)),h2,h3⟩⟩
  |cons x w =>
   left
   obtain⟨v,rfl,hv,a7⟩:=F.wk x U8
   have a4:=get_at (l:=red) (i:=v) (by omega)
   obtain⟨xr,yr,k1,k2,k3,k4,_⟩:=H.row v hv
   have a8:=F.few
   rw[G9]at a8
   obtain⟨b4,w',e2,R⟩:=loop_frow H Hq K hv (G v hv) (hlt v hv) F.t a7 k1 (w0:=(v:Int)::w) (by rw[G9];omega)
   have a9:=hlt v hv
   obtain⟨a0,ho,b6,hom⟩:∃a0:List Bool,(cond red[v] (idx to (v:Int) λa2=>idx out a2 λa6=>some (List.set out a2.toNat true)) (some out):Option (List Bool))=some a0/\a0.length=q.N.length/\∀j,a0[j]?=some true↔(out[j]?=some true\/(red[v]?=some true/\h v=j)):=by
    cases hc:red[v]with
    |false =>
     rw[hc]at a4
     refine⟨out,by rw[G0],F.ol,λj=>⟨.inl,λk=>k.elim id λk=>?_⟩⟩
     have:=k.1
     rw[a4]at this
     cases this
    |true =>
     rw[hc]at a4
     refine⟨out.set (h v) true,by rw[F8,D6 (i:=v) rfl a7,D6 (i:=h v) rfl (get_at (l:=out) (i:=h v) (by rw[F.ol];exact a9)),I7],by rw[P0];exact F.ol,λj=>?_⟩
     by_cases e:j=h v
     ·rw[e,P9 (by rw[F.ol];exact a9)]
      exact⟨λ_=>.inr ⟨a4,rfl⟩,λ_=>rfl⟩
     ·rw[O6 (λg=>e g.symm)]
      exact⟨.inl,λk=>k.elim id λk=>absurd k.2.symm e⟩
   obtain⟨new,w1,w2,w3⟩:=R.new
   have b8:=R.few
   rw[w1,J4,G9]at b8
   refine⟨(b4,a0,w++new),?_,⟨R.t,b6,R.mono _ F.st,λy hy=>?_,by simp only[J4];omega,λu=>D u\/u=v,λu hu=>?_,λu hu=>?_,λu hu a y hy=>?_,λj=>?_⟩,by simp only[J4,G9];omega⟩
   ·rw[C0 (by rw[G9];omega),B4 (x:=(v:Int)) rfl,D6 (i:=v) rfl a4,ho,A5,D6 (i:=v) rfl k1,e2,A5]
    unfold R7.k21
    rw[w1,H1 (by simp)]
    rfl
   ·rcases J2.1 hy with hy|hy
    ·obtain⟨u,u1,u2,u3⟩:=F.wk y (O7 _ hy)
     exact⟨u,u1,u2,R.mono u u3⟩
    ·exact w2 y hy
   ·rcases hu with hu|rfl
    ·exact⟨(d1 u hu).1,R.mono u (d1 u hu).2⟩
    ·exact⟨hv,R.mono _ a7⟩
   ·rcases w3 u hu with k|k
    ·rcases d2 u k with k|k
     ·exact .inl (.inl k)
     ·rcases L8.1 k with k|k
      ·exact .inl (.inr (by omega))
      ·exact .inr (L6 _ k)
    ·exact .inr (M0 _ k)
   ·rcases hu with hu|rfl
    ·exact R.mono y (d3 u hu a y hy)
    ·exact R.row a y (bA H hy).2.1 hy
   ·rw[hom,d4]
    constructor
    ·rintro (⟨u,u1,u2,u3⟩|⟨u2,u3⟩)
     ·exact⟨u,.inl u1,u2,u3⟩
     ·exact⟨v,.inr rfl,u2,u3⟩
    ·rintro⟨u,u1|rfl,u2,u3⟩
     ·exact .inl ⟨u,u1,u2,u3⟩
     ·exact .inr ⟨u2,u3⟩) fuel ((List.replicate p.N.length (-1:Int)).set p.S.toNat (↑(h p.S.toNat):Int),List.replicate q.N.length false,[p.S]) ⟨⟨by simp only[P0,J6],λu hu=>?_⟩,by simp only[J6],a3,λx hx=>⟨p.S.toNat,by rw[J3.1 hx];omega,hs,a3⟩,by simp only[Q3];omega,λ_=>False,λv hv=>hv.elim,λu hu=>?_,λv hv=>hv.elim,λj=>⟨λhj=>?_,λ⟨v,hv,_⟩=>hv.elim⟩⟩ (by have:=E6;simp only[Q3];omega)
 ·obtain⟨out,e2,o1,o2⟩:=k2;refine⟨out,?_,o1,o2⟩;have b7:q.S=(↑(h p.S.toNat):Int):=by have:=K.st;omega
  unfold R7;rw[H1 ⟨by omega,bN _,by unfold B5;omega⟩,e1,A5,D6 (i:=p.S.toNat) (by omega) b2,H1 ⟨by omega,bN _,by unfold B5;omega⟩,b7,e2,A5]
 ·simp only;by_cases e:u=p.S.toNat
  ·rw[e];exact .inr a3
  ·rw[a5 u e,if_pos hu];exact .inl rfl
 ·simp only at hu;by_cases e:u=p.S.toNat
  ·right;rw[e,J3];omega
  ·rw[a5 u e]at hu;split at hu
   ·injection hu with hu;omega
   ·cases hu
 ·simp only[W4]at hj;split at hj
  ·injection hj with hj;cases hj
  ·cases hj
end
end
section
structure LrnE(p:A8)(red:List Bool):Prop where
 l:LrnI p red
 s0:p.S=0
 r0:red[0]?=some true
structure BlueE(p:A8)(red:List Bool)(b:Nat):Prop where
 lt:b<p.N.length
 wh:red[b]?=some false
 ex:∃r a,aY p red r a b
section
variable {p:A8}
def bestF_all{red:List Bool}{c:Nat}(h:∀r:Nat,red[r]?=some true->Q0 p r c):∀k,bestF p red c k=none
 |0=>by rw[bestF]
 |k+1=>by rw[iG λg=>g.2.1 (h k g.1)];exact bestF_all h k
def chF_least{red:List Bool}{b c:Nat}:∀{L:List Nat} {acc:Option (Nat×Nat×Nat)},L.Pairwise (·<·)->chF p red acc L=.inl b->c∈L->bestF p red c p.N.length=none->b<=c
 |[],acc,_,h,_,_=>by cases h
 |d::L,acc,hp,h,hc,hB=>by
  rw[fQ]at hp;rw[chF]at h;cases hD:bestF p red d p.N.length with
  |none =>
   rw[hD]at h;injection h with h
   rw[<- h];rcases L8.1 hc with k|k
   ·rw[k];exact H0 _
   ·exact kU (hp.1 c k)
  |some w =>
   rw[hD]at h;rcases L8.1 hc with k|k
   ·rw[k,hD]at hB;cases hB
   ·exact chF_least hp.2 h k hB
def bools_ext{x y:List Bool}(hl:x.length=y.length)(h:∀i:Nat,x[i]?=some true↔y[i]?=some true):x=y:=by
 refine aC λi=>?_;by_cases g:i<x.length
 ·have h1:=get_at g;have h2:=get_at (l:=y) (i:=i) (by omega);have h3:=h i;rw[h1,h2]at h3 ⊢;cases hx:x[i]<;>cases hy:y[i]<;>simp[hx,hy]at h3 ⊢
 ·rw[M2 (by omega),M2 (by omega)]
def reds_ref(H:H9 p)(G:Conn p){Q:A8}{cl:Nat->Nat}(K:dT p Q cl){red:List Bool}(hr:red.length=p.N.length) :
  ∃red':List Bool,eC red ((List.range p.N.length).map λq=>(↑(cl q):Int)) (E2 (ordP Q))=some red'/\red'.length=(renP Q).N.length/\∀i,red'[i]?=some true↔∃q,red[q]?=some true/\(ordP Q).idxOf (cl q)=i:=by
 have hn:=H.n2;have a4:=(K.ord H).le;have a2:(renP Q).N.length=(ordP Q).length:=by unfold renP;simp only[C3]
 have a0:(E2 (ordP Q)).length=(ordP Q).length:=by unfold E2;rw[C3]
 have key:=H4 (step:=λ(s:List Bool×Nat)=>eC.s2 red ((List.range p.N.length).map λq=>(↑(cl q):Int)) (E2 (ordP Q)) s.1 s.2) (λs=>s.2<=p.N.length/\s.1.length=(ordP Q).length/\∀i,s.1[i]?=some true↔∃q,q<s.2/\red[q]?=some true/\(ordP Q).idxOf (cl q)=i) (λs=>p.N.length-s.2) (λr=>r.length=(ordP Q).length/\∀i,r[i]?=some true↔∃q,red[q]?=some true/\(ordP Q).idxOf (cl q)=i) (λ⟨y,q⟩ ⟨g1,g2,g3⟩=>by
  simp only at g1 g2 g3
  simp only[eC.s2]
  by_cases h:q<p.N.length
  ·left
   have hx:=get_at (l:=red) (i:=q) (by omega)
   have hm:=K.mem H (G q h)
   have a3:=cV hm
   have e2:((List.range p.N.length).map (λq=>(↑(cl q):Int)))[q]?=some (↑(cl q):Int):=by
    rw[H7,Q6 h,K6]
   rw[C0,B4 hx]
   cases hc:red[q]with
   |false =>
    refine⟨(y,q+1),by rw[G0],⟨h,g2,λi=>(g3 i).trans ⟨λ⟨u,u1,u2⟩=>⟨u,by simp only;omega,u2⟩,λ⟨u,u1,u2,u3⟩=>?_⟩⟩,by simp only;omega⟩
    rcases K4 u q with g|g
    ·exact⟨u,g,u2,u3⟩
    ·have e:u=q:=by simp only at u1;omega
     rw[e,hx,hc]at u2
     cases u2
   |true =>
    refine⟨(y.set ((ordP Q).idxOf (cl q)) true,q+1),by rw[F8,B4 e2,place_eq (by omega),A5,D6 (i:=(ordP Q).idxOf (cl q)) rfl (get_at (l:=y) (i:=(ordP Q).idxOf (cl q)) (by omega)),I7],⟨h,by simp only[P0];exact g2,λi=>?_⟩,by simp only;omega⟩
    simp only
    by_cases e:i=(ordP Q).idxOf (cl q)
    ·subst e
     rw[P9 (by omega)]
     exact⟨λ_=>⟨q,jQ _,by rw[hx,hc],rfl⟩,λ_=>rfl⟩
    ·rw[O6 (λh=>e h.symm),g3 i]
     constructor
     ·rintro⟨u,u1,u2⟩
      exact⟨u,by omega,u2⟩
     ·rintro⟨u,u1,u2,u3⟩
      rcases K4 u q with g|g
      ·exact⟨u,g,u2,u3⟩
      ·have eu:u=q:=by omega
       rw[eu]at u3
       exact absurd u3.symm e
  ·right
   refine⟨_,by rw[B1],g2,λi=>(g3 i).trans ⟨λ⟨u,_,u2⟩=>⟨u,u2⟩,λ⟨u,u2,u3⟩=>⟨u,?_,u2,u3⟩⟩⟩
   have:=(F6.1 u2).1
   omega) fuel (List.replicate (ordP Q).length false,0) ⟨D9 _,J6,λi=>⟨(λh=>by
  rw[W4]at h
  split at h<;>cases h),λ⟨u,u1,_⟩=>absurd u1 (N9 _)⟩⟩ (by have:=E6;simp only;omega)
 obtain⟨red',e,h1,h2⟩:=key;refine⟨red',?_,by rw[a2];exact h1,h2⟩;unfold eC;rw[a0,H1 ⟨by omega,bN _,by unfold B5;omega⟩,e,A5]
def merge_Fold_ok(H:H9 p){a b:Nat}(ha:a<p.N.length)(hb:b<p.N.length){q:A8}{l:A2}{ok:Bool}(e:I2 p (a:Int) (b:Int)=some (q,l,ok)):mE p (a:Int) (b:Int)=some (q,ok,0):=by
 have hn:=H.n2;unfold mE;rw[BG (by omega),A5,H.valid,B1 (λh=>h rfl),B1,J0 (by omega),A5,G0,e,A5]
def evl_step{red:List Bool}{L:A2}(K:LrnE p red)(hL:U9 p red=some L) :
  (U6.s4 p.I p.S p.N p.O red=some (.inr (p,0))/\N4.s44 p.I p.S p.N p.O red L=some (.inr (p.I,p.S,p.N,p.O))/\∀r a b,¬aY p red r a b) \/
  ∃b,BlueE p red b/\((((∀r:Nat,red[r]?=some true->Q0 p r b)/\∀c,(∃r a,aY p red r a c)->(∀r:Nat,red[r]?=some true->Q0 p r c)->b<=c)/\LrnE p (red.set b true)/\U6.s4 p.I p.S p.N p.O red=some (.inl (p.I,p.S,p.N,p.O,red.set b true))/\∃L',U9 p (red.set b true)=some L'/\N4.s44 p.I p.S p.N p.O red L=some (.inl (p.I,p.S,p.N,p.O,red.set b true,L'))) \/
   ∃r0 Q cl red',FoldB p red r0 b Q cl red'/\LrnE (renP Q) red'/\U6.s4 p.I p.S p.N p.O red=some (.inl ((renP Q).I,(renP Q).S,(renP Q).N,(renP Q).O,red'))/\∃L',U9 (renP Q) red'=some L'/\N4.s44 p.I p.S p.N p.O red L=some (.inl ((renP Q).I,(renP Q).S,(renP Q).N,(renP Q).O,red',L'))):=by
 obtain⟨⟨H,G,hr⟩,b6,a4⟩:=K;have hn:=H.n2;obtain⟨M,b1,b2,b3,b4,b5⟩:=ev_blues H hr;rw[b2]at hL;injection hL with hL
 subst hL;have b1:U5 (⟨p.I,p.S,p.N,p.O⟩:A8) red=some (E2 M):=b1;have c6:(E2 M).length=M.length:=by unfold E2;rw[C3]
 have hM:∀b,b∈M->b<p.N.length/\red[b]?=some false/\b≠0:=λb hb=>by
  obtain⟨r,a,hc⟩:=(b3 b).1 hb;have hw:=hc.2.2;have:=(F6.1 hw).1;exact⟨by omega,hw,λe=>by rw[e,a4]at hw;cases hw⟩
 have c0:∀r,red[r]?=some true->r<p.N.length:=λr h=>by have:=(F6.1 h).1;omega
 have c1:aQ (⟨p.I,p.S,p.N,p.O⟩:A8) red (E2 M)=some (outCh (chF p red none M)):=ev_choose H hr (λb hb=>⟨(hM b hb).1,(hM b hb).2.2⟩) (by omega);obtain⟨w,c2,c3⟩:=ref_choose H hr (λb hb=>(hM b hb).1) (by omega);by_cases hz:M=[]
 ·left;subst hz;refine⟨?_,?_,λr a b hc=>by have:=(b3 b).2 ⟨r,a,hc⟩;cases this⟩
  ·unfold U6.s4;rw[b1,A5,C0 (by simp[E2]),A5,eP]
  ·unfold N4.s44;rw[B1 (by simp[E2])]
 ·right;have d2:0<M.length:=List.length_pos_iff.2 hz
  have s4:∀cc,aQ (⟨p.I,p.S,p.N,p.O⟩:A8) red (E2 M)=some cc->U6.s4 p.I p.S p.N p.O red=(cond (decide (cc.2≠(-1:Int))) (idx red cc.2 λa7=>some (.inl (p.I,p.S,p.N,p.O,(List.set red cc.2.toNat true)))) ((mE p cc.1.red cc.1.blue).bind λa2=>(R7 p a2.1 red).bind λa6=>some (.inl (a2.1.I,a2.1.S,a2.1.N,a2.1.O,a6))):Option ((Int×Int×A4×A4×List Bool)⊕((Int×Int×A4×A4×List Bool)⊕(A8×Int)))).bind (Sum.elim (λ(s:Int×Int×A4×A4×List Bool)=>U6.k3 s.1 s.2.1 s.2.2.1 s.2.2.2.1 s.2.2.2.2) some):=λcc c7=>by
   unfold U6.s4;rw[b1,A5,B1,c7,A5]
  have s44:N4.s44 p.I p.S p.N p.O red (E2 M)=(N4.k42 p.I p.S p.N p.O red w.1 w.2).bind (λ(s:Int×Int×A4×A4×List Bool)=>N4.k43 s.1 s.2.1 s.2.2.1 s.2.2.2.1 s.2.2.2.2):=by
   unfold N4.s44;rw[C0,c2,A5]
  rcases c3 with⟨b,f1,f2⟩|⟨acc,f1,rfl⟩
  ·-- a state of its own
   obtain⟨g1,g2⟩:=chF_inl f1;obtain⟨h1,h2,h3⟩:=hM b g1;have b8:(red.set b true).length=p.N.length:=by rw[P0];exact hr
   obtain⟨L',e3,_⟩:=rY H b8;refine⟨b,⟨h1,h2,(b3 b).1 g1⟩,.inl ⟨⟨λr a0=>yE g2 r (c0 r a0) a0,λc hc a9=>chF_least b5 f1 ((b3 c).2 hc) (bestF_all a9 _)⟩,⟨⟨H,G,b8⟩,b6,by rw[O6 h3];exact a4⟩,?_,_,e3,?_⟩⟩
   ·rw[s4 ((⟨0,0,0⟩:X8),(b:Int)) (by rw[c1,f1];rfl),C0 (show((⟨0,0,0⟩:X8),(b:Int)).2≠-1 by simp only;omega),D6 (i:=b) rfl h2,A5,W5];simp only;rw[I7];rfl
   ·rw[s44,f2];unfold N4.k42;rw[C0,D6 (i:=b) rfl h2,A5,I7];unfold N4.k43;simp only;rw[e3,A5]
  ·-- a fold
   rcases chF_inr f1 with⟨_,h|h⟩|⟨n,b,r,rfl,g1,g2⟩
   ·exact absurd h hz
   ·exact absurd rfl h
   ·obtain⟨h1,h2,h3⟩:=hM b g1;obtain⟨k1,k2,k3,_⟩:=yR g2;simp only at k1 k2 k3;rcases zsf H k1 h1 with⟨q1,_⟩|⟨_,Q,cl,KQ,q2,q3⟩
    ·exact absurd q1 k3
    ·have b7:clsL p r b=(List.range p.N.length).map λq=>(↑(cl q):Int):=nD λq hq=>by rw[q2 q (M5.1 hq)]
     obtain⟨e1,hO⟩:=R35_Folded_eq H KQ;obtain⟨red2,l3,m2,m3⟩:=reds_ref H G KQ hr;obtain⟨p1,p2,p3⟩:=quo_part H KQ;have a5:(renP Q).N.length=(ordP Q).length:=by unfold renP;simp only[C3]
     have a3:=fold_hom H KQ;obtain⟨out,u1,u2,u3⟩:=ev_follow H p1 a3 G (λv hv=>by rw[a5];exact cV (KQ.mem H (G v hv))) hr;have a8:out=red2:=bools_ext (u2.trans m2.symm) λi=>(u3 i).trans (m3 i).symm;subst a8;have c8:r≠b:=λe=>by rw[e,h2]at k2;cases k2
     have d1:cl r=cl b:=by rw[q2 r k1,q2 b h1];exact xQ.1 .base
     have hx:∃x,x<p.N.length/\cl x≠x:=by
      by_cases k:cl r=r
      ·exact⟨b,h1,λe=>c8 (by rw[<- k,d1,e])⟩
      ·exact⟨r,k1,k⟩
     obtain⟨L',e3,_⟩:=rY p1 u2;have hI:LrnI (renP Q) out:=⟨p1,renP_conn KQ.ren,u2⟩;have c9:out[0]?=some true:=(u3 0).2 ⟨0,a4,by have:=a3.st;rw[b6]at this;exact this.symm⟩;refine⟨b,⟨h1,h2,(b3 b).1 g1⟩,.inr ⟨r,Q,cl,out,⟨k2,k3,KQ,q2,m3,hI,p3 hx⟩,⟨hI,rfl,c9⟩,?_,_,e3,?_⟩⟩
     ·rw[s4 ((⟨(n:Int),(b:Int),(r:Int)⟩:X8),-1) (by rw[c1,f1];rfl),J0 (show ¬((⟨(n:Int),(b:Int),(r:Int)⟩:X8),(-1:Int)).2≠-1 from λh=>h rfl),G0];simp only;rw[merge_Fold_ok H k1 h1 q3,A5,u1,A5,A5,W5];rfl
     ·rw[s44];unfold N4.k42
      have d0:Q2 (⟨p.I,p.S,p.N,p.O⟩:A8) (encRC p (some (n,b,r))).1=some (renP Q,E2 (ordP Q)):=by
       simp only[encRC];rw[b7];exact e1
      have b9:eC red (encRC p (some (n,b,r))).1 (E2 (ordP Q))=some out:=by
       simp only[encRC];rw[b7];exact l3
      rw[J0 (show ¬((encRC p (some (n,b,r))).1,(-1:Int)).2≠-1 from λh=>h rfl),G0];simp only;rw[d0,A5,b9,A5,A5];unfold N4.k43;simp only;rw[e3,A5]
end
def EvS(J:A8->List Bool->Prop)(a:Int×Int×A4×A4×List Bool)(b:Int×Int×A4×A4×List Bool×A2):Prop :=
 ∃p red L,a=(p.I,p.S,p.N,p.O,red)/\b=(p.I,p.S,p.N,p.O,red,L)/\LrnE p red/\J p red/\U9 p red=some L
def evl_loop{J:A8->List Bool->Prop}
  (h1:∀p red b,LrnE p red->J p red->BlueE p red b->((∀r:Nat,red[r]?=some true->Q0 p r b)/\∀c,(∃r a,aY p red r a c)->(∀r:Nat,red[r]?=some true->Q0 p r c)->b<=c)->J p (red.set b true))
  (h2:∀p red b r0 Q cl red',LrnE p red->J p red->BlueE p red b->FoldB p red r0 b Q cl red'->J (renP Q) red') {p:A8} {red:List Bool} {L:A2} (K:LrnE p red) (j:J p red) (hL:U9 p red=some L) :
  ∃p' red',iter (λ(s:Int×Int×A4×A4×List Bool)=>U6.s4 s.1 s.2.1 s.2.2.1 s.2.2.2.1 s.2.2.2.2) fuel (p.I,p.S,p.N,p.O,red)=some (p',0)/\iter (λ(s:Int×Int×A4×A4×List Bool×A2)=>N4.s44 s.1 s.2.1 s.2.2.1 s.2.2.2.1 s.2.2.2.2.1 s.2.2.2.2.2) fuel (p.I,p.S,p.N,p.O,red,L)=some (p'.I,p'.S,p'.N,p'.O)/\LrnE p' red'/\J p' red'/\∀r a b,¬aY p' red' r a b:=by
 have a0:∀{q:A8} {rd:List Bool},LrnI q rd->jS rd<=4096:=λ{q rd} K=>by
  have:=K.ok.n2;unfold jS;refine aR xF ?_;rw[K.len];exact this
 have hw:=a0 K.l;have hn:=K.l.ok.n2
 have key:=iter_pair (step1:=λ(s:Int×Int×A4×A4×List Bool)=>U6.s4 s.1 s.2.1 s.2.2.1 s.2.2.2.1 s.2.2.2.2) (step2:=λ(s:Int×Int×A4×A4×List Bool×A2)=>N4.s44 s.1 s.2.1 s.2.2.1 s.2.2.2.1 s.2.2.2.2.1 s.2.2.2.2.2) (EvS J) (λs=>5000*s.2.2.1.length+jS s.2.2.2.2) (λr r'=>∃p' red',r=(p',0)/\r'=(p'.I,p'.S,p'.N,p'.O)/\LrnE p' red'/\J p' red'/\∀r a b,¬aY p' red' r a b) (λs s' ⟨p,red,L,e1,e2,k1,k2,k3⟩=>by
  subst e1
  subst e2
  simp only
  rcases evl_step k1 k3 with⟨q1,q2,q3⟩|⟨b,hb,⟨hc,kk,q1,L',q2,q3⟩|⟨r0,Q,cl,red',hF,kk,q1,L',q2,q3⟩⟩
  ·exact .inr ⟨_,_,q1,q2,p,red,rfl,rfl,k1,k2,q3⟩
  ·refine .inl ⟨_,_,q1,q3,⟨p,_,_,rfl,rfl,kk,h1 p red b k1 k2 hb hc,q2⟩,?_⟩
   have:=whites_set hb.wh
   simp only
   omega
  ·refine .inl ⟨_,_,q1,q3,⟨renP Q,_,_,rfl,rfl,kk,h2 p red b r0 Q cl red' k1 k2 hb hF,q2⟩,?_⟩
   have a2:=hF.lt
   have:=a0 hF.ok
   simp only
   omega) fuel _ _ ⟨p,red,L,rfl,rfl,K,j,hL⟩ (by have:=E6;simp only;omega)
 obtain⟨r,r',e1,e2,p',red',rfl,rfl,hp⟩:=key;exact⟨p',red',e1,e2,hp⟩
end
def Tells(o:I4)(p:A8):Prop:=H9 p/\∀t∈o.T,∃c,Goes p p.S.toNat t.In t.O c
def Tells.hom{o:I4}{p p':A8}{h:Nat->Nat}(T:Tells o p)(H:H9 p')(K:Hom p p' h):Tells o p' :=
 ⟨H,λt ht=>by
  obtain⟨c,g⟩:=T.2 t ht
  exact⟨h c,K.st ▸ K.goes .st g⟩⟩
section
def addP(p:A8)(c:Nat)(w:A2)(A:List (Nat×A2))(a:Nat):List (Nat×A2):=if pnx p c a=-1\/(pnx p c a).toNat∈A.map Prod.fst then A else A++[((pnx p c a).toNat,w++[(a:Int)])]
def rowP(p:A8)(c:Nat)(w:A2)(A:List (Nat×A2))(k:Nat):List (Nat×A2):=(List.range k).foldl (addP p c w) A
def accP(p:A8):Nat->Nat->List (Nat×A2)->List (Nat×A2)
 |0,_,A=>A
 |f+1,i,A=>match A[i]? with
  |none=>A
  |some x=>accP p f (i+1) (rowP p x.1 x.2 A p.I.toNat)
def rowP_step{p:A8}{c:Nat}{w:A2}{A:List (Nat×A2)}{k:Nat}:rowP p c w A (k+1)=addP p c w (rowP p c w A k) k:=by
 unfold rowP;rw[fP,qI];rfl
structure AccI(p:A8)(A:List (Nat×A2))(i k:Nat):Prop where
 nd:(A.map Prod.fst).Nodup
 lt:∀x,x∈A->x.1<p.N.length
 st:A[0]?=some (p.S.toNat,[])
 go:∀x,x∈A->∃y,Goes p p.S.toNat x.2 y x.1
 clo:∀j x,A[j]?=some x->∀a u:Nat,(j<i\/j=i/\a<k)->pnx p x.1 a=(u:Int)->u∈A.map Prod.fst
 pre:∀x,x∈A->x.2=[]\/∃(j:Nat) (y:Nat×A2) (b:Nat),A[j]?=some y/\x.2=y.2++[(b:Int)]/\(j<i\/j=i/\b<k)
 asc:Asc (A.map Prod.snd)
section
variable {p:A8}
def AccI.few{A:List (Nat×A2)}{i k:Nat}(K:AccI p A i k):A.length<=p.N.length:=by
 have:=iH (b:=List.range p.N.length) K.nd λx hx=>by
  obtain⟨y,hy,rfl⟩:=I3.1 hx;exact M5.2 (K.lt y hy)
 rwa [C3,P3]at this
def AccI.step(H:H9 p){A:List (Nat×A2)}{i k:Nat}{x:Nat×A2}(K:AccI p A i k)(hx:A[i]?=some x):AccI p (addP p x.1 x.2 A k) i (k+1)/\(addP p x.1 x.2 A k)[i]?=some x:=by
 unfold addP;have a4:=I8 hx;split
 ·rename_i g;refine⟨⟨K.nd,K.lt,K.st,K.go,λj y hy a u h hu=>?_,λy hy=>?_,K.asc⟩,hx⟩
  ·by_cases e:j=i/\a=k
   ·obtain⟨rfl,rfl⟩:=e;rw[hx]at hy;injection hy with hy
    subst hy;rcases g with g|g
    ·omega
    ·rwa [hu,I7]at g
   ·exact K.clo j y hy a u (by omega) hu
  ·exact(K.pre y hy).imp id λ⟨j,z,b,h1,h2,h3⟩=>⟨j,z,b,h1,h2,by omega⟩
 ·rename_i g;have g1:pnx p x.1 k≠-1:=λh=>g (.inl h);have g2:(pnx p x.1 k).toNat∉A.map Prod.fst:=λh=>g (.inr h);have a2:=K.lt x a4
  have hk:k<p.I.toNat:=X9 λh=>g1 (by
   obtain⟨xr,yr,k1,k2,k3,k4,_⟩:=H.row x.1 a2
   unfold pnx
   rw[k1,H5,M2 (by omega),tD])
  obtain⟨n1,n2,_⟩:=H.at a2 hk;have hu:pnx p x.1 k=(↑(pnx p x.1 k).toNat:Int):=by omega
  have a0:∀(j:Nat) (y:Nat×A2),A[j]?=some y->(A++[((pnx p x.1 k).toNat,x.2++[(k:Int)])])[j]?=some y:=λj y hy=>by
   rw[P2 (F6.1 hy).1];exact hy
  have a5:=(F6.1 hx).1;refine⟨⟨?_,λy hy=>?_,a0 0 _ K.st,λy hy=>?_,λj y hy a u h a3=>?_,λy hy=>?_,?_⟩,a0 i x hx⟩
  ·rw[L5];refine V5.2 ⟨K.nd,by simp,λa ha b hb e=>?_⟩;rw[e]at ha;rw[J3.1 hb]at ha;exact g2 ha
  ·rcases J2.1 hy with hy|hy
   ·exact K.lt y hy
   ·rw[J3.1 hy];exact(bA H hu).2.2
  ·rcases J2.1 hy with hy|hy
   ·exact K.go y hy
   ·rw[J3.1 hy];obtain⟨z,hz⟩:=K.go x a4;exact⟨_,hz.snoc hu⟩
  ·rw[L5];by_cases hj:j<A.length
   ·rw[P2 hj]at hy;by_cases e:j=i/\a=k
    ·obtain⟨rfl,rfl⟩:=e;rw[hx]at hy;injection hy with hy
     subst hy;exact M0 _ (by rw[a3,I7];exact J3.2 rfl)
    ·exact L6 _ (K.clo j y hy a u (by omega) a3)
   ·omega
  ·rcases J2.1 hy with hy|hy
   ·exact(K.pre y hy).imp id λ⟨j,z,b,h1,h2,h3⟩=>⟨j,z,b,a0 j z h1,h2,by omega⟩
   ·rw[J3.1 hy];exact .inr ⟨i,x,k,a0 i x hx,rfl,by omega⟩
  ·rw[L5];refine nG.2 ⟨K.asc,by simp,λv hv v' a6=>?_⟩;rw[J3.1 a6];obtain⟨y,hy,rfl⟩:=I3.1 hv;rcases K.pre y hy with h|⟨j,z,b,h1,h2,h3⟩
   ·rw[h];unfold cmpW;rw[if_pos (by simp)]
   ·rw[h2];refine tZ ?_;rcases h3 with h3|⟨h3,h4⟩
    ·left;have hj:=(F6.1 h1).1;have:=iQ.1 K.asc j i (by rw[C3];exact hj) (by rw[C3];exact a5) h3;rw[List.getElem_map,List.getElem_map,(F6.1 h1).2,(F6.1 hx).2]at this;exact this
    ·right;rw[h3,hx]at h1;injection h1 with h1
     rw[<- h1];exact⟨rfl,by omega⟩
def AccI.row(H:H9 p){A:List (Nat×A2)}{i:Nat}{x:Nat×A2}(K:AccI p A i 0)(hx:A[i]?=some x):∀k,AccI p (rowP p x.1 x.2 A k) i k/\(rowP p x.1 x.2 A k)[i]?=some x
 |0=>⟨K,hx⟩
 |k+1=>by
  obtain⟨h1,h2⟩:=AccI.row H K hx k;rw[rowP_step];exact h1.step H h2
def AccI.next(H:H9 p){A:List (Nat×A2)}{i:Nat}(K:AccI p A i p.I.toNat):AccI p A (i+1) 0:=by
 refine⟨K.nd,K.lt,K.st,K.go,λj y hy a u h hu=>K.clo j y hy a u ?_ hu,λy hy=>(K.pre y hy).imp id λ⟨j,z,b,h1,h2,h3⟩=>⟨j,z,b,h1,h2,by omega⟩,K.asc⟩;have:=(bA H hu).2.1;omega
def AccI.zero(H:H9 p):AccI p [(p.S.toNat,[])] 0 0:=by
 have a0:=H.st;refine⟨by simp,λx hx=>?_,rfl,λx hx=>?_,λj y hy a u h=>by omega,λx hx=>?_,by simp[Asc]⟩
 ·rw[J3.1 hx];simp only;omega
 ·rw[J3.1 hx];exact⟨[],rfl,rfl⟩
 ·rw[J3.1 hx];exact .inl rfl
def accL(p:A8):List (Nat×A2):=accP p (p.N.length+1) 0 [(p.S.toNat,[])]
def accP_ok(H:H9 p):∀(f i:Nat) (A:List (Nat×A2)),AccI p A i 0->p.N.length+1<=f+i->∃j,AccI p (accP p f i A) j 0/\(accP p f i A).length<=j
 |0,i,A,K,h=>by
  have:=K.few;exact⟨i,K,by unfold accP;omega⟩
 |f+1,i,A,K,h=>by
  unfold accP;cases e:A[i]? with
  |none =>
   have:=CL.1 e;exact⟨i,K,this⟩
  |some x=>exact accP_ok H f (i+1) _ ((K.row H e p.I.toNat).1.next H) (by omega)
def accL_ok(H:H9 p):∃j,AccI p (accL p) j 0/\(accL p).length<=j:=accP_ok H _ _ _ (AccI.zero H) (by omega)
def accW(p:A8):A4:=(accL p).map Prod.snd
def sortW_ascE{l:A4}(h:Asc l):sortW l=l:=nQ (fG l) h λx=>bD l x
def accW_asc(H:H9 p):Asc (accW p):=(accL_ok H).elim λ_ K=>K.1.asc
def AccI.closed{A:List (Nat×A2)}{i0 k0:Nat}(K:AccI p A i0 k0):∀(n:Nat) {w:A2},w.length=n->w∈A.map Prod.snd->∀v,v <+: w->v∈A.map Prod.snd
 |0,w,hn,hw,v,hv=>by
  have e:w=[]:=List.length_eq_zero_iff.1 hn;subst e;rw[List.prefix_nil.1 hv];exact hw
 |n+1,w,hn,hw,v,hv=>by
  obtain⟨x,hx,rfl⟩:=I3.1 hw;rcases K.pre x hx with h|⟨i,y,b,h1,h2,_⟩
  ·rw[h]at hn;cases hn
  ·rw[h2]at hv hn;rcases List.prefix_concat_iff.1 hv with h|h
   ·rw[h,<- h2];exact hw
   ·exact K.closed n (by rw[J4,Q3]at hn;omega) (I3.2 ⟨y,I8 h1,rfl⟩) v h
def AccI.short(H:H9 p){A:List (Nat×A2)}{i k:Nat}(K:AccI p A i k){w:A2}(h:w∈A.map Prod.snd):w.length<=4096:=by
 have hn:=H.n2;have hf:=K.few
 have a0:(Y6 w).Nodup:=by
  unfold Y6;refine qJ.2 (List.Pairwise.imp_of_mem (λ{a b} ha hb hab e=>?_) tC);have h1:=congrArg List.length e;have:=M5.1 ha;have:=M5.1 hb;rw[M7,M7]at h1;omega
 have:=iH a0 (b:=A.map Prod.snd) λx hx=>K.closed _ rfl h x (oW.1 hx);unfold Y6 at this;rw[C3,P3,C3]at this;omega
def yL(H:H9 p){w:A2}(h:w∈accW p):w.length<=4096:=(accL_ok H).elim λ_ K=>K.1.short H h
end
end
section
def accP_end{p:A8}{i:Nat}{A:List (Nat×A2)}(h:A.length<=i):∀f,accP p f i A=A
 |0=>rfl
 |f+1=>by
  unfold accP;rw[M2 h]
section
variable {p:A8}
structure PrA(p:A8)(A:List (Nat×A2))(i:Nat)(ws:List (Option (A2)))(l:A4)(wk:A2):Prop where
 len:ws.length=p.N.length
 yes:∀x,x∈A->ws[x.1]?=some (some x.2)
 no:∀t,t<p.N.length->t∉A.map Prod.fst->ws[t]?=some none
 l:l=A.map Prod.snd
 wk:wk=E2 ((A.map Prod.fst).drop i)
def ev_arow(H:H9 p){A:List (Nat×A2)}{i:Nat}{x:Nat×A2}(K:AccI p A i 0)(hx:A[i]?=some x){e:A2}(he:p.N[x.1]?=some e){ws:List (Option (A2))}{l:A4}{wk:A2}(P:PrA p A i ws l wk) :
  ∃ws' l' wk',iter (λ(s:List (Option (A2))×A4×A2×Nat)=>X0.s18 e s.1 s.2.1 s.2.2.1 s.2.2.2) fuel (ws,l,wk,0)=some (ws',l',wk')/\PrA p (rowP p x.1 x.2 A p.I.toNat) i ws' l' wk':=by
 have hi:=H.i2;have b9:=H.i1;have hn:=H.n2;have a6:=K.lt x (I8 hx)
 have b8:e.length=p.I.toNat:=by
  obtain⟨xr,yr,k1,k2,k3,k4,_⟩:=H.row x.1 a6;rw[he]at k1;injection k1 with k1
  rw[k1];omega
 have key:=H4 (step:=λ(s:List (Option (A2))×A4×A2×Nat)=>X0.s18 e s.1 s.2.1 s.2.2.1 s.2.2.2) (λs=>s.2.2.2<=p.I.toNat/\PrA p (rowP p x.1 x.2 A s.2.2.2) i s.1 s.2.1 s.2.2.1) (λs=>p.I.toNat-s.2.2.2) (λr=>∃ws' l' wk',r=(ws',l',wk')/\PrA p (rowP p x.1 x.2 A p.I.toNat) i ws' l' wk') (λ⟨ws,l,wk,a⟩ ⟨g1,Q⟩=>by
  simp only at g1 Q
  simp only[X0.s18]
  by_cases h:a<p.I.toNat
  ·left
   obtain⟨n1,n2,n3,n4,n5,xr,yr,a4,c6,b2,c8,_,_⟩:=H.at a6 h
   rw[he]at a4
   injection a4 with a4
   subst a4
   obtain⟨Ka,a0⟩:=K.row H hx a
   have hs:=rowP_step (p:=p) (c:=x.1) (w:=x.2) (A:=A) (k:=a)
   rw[C0,B4 b2]
   by_cases t0:pnx p x.1 a=-1
   ·refine⟨(ws,l,wk,a+1),by rw[B1 (λg=>g t0),A5,G0],⟨h,?_⟩,by simp only;omega⟩
    rw[hs,addP,if_pos (.inl t0)]
    exact Q
   ·obtain⟨u,hu⟩:∃u:Nat,pnx p x.1 a=(u:Int):=⟨(pnx p x.1 a).toNat,by omega⟩
    have a8:=(bA H hu).2.2
    rw[C0 t0]
    by_cases hm:u∈(rowP p x.1 x.2 A a).map Prod.fst
    ·obtain⟨z,hz,b3⟩:=I3.1 hm
     have a2:=Q.yes z hz
     rw[b3]at a2
     refine⟨(ws,l,wk,a+1),by rw[D6 (i:=u) hu a2,A5,Option.isNone_some,G0],⟨h,?_⟩,by simp only;omega⟩
     rw[hs,addP,if_pos (.inr (by rw[hu,I7];exact hm))]
     exact Q
    ·have a2:=Q.no u a8 hm
     have c7:=(F6.1 a0).1
     have a9:=Q.yes x (I8 a0)
     have c0:=Ka.short H (I3.2 ⟨x,I8 a0,rfl⟩)
     have b5:=Ka.few
     have b4:wk[0]?=some (x.1:Int):=by
      rw[Q.wk]
      unfold E2
      rw[H7,aD,H7,Y0,a0]
      rfl
     have b7:l.length=(rowP p x.1 x.2 A a).length:=by rw[Q.l,C3]
     have b6:wk.length<=(rowP p x.1 x.2 A a).length:=by
      rw[Q.wk]
      unfold E2
      rw[C3,W3,C3]
      omega
     have a3:(ws.set u (some (x.2++[(a:Int)])))[u]?=some (some (x.2++[(a:Int)])):=P9 (by rw[Q.len];exact a8)
     have a7:rowP p x.1 x.2 A (a+1)=rowP p x.1 x.2 A a++[(u,x.2++[(a:Int)])]:=by
      rw[hs,addP,if_neg (λg=>g.elim t0 (by rw[hu,I7];exact hm)),hu,I7]
     refine⟨(ws.set u (some (x.2++[(a:Int)])),l++[x.2++[(a:Int)]],wk++[(u:Int)],a+1),?_,⟨h,?_⟩,by simp only;omega⟩
     ·rw[D6 (i:=u) hu a2,A5,Option.isNone_none,F8,B4 b4,D6 (i:=x.1) rfl a9,A5,H1 (by unfold B5;simp only[K5];omega),cS,Q1,D6 (i:=u) hu a2,hu,I7,D6 (i:=u) rfl a3,A5,H1 (by unfold B5;simp only[K5,J4,Q3];omega),Q1,Q1,cS]
     ·simp only
      rw[a7]
      refine⟨by rw[P0];exact Q.len,λz hz=>?_,λt ht a5=>?_,by rw[Q.l,L5];rfl,?_⟩
      ·rcases J2.1 hz with hz|hz
       ·rw[O6 (λg=>hm (by rw[g];exact I3.2 ⟨z,hz,rfl⟩))]
        exact Q.yes z hz
       ·rw[J3.1 hz];exact a3
      ·rw[L5]at a5
       rw[O6 (λg=>a5 (M0 _ (by rw[g];exact J3.2 rfl)))]
       exact Q.no t ht λg=>a5 (L6 _ g)
      ·rw[Q.wk,L5,CM (by rw[C3];omega)]
       unfold E2
       rw[L5]
       rfl
  ·right
   have e1:a=p.I.toNat:=by omega
   subst e1
   exact⟨_,by rw[B1],_,_,_,rfl,Q⟩) fuel (ws,l,wk,0) ⟨D9 _,P⟩ (by have:=E6;simp only;omega)
 obtain⟨r,e1,ws',l',wk',rfl,h⟩:=key;exact⟨ws',l',wk',e1,h⟩
def ev_access(H:H9 p):X0 p=some (accW p):=by
 have hn:=H.n2;have b7:=H.st;have hs:p.S.toNat<p.N.length:=by omega
 have h0:(List.replicate p.N.length (none:Option (A2)))[p.S.toNat]?=some none:=by rw[W4,if_pos hs]
 have key:=H4 (step:=λ(s:List (Option (A2))×A4×A2)=>X0.s20 p s.1 s.2.1 s.2.2) (λs=>∃A i,AccI p A i 0/\PrA p A i s.1 s.2.1 s.2.2/\i<=A.length/\accP p (p.N.length+1-i) i A=accL p) (λs=>p.N.length+1-(s.2.1.length-s.2.2.length)) (λr=>r=accW p) (λ⟨ws,l,wk⟩ ⟨A,i,K,P,b6,a0⟩=>by
  simp only at P
  simp only[X0.s20]
  have a8:=K.few
  have b5:wk.length=A.length-i:=by
   rw[P.wk]
   unfold E2
   rw[C3,W3,C3]
  have b4:l.length=A.length:=by rw[P.l,C3]
  by_cases h:i<A.length
  ·left
   have hx:=get_at h
   generalize A[i]=x at hx
   have a4:=K.lt x (I8 hx)
   obtain⟨xr,yr,k1,k2,k3,k4,_⟩:=H.row x.1 a4
   obtain⟨a7,l',a2,e1,Q⟩:=ev_arow H K hx k1 P
   obtain⟨K1,a3⟩:=K.row H hx p.I.toNat
   have K2:=K1.next H
   have b3:=(F6.1 a3).1
   have a6:wk[0]?=some (x.1:Int):=by
    rw[P.wk]
    unfold E2
    rw[H7,aD,H7,Y0,hx]
    rfl
   have b2:a2.length=(rowP p x.1 x.2 A p.I.toNat).length-i:=by
    rw[Q.wk]
    unfold E2
    rw[C3,W3,C3]
   have a9:l'.length=(rowP p x.1 x.2 A p.I.toNat).length:=by rw[Q.l,C3]
   refine⟨(a7,l',a2.drop 1),?_,⟨_,i+1,K2,⟨Q.len,Q.yes,Q.no,Q.l,?_⟩,by omega,?_⟩,by simp only[W3];omega⟩
   ·rw[C0,B4 a6,D6 (i:=x.1) rfl k1,e1,A5]
    unfold X0.k19
    simp only
    rw[H1 (show 1<=a2.length by omega)]
   ·simp only
    rw[Q.wk]
    unfold E2
    rw[<- mV,List.drop_drop]
   ·rw[<- a0,show p.N.length+1-i=(p.N.length+1-(i+1))+1 by omega,accP,hx]
  ·right
   refine⟨l,by rw[B1],?_⟩
   rw[accP_end (by omega)]at a0
   rw[P.l,a0]
   rfl) fuel ((List.replicate p.N.length (none:Option (A2))).set p.S.toNat (some []),[[]],[p.S]) ⟨[(p.S.toNat,[])],0,AccI.zero H,⟨by simp only[P0,J6],λx hx=>?_,λt ht a5=>?_,rfl,?_⟩,D9 _,rfl⟩ (by have:=E6;simp only;omega)
 ·obtain⟨r,e1,rfl⟩:=key;unfold X0;rw[H1 ⟨by omega,bN _,by unfold B5;omega⟩,D6 (i:=p.S.toNat) (by omega) h0,e1,A5,wM ⟨by unfold accW;rw[C3];obtain⟨j,K,_⟩:=accL_ok H;have:=K.few;omega,λw hw=>by have:=yL H hw;unfold SmW;omega⟩,A5,sortW_ascE (accW_asc H)]
 ·rw[J3.1 hx];exact P9 (by rw[J6];exact hs)
 ·rw[O6 (λg=>a5 (by rw[<- g];exact J3.2 rfl)),W4,if_pos ht]
 ·simp only;unfold E2;rw[pW];simp only[L3,jI];rw[show((p.S.toNat:Int))=p.S by omega]
def loop_seen{L:List Nat}(hl:L.length<=1000000)(e:Int):iter (λ(s:Bool×Nat)=>S9.s89 (E2 L) e s.1 s.2) fuel (decide (e=-1),0)=some (decide (e=-1\/e∈E2 L)):=by
 have a0:(E2 L).length=L.length:=by unfold E2;rw[C3]
 have key:=H4 (step:=λ(s:Bool×Nat)=>S9.s89 (E2 L) e s.1 s.2) (λs=>s.2<=L.length/\(s.1=true↔e=-1\/e∈(E2 L).take s.2)) (λs=>L.length-s.2) (λr=>r=decide (e=-1\/e∈E2 L)) (λ⟨b,k⟩ ⟨g1,g2⟩=>by
  simp only at g1 g2
  simp only[S9.s89]
  by_cases h:k<L.length
  ·left
   have hx:=get_at (l:=E2 L) (i:=k) (by omega)
   have ht:(E2 L).take (k+1)=(E2 L).take k++[(E2 L)[k]]:=by rw[wZ,hx];rfl
   rw[C0]
   cases b with
   |true =>
    refine⟨(true,k+1),by rw[F8],⟨h,?_⟩,by simp only;omega⟩
    simp only
    rw[ht,J2]
    exact⟨λ_=>(g2.1 rfl).imp id .inl,λ_=>trivial⟩
   |false =>
    refine⟨(decide ((E2 L)[k]=e),k+1),by rw[G0,B4 hx],⟨h,?_⟩,by simp only;omega⟩
    simp only
    rw[ht,J2,J3,decide_eq_true_iff]
    have a2:¬(e=-1\/e∈(E2 L).take k):=λg=>by have:=g2.2 g;cases this
    exact⟨λq=>.inr (.inr q.symm),λq=>q.elim (λq=>absurd (.inl q) a2) λq=>q.elim (λq=>absurd (.inr q) a2) λq=>q.symm⟩
  ·right
   have e1:k=L.length:=by omega
   subst e1
   refine⟨b,by rw[B1],?_⟩
   rw[<- a0,V2]at g2
   cases b with
   |true=>exact(G7 (g2.1 rfl)).symm
   |false=>exact(J0 λg=>by have:=g2.2 g;cases this).symm) fuel (decide (e=-1),0) ⟨D9 _,by simp⟩ (by have:=E6;simp only;omega)
 obtain⟨r,e1,rfl⟩:=key;exact e1
def ref_arow(H:H9 p){A:List (Nat×A2)}{i:Nat}{x:Nat×A2}(K:AccI p A i 0)(hx:A[i]?=some x) :
  iter (λ(s:A4×A2×Nat)=>S9.s90 p i s.1 s.2.1 s.2.2) fuel (A.map Prod.snd,E2 (A.map Prod.fst),0)=some ((rowP p x.1 x.2 A p.I.toNat).map Prod.snd,E2 ((rowP p x.1 x.2 A p.I.toNat).map Prod.fst)):=by
 have hi:=H.i2;have b2:=H.i1;have hn:=H.n2;have a2:=K.lt x (I8 hx);refine S1 (λs=>s.2.2<=p.I.toNat/\s.1=(rowP p x.1 x.2 A s.2.2).map Prod.snd/\s.2.1=E2 ((rowP p x.1 x.2 A s.2.2).map Prod.fst)) (λs=>p.I.toNat-s.2.2) (λ⟨y,z,a⟩ ⟨g1,g2,g3⟩=>?_) ⟨D9 _,rfl,rfl⟩ (by have:=E6;simp only;omega);simp only at g1 g2 g3;subst g2;subst g3;simp only[S9.s90];by_cases h:a<p.I.toNat
 ·left;obtain⟨n1,n2,n3,n4,n5,xr,yr,a3,a9,a4,b5,_,_⟩:=H.at a2 h;obtain⟨Ka,a0⟩:=K.row H hx a;have hs:=rowP_step (p:=p) (c:=x.1) (w:=x.2) (A:=A) (k:=a);have a8:=Ka.few
  have a7:(E2 ((rowP p x.1 x.2 A a).map Prod.fst))[i]?=some (x.1:Int):=by
   unfold E2;rw[H7,H7,a0];rfl
  have hw:((rowP p x.1 x.2 A a).map Prod.snd)[i]?=some x.2:=by rw[H7,a0];rfl
  have b3:=Ka.short H (I3.2 ⟨x,I8 a0,rfl⟩);have b4:(E2 ((rowP p x.1 x.2 A a).map Prod.fst)).length=(rowP p x.1 x.2 A a).length:=by unfold E2;rw[C3,C3]
  refine⟨((rowP p x.1 x.2 A (a+1)).map Prod.snd,E2 ((rowP p x.1 x.2 A (a+1)).map Prod.fst),a+1),?_,⟨h,rfl,rfl⟩,by simp only;omega⟩;rw[C0,B4 a7,D6 (i:=x.1) rfl a3,B4 a4,loop_seen (by rw[C3];omega),A5,hs,addP];by_cases t:pnx p x.1 a=-1\/(pnx p x.1 a).toNat∈(rowP p x.1 x.2 A a).map Prod.fst
  ·have t':pnx p x.1 a=-1\/pnx p x.1 a∈E2 ((rowP p x.1 x.2 A a).map Prod.fst):=by
    by_cases t0:pnx p x.1 a=-1
    ·exact .inl t0
    ·right;unfold E2;exact I3.2 ⟨_,t.resolve_left t0,by omega⟩
   rw[G7 t',aS,G0,K3,if_pos t]
  ·have t':¬(pnx p x.1 a=-1\/pnx p x.1 a∈E2 ((rowP p x.1 x.2 A a).map Prod.fst)):=λg=>by
    rcases g with g|g
    ·exact t (.inl g)
    ·unfold E2 at g;obtain⟨v,hv,a5⟩:=I3.1 g;exact t (.inr (by rw[<- a5,I7];exact hv))
   have a6:(↑(pnx p x.1 a).toNat:Int)=pnx p x.1 a:=by
    have:pnx p x.1 a≠-1:=λg=>t (.inl g);omega
   rw[J0 t',cR,F8,Q1,B4 hw,R01_Join_eq _ (by simp) (by simp;omega),A5,H1 (by unfold B5;rw[C3];omega),K3,if_neg t];unfold E2;simp only[L5,L3,jI,Z0,List.flatten_nil,bJ,a6]
 ·right;have e1:a=p.I.toNat:=by omega
  subst e1;rw[B1]
def ref_access(H:H9 p):S9 p=some (accW p):=by
 have hn:=H.n2;have a7:=H.st
 have key:=H4 (step:=λ(s:A4×A2×Nat)=>S9.s92 p s.1 s.2.1 s.2.2) (λs=>∃A,AccI p A s.2.2 0/\s.1=A.map Prod.snd/\s.2.1=E2 (A.map Prod.fst)/\s.2.2<=A.length/\accP p (p.N.length+1-s.2.2) s.2.2 A=accL p) (λs=>p.N.length+1-s.2.2) (λr=>r=accW p) (λ⟨y,z,i⟩ ⟨A,K,g1,g2,a3,a0⟩=>by
  simp only at K g1 g2 a3 a0
  subst g1
  subst g2
  simp only[S9.s92]
  have a5:=K.few
  have a6:(E2 (A.map Prod.fst)).length=A.length:=by unfold E2;rw[C3,C3]
  by_cases h:i<A.length
  ·left
   have hx:=get_at h
   generalize A[i]=x at hx
   obtain⟨K1,a2⟩:=K.row H hx p.I.toNat
   have a4:=(F6.1 a2).1
   refine⟨((rowP p x.1 x.2 A p.I.toNat).map Prod.snd,E2 ((rowP p x.1 x.2 A p.I.toNat).map Prod.fst),i+1),?_,⟨_,K1.next H,rfl,rfl,a4,?_⟩,by simp only;omega⟩
   ·rw[C0,ref_arow H K hx,A5]
    rfl
   ·rw[<- a0,show p.N.length+1-i=(p.N.length+1-(i+1))+1 by omega,accP,hx]
  ·right
   refine⟨A.map Prod.snd,by rw[B1],?_⟩
   rw[accP_end (by omega)]at a0
   rw[a0]
   rfl) fuel ([[]],[p.S],0) ⟨[(p.S.toNat,[])],AccI.zero H,rfl,?_,D9 _,rfl⟩ (by have:=E6;simp only;omega)
 ·obtain⟨r,e1,rfl⟩:=key;unfold S9;rw[e1,A5]
 ·simp only[L3,jI];unfold E2;rw[L3,jI,show((p.S.toNat:Int))=p.S by omega]
end
end
end Go.Proofs.YtkeplokjplkcmaaGreat.Sym
namespace Go.Proofs.YtkeplokjplkcmaaGreat
def M64:Nat:=18446744073709551616
def gold:Nat:=11400714819323198485
def mulA:Nat:=13787848793156543929
def mulB:Nat:=10723151780598845931
def mix(y:Nat):Nat :=
 let z:=(y ^^^ (y >>> 30))*mulA%M64
 let u:=(z ^^^ (z >>> 27))*mulB%M64
 u ^^^ (u >>> 31)
def few:∀(k a:Nat) (l:List Nat),l.Nodup->(∀x∈l,a<=x/\x<a+k)->l.length<=k
 |0,a,l,_,h=>by
  cases l with
  |nil=>simp
  |cons x l=>have:=h x (by simp);omega
 |k+1,a,l,hn,h=>by
  have h1:=few k a (l.erase (a+k)) (hn.erase _) λx hx=>by
   have h2:=(hn.mem_erase_iff).1 hx;have h3:=h x h2.2;have h4:=h2.1;omega
  by_cases hm:a+k∈l
  ·have:=List.length_erase_of_mem hm;omega
  ·rw[List.erase_of_not_mem hm]at h1;omega
def drawF:Nat->Nat->Nat×Nat
 |0,s=>(0,s)
 |f+1,s=>if mix ((s+gold)%M64)<M64-1616 then(mix ((s+gold)%M64)%10000,(s+gold)%M64) else drawF f ((s+gold)%M64)
def draw(s:Nat):Nat×Nat:=drawF 1617 s
end Go.Proofs.YtkeplokjplkcmaaGreat
namespace Go.Proofs.YtkeplokjplkcmaaGreat.Sym
def steps(nx:Nat->Nat):Nat->Nat->Nat
 |0,s=>s
 |j+1,s=>steps nx j (nx s)

section
structure K7(m:B6):Prop where
 i1:1<=m.I
 i2:m.I<=64
 n1:0<m.N.length
 n2:m.N.length<=128
 st:0<=m.S/\m.S<(m.N.length:Int)
 ol:m.O.length=m.N.length
 row:∀s,s<m.N.length->∃x y,m.N[s]?=some x/\m.O[s]?=some y/\(x.length:Int)=m.I/\(y.length:Int)=m.I/\(∀u∈x,0<=u/\u<(m.N.length:Int))/\∀v∈y,0<=v/\v<=1048576
def nx(m:B6)(s a:Nat):Nat:=((((m.N[s]?).getD [])[a]?).getD 0).toNat
def ot(m:B6)(s a:Nat):Int:=(((m.O[s]?).getD [])[a]?).getD 0
section
variable {m:B6}
def K7.at(H:K7 m){s a:Nat}(hs:s<m.N.length)(ha:a<m.I.toNat):nx m s a<m.N.length/\0<=ot m s a/\ot m s a<=1048576/\∃x y,m.N[s]?=some x/\m.O[s]?=some y/\x[a]?=some (↑(nx m s a):Int)/\y[a]?=some (ot m s a):=by
 obtain⟨x,y,h1,h2,h3,h4,h5,h6⟩:=H.row s hs;have hx:=get_at (l:=x) (i:=a) (by omega);have hy:=get_at (l:=y) (i:=a) (by omega)
 have e1:nx m s a=(x[a]'(by omega)).toNat:=by
  unfold nx;rw[h1,H5,hx,H5]
 have e2:ot m s a=y[a]'(by omega):=by
  unfold ot;rw[h2,H5,hy,H5]
 have g1:=h5 _ (P7 (by omega:a<x.length));have g2:=h6 _ (P7 (by omega:a<y.length));refine⟨by rw[e1];omega,by rw[e2];exact g2.1,by rw[e2];exact g2.2,x,y,h1,h2,?_,by rw[e2];exact hy⟩;rw[hx,e1];congr 1;omega
def outs(m:B6):Nat->A2->A2
 |_,[]=>[]
 |s,a::w=>ot m s a.toNat::outs m (nx m s a.toNat) w
def dest(m:B6):Nat->A2->Nat
 |s,[]=>s
 |s,a::w=>dest m (nx m s a.toNat) w
def WOk(n:Int)(w:A2):Prop:=∀a∈w,0<=a/\a<n
def oR:∀(w v:A2) (s:Nat),outs m s (w++v)=outs m s w++outs m (dest m s w) v
 |[],_,_=>rfl
 |a::w,v,s=>by
  show ot m s a.toNat::outs m (nx m s a.toNat) (w++v)=_;rw[oR w v];rfl
def jE:∀(w v:A2) (s:Nat),dest m s (w++v)=dest m (dest m s w) v
 |[],_,_=>rfl
 |_::w,v,_=>jE w v _
def kB:∀(w:A2) (s:Nat),(outs m s w).length=w.length
 |[],_=>rfl
 |a::w,s=>by
  show(outs m (nx m s a.toNat) w).length+1=w.length+1;rw[kB w]
def WOk.tail{n a:Int}{w:A2}(h:WOk n (a::w)):WOk n w:=λx hx=>h x (O7 _ hx)
def WOk.head{n a:Int}{w:A2}(h:WOk n (a::w)):0<=a/\a<n:=h a (by simp)
def WOk.take{n:Int}{w:A2}(h:WOk n w)(k:Nat):WOk n (w.take k):=λx hx=>h x (aE hx)
def WOk.append{n:Int}{w v:A2}(h:WOk n w)(g:WOk n v):WOk n (w++v):=λx hx=>(J2.1 hx).elim (h x) (g x)
def K7.dest(H:K7 m):∀{w:A2} {s:Nat},WOk m.I w->s<m.N.length->dest m s w<m.N.length
 |[],_,_,hs=>hs
 |a::w,s,hw,hs=>by
  have:=hw.head;exact H.dest (w:=w) hw.tail (H.at hs (a:=a.toNat) (by omega)).1
def R06_Outs_eq(H:K7 m){s:Nat}(hs:s<m.N.length){w:A2}(hw:WOk m.I w)(hl:w.length<=100000000):bZ m (s:Int) w=some (outs m s w,(↑(dest m s w):Int)):=by
 unfold bZ
 have key:=S1 (step:=λ(q:Int×A2×Nat)=>bZ.s2 m w q.1 q.2.1 q.2.2) (r:=((↑(dest m s w):Int),outs m s w)) (λq=>q.2.2<=w.length/\q.1=(↑(dest m s (w.take q.2.2)):Int)/\q.2.1=outs m s (w.take q.2.2)) (λq=>w.length-q.2.2) (λq ⟨g1,g2,g3⟩=>by
  obtain⟨st,y,k⟩:=q
  simp only at g1 g2 g3
  subst g2
  subst g3
  simp only[bZ.s2]
  by_cases g4:k<w.length
  ·left
   have hx:=get_at g4
   obtain⟨x0,x1⟩:=hw _ (P7 g4)
   have ha:w[k].toNat<m.I.toNat:=by omega
   have hd:Sym.dest m s (w.take k)<m.N.length:=H.dest (hw.take k) hs
   obtain⟨_,_,_,x,y,e1,e2,e3,e4⟩:=H.at hd ha
   refine⟨((↑(Sym.dest m s (w.take (k+1))):Int),outs m s (w.take (k+1)),k+1),?_,⟨g4,rfl,rfl⟩,by simp only;omega⟩
   rw[O3 hx,F8,D6 rfl e2,B4 hx,D6 (i:=w[k].toNat) (by omega) e4,H1 (by unfold B5;rw[kB,M7];omega),D6 rfl e1,B4 hx,D6 (i:=w[k].toNat) (by omega) e3,bC hx,jE,oR]
   rfl
  ·right
   have e:k=w.length:=by omega
   subst e
   rw[B1,V2]) (n:=fuel) (s:=((s:Int),[],0)) ⟨D9 _,rfl,rfl⟩ (by have:=E6;simp only;omega)
 rw[key,A5];rfl
def RowRng(n:Nat)(u v:Int):Prop:=(0<=u/\u<(n:Int))/\0<=v/\v<=1048576
def R06_row_tot(h1:m.I<=64){s:Nat}(hs:s<m.N.length)(ho:m.O.length=m.N.length):∃e,cM m (s:Int)=some e/\(e=0->∃x y,m.N[s]?=some x/\m.O[s]?=some y/\(x.length:Int)=m.I/\(y.length:Int)=m.I/\(∀u∈x,0<=u/\u<(m.N.length:Int))/\∀v∈y,0<=v/\v<=1048576):=by
 obtain⟨x,hx⟩:∃x,m.N[s]?=some x:=⟨_,get_at hs⟩;obtain⟨y,hy⟩:∃y,m.O[s]?=some y:=⟨_,get_at (l:=m.O) (i:=s) (by omega)⟩;unfold cM;rw[D6 rfl hx];by_cases g1:(x.length:Int)=m.I
 ·by_cases g2:(y.length:Int)=m.I
  ·rw[B1 (λh=>h g1),D6 rfl hy,J0 (λh=>h g2),A5,G0]
   obtain⟨r,hr,hq⟩:=H4 (step:=λa=>cM.s2 m (s:Int) a) (λa=>a<=x.length/\∀b u v,b<a->x[b]?=some u->y[b]?=some v->RowRng m.N.length u v) (λa=>x.length-a) (λr=>r=.inr 2\/(r=.inl ()/\∀b u v,b<x.length->x[b]?=some u->y[b]?=some v->RowRng m.N.length u v)) (λa ⟨q1,q2⟩=>by
    simp only[cM.s2]
    by_cases q3:a<x.length
    ·obtain⟨u,ha⟩:∃u,x[a]?=some u:=⟨_,get_at q3⟩
     obtain⟨v,hb⟩:∃v,y[a]?=some v:=⟨_,get_at (l:=y) (i:=a) (by omega)⟩
     rw[C0,D6 rfl hx,B4 ha]
     by_cases z1:u<0
     ·right
      exact⟨.inr 2,by rw[G7 z1];rfl,Or.inl rfl⟩
     rw[B1 z1,D6 rfl hx,B4 ha]
     by_cases z2:(m.N.length:Int)<=u
     ·right
      exact⟨.inr 2,by rw[G7 z2];rfl,Or.inl rfl⟩
     rw[B1 z2,D6 rfl hy,B4 hb]
     by_cases z3:v<0
     ·right
      exact⟨.inr 2,by rw[G7 z3];rfl,Or.inl rfl⟩
     rw[B1 z3,D6 rfl hy,B4 hb]
     by_cases z4:1048576<v
     ·right
      exact⟨.inr 2,by rw[G7 z4];rfl,Or.inl rfl⟩
     left
     refine⟨a+1,by rw[J0 z4,A5,G0,K3],⟨q3,λb u' v' a0 hu hv=>?_⟩,by omega⟩
     rcases K4 b a with h|h
     ·exact q2 b u' v' h hu hv
     ·have e:b=a:=by omega
      subst e
      rw[ha]at hu
      rw[hb]at hv
      injection hu with hu
      injection hv with hv
      subst hu
      subst hv
      exact⟨⟨by omega,by omega⟩,by omega,by omega⟩
    ·right
     have e:a=x.length:=by omega
     subst e
     exact⟨.inl (),by rw[B1],Or.inr ⟨rfl,q2⟩⟩) fuel 0 ⟨D9 _,λb _ _ h=>absurd h (N9 _)⟩ (by have:=E6;omega)
   rw[hr,A5];rcases hq with rfl|⟨rfl,hq⟩
   ·exact⟨2,rfl,λh=>by cases h⟩
   ·refine⟨0,rfl,λ_=>⟨x,y,hx,hy,g1,g2,λu hu=>?_,λv hv=>?_⟩⟩
    ·obtain⟨b,hb,rfl⟩:=dP.1 hu;exact(hq b _ _ hb (get_at hb) (get_at (l:=y) (by omega))).1
    ·obtain⟨b,hb,rfl⟩:=dP.1 hv;exact(hq b _ _ (by omega) (get_at (l:=x) (by omega)) (get_at hb)).2
  ·exact⟨1,by rw[B1 (λh=>h g1),D6 rfl hy,G7 g2];rfl,λh=>by cases h⟩
 ·exact⟨1,by rw[G7 g1];rfl,λh=>by cases h⟩
def R06_Valid_tot(m:B6):∃e,Y7 m=some e/\(e=0->K7 m):=by
 unfold Y7;by_cases c1:m.I<1
 ·exact⟨2,by rw[G7 c1];rfl,λh=>by cases h⟩
 rw[B1 c1];by_cases c2:64<m.I
 ·exact⟨2,by rw[G7 c2];rfl,λh=>by cases h⟩
 rw[J0 c2,A5,G0];by_cases c3:(m.N.length:Int)=0
 ·exact⟨19,by rw[G7 c3];rfl,λh=>by cases h⟩
 rw[B1 c3];by_cases c4:128<(m.N.length:Int)
 ·exact⟨11,by rw[G7 c4];rfl,λh=>by cases h⟩
 rw[B1 c4];by_cases c5:m.S<0
 ·exact⟨2,by rw[G7 c5];rfl,λh=>by cases h⟩
 rw[B1 c5];by_cases c6:(m.N.length:Int)<=m.S
 ·exact⟨2,by rw[G7 c6];rfl,λh=>by cases h⟩
 rw[J0 c6,A5,G0];by_cases c7:(m.O.length:Int)=(m.N.length:Int)
 ·rw[B1 (λh=>h c7)];have ho:m.O.length=m.N.length:=by omega
  obtain⟨r,hr,hq⟩:=H4 (step:=λs=>Y7.s2 m s) (λa=>a<=m.N.length/\∀s,s<a->∃x y,m.N[s]?=some x/\m.O[s]?=some y/\(x.length:Int)=m.I/\(y.length:Int)=m.I/\(∀u∈x,0<=u/\u<(m.N.length:Int))/\∀v∈y,0<=v/\v<=1048576) (λa=>m.N.length-a) (λr=>(∃e,r=.inr e/\e≠0)\/(r=.inl ()/\∀s,s<m.N.length->∃x y,m.N[s]?=some x/\m.O[s]?=some y/\(x.length:Int)=m.I/\(y.length:Int)=m.I/\(∀u∈x,0<=u/\u<(m.N.length:Int))/\∀v∈y,0<=v/\v<=1048576)) (λa ⟨q1,q2⟩=>by
   simp only[Y7.s2]
   by_cases q3:a<m.N.length
   ·obtain⟨e,he,hz⟩:=R06_row_tot (m:=m) (by omega) q3 ho
    rw[C0,he,A5]
    by_cases z:e=0
    ·left
     refine⟨a+1,by rw[B1 (λh=>h z)],⟨q3,λs hs=>?_⟩,by omega⟩
     rcases K4 s a with h|h
     ·exact q2 s h
     ·have e2:s=a:=by omega
      subst e2
      exact hz z
    ·right
     exact⟨.inr e,by rw[C0 z],Or.inl ⟨e,rfl,z⟩⟩
   ·right
    have e:a=m.N.length:=by omega
    subst e
    exact⟨.inl (),by rw[B1],Or.inr ⟨rfl,q2⟩⟩) fuel 0 ⟨D9 _,λs h=>absurd h (N9 _)⟩ (by have:=E6;omega)
  rw[hr,A5];rcases hq with⟨e,rfl,hz⟩|⟨rfl,hq⟩
  ·exact⟨e,rfl,λh=>absurd h hz⟩
  ·exact⟨0,rfl,λ_=>⟨by omega,by omega,by omega,by omega,⟨by omega,by omega⟩,ho,hq⟩⟩
 ·exact⟨1,by rw[G7 c7];rfl,λh=>by cases h⟩
def macOk_of(h:Y7 m=some 0):K7 m:=by
 obtain⟨e,he,hz⟩:=R06_Valid_tot m;rw[h]at he;injection he with he
 exact hz he.symm
end
end
section
def zt3{m:B6}(H:K7 m):T7 m=some 0:=by
 have i1:=H.i1;have i2:=H.i2;have n1:=H.n1;have n2:=H.n2;have st:=H.st;have ol:=H.ol;unfold T7;rw[B1,J0 (by omega),A5,G0,B1,B1,B1,J0 (by omega),A5,G0,B1]
 have a2:∀s,s<m.N.length->iter (λ(a:Nat)=>T7.s13 m s a) fuel 0=some (.inl ()):=λs hs =>
  S1 (λa=>a<=m.I.toNat) (λa=>m.I.toNat-a) (λa ha=>by
   simp only[T7.s13]
   by_cases g:a<m.I.toNat
   ·left
    obtain⟨h1,h2,h3,x,y,hx,hy,a3,a4⟩:=H.at hs g
    refine⟨a+1,?_,g,by omega⟩
    rw[C0,B4 hx,B4 a3,B4 hy,B4 a4,B1,B1,B1,J0 (by omega),A5,G0,K3]
   ·right
    rw[B1]) (D9 _) (by have:=E6;omega)
 have a0:iter (λ(s:Nat)=>T7.s14 m s) fuel 0=some (.inl ()) :=
  S1 (λs=>s<=m.N.length) (λs=>m.N.length-s) (λs hs=>by
   simp only[T7.s14]
   by_cases g:s<m.N.length
   ·left
    obtain⟨x,y,hx,hy,a5,a6,_,_⟩:=H.row s g
    refine⟨s+1,?_,g,by omega⟩
    rw[C0,B4 hx,B1,B4 hy,J0 (by omega),A5,G0,a2 s g,A5]
    rfl
   ·right
    rw[B1]) (D9 _) (by have:=E6;omega)
 rw[a0,A5];rfl
abbrev costOk(l:AT):Prop:=(∀c∈l.Step,0<=c/\c<=1048576)/\0<=l.Reset/\l.Reset<=1048576
abbrev cntOk(n:Int):Prop:=0<=n/\n<=1125899906842624
abbrev faultOk(f:AI):Prop:=(0<=f.Lost/\f.Lost<=10000)/\(0<=f.Wrong/\f.Wrong<=10000)/\(0<=f.Crash/\f.Crash<=10000)/\f.Lost+f.Wrong+f.Crash<=10000
structure DevOk(d:sJ):Prop where
 v6:Y7 d.M=some 0
 st:0<=d.State/\d.State<(d.M.N.length:Int)
 ll:(d.Latency.Step.length:Int)=d.M.I
 lc:costOk d.Latency
 fl:faultOk d.Faults
 c1:cntOk d.Steps
 c2:cntOk d.Resets
 c3:cntOk d.Time
section
variable {d:sJ}
end
end
section
def scan_map{V R R':Type}{g:Nat->V->Option R}{f:R->R'}:∀(l:List V) (j:Nat),scan (λi x=>(g i x).map f) j l=(scan g j l).map f
 |[],_=>rfl
 |x::l,j=>by
  unfold scan;cases g j x with
  |some r=>rfl
  |none=>exact scan_map l (j+1)
def qW{V R:Type}{g:Nat->V->Option R}{r:R}:∀{l:List V} {j:Nat},scan g j l=some r->∃i x,l[i]?=some x/\g (j+i) x=some r
 |[],_,h=>by cases h
 |x::l,j,h=>by
  unfold scan at h;cases e:g j x with
  |some q =>
   rw[e]at h;exact⟨0,x,rfl,by rw[Y0,e];exact h⟩
  |none =>
   rw[e]at h;obtain⟨i,y,h1,h2⟩:=qW (j:=j+1) h;exact⟨i+1,y,by simpa using h1,by rw[show j+(i+1)=j+1+i by omega,h2]⟩
def celE(n:Nat)(u v:Int):Option Int:=if u<0\/(n:Int)<=u\/v<0\/1048576<v then some 2 else none
def rowE(m:B6)(s:Nat)(x:A2):Option Int :=
 if(x.length:Int)≠m.I\/(↑((m.O[s]?).getD []).length:Int)≠m.I then some 1 else scan (λa u=>celE m.N.length u ((((m.O[s]?).getD [])[a]?).getD 0)) 0 x
def S4(m:B6):Int :=
 if m.I<1\/64<m.I then 2 else if m.N.length=0 then 19 else if 128<m.N.length then 11 else if m.S<0\/(m.N.length:Int)<=m.S then 2 else if m.O.length≠m.N.length then 1
 else match scan (rowE m) 0 m.N with|some e=>e|none=>0
section
variable {m:B6}
def rowE_ne{s:Nat}{x:A2}{e:Int}(h:rowE m s x=some e):e≠0:=by
 unfold rowE at h;split at h
 ·injection h with h
  omega
 ·obtain⟨i,u,_,h2⟩:=qW h;unfold celE at h2;split at h2
  ·injection h2 with h2
   omega
  ·cases h2
def cel_cond{n:Nat}{u v:Int}:(cond (decide (u<0)) (some true) (cond (decide ((n:Int)<=u)) (some true) (cond (decide (v<0)) (some true) (some (decide (1048576<v))))):Option Bool)=some (celE n u v).isSome:=by
 unfold celE;by_cases h1:u<0<;>by_cases h2:(n:Int)<=u<;>by_cases h3:v<0<;>by_cases h4:1048576<v<;>simp[h1,h2,h3,h4]
def celE_two{n:Nat}{u v:Int}:celE n u v=if(celE n u v).isSome=true then some 2 else none:=by
 unfold celE;split<;>rfl
def row_len{s:Nat}{x y:A2}(hx:m.N[s]?=some x)(hy:m.O[s]?=some y) :
  (idxn m.N s λa2=>cond (decide ((a2.length:Int)≠m.I)) (some true) (idxn m.O s λa6=>some (decide ((a6.length:Int)≠m.I))):Option Bool)=some (decide ((x.length:Int)≠m.I\/(y.length:Int)≠m.I)):=by
 rw[B4 hx];by_cases h:(x.length:Int)=m.I
 ·rw[B1 (λk=>k h),B4 hy];simp[h]
 ·rw[C0 h];simp[h]
def idx_nat{V G:Type}{l:List V}{i:Nat}{k:V->Option G}:idx l (i:Int) k=idxn l i k:=by
 cases h:l[i]? with
 |some x=>rw[D6 rfl h,B4 h]
 |none =>
  unfold idx idxn;rw[h,if_pos (by omega),I7,h]
def R06_row_eq(hi:m.I<=64){s:Nat}{x y:A2}(hx:m.N[s]?=some x)(hy:m.O[s]?=some y):cM m (s:Int)=some (match rowE m s x with|some e=>e|none=>0):=by
 unfold cM;rw[idx_nat];simp only[idx_nat];rw[row_len hx hy,A5];unfold rowE;rw[hy,H5];by_cases h:(x.length:Int)≠m.I\/(y.length:Int)≠m.I
 ·rw[C0 h,if_pos h]
 ·rw[B1 h,if_neg h];have h1:(x.length:Int)=m.I:=X9 λq=>h (Or.inl q);have h2:(y.length:Int)=m.I:=X9 λq=>h (Or.inr q);rw[Z8 (l:=x) (λa u=>celE m.N.length u ((y[a]?).getD 0)) (λa u hu=>?_) ?_ (by omega),A5]
  ·cases scan (λa u=>celE m.N.length u ((y[a]?).getD 0)) 0 x<;>rfl
  ·simp only[cM.s2];rw[B1]
  ·have ha:=(F6.1 hu).1;have hv:y[a]?=some y[a]:=get_at (by omega);rw[hv,H5];simp only[cM.s2,idx_nat];rw[C0];simp only[B4 hx,B4 hy,B4 hu,B4 hv];rw[cel_cond,A5];cases e:celE m.N.length u y[a]with
   |none =>
    rw[tG,G0,K3]
   |some r =>
    have:=celE_two (n:=m.N.length) (u:=u) (v:=y[a]);rw[e]at this;injection this with this
    rw[this,xM,F8]
def mealy_row_eq(hi:m.I<=64){s:Nat}{x y:A2}(hx:m.N[s]?=some x)(hy:m.O[s]?=some y):T7.s14 m s=some (match rowE m s x with|some e=>.inr (.inr e)|none=>.inl (s+1)):=by
 have hs:=(F6.1 hx).1;simp only[T7.s14];rw[C0,row_len hx hy,A5];unfold rowE;rw[hy,H5];by_cases h:(x.length:Int)≠m.I\/(y.length:Int)≠m.I
 ·rw[C0 h,if_pos h]
 ·rw[B1 h,if_neg h];have h1:(x.length:Int)=m.I:=X9 λq=>h (Or.inl q);have h2:(y.length:Int)=m.I:=X9 λq=>h (Or.inr q);rw[Z8 (l:=x) (λa u=>(celE m.N.length u ((y[a]?).getD 0)).map λr=>(.inr (.inr r):Nat⊕(Unit⊕Int))) (λa u hu=>?_) ?_ (by omega),A5,scan_map]
  ·cases scan (λa u=>celE m.N.length u ((y[a]?).getD 0)) 0 x<;>rfl
  ·simp only[T7.s13];rw[B1]
  ·have ha:=(F6.1 hu).1;have hv:y[a]?=some y[a]:=get_at (by omega);rw[hv,H5];simp only[T7.s13];rw[C0];simp only[B4 hx,B4 hy,B4 hu,B4 hv];rw[cel_cond,A5];cases e:celE m.N.length u y[a]with
   |none =>
    rw[tG,G0,K3];rfl
   |some r =>
    have:=celE_two (n:=m.N.length) (u:=u) (v:=y[a]);rw[e]at this;injection this with this
    rw[this,xM,F8];rfl
def oV(m:B6):Y7 m=some (S4 m):=by
 unfold Y7 S4;by_cases c1:m.I<1
 ·rw[G7 c1,if_pos (Or.inl c1)];rfl
 rw[B1 c1];by_cases c2:64<m.I
 ·rw[G7 c2,if_pos (Or.inr c2)];rfl
 rw[J0 c2,A5,G0,if_neg (by omega)];by_cases c3:m.N.length=0
 ·rw[G7 (by omega),if_pos c3];rfl
 rw[B1,if_neg c3];by_cases c4:128<m.N.length
 ·rw[G7 (by omega),if_pos c4];rfl
 rw[B1,if_neg c4];by_cases c5:m.S<0
 ·rw[G7 c5,if_pos (Or.inl c5)];rfl
 rw[B1 c5];by_cases c6:(m.N.length:Int)<=m.S
 ·rw[G7 c6,if_pos (Or.inr c6)];rfl
 rw[J0 c6,A5,G0,if_neg (by omega)];by_cases c7:m.O.length=m.N.length
 ·rw[B1,if_neg (by omega),Z8 (l:=m.N) (rowE m) (λs x hx=>?_) ?_ (by omega),A5]
  ·cases scan (rowE m) 0 m.N<;>rfl
  ·simp only[Y7.s2];rw[B1]
  ·have hs:=(F6.1 hx).1;simp only[Y7.s2];rw[C0,R06_row_eq (by omega) hx (get_at (l:=m.O) (by omega)),A5];cases e:rowE m s x with
   |none=>rfl
   |some r=>rw[C0 (rowE_ne e)]
 ·rw[G7 (by omega),if_pos c7];rfl
def kN(m:B6):T7 m=some (S4 m):=by
 unfold T7 S4;by_cases c1:m.I<1
 ·rw[G7 c1,if_pos (Or.inl c1)];rfl
 rw[B1 c1];by_cases c2:64<m.I
 ·rw[G7 c2,if_pos (Or.inr c2)];rfl
 rw[J0 c2,A5,G0,if_neg (by omega)];by_cases c3:m.N.length=0
 ·rw[G7 (by omega),if_pos c3];rfl
 rw[B1,if_neg c3];by_cases c4:128<m.N.length
 ·rw[G7 (by omega),if_pos c4];rfl
 rw[B1,if_neg c4];by_cases c5:m.S<0
 ·rw[G7 c5,if_pos (Or.inl c5)];rfl
 rw[B1 c5];by_cases c6:(m.N.length:Int)<=m.S
 ·rw[G7 c6,if_pos (Or.inr c6)];rfl
 rw[J0 c6,A5,G0,if_neg (by omega)];by_cases c7:m.O.length=m.N.length
 ·rw[B1,if_neg (by omega),Z8 (l:=m.N) (rowE m) (λs x hx=>?_) ?_ (by omega),A5]
  ·cases scan (rowE m) 0 m.N<;>rfl
  ·simp only[T7.s14];rw[B1]
  ·have hs:=(F6.1 hx).1;rw[mealy_row_eq (by omega) hx (get_at (l:=m.O) (by omega))];cases rowE m s x<;>rfl
 ·rw[G7 (by omega),if_pos c7];rfl
def dZ(h:S4 m=0):K7 m:=macOk_of (by rw[oV,h])
def fromM(m:B6)(s:Int)(w:A2):A2×Int×Int :=
 if S4 m≠0 then([],0,S4 m) else if s<0\/(m.N.length:Int)<=s then([],0,2) else if W7 w m.I≠0 then([],0,W7 w m.I) else(outs m s.toNat w,(↑(dest m s.toNat w):Int),0)
def checkI_len{w:A2}{n:Int}(h:W7 w n=0):w.length<=1024:=by
 unfold W7 at h;split at h
 ·split at h
  ·cases h
  ·omega
 ·cases h
def zJ{s:Int}{w:A2}(hw:SmW w):nZ m s w=some (fromM m s w):=by
 unfold nZ fromM;rw[oV,A5];by_cases c1:S4 m=0
 ·rw[B1,if_neg (by omega)];by_cases c2:s<0
  ·rw[G7 c2,if_pos (Or.inl c2)];rfl
  rw[B1 c2];by_cases c3:(m.N.length:Int)<=s
  ·rw[G7 c3,if_pos (Or.inr c3)];rfl
  rw[J0 c3,A5,G0,if_neg (by omega),vR _ _ hw,A5];by_cases c4:W7 w m.I=0
  ·have:=checkI_len c4;have hO:=R06_Outs_eq (dZ c1) (s:=s.toNat) (by omega) (w:=w) (check_mem c4) (by omega);rw[show(s.toNat:Int)=s by omega]at hO;rw[B1,if_neg (by omega),hO,A5]
  ·rw[C0 c4,if_pos c4]
 ·rw[C0 c1,if_pos c1]
end
end
section
section
variable {m:B6}{ids:List (A4)}{w:A2}
end
end
section
section
variable {A:Type}[DecidableEq A]
def bfsB(e:A->Nat->A)(K:Nat)(s0:A):Nat->List (A×A2)
 |0=>[(s0,[])]
 |r+1=>match (bfsB e K s0 r)[r / K]? with
  |none=>bfsB e K s0 r
  |some x=>if e x.1 (r%K)∈(bfsB e K s0 r).map Prod.fst then bfsB e K s0 r else bfsB e K s0 r++[(e x.1 (r%K),x.2++[(↑(r%K):Int)])]
def dW{K i a:Nat}(h:a<K):(i*K+a) / K=i:=by
 rw[iN,Nat.add_mul_div_right _ _ (by omega),Nat.div_eq_of_lt h,F7]
def lA{K i a:Nat}(h:a<K):(i*K+a)%K=a:=by
 rw[iN,Nat.add_mul_mod_self_right,Nat.mod_eq_of_lt h]
def dV{i n a K:Nat}(hi:i<n)(ha:a<K):i*K+a<n*K:=by
 have:(i+1)*K<=n*K:=bO K hi;rw[eO]at this;omega
variable {e:A->Nat->A}{K:Nat}{s0:A}
def bfs_step{i a:Nat}{x:A×A2}(ha:a<K)(hx:(bfsB e K s0 (i*K+a))[i]?=some x) :
  bfsB e K s0 (i*K+(a+1))=if e x.1 a∈(bfsB e K s0 (i*K+a)).map Prod.fst then bfsB e K s0 (i*K+a) else bfsB e K s0 (i*K+a)++[(e x.1 a,x.2++[(a:Int)])]:=by
 show bfsB e K s0 ((i*K+a)+1)=_;rw[bfsB,dW ha,hx,lA ha]
def qZ(r:Nat):bfsB e K s0 r <+: bfsB e K s0 (r+1):=by
 rw[bfsB];split
 ·exact cT _
 ·split
  ·exact cT _
  ·exact xN _ _
def dF{r:Nat}:∀{r':Nat},r<=r'->bfsB e K s0 r <+: bfsB e K s0 r'
 |0,h=>by
  have:r=0:=by omega
  subst this;exact cT _
 |r'+1,h=>by
  rcases K4 r (r'+1) with g|g
  ·exact(dF (r':=r') (by omega)).trans (qZ r')
  ·have:r=r'+1:=by omega
   subst this;exact cT _
def aZ{V:Type}{l l':List V}(h:l <+: l'){i:Nat}{x:V}(hx:l[i]?=some x):l'[i]?=some x:=by
 obtain⟨t,rfl⟩:=h;rw[P2 (F6.1 hx).1,hx]
def nS(r:Nat):(bfsB e K s0 r)[0]?=some (s0,[]):=aZ (dF (D9 r)) rfl
def lU:∀r:Nat,((bfsB e K s0 r).map Prod.fst).Nodup
 |0=>by simp[bfsB]
 |r+1=>by
  have ih:=lU r;rw[bfsB];split
  ·exact ih
  ·split
   ·exact ih
   ·rename_i x _ hn;rw[L5,V5];refine⟨ih,by simp,λa ha b hb hab=>hn ?_⟩;have:b=e x.1 (r%K):=by simpa using hb
    rw[<- this,<- hab];exact ha
def nV:∀{r u:Nat} {x:A×A2},(bfsB e K s0 r)[u]?=some x->u=0\/∃r' y,r'<r/\r' / K<u/\(bfsB e K s0 r)[r' / K]?=some y/\x=(e y.1 (r'%K),y.2++[(↑(r'%K):Int)])
 |0,u,x,h=>by
  left;have:=(F6.1 h).1;simp[bfsB]at this;exact this
 |r+1,u,x,h=>by
  have old:(bfsB e K s0 r)[u]?=some x->u=0\/∃r' y,r'<r+1/\r' / K<u/\(bfsB e K s0 (r+1))[r' / K]?=some y/\x=(e y.1 (r'%K),y.2++[(↑(r'%K):Int)]):=λh=>by
   rcases nV h with h|⟨r',y,h1,h2,h3,h4⟩
   ·exact Or.inl h
   ·exact Or.inr ⟨r',y,by omega,h2,aZ (qZ r) h3,h4⟩
  have hh:=h;rw[bfsB]at h;split at h
  ·exact old h
  ·rename_i y hy;split at h
   ·exact old h
   ·rename_i hn;rcases K4 u (bfsB e K s0 r).length with g|g
    ·rw[P2 g]at h;exact old h
    ·right;rw[V6 g]at h
     have hu:u-(bfsB e K s0 r).length=0:=by
      have:=(F6.1 h).1;simpa using this
     rw[hu]at h
     have hx:x=(e y.1 (r%K),y.2++[(↑(r%K):Int)]):=by
      simp at h;exact h.symm
     have hk:=(F6.1 hy).1;exact⟨r,y,by omega,by omega,aZ (qZ r) hy,hx⟩
def bfs_to{r:Nat}{x:A×A2}(hx:(bfsB e K s0 r)[r / K]?=some x):e x.1 (r%K)∈(bfsB e K s0 (r+1)).map Prod.fst:=by
 rw[bfsB,hx];simp only;split
 ·assumption
 ·simp
structure aN(e:A->Nat->A)(K:Nat)(s0:A)(L:List (A×A2)):Prop where
 eq:L=bfsB e K s0 (L.length*K)
variable {L:List (A×A2)}
def aN.at(h:aN e K s0 L){r:Nat}(hr:r<=L.length*K):bfsB e K s0 r <+: L:=by
 have:=dF (e:=e) (K:=K) (s0:=s0) hr;rw[<- h.eq]at this;exact this
def aN.first(h:aN e K s0 L):L[0]?=some (s0,[]):=by
 rw[h.eq];exact nS _
def aN.nodup(h:aN e K s0 L):(L.map Prod.fst).Nodup:=by
 rw[h.eq];exact lU _
def aN.long(h:aN e K s0 L){i a:Nat}(hi:i<L.length)(ha:a<K):∃x,L[i]?=some x/\(bfsB e K s0 (i*K+a))[i]?=some x:=by
 refine⟨_,L1 hi,?_⟩;have a0:=h.at (r:=i*K+a) (by have:=dV hi ha;omega);rcases K4 i (bfsB e K s0 (i*K+a)).length with g|g
 ·have:=aZ a0 (L1 g);rw[L1 hi]at this;rw[L1 g,this]
 ·exfalso
  have a2:∀d,bfsB e K s0 (i*K+a+d)=bfsB e K s0 (i*K+a):=by
   intro d
   induction d with
   |zero=>rfl
   |succ d ih =>
    show bfsB e K s0 (i*K+a+d+1)=_;rw[bfsB,ih,M2 ?_];have h1:(i*K+a) / K<=(i*K+a+d) / K:=tK (by omega);rw[dW ha]at h1;omega
  have h2:=a2 (L.length*K-(i*K+a));rw[show i*K+a+(L.length*K-(i*K+a))=L.length*K by have:=dV hi ha;omega,<- h.eq]at h2;rw[<- h2]at g;omega
def aN.closed(h:aN e K s0 L){i a:Nat}{x:A×A2}(hx:L[i]?=some x)(ha:a<K):∃j y,L[j]?=some y/\y.1=e x.1 a/\∀u,0<u->u<=j->∃i' a' z w,a'<K/\i'*K+a'<=i*K+a/\i'<u/\L[i']?=some z/\L[u]?=some w/\w.1=e z.1 a':=by
 have hi:=(F6.1 hx).1;obtain⟨x',h1,h2⟩:=h.long hi ha;rw[hx]at h1;injection h1 with h1
 subst h1;have a6:=dV hi ha;have a0:=h.at (r:=i*K+a+1) (by omega);have h3:=bfs_to (e:=e) (K:=K) (s0:=s0) (r:=i*K+a) (x:=x) (by rw[dW ha];exact h2);rw[lA ha]at h3;obtain⟨y,hy,a3⟩:=I3.1 h3;obtain⟨j,hj,a5⟩:=dP.1 hy;have a2:(bfsB e K s0 (i*K+a+1))[j]?=some y:=by rw[L1 hj,a5]
 refine⟨j,y,aZ a0 a2,a3,λu hu a7=>?_⟩;have a4:u<(bfsB e K s0 (i*K+a+1)).length:=by omega
 have hw:=L1 a4;rcases nV hw with q|⟨r',z,q1,q2,q3,q4⟩
 ·omega
 ·have hK:0<K:=by omega
  refine⟨r' / K,r'%K,z,_,jJ _ hK,?_,q2,aZ a0 q3,aZ a0 hw,by rw[q4]⟩;have:=tB r' K;rw[mU]at this;omega
def aN.from(h:aN e K s0 L)(hK:0<K){u:Nat}{x:A×A2}(hx:L[u]?=some x):u=0\/∃i a y,i<u/\a<K/\L[i]?=some y/\x=(e y.1 a,y.2++[(a:Int)]):=by
 have a0:=hx;rw[h.eq]at a0;rcases nV a0 with q|⟨r',z,q1,q2,q3,q4⟩
 ·exact Or.inl q
 ·rw[<- h.eq]at q3;exact Or.inr ⟨r' / K,r'%K,z,q2,jJ _ hK,q3,q4⟩
end
end
section
def E(m:B6):Nat->Nat->Nat->Prop
 |0,_,_=>True
 |k+1,s,t=>E m k s t/\∀a,a<m.I.toNat->ot m s a=ot m t a/\E m k (nx m s a) (nx m t a)
section
variable {m:B6}
def E_refl:∀(k s:Nat),E m k s s
 |0,_=>trivial
 |k+1,s=>⟨E_refl k s,λ_ _=>⟨rfl,E_refl k _⟩⟩
def iU:∀{k s t:Nat},E m k s t->E m k t s
 |0,_,_,_=>trivial
 |_+1,_,_,h=>⟨iU h.1,λa ha=>⟨(h.2 a ha).1.symm,iU (h.2 a ha).2⟩⟩
def fZ:∀{k s t u:Nat},E m k s t->E m k t u->E m k s u
 |0,_,_,_,_,_=>trivial
 |_+1,_,_,_,h,g=>⟨fZ h.1 g.1,λa ha=>⟨(h.2 a ha).1.trans (g.2 a ha).1,fZ (h.2 a ha).2 (g.2 a ha).2⟩⟩
def E_mono{k j s t:Nat}(hk:k<=j)(h:E m j s t):E m k s t:=by
 induction j with
 |zero =>
  have e:k=0:=by omega
  subst e;exact h
 |succ j ih =>
  rcases K4 k (j+1) with h1|h1
  ·exact ih (by omega) h.1
  ·have e:k=j+1:=by omega
   subst e;exact h
def E_outs:∀{w:A2} {s t:Nat},E m w.length s t->WOk m.I w->outs m s w=outs m t w
 |[],_,_,_,_=>rfl
 |a::w,s,t,h,hw=>by
  have ha:=hw.head;obtain⟨h1,h2⟩:=h.2 a.toNat (by omega);show ot m s a.toNat::outs m _ w=ot m t a.toNat::outs m _ w;rw[h1,E_outs (w:=w) h2 hw.tail]
def oC:∀{k s t:Nat},(∀w,w.length<=k->WOk m.I w->outs m s w=outs m t w)->E m k s t
 |0,_,_,_=>trivial
 |k+1,s,t,h=>⟨oC λw hl hw=>h w (by omega) hw,λa ha=>by
  have hx:∀w,w.length<=k->WOk m.I w->ot m s a=ot m t a/\outs m (nx m s a) w=outs m (nx m t a) w:=λw hl hw=>by
   have h1:=h ((a:Int)::w) (by simp;omega) (λx hx=>by
    rcases L8.1 hx with rfl|hx
    ·exact⟨by omega,by omega⟩
    ·exact hw x hx)
   have h2:ot m s a::outs m (nx m s a) w=ot m t a::outs m (nx m t a) w:=h1
   injection h2 with h3 h4
   exact⟨h3,h4⟩
  exact⟨(hx [] (D9 _) (λx hx=>by cases hx)).1,oC λw hl hw=>(hx w hl hw).2⟩⟩
structure aF(m:B6)(k:Nat)(c:A2):Prop where
 len:c.length=m.N.length
 rng:∀s,s<m.N.length->∃x:Nat,c[s]?=some (x:Int)/\x<m.N.length
 cls:∀s t,s<m.N.length->t<m.N.length->(c[s]?=c[t]?↔E m k s t)
def Alike(m:B6)(c:A2)(s t a:Nat):Prop:=c[s]?=c[t]?/\∀b,b<a->ot m s b=ot m t b/\c[nx m s b]?=c[nx m t b]?
def alike_iff(H:K7 m){k:Nat}{c:A2}(C:aF m k c){s t:Nat}(hs:s<m.N.length)(ht:t<m.N.length):Alike m c s t m.I.toNat↔E m (k+1) s t:=by
 constructor
 ·rintro⟨h1,h2⟩;exact⟨(C.cls s t hs ht).1 h1,λa ha=>⟨(h2 a ha).1,(C.cls _ _ (H.at hs ha).1 (H.at ht ha).1).1 (h2 a ha).2⟩⟩
 ·rintro⟨h1,h2⟩;exact⟨(C.cls s t hs ht).2 h1,λa ha=>⟨(h2 a ha).1,(C.cls _ _ (H.at hs ha).1 (H.at ht ha).1).2 (h2 a ha).2⟩⟩
def finer_same(H:K7 m){k:Nat}{c:A2}(C:aF m k c){s t:Nat}(hs:s<m.N.length)(ht:t<m.N.length){b0:Bool}(hb:b0=true↔c[s]?=c[t]?) :
  ∃r:Bool,iter (λ(q:Bool×Nat)=>R3.s89 m c s (t:Int) q.1 q.2) fuel (b0,0)=some r/\(r=true↔E m (k+1) s t):=by
 have hI:=H.i2
 obtain⟨r,hr,hq⟩:=H4 (step:=λ(q:Bool×Nat)=>R3.s89 m c s (t:Int) q.1 q.2) (λq=>q.2<=m.I.toNat/\(q.1=true↔Alike m c s t q.2)) (λq=>m.I.toNat-q.2) (λr=>r=true↔Alike m c s t m.I.toNat) (λq ⟨g1,g2⟩=>by
  obtain⟨b,a⟩:=q
  simp only at g1 g2
  simp only[R3.s89]
  by_cases g3:a<m.I.toNat
  ·rw[C0,A5]
   cases b with
   |false =>
    right
    rw[G0]
    exact⟨false,rfl,⟨λh=>(by cases h),λh=>absurd (g2.2 ⟨h.1,λb hb=>h.2 b (by omega)⟩) (by simp)⟩⟩
   |true =>
    left
    obtain⟨s1,_,_,x,y,e1,e2,e3,e4⟩:=H.at hs g3
    obtain⟨t1,_,_,x',y',f1,f2,f3,f4⟩:=H.at ht g3
    obtain⟨u,u1,u2⟩:=C.rng _ s1
    obtain⟨v,v1,v2⟩:=C.rng _ t1
    have g2:=g2.1 rfl
    rw[F8,B4 e2,B4 e4,D6 rfl f2,B4 f4]
    by_cases g4:ot m s a=ot m t a
    ·refine⟨(decide ((u:Int)=(v:Int)),a+1),?_,⟨g3,?_⟩,by simp only;omega⟩
     ·rw[C0 g4,B4 e1,B4 e3,D6 rfl u1,D6 rfl f1,B4 f3,D6 rfl v1,K3]
     ·simp only[decide_eq_true_eq]
      constructor
      ·intro h
       refine⟨g2.1,λb hb=>?_⟩
       rcases K4 b a with h1|h1
       ·exact g2.2 b h1
       ·have e:b=a:=by omega
        subst e
        exact⟨g4,by rw[u1,v1,h]⟩
      ·intro h
       have h1:=(h.2 a (by omega)).2
       rw[u1,v1]at h1
       injection h1
    ·refine⟨(false,a+1),?_,⟨g3,?_⟩,by simp only;omega⟩
     ·rw[B1 g4,K3]
     ·exact⟨λh=>(by cases h),λh=>absurd (h.2 a (by omega)).1 g4⟩
  ·right
   have e:a=m.I.toNat:=by omega
   subst e
   exact⟨b,by rw[B1,A5,G0],g2⟩) fuel (b0,0) ⟨D9 _,by rw[hb];exact⟨λh=>⟨h,λb hb=>absurd hb (N9 _)⟩,λh=>h.1⟩⟩ (by have:=E6;simp only;omega)
 exact⟨r,hr,hq.trans (alike_iff H C hs ht)⟩
def finer_found(H:K7 m){k:Nat}{c:A2}(C:aF m k c){s:Nat}(hs:s<m.N.length){y:A2}(hy:y.length=s) :
  ∃r:Int,iter (λ(q:Int×Int)=>R3.s90 m c y s q.1 q.2) fuel ((-1:Int),(s:Int)-1)=some r/\((r=-1/\∀t,t<s->¬E m (k+1) s t)\/∃t,t<s/\E m (k+1) s t/\y[t]?=some r):=by
 have hn:=H.n2
 obtain⟨r,hr,hq⟩:=H4 (step:=λ(q:Int×Int)=>R3.s90 m c y s q.1 q.2) (λq=>-1<=q.2/\q.2<(s:Int)/\((q.1=-1/\∀t:Nat,q.2<(t:Int)->t<s->¬E m (k+1) s t)\/∃t,t<s/\E m (k+1) s t/\y[t]?=some q.1)) (λq=>(q.2+1).toNat) (λr=>(r=-1/\∀t,t<s->¬E m (k+1) s t)\/∃t,t<s/\E m (k+1) s t/\y[t]?=some r) (λq ⟨g1,g2,g3⟩=>by
  obtain⟨f,t⟩:=q
  simp only at g1 g2 g3
  simp only[R3.s90]
  by_cases g4:0<=t
  ·left
   obtain⟨t,rfl⟩:∃t':Nat,t=(t':Int):=⟨t.toNat,by omega⟩
   have a2:t<s:=by omega
   have ht:t<m.N.length:=by omega
   obtain⟨u,u1,u2⟩:=C.rng s hs
   obtain⟨v,v1,v2⟩:=C.rng t ht
   obtain⟨b,b1,b2⟩:=finer_same H C hs ht (b0:=decide ((u:Int)=(v:Int))) (by
    rw[u1,v1,decide_eq_true_eq]
    exact⟨λh=>by rw[h],λh=>by injection h⟩)
   have a0:=get_at (l:=y) (i:=t) (by omega)
   rw[C0 g4,B4 u1,D6 rfl v1,b1,A5]
   cases b with
   |true =>
    refine⟨(y[t]'(by omega),(t:Int)-1),by rw[F8,D6 rfl a0,K3],⟨by simp only;omega,by simp only;omega,Or.inr ⟨t,a2,b2.1 rfl,a0⟩⟩,by simp only;omega⟩
   |false =>
    refine⟨(f,(t:Int)-1),by rw[G0,K3],⟨by simp only;omega,by simp only;omega,?_⟩,by simp only;omega⟩
    rcases g3 with⟨h1,h2⟩|h
    ·refine Or.inl ⟨h1,λt' h3 h4=>?_⟩
     simp only at h3
     by_cases e:t'=t
     ·subst e
      exact λh=>absurd (b2.2 h) (by simp)
     ·exact h2 t' (by omega) h4
    ·exact Or.inr h
  ·right
   have e:t=-1:=by omega
   subst e
   refine⟨f,by rw[B1],?_⟩
   rcases g3 with⟨h1,h2⟩|h
   ·exact Or.inl ⟨h1,λt' h4=>h2 t' (by omega) h4⟩
   ·exact Or.inr h) fuel ((-1:Int),(s:Int)-1) ⟨by simp only;omega,by simp only;omega,Or.inl ⟨rfl,λt h1 h2=>by simp only at h1;omega⟩⟩ (by have:=E6;simp only;omega)
 exact⟨r,hr,hq⟩
structure FinOk(m:B6)(k:Nat)(y:A2)(n s:Nat):Prop where
 ls:s<=m.N.length
 len:y.length=s
 cnt:n<=s
 rng:∀i,i<s->∃x:Nat,y[i]?=some (x:Int)/\x<n
 cls:∀i j,i<s->j<s->(y[i]?=y[j]?↔E m k i j)
def R08_finer_eq(H:K7 m){k:Nat}{c:A2}(C:aF m k c):∃c',R3 m c=some c'/\aF m (k+1) c':=by
 have hn:=H.n2;unfold R3
 obtain⟨r,hr,n,hq⟩:=H4 (step:=λ(q:A2×Nat×Nat)=>R3.s92 m c q.1 q.2.1 q.2.2) (λq=>FinOk m (k+1) q.1 q.2.1 q.2.2) (λq=>m.N.length-q.2.2) (λr=>∃n,FinOk m (k+1) r n m.N.length) (λq Q=>by
  obtain⟨y,n,s⟩:=q
  simp only at Q
  have hc:=Q.cnt
  have hl:=Q.len
  have a2:=Q.ls
  simp only[R3.s92]
  rw[C.len]
  by_cases g1:s<m.N.length
  ·left
   obtain⟨f,f1,f2⟩:=finer_found H C g1 Q.len
   rw[C0,f1,A5]
   rcases f2 with⟨rfl,f2⟩|⟨t,ht,hE,f2⟩
   ·-- a class of its own
    rw[C0,K3,A5]
    refine⟨(y++[(n:Int)],n+1,s+1),by simp only[R3.k91];rw[Q1],(show FinOk m (k+1) (y++[(n:Int)]) (n+1) (s+1) from⟨g1,by simp[Q.len],by omega,λi hi=>?_,λi j hi hj=>?_⟩),by simp only;omega⟩
    ·rcases K4 i s with h|h
     ·obtain⟨x,x1,x2⟩:=Q.rng i h
      exact⟨x,by rw[P2 (by omega),x1],by omega⟩
     ·have e:i=y.length:=by omega
      subst e
      exact⟨n,by simp,by omega⟩
    ·have a0:∀i,i<s->(y++[(n:Int)])[i]?=y[i]?:=λi hi=>P2 (by omega)
     have new:(y++[(n:Int)])[s]?=some (n:Int):=by rw[V6 (by omega),hl,V1];rfl
     have ne:∀i,i<s->y[i]?≠some (n:Int):=λi hi h=>by
      obtain⟨x,x1,x2⟩:=Q.rng i hi
      rw[x1]at h
      injection h with h
      omega
     rcases K4 i s with h|h<;>rcases K4 j s with h'|h'
     ·rw[a0 i h,a0 j h']
      exact Q.cls i j h h'
     ·have e:j=s:=by omega
      subst e
      rw[a0 i h,new]
      exact⟨λh2=>absurd h2 (ne i h),λh2=>absurd (iU h2) (f2 i h)⟩
     ·have e:i=s:=by omega
      subst e
      rw[a0 j h',new]
      exact⟨λh2=>absurd h2.symm (ne j h'),λh2=>absurd h2 (f2 j h')⟩
     ·have e:i=s:=by omega
      have e':j=s:=by omega
      subst e
      subst e'
      exact⟨λ_=>E_refl _ _,λ_=>rfl⟩
   ·obtain⟨x,x1,x2⟩:=Q.rng t ht
    rw[f2]at x1
    injection x1 with x1
    subst x1
    rw[B1,A5]
    refine⟨(y++[(x:Int)],n,s+1),by simp only[R3.k91];rw[Q1],(show FinOk m (k+1) (y++[(x:Int)]) n (s+1) from⟨g1,by simp[Q.len],by omega,λi hi=>?_,λi j hi hj=>?_⟩),by simp only;omega⟩
    ·rcases K4 i s with h|h
     ·obtain⟨z,z1,z2⟩:=Q.rng i h
      exact⟨z,by rw[P2 (by omega),z1],z2⟩
     ·have e:i=y.length:=by omega
      subst e
      exact⟨x,by simp,x2⟩
    ·have a0:∀i,i<s->(y++[(x:Int)])[i]?=y[i]?:=λi hi=>P2 (by omega)
     have new:(y++[(x:Int)])[s]?=y[t]?:=by rw[V6 (by omega),hl,V1,f2];rfl
     rcases K4 i s with h|h<;>rcases K4 j s with h'|h'
     ·rw[a0 i h,a0 j h']
      exact Q.cls i j h h'
     ·have e:j=s:=by omega
      subst e
      rw[a0 i h,new,Q.cls i t h ht]
      exact⟨λh2=>fZ h2 (iU hE),λh2=>fZ h2 hE⟩
     ·have e:i=s:=by omega
      subst e
      rw[a0 j h',new,Q.cls t j ht h']
      exact⟨λh2=>fZ hE h2,λh2=>fZ (iU hE) h2⟩
     ·have e:i=s:=by omega
      have e':j=s:=by omega
      subst e
      subst e'
      exact⟨λ_=>E_refl _ _,λ_=>rfl⟩
  ·right
   have e:s=m.N.length:=by omega
   subst e
   exact⟨y,by rw[B1],n,Q⟩) fuel ([],0,0) ⟨D9 _,rfl,H0 _,λi h=>absurd h (N9 _),λi j h=>absurd h (N9 _)⟩ (by have:=E6;simp only;omega)
 refine⟨r,by rw[hr,A5],hq.len,λs hs=>?_,λs t hs ht=>hq.cls s t hs ht⟩;obtain⟨x,x1,x2⟩:=hq.rng s hs;have:=hq.cnt;exact⟨x,x1,by omega⟩
def zqe(hv:Y7 m=some 0)(k:Nat):∃c,fK m (k:Int)=some (c,0)/\aF m (min k m.N.length) c:=by
 have H:=macOk_of hv;have hn:=H.n2;unfold fK;rw[hv,A5,B1 (by simp),H1 ⟨by omega,by omega,by unfold B5;omega⟩]
 obtain⟨r,hr,hq⟩:=H4 (step:=λ(q:A2×Nat)=>fK.s2 m (k:Int) q.1 q.2) (λq=>q.2<=min k m.N.length/\aF m q.2 q.1) (λq=>min k m.N.length-q.2) (λr=>aF m (min k m.N.length) r) (λq ⟨g1,g2⟩=>by
  obtain⟨y,i⟩:=q
  simp only at g1 g2
  simp only[fK.s2]
  by_cases g3:i<min k m.N.length
  ·left
   obtain⟨c',e1,e2⟩:=R08_finer_eq H g2
   refine⟨(c',i+1),?_,⟨g3,e2⟩,by simp only;omega⟩
   rw[C0,A5,C0,e1,A5,K3]
  ·right
   have e:i=min k m.N.length:=by omega
   refine⟨y,?_,e ▸ g2⟩
   by_cases h:i<k
   ·rw[C0,A5,B1]
   ·rw[B1,A5,G0]) fuel ((List.replicate m.N.length 0),0) ⟨D9 _,⟨by simp,λs hs=>⟨0,by simp[hs],H.n1⟩,λs t hs ht=>⟨λ_=>trivial,λ_=>by simp[hs,ht]⟩⟩⟩ (by have:=E6;simp only;omega)
 exact⟨r,by rw[hr,A5],hq⟩
def AK{V:Type}{p q:V->Bool}:∀{l:List V},(∀x∈l,p x=true->q x=true)->l.countP q<=l.countP p->∀x∈l,q x=true->p x=true
 |[],_,_,x,hx,_=>by cases hx
 |y::l,h,hc,x,hx,hq=>by
  have h1:l.countP p<=l.countP q:=List.countP_mono_left λx hx=>h x (O7 _ hx);rw[jO,jO]at hc;have h2:=h y (U8 ..)
  have h3:l.countP q<=l.countP p/\(q y=true->p y=true):=by
   cases e1:q y<;>cases e2:p y<;>simp[e1,e2]at hc h2 ⊢<;>omega
  rcases L8.1 hx with rfl|hx
  ·exact h3.2 hq
  ·exact AK (λx hx=>h x (O7 _ hx)) h3.1 x hx hq
def Rep(m:B6)(k s:Nat):Prop:=∀t,t<s->¬E m k s t
open Classical in
noncomputable def nreps(m:B6)(k:Nat):Nat:=(List.range m.N.length).countP λs=>decide (Rep m k s)
def yM(k:Nat):∀(s:Nat),∃r,r<=s/\Rep m k r/\E m k s r:=by
 intro s
 induction s using Nat.strongRecOn with
 |ind s ih =>
  by_cases h:Rep m k s
  ·exact⟨s,H0 _,h,E_refl _ _⟩
  ·have⟨t,h1⟩:=Classical.not_forall.1 h;obtain⟨h2,h3⟩:=Classical.not_imp.1 h1;have h3:=jK.1 h3;obtain⟨r,r1,r2,r3⟩:=ih t h2;exact⟨r,by omega,r2,fZ h3 r3⟩
def Stab(m:B6)(k:Nat):Prop:=∀s t,s<m.N.length->t<m.N.length->E m k s t->E m (k+1) s t
def rep_succ{k s:Nat}(h:Rep m k s):Rep m (k+1) s:=λt ht hE=>h t ht hE.1
open Classical in
open Classical in
def stab_of{k:Nat}(h:nreps m (k+1)<=nreps m k):Stab m k:=by
 intro s t hs ht hE;unfold nreps at h;have key:=AK (l:=List.range m.N.length) (λs _ h=>G7 (rep_succ (of_decide_eq_true h))) h;obtain⟨r,r1,r2,r3⟩:=yM (m:=m) (k+1) s;obtain⟨u,u1,u2,u3⟩:=yM (m:=m) (k+1) t;have r4:Rep m k r:=of_decide_eq_true (key r (M5.2 (by omega)) (G7 r2));have u4:Rep m k u:=of_decide_eq_true (key u (M5.2 (by omega)) (G7 u2));have a0:E m k r u:=fZ (iU r3.1) (fZ hE u3.1)
 have e:r=u:=by
  rcases kR r u with h1|h1|h1
  ·exact absurd (iU a0) (u4 r h1)
  ·exact h1
  ·exact absurd a0 (r4 u h1)
 subst e;exact fZ r3 (iU u3)
def stab_succ(H:K7 m){k:Nat}(h:Stab m k):Stab m (k+1):=λs t hs ht hE =>
 ⟨hE,λa ha=>⟨(hE.2 a ha).1,h _ _ (H.at hs ha).1 (H.at ht ha).1 (hE.2 a ha).2⟩⟩
def stab_add(H:K7 m){k:Nat}(h:Stab m k):∀j,Stab m (k+j)
 |0=>h
 |j+1=>stab_succ H (stab_add H h j)
open Classical in
def stab_exists(H:K7 m):∃k,k<m.N.length/\Stab m k:=by
 refine X9 λa2=>?_
 have a0:∀k,k<=m.N.length->k+1<=nreps m k:=by
  intro k
  induction k with
  |zero =>
   intro _;unfold nreps;have:0<(List.range m.N.length).countP λs=>@decide (Rep m 0 s) (Classical.propDecidable _):=List.countP_pos_iff.2 ⟨0,M5.2 H.n1,G7 λt ht=>absurd ht (N9 _)⟩;exact this
  |succ k ih =>
   intro hk;have h1:=ih (by omega);rcases K4 (nreps m k) (nreps m (k+1)) with h2|h2
   ·omega
   ·exact absurd ⟨k,by omega,stab_of h2⟩ a2
 have h1:=a0 _ (H0 _);have h2:nreps m m.N.length<=(List.range m.N.length).length:=xF;rw[P3]at h2;omega
def E_all(H:K7 m){s t:Nat}(hs:s<m.N.length)(ht:t<m.N.length)(h:E m m.N.length s t)(j:Nat):E m j s t:=by
 obtain⟨k,hk,hS⟩:=stab_exists H
 have key:∀i,E m (k+i) s t:=by
  intro i
  induction i with
  |zero=>exact E_mono (by omega) h
  |succ i ih=>exact stab_add H hS i s t hs ht ih
 exact E_mono (by omega) (key j)
end
end
section
def jA{V:Type}[DecidableEq V]:∀{l l':List V},l.Nodup->(∀x∈l,x∈l')->l.length<=l'.length
 |[],_,_,_=>D9 _
 |x::l,l',h,hs=>by
  have h1:=aU.1 h;have hx:=hs x (by simp);have ih:=jA (l:=l) (l':=l'.erase x) h1.2 (λy hy=>(List.mem_erase_of_ne (λe=>h1.1 (by rw[<- e];exact hy))).2 (hs y (O7 _ hy)));rw[CJ hx]at ih;have:=List.length_pos_of_mem hx;simp only[G9];omega
def natI(l:List Nat):A2:=l.map λ(x:Nat)=>(x:Int)
def nR{l:List Nat}{i u:Nat}(h:l[i]?=some u):(natI l)[i]?=some (u:Int):=by
 unfold natI;rw[H7,h];rfl
def natI_push(l:List Nat)(t:Nat):natI l++[(t:Int)]=natI (l++[t]):=by simp[natI]
def dH(l:List Nat):(natI l).length=l.length:=by simp[natI]
structure Num(m:B6)(c:A2)(ord:List Nat)(num:A2):Prop where
 rng:∀u∈ord,u<m.N.length
 start:ord[0]?=some m.S.toNat
 len:num.length=m.N.length
 n1:∀j u x:Nat,ord[j]?=some u->c[u]?=some (x:Int)->num[x]?=some (j:Int)
 n2:∀x:Nat,x<m.N.length->num[x]?=some (-1:Int)\/∃j u:Nat,num[x]?=some (j:Int)/\ord[j]?=some u/\c[u]?=some (x:Int)
 reach:∀j u:Nat,ord[j]?=some u->j=0\/∃i v a:Nat,i<j/\ord[i]?=some v/\a<m.I.toNat/\u=nx m v a
section
variable {m:B6}{c num:A2}{ord:List Nat}{k:Nat}
structure RowAt(m:B6)(c:A2)(ord:List Nat)(v:Nat)(row out:A2)(a:Nat):Prop where
 l1:row.length=a
 l2:out.length=a
 cell:∀b,b<a->∃j u:Nat,row[b]?=some (j:Int)/\ord[j]?=some u/\c[u]?=c[nx m v b]?/\out[b]?=some (ot m v b)
structure MinOk(m M:B6)(c:A2)(ord:List Nat)(num:A2):Prop where
 cls:aF m m.N.length c
 num:Num m c ord num
 inp:M.I=m.I
 start:M.S=0
 l1:M.N.length=ord.length
 l2:M.O.length=ord.length
 row:∀i v:Nat,ord[i]?=some v->∃row out,M.N[i]?=some row/\M.O[i]?=some out/\RowAt m c ord v row out m.I.toNat
end
end
section
section
variable {m:B6}
def mB(m:B6)(s0 r:Nat):List (Nat×A2):=bfsB (nx m) m.I.toNat s0 r
abbrev MEnd(m:B6)(s0:Nat)(L:List (Nat×A2)):Prop:=aN (nx m) m.I.toNat s0 L
def mB_rng(H:K7 m){s0:Nat}(hs:s0<m.N.length):∀(r:Nat),∀x∈mB m s0 r,x.1<m.N.length/\x.2.length<=r/\dest m s0 x.2=x.1/\WOk m.I x.2
 |0,x,hx=>by
  have:x=(s0,[]):=by simpa[mB,bfsB]using hx
  subst this;exact⟨hs,H0 _,rfl,λa ha=>by cases ha⟩
 |r+1,x,hx=>by
  have ih:=mB_rng H hs r
  have a0:x∈mB m s0 r->x.1<m.N.length/\x.2.length<=r+1/\dest m s0 x.2=x.1/\WOk m.I x.2:=λh=>by
   have:=ih x h;exact⟨this.1,by omega,this.2.2⟩
  unfold mB at hx;rw[bfsB]at hx;split at hx
  ·exact a0 hx
  ·rename_i y hy;split at hx
   ·exact a0 hx
   ·rcases J2.1 hx with h|h
    ·exact a0 h
    ·have hK:0<m.I.toNat:=by have:=H.i1;omega
     have a2:=ih y (I8 hy);have ha:=jJ r hK;have a3:x=(nx m y.1 (r%m.I.toNat),y.2++[(↑(r%m.I.toNat):Int)]):=by simpa using h
     subst a3;refine⟨(H.at a2.1 ha).1,by simp;omega,?_,?_⟩
     ·simp only;rw[jE,a2.2.2.1];show nx m y.1 (Int.toNat _)=_;rw[I7]
     ·refine WOk.append a2.2.2.2 λa a4=>?_;have:a=(↑(r%m.I.toNat):Int):=by simpa using a4
      subst this;omega
def mB_len(H:K7 m){s0:Nat}(hs:s0<m.N.length)(r:Nat):(mB m s0 r).length<=m.N.length:=by
 have:=jA (lU (e:=nx m) (K:=m.I.toNat) (s0:=s0) r) (l':=List.range m.N.length) λx hx=>by
  obtain⟨y,hy,rfl⟩:=I3.1 hx;exact M5.2 (mB_rng H hs r y hy).1
 rwa [C3,P3]at this
def mB_step{s0 i a:Nat}{x:Nat×A2}(ha:a<m.I.toNat)(hx:(mB m s0 (i*m.I.toNat+a))[i]?=some x) :
  mB m s0 (i*m.I.toNat+(a+1))=if nx m x.1 a∈(mB m s0 (i*m.I.toNat+a)).map Prod.fst then mB m s0 (i*m.I.toNat+a) else mB m s0 (i*m.I.toNat+a)++[(nx m x.1 a,x.2++[(a:Int)])]:=bfs_step ha hx
def mB_next{s0 i:Nat}:mB m s0 (i*m.I.toNat+m.I.toNat)=mB m s0 ((i+1)*m.I.toNat):=by rw[eO]
def mB_get{s0 i r:Nat}{x:Nat×A2}(hx:(mB m s0 (i*m.I.toNat))[i]?=some x)(hr:i*m.I.toNat<=r):(mB m s0 r)[i]?=some x:=aZ (dF hr) hx
structure gZ(n:Nat)(y:List Bool)(l:List Nat):Prop where
 len:y.length=n
 at_:∀t,t<n->y[t]?=some (decide (t∈l))
def gZ.push{n t:Nat}{y:List Bool}{l:List Nat}(S:gZ n y l)(ht:t<n):gZ n (y.set t true) (l++[t]):=by
 refine⟨by simp[S.len],λu hu=>?_⟩;by_cases h:t=u
 ·subst h;rw[P9 (by rw[S.len];exact ht)];simp
 ·rw[O6 h,S.at_ u hu];congr 1;apply decide_eq_decide.2;rw[J2];constructor
  ·exact Or.inl
  ·rintro (q|q)
   ·exact q
   ·exact absurd (by simpa using q:u=t).symm h
def seen_nil(n:Nat):gZ n (List.replicate n false) []:=⟨by simp,λt ht=>by simp[ht]⟩
def BE(hv:S4 m=0):∃L,MEnd m m.S.toNat L/\W9 m=some (natI (L.map Prod.fst)):=by
 have H:=dZ hv;have a9:=H.st;have hn:=H.n2;have hs:m.S.toNat<m.N.length:=by omega
 have a4:∀(i:Nat) (x:Nat×A2) (row:A2) (y:List Bool),(mB m m.S.toNat (i*m.I.toNat))[i]?=some x->m.N[x.1]?=some row->gZ m.N.length y ((mB m m.S.toNat (i*m.I.toNat)).map Prod.fst) ->
   ∃y',iter (λ(s:List Bool×A2×Nat)=>W9.s18 row s.1 s.2.1 s.2.2) fuel (y,natI ((mB m m.S.toNat (i*m.I.toNat)).map Prod.fst),0)=some (y',natI ((mB m m.S.toNat ((i+1)*m.I.toNat)).map Prod.fst))/\gZ m.N.length y' ((mB m m.S.toNat ((i+1)*m.I.toNat)).map Prod.fst):=by
  intro i x row y hx a2 S;have a3:=(mB_rng H hs _ x (I8 hx)).1
  have a8:row.length=m.I.toNat:=by
   obtain⟨x',y',h1,_,h3,_⟩:=H.row x.1 a3;rw[a2]at h1;injection h1 with h1
   subst h1;omega
  obtain⟨r,hr,y',rfl,hq⟩:=H4 (step:=λ(s:List Bool×A2×Nat)=>W9.s18 row s.1 s.2.1 s.2.2) (λs=>s.2.2<=m.I.toNat/\s.2.1=natI ((mB m m.S.toNat (i*m.I.toNat+s.2.2)).map Prod.fst)/\gZ m.N.length s.1 ((mB m m.S.toNat (i*m.I.toNat+s.2.2)).map Prod.fst)) (λs=>m.I.toNat-s.2.2) (λr=>∃y',r=(y',natI ((mB m m.S.toNat ((i+1)*m.I.toNat)).map Prod.fst))/\gZ m.N.length y' ((mB m m.S.toNat ((i+1)*m.I.toNat)).map Prod.fst)) (λs ⟨q1,q2,q3⟩=>by
   obtain⟨y,l,a⟩:=s
   simp only at q1 q2 q3
   subst q2
   simp only[W9.s18]
   by_cases g:a<m.I.toNat
   ·left
    have a6:=mB_get hx (r:=i*m.I.toNat+a) (by omega)
    obtain⟨h1,_,_,x',y',h2,_,h4,_⟩:=H.at a3 g
    rw[a2]at h2
    injection h2 with h2
    subst h2
    have a5:=mB_len H hs (i*m.I.toNat+a)
    have a0:=mB_step g a6
    rw[C0,B4 h4,D6 rfl (q3.at_ _ h1)]
    by_cases hm:nx m x.1 a∈(mB m m.S.toNat (i*m.I.toNat+a)).map Prod.fst
    ·rw[if_pos hm]at a0
     refine⟨(y,natI ((mB m m.S.toNat (i*m.I.toNat+a)).map Prod.fst),a+1),by rw[G7 hm];rfl,⟨g,by simp only;rw[a0],by simp only;rw[a0];exact q3⟩,by simp only;omega⟩
    ·rw[if_neg hm]at a0
     refine⟨(y.set (nx m x.1 a) true,natI ((mB m m.S.toNat (i*m.I.toNat+a)).map Prod.fst++[nx m x.1 a]),a+1),?_,⟨g,by simp only;rw[a0,L5];rfl,by simp only;rw[a0,L5];exact q3.push h1⟩,by simp only;omega⟩
     rw[J0 hm,cR,F8,D6 rfl (q3.at_ _ h1),H1 (by unfold B5;rw[dH,C3];omega),natI_push,I7]
   ·right
    have e':a=m.I.toNat:=by omega
    subst e'
    rw[mB_next]at q3 ⊢
    exact⟨_,by rw[B1],_,rfl,q3⟩) fuel (y,natI ((mB m m.S.toNat (i*m.I.toNat)).map Prod.fst),0) ⟨D9 _,rfl,S⟩ (by have:=E6;have:=H.i2;simp only;omega)
  exact⟨y',hr,hq⟩
 unfold W9;rw[kN,A5,hv,B1 (by decide),H1 ⟨by omega,by omega,by unfold B5;omega⟩,D6 (i:=m.S.toNat) (x:=false) (by omega) (by rw[W4,if_pos hs])]
 obtain⟨r,hr,L,hL,rfl⟩:=H4 (step:=λ(s:List Bool×A2×Nat)=>W9.s20 m s.1 s.2.1 s.2.2) (λs=>s.2.2<=(mB m m.S.toNat (s.2.2*m.I.toNat)).length/\s.2.1=natI ((mB m m.S.toNat (s.2.2*m.I.toNat)).map Prod.fst)/\gZ m.N.length s.1 ((mB m m.S.toNat (s.2.2*m.I.toNat)).map Prod.fst)) (λs=>m.N.length+1-s.2.2) (λr=>∃L,MEnd m m.S.toNat L/\r=natI (L.map Prod.fst)) (λs ⟨q1,q2,q3⟩=>by
  obtain⟨y,l,i⟩:=s
  simp only at q1 q2 q3
  subst q2
  simp only[W9.s20]
  have a5:=mB_len H hs (i*m.I.toNat)
  by_cases g:i<(mB m m.S.toNat (i*m.I.toNat)).length
  ·left
   have hx:=get_at g
   generalize (mB m m.S.toNat (i*m.I.toNat))[i]=x at hx
   have a3:=(mB_rng H hs _ x (I8 hx)).1
   have a2:=get_at a3
   obtain⟨y',h1,h2⟩:=a4 i x _ y hx a2 q3
   have a7:=(dF (e:=nx m) (K:=m.I.toNat) (s0:=m.S.toNat) (show i*m.I.toNat<=(i+1)*m.I.toNat by rw[eO];omega)).length_le
   refine⟨(y',natI ((mB m m.S.toNat ((i+1)*m.I.toNat)).map Prod.fst),i+1),?_,⟨by simp only;unfold mB at g ⊢;omega,rfl,h2⟩,by simp only;omega⟩
   rw[C0 (by rw[dH,C3];omega),B4 (nR (i:=i) (u:=x.1) (by rw[H7,hx];rfl)),D6 rfl a2,h1,A5]
   rfl
  ·right
   refine⟨_,by rw[B1 (by rw[dH,C3];omega)],mB m m.S.toNat (i*m.I.toNat),⟨?_⟩,rfl⟩
   rw[show(mB m m.S.toNat (i*m.I.toNat)).length=i by omega]
   rfl) fuel ((List.replicate m.N.length false).set m.S.toNat true,[m.S],0) ⟨D9 _,by simp only;rw[gV];simp[mB,bfsB,natI];omega,by
    simp only
    rw[gV]
    exact(seen_nil m.N.length).push hs⟩ (by have:=E6;simp only;omega)
 exact⟨L,hL,by rw[hr,A5]⟩
end
end
section
section
variable {m:B6}
end
end
section
def bfs_stay{A:Type}[DecidableEq A]{e:A->Nat->A}{K:Nat}{s0:A}{L:List (A×A2)}(h:aN e K s0 L)(hK:0<K):∀d,bfsB e K s0 (L.length*K+d)=L
 |0=>h.eq.symm
 |d+1=>by
  have ih:=bfs_stay h hK d;show bfsB e K s0 (L.length*K+d+1)=L;rw[bfsB,ih,M2 ?_];have h1:(L.length*K) / K<=(L.length*K+d) / K:=tK (by omega);rw[Nat.mul_div_cancel _ hK]at h1;exact h1
section
variable {a b:B6}
def pE(a b:B6)(p:Nat×Nat)(x:Nat):Nat×Nat:=(nx a p.1 x,nx b p.2 x)
def pB(a b:B6)(p0:Nat×Nat)(r:Nat):List ((Nat×Nat)×A2):=bfsB (pE a b) a.I.toNat p0 r
abbrev PEnd(a b:B6)(p0:Nat×Nat)(L:List ((Nat×Nat)×A2)):Prop:=aN (pE a b) a.I.toNat p0 L
def difB(a b:B6)(p0:Nat×Nat)(r:Nat):Bool:=match (pB a b p0 r)[r / a.I.toNat]? with
 |some x=>decide (ot a x.1.1 (r%a.I.toNat)≠ot b x.1.2 (r%a.I.toNat))
 |none=>false
def jZ{p0:Nat×Nat}{i c:Nat}{x:(Nat×Nat)×A2}(hc:c<a.I.toNat)(hx:(pB a b p0 (i*a.I.toNat+c))[i]?=some x):difB a b p0 (i*a.I.toNat+c)=decide (ot a x.1.1 c≠ot b x.1.2 c):=by
 unfold difB;rw[dW hc,hx,lA hc]
structure Two(a b:B6):Prop where
 a1:K7 a
 b1:K7 b
 inp:a.I=b.I
def iT(T:Two a b){p0:Nat×Nat}(h1:p0.1<a.N.length)(h2:p0.2<b.N.length):∀(r:Nat),∀x∈pB a b p0 r,x.1.1<a.N.length/\x.1.2<b.N.length/\x.2.length<=r/\dest a p0.1 x.2=x.1.1/\dest b p0.2 x.2=x.1.2/\WOk a.I x.2
 |0,x,hx=>by
  have:x=(p0,[]):=by simpa[pB,bfsB]using hx
  subst this;exact⟨h1,h2,H0 _,rfl,rfl,λa ha=>by cases ha⟩
 |r+1,x,hx=>by
  have ih:=iT T h1 h2 r
  have a2:x∈pB a b p0 r->x.1.1<a.N.length/\x.1.2<b.N.length/\x.2.length<=r+1/\dest a p0.1 x.2=x.1.1/\dest b p0.2 x.2=x.1.2/\WOk a.I x.2:=λh=>by
   have:=ih x h;exact⟨this.1,this.2.1,by omega,this.2.2.2⟩
  unfold pB at hx;rw[bfsB]at hx;split at hx
  ·exact a2 hx
  ·rename_i y hy;split at hx
   ·exact a2 hx
   ·rcases J2.1 hx with h|h
    ·exact a2 h
    ·have hK:0<a.I.toNat:=by have:=T.a1.i1;omega
     have a0:=ih y (I8 hy);have ha:=jJ r hK;have a3:x=(pE a b y.1 (r%a.I.toNat),y.2++[(↑(r%a.I.toNat):Int)]):=by simpa using h
     subst a3;refine⟨(T.a1.at a0.1 ha).1,(T.b1.at a0.2.1 (by rw[<- T.inp];exact ha)).1,by simp;omega,?_,?_,?_⟩
     ·simp only;rw[jE,a0.2.2.2.1];show nx a y.1.1 (Int.toNat _)=_;rw[I7];rfl
     ·simp only;rw[jE,a0.2.2.2.2.1];show nx b y.1.2 (Int.toNat _)=_;rw[I7];rfl
     ·refine WOk.append a0.2.2.2.2.2 λz a4=>?_;have:z=(↑(r%a.I.toNat):Int):=by simpa using a4
      subst this;omega
def pB_len(T:Two a b){p0:Nat×Nat}(h1:p0.1<a.N.length)(h2:p0.2<b.N.length)(r:Nat):(pB a b p0 r).length<=a.N.length*b.N.length:=by
 have hn:=lU (e:=pE a b) (K:=a.I.toNat) (s0:=p0) r;have:=jA (l:=(((pB a b p0 r).map Prod.fst).map λp=>p.1*b.N.length+p.2)) (l':=List.range (a.N.length*b.N.length)) ?_ λx hx=>?_
 ·rwa [C3,C3,P3]at this
 ·refine List.Pairwise.map _ (R:=λp q=>p∈(pB a b p0 r).map Prod.fst/\q∈(pB a b p0 r).map Prod.fst/\p≠q) (λp q ⟨hp,hq,a0⟩ he=>?_) (List.Pairwise.imp_of_mem (λ{p q} hp hq a0=>⟨hp,hq,a0⟩) hn);obtain⟨x,hx,rfl⟩:=I3.1 hp;obtain⟨y,hy,rfl⟩:=I3.1 hq;have a2:=(iT T h1 h2 r x hx).2.1;have a3:=(iT T h1 h2 r y hy).2.1;have he:x.1.1*b.N.length+x.1.2=y.1.1*b.N.length+y.1.2:=he;have e1:=dW (i:=x.1.1) a2;have e2:=dW (i:=y.1.1) a3;have e3:=lA (i:=x.1.1) a2;have e4:=lA (i:=y.1.1) a3;rw[he]at e1 e3;exact a0 (Prod.ext (by rw[<- e1,e2]) (by rw[<- e3,e4]))
 ·obtain⟨p,hp,rfl⟩:=I3.1 hx;obtain⟨y,hy,rfl⟩:=I3.1 hp;exact M5.2 (dV (iT T h1 h2 r y hy).1 (iT T h1 h2 r y hy).2.1)
def pB_step{p0:Nat×Nat}{i c:Nat}{x:(Nat×Nat)×A2}(hc:c<a.I.toNat)(hx:(pB a b p0 (i*a.I.toNat+c))[i]?=some x) :
  pB a b p0 (i*a.I.toNat+(c+1))=if pE a b x.1 c∈(pB a b p0 (i*a.I.toNat+c)).map Prod.fst then pB a b p0 (i*a.I.toNat+c) else pB a b p0 (i*a.I.toNat+c)++[(pE a b x.1 c,x.2++[(c:Int)])]:=by
 have h:=bfs_step (e:=pE a b) (s0:=p0) hc hx;by_cases g:pE a b x.1 c∈(pB a b p0 (i*a.I.toNat+c)).map Prod.fst
 ·rw[if_pos g];exact h.trans (if_pos g)
 ·rw[if_neg g];exact h.trans (if_neg g)
def pB_next{p0:Nat×Nat}{i:Nat}:pB a b p0 (i*a.I.toNat+a.I.toNat)=pB a b p0 ((i+1)*a.I.toNat):=by rw[eO]
def pB_get{p0:Nat×Nat}{i r:Nat}{x:(Nat×Nat)×A2}(hx:(pB a b p0 (i*a.I.toNat))[i]?=some x)(hr:i*a.I.toNat<=r):(pB a b p0 r)[i]?=some x:=aZ (dF hr) hx
def Fst(a b:B6)(p0:Nat×Nat)(res:A2×Bool):Prop :=
 (∃i c x,c<a.I.toNat/\(pB a b p0 (i*a.I.toNat+c))[i]?=some x/\ot a x.1.1 c≠ot b x.1.2 c/\(∀r,r<i*a.I.toNat+c->difB a b p0 r=false)/\res=(x.2++[(c:Int)],true)) \/
 (∃L,PEnd a b p0 L/\(∀r,r<L.length*a.I.toNat->difB a b p0 r=false)/\res=([],false))
def fst_uniq(hK:0<a.I.toNat){p0:Nat×Nat}{u v:A2×Bool}(hu:Fst a b p0 u)(hv:Fst a b p0 v):u=v:=by
 have a0:∀{u v:A2×Bool},(∃i c x,c<a.I.toNat/\(pB a b p0 (i*a.I.toNat+c))[i]?=some x/\ot a x.1.1 c≠ot b x.1.2 c/\(∀r,r<i*a.I.toNat+c->difB a b p0 r=false)/\u=(x.2++[(c:Int)],true))->(∃L,PEnd a b p0 L/\(∀r,r<L.length*a.I.toNat->difB a b p0 r=false)/\v=([],false))->False:=by
  rintro u v ⟨i,c,x,h1,h2,h3,h4,_⟩ ⟨L,h6,h7,_⟩;rcases K4 (i*a.I.toNat+c) (L.length*a.I.toNat) with g|g
  ·have:=h7 _ g;rw[jZ h1 h2,G7 h3]at this;cases this
  ·have hs:=bfs_stay h6 hK (i*a.I.toNat+c-L.length*a.I.toNat);rw[show L.length*a.I.toNat+(i*a.I.toNat+c-L.length*a.I.toNat)=i*a.I.toNat+c by omega]at hs;have a2:(bfsB (pE a b) a.I.toNat p0 (i*a.I.toNat+c))[i]?=some x:=h2;rw[hs]at a2;have hi:=(F6.1 a2).1;have:=dV hi h1;omega
 rcases hu with hu|hu<;>rcases hv with hv|hv
 ·obtain⟨i,c,x,h1,h2,h3,h4,rfl⟩:=hu;obtain⟨i',c',x',g1,g2,g3,g4,rfl⟩:=hv
  have hr:i*a.I.toNat+c=i'*a.I.toNat+c':=by
   rcases kR (i*a.I.toNat+c) (i'*a.I.toNat+c') with q|q|q
   ·have:=g4 _ q;rw[jZ h1 h2,G7 h3]at this;cases this
   ·exact q
   ·have:=h4 _ q;rw[jZ g1 g2,G7 g3]at this;cases this
  have e1:i=i':=by rw[<- dW (i:=i) h1,hr,dW g1]
  subst e1;have e2:c=c':=by omega
  subst e2;rw[h2]at g2;injection g2 with g2
  rw[g2]
 ·exact(a0 hu hv).elim
 ·exact(a0 hv hu).elim
 ·obtain⟨_,_,_,rfl⟩:=hu;obtain⟨_,_,_,rfl⟩:=hv;rfl
end
end
section
section
variable {a b:B6}
def plC(x:(Nat×Nat)×A2):X3:=⟨⟨(x.1.1:Int),(x.1.2:Int)⟩,x.2⟩
def prC(x:(Nat×Nat)×A2):Y9:=⟨(x.1.1:Int),(x.1.2:Int),x.2⟩
def gB{V G:Type}{f:V->G}{l:List V}{i:Nat}{x:V}(h:l[i]?=some x):(l.map f)[i]?=some (f x):=by rw[H7,h];rfl
structure SeenG(n k:Nat)(y:List (List Bool))(l:G5):Prop where
 len:y.length=n
 at_:∀s t,s<n->t<k->∃row,y[s]?=some row/\row.length=k/\row[t]?=some (decide ((s,t)∈l))
def pair_mem{l:G5}{p q:Nat×Nat}(h:p≠q):p∈l↔p∈l++[q]:=by
 rw[J2,J3];exact⟨Or.inl,λz=>z.elim id λe=>absurd e h⟩
def SeenG.push{n k s t:Nat}{y:List (List Bool)}{l:G5}{row:List Bool}(S:SeenG n k y l)(hs:s<n)(ht:t<k)(hr:y[s]?=some row):SeenG n k (y.set s (row.set t true)) (l++[(s,t)]):=by
 refine⟨by simp[S.len],λu v hu hv=>?_⟩;obtain⟨a0,h1,h2,h3⟩:=S.at_ u v hu hv;by_cases h:s=u
 ·subst h;rw[hr]at h1;injection h1 with h1
  subst h1;refine⟨row.set t true,by rw[P9 (by rw[S.len];exact hs)],by simp[h2],?_⟩;by_cases g:t=v
  ·subst g;rw[P9 (by omega)];simp
  ·rw[O6 g,h3];congr 1;apply decide_eq_decide.2;exact pair_mem λe=>g (congrArg Prod.snd e).symm
 ·refine⟨a0,by rw[O6 h,h1],h2,?_⟩;rw[h3];congr 1;apply decide_eq_decide.2;exact pair_mem λe=>h (congrArg Prod.fst e).symm
def seenG_nil(n k:Nat):SeenG n k (List.replicate n (List.replicate k false)) []:=⟨by simp,λs t hs ht=>⟨List.replicate k false,by simp[hs],by simp,by simp[ht]⟩⟩
def big_sum{i c n k K:Nat}(hi:i<=n*k)(hn:n<=128)(hk:k<=128)(hK:K<=64)(hc:c<=64):i*K+c<=1048640:=by
 have h1:n*k<=128*128:=kP hn hk;have h2:i*K<=(128*128)*64:=kP (by omega) hK;omega
def search_row(T:Two a b){p0:Nat×Nat}(h1:p0.1<a.N.length)(h2:p0.2<b.N.length){i:Nat}{x:(Nat×Nat)×A2}{y:List (List Bool)}(hi:i<=a.N.length*b.N.length)
  (hx:(pB a b p0 (i*a.I.toNat))[i]?=some x) (S:SeenG a.N.length b.N.length y ((pB a b p0 (i*a.I.toNat)).map Prod.fst)) (hd:∀r,r<i*a.I.toNat->difB a b p0 r=false) :
  ∃r,iter (λ(s:List (List Bool)×List X3×Nat)=>S7.s20 a b i (plC x) s.1 s.2.1 s.2.2) fuel (y,(pB a b p0 (i*a.I.toNat)).map plC,0)=some r /\
   ((∃y',r=.inl (y',(pB a b p0 ((i+1)*a.I.toNat)).map plC)/\SeenG a.N.length b.N.length y' ((pB a b p0 ((i+1)*a.I.toNat)).map Prod.fst)/\∀r,r<(i+1)*a.I.toNat->difB a b p0 r=false) \/
   (∃res,r=.inr (.inr (.inr res))/\Fst a b p0 res)):=by
 have b2:=T.a1.n2;have a9:=T.b1.n2;have hI:=T.a1.i2;have a8:=iT T h1 h2 _ x (I8 hx)
 obtain⟨r,hr,hq⟩:=H4 (step:=λ(s:List (List Bool)×List X3×Nat)=>S7.s20 a b i (plC x) s.1 s.2.1 s.2.2) (λs=>s.2.2<=a.I.toNat/\s.2.1=(pB a b p0 (i*a.I.toNat+s.2.2)).map plC/\SeenG a.N.length b.N.length s.1 ((pB a b p0 (i*a.I.toNat+s.2.2)).map Prod.fst)/\∀r,r<i*a.I.toNat+s.2.2->difB a b p0 r=false) (λs=>a.I.toNat-s.2.2) (λr=>(∃y',r=.inl (y',(pB a b p0 ((i+1)*a.I.toNat)).map plC)/\SeenG a.N.length b.N.length y' ((pB a b p0 ((i+1)*a.I.toNat)).map Prod.fst)/\∀r,r<(i+1)*a.I.toNat->difB a b p0 r=false)\/(∃res,r=.inr (.inr (.inr res))/\Fst a b p0 res)) (λs ⟨q1,q2,q3,q4⟩=>by
  obtain⟨y,l,c⟩:=s
  simp only at q1 q2 q3 q4
  subst q2
  simp only[S7.s20]
  by_cases g:c<a.I.toNat
  ·have a3:=pB_get hx (r:=i*a.I.toNat+c) (by omega)
   obtain⟨g1,_,_,ra,oa,e1,e2,e3,e4⟩:=T.a1.at a8.1 g
   obtain⟨f1,_,_,rb,ob,d1,d2,d3,d4⟩:=T.b1.at a8.2.1 (a:=c) (by rw[<- T.inp];exact g)
   have b5:=big_sum (c:=c) hi b2 a9 (K:=a.I.toNat) (by omega) (by omega)
   have b4:=pB_len T h1 h2 (i*a.I.toNat+c)
   have b7:a.N.length*b.N.length<=128*128:=kP b2 a9
   rw[C0,D6 (n:=(plC x).at_.s) (i:=x.1.1) rfl e2,B4 e4,D6 (n:=(plC x).at_.t) (i:=x.1.2) rfl d2,B4 d4]
   by_cases a4:ot a x.1.1 c≠ot b x.1.2 c
   ·right
    rw[C0 a4,B4 (gB a3)]
    show ∃r,((jD [x.2,[(c:Int)]]).bind _:Option _)=_/\_
    rw[AR _ (by simp) (by simp;omega),A5]
    refine⟨_,rfl,Or.inr ⟨_,rfl,Or.inl ⟨i,c,x,g,a3,a4,q4,?_⟩⟩⟩
    simp
   ·left
    have b6:ot a x.1.1 c=ot b x.1.2 c:=X9 a4
    have a7:∀r,r<i*a.I.toNat+(c+1)->difB a b p0 r=false:=λr hr=>by
     rcases K4 r (i*a.I.toNat+c) with q|q
     ·exact q4 r q
     ·have:r=i*a.I.toNat+c:=by omega
      rw[this,jZ g a3,J0 a4]
    have a0:=pB_step g a3
    obtain⟨row,r1,r2,r3⟩:=q3.at_ _ _ g1 f1
    have b3:x.1∈(pB a b p0 (i*a.I.toNat+c)).map Prod.fst:=I3.2 ⟨x,I8 a3,rfl⟩
    have a5:((cond (!(decide ((↑(nx a x.1.1 c):Int)=(plC x).at_.s)&&(decide ((↑(nx b x.1.2 c):Int)=(plC x).at_.t)&&true))) (idx y (↑(nx a x.1.1 c):Int) λa2=>idx a2 (↑(nx b x.1.2 c):Int) λa6=>some (!a6)) (some false):Option Bool))=some (!decide (pE a b x.1 c∈(pB a b p0 (i*a.I.toNat+c)).map Prod.fst)):=by
     by_cases z:pE a b x.1 c=x.1
     ·have z1:nx a x.1.1 c=x.1.1:=congrArg Prod.fst z
      have z2:nx b x.1.2 c=x.1.2:=congrArg Prod.snd z
      rw[G7 (show(↑(nx a x.1.1 c):Int)=(plC x).at_.s by rw[z1];rfl),G7 (show(↑(nx b x.1.2 c):Int)=(plC x).at_.t by rw[z2];rfl),z,G7 b3]
      rfl
     ·have:(!(decide ((↑(nx a x.1.1 c):Int)=(plC x).at_.s)&&(decide ((↑(nx b x.1.2 c):Int)=(plC x).at_.t)&&true)))=true:=by
       by_cases z1:nx a x.1.1 c=x.1.1
       ·have z2:nx b x.1.2 c≠x.1.2:=λq=>z (Prod.ext z1 q)
        rw[J0 (show ¬(↑(nx b x.1.2 c):Int)=(plC x).at_.t from λq=>z2 (Int.ofNat_inj.1 q))]
        simp
       ·rw[J0 (show ¬(↑(nx a x.1.1 c):Int)=(plC x).at_.s from λq=>z1 (Int.ofNat_inj.1 q))]
        rfl
      rw[this,F8,D6 rfl r1,D6 rfl r3]
      rfl
    rw[B1 a4,D6 (n:=(plC x).at_.s) (i:=x.1.1) rfl e1,B4 e3,D6 (n:=(plC x).at_.t) (i:=x.1.2) rfl d1,B4 d3,a5,A5]
    by_cases hm:pE a b x.1 c∈(pB a b p0 (i*a.I.toNat+c)).map Prod.fst
    ·rw[if_pos hm]at a0
     refine⟨(y,(pB a b p0 (i*a.I.toNat+c)).map plC,c+1),by rw[G7 hm,aS,G0,K3],⟨g,by simp only;rw[a0],by simp only;rw[a0];exact q3,a7⟩,by simp only;omega⟩
    ·rw[if_neg hm]at a0
     refine⟨(y.set (nx a x.1.1 c) (row.set (nx b x.1.2 c) true),(pB a b p0 (i*a.I.toNat+c)).map plC++[plC (pE a b x.1 c,x.2++[(c:Int)])],c+1),?_,⟨g,by simp only;rw[a0,L5];rfl,by simp only;rw[a0,L5];exact q3.push g1 f1 r1,a7⟩,by simp only;omega⟩
     rw[J0 hm,cR,F8,D6 rfl r1,D6 rfl r3,B4 (gB a3)]
     show(jD [x.2,[(c:Int)]]).bind _=_
     rw[AR _ (by simp) (by simp;omega),A5,H1 (by unfold B5;rw[C3];omega),K3,I7,I7]
     simp[plC,pE]
  ·right
   have e':c=a.I.toNat:=by omega
   subst e'
   rw[pB_next]at q3 ⊢
   exact⟨_,by rw[B1],Or.inl ⟨_,rfl,q3,by rw[eO];exact q4⟩⟩) fuel (y,(pB a b p0 (i*a.I.toNat)).map plC,0) ⟨D9 _,rfl,S,hd⟩ (by have:=E6;simp only;omega)
 exact⟨r,hr,hq⟩
def BN(T:Two a b){p0:Nat×Nat}(h1:p0.1<a.N.length)(h2:p0.2<b.N.length):∃res,S7 a b (⟨(p0.1:Int),(p0.2:Int)⟩:eJ)=some res/\Fst a b p0 res:=by
 have a3:=T.a1.n2;have a2:=T.b1.n2;have hI:=T.a1.i2;have a5:a.N.length*b.N.length<=128*128:=kP a3 a2;unfold S7
 have grid:=S1 (step:=λ(s:List (List Bool)×Nat)=>S7.s2 a b s.1 s.2) (r:=List.replicate a.N.length (List.replicate b.N.length false)) (λs=>s.2<=a.N.length/\s.1=List.replicate s.2 (List.replicate b.N.length false)++List.replicate (a.N.length-s.2) []) (λs=>a.N.length-s.2) (λs ⟨q1,q2⟩=>by
  obtain⟨y,k⟩:=s
  simp only at q1 q2
  subst q2
  simp only[S7.s2]
  by_cases g:k<a.N.length
  ·left
   refine⟨(List.replicate (k+1) (List.replicate b.N.length false)++List.replicate (a.N.length-(k+1)) [],k+1),?_,⟨g,rfl⟩,by simp only;omega⟩
   have hk:(List.replicate k (List.replicate b.N.length false)++List.replicate (a.N.length-k) [])[k]?=some []:=by
    rw[V6 (by simp),J6,V1,W4,if_pos (by omega)]
   rw[J6,C0,H1 ⟨by omega,by omega,by unfold B5;omega⟩,B4 hk,K3]
   congr 4
   rw[List.set_append_right _ _ (by simp),J6,V1,show a.N.length-k=(a.N.length-(k+1))+1 by omega,List.replicate_succ,xP,qC (n:=k)]
   simp
  ·right
   have:k=a.N.length:=by omega
   subst this
   rw[J6,B1]
   simp) (n:=fuel) (s:=(List.replicate a.N.length [],0)) ⟨D9 _,by simp⟩ (by have:=E6;simp only;omega)
 obtain⟨row,r1,r2,r3⟩:=(seenG_nil a.N.length b.N.length).at_ _ _ h1 h2;have hS:=(seenG_nil a.N.length b.N.length).push h1 h2 r1;rw[H1 ⟨by omega,by omega,by unfold B5;omega⟩,grid,A5];simp only;rw[D6 rfl r1,D6 rfl r3,I7,I7]
 obtain⟨r,hr,hq⟩:=H4 (step:=λ(s:List (List Bool)×List X3×Nat)=>S7.s22 a b s.1 s.2.1 s.2.2) (λs=>s.2.2<=(pB a b p0 (s.2.2*a.I.toNat)).length/\s.2.1=(pB a b p0 (s.2.2*a.I.toNat)).map plC/\SeenG a.N.length b.N.length s.1 ((pB a b p0 (s.2.2*a.I.toNat)).map Prod.fst)/\∀r,r<s.2.2*a.I.toNat->difB a b p0 r=false) (λs=>a.N.length*b.N.length+1-s.2.2) (λr=>(r=.inl ()/\Fst a b p0 ([],false))\/∃res,r=.inr res/\Fst a b p0 res) (λs ⟨q1,q2,q3,q4⟩=>by
  obtain⟨y,l,i⟩:=s
  simp only at q1 q2 q3 q4
  subst q2
  simp only[S7.s22]
  have a4:=pB_len T h1 h2 (i*a.I.toNat)
  by_cases g:i<(pB a b p0 (i*a.I.toNat)).length
  ·have hx:=get_at g
   generalize (pB a b p0 (i*a.I.toNat))[i]=x at hx
   obtain⟨r,z1,z2⟩:=search_row T h1 h2 (by omega) hx q3 q4
   rw[C0 (by rw[C3];omega),B4 (gB hx),z1,A5]
   rcases z2 with⟨y',rfl,z3,z4⟩|⟨res,rfl,z3⟩
   ·left
    have a0:=(dF (e:=pE a b) (K:=a.I.toNat) (s0:=p0) (show i*a.I.toNat<=(i+1)*a.I.toNat by rw[eO];omega)).length_le
    exact⟨(y',(pB a b p0 ((i+1)*a.I.toNat)).map plC,i+1),rfl,⟨by simp only;unfold pB at g ⊢;omega,rfl,z3,z4⟩,by simp only;omega⟩
   ·right
    exact⟨.inr res,rfl,Or.inr ⟨res,rfl,z3⟩⟩
  ·right
   refine⟨.inl (),by rw[B1 (by rw[C3];omega)],Or.inl ⟨rfl,Or.inr ⟨pB a b p0 (i*a.I.toNat),⟨?_⟩,?_,rfl⟩⟩⟩
   ·rw[show(pB a b p0 (i*a.I.toNat)).length=i by omega]
    rfl
   ·rw[show(pB a b p0 (i*a.I.toNat)).length=i by omega]
    exact q4) fuel ((List.replicate a.N.length (List.replicate b.N.length false)).set p0.1 (row.set p0.2 true),[(⟨(⟨(p0.1:Int),(p0.2:Int)⟩:eJ),[]⟩:X3)],0) ⟨D9 _,by simp only;rw[gV];simp[pB,bfsB,plC],by
    simp only
    rw[gV]
    exact hS,λr hr=>by simp only at hr;omega⟩ (by have:=E6;simp only;omega)
 rw[hr,A5];rcases hq with⟨rfl,hq⟩|⟨res,rfl,hq⟩
 ·exact⟨_,rfl,hq⟩
 ·exact⟨_,rfl,hq⟩
end
end
section
section
variable {a b:B6}
def known_eq{l:List ((Nat×Nat)×A2)}{p q:Nat}(hl:l.length<=1000000):iter (λ(s:Bool×Nat)=>W2.s84 (l.map prC) (p:Int) (q:Int) s.1 s.2) fuel (false,0)=some (decide ((p,q)∈l.map Prod.fst)):=by
 refine S1 (λs=>s.2<=l.length/\(s.1=true↔(p,q)∈(l.take s.2).map Prod.fst)) (λs=>l.length-s.2) (λs hs=>?_) ⟨D9 _,by simp⟩ (by have:=E6;simp only;omega);obtain⟨kn,k⟩:=s;obtain⟨q1,q2⟩:=hs;simp only at q1 q2;simp only[W2.s84];by_cases g:k<l.length
 ·left;have hx:=get_at g;generalize l[k]=x at hx
  have ht:(l.take (k+1)).map Prod.fst=(l.take k).map Prod.fst++[x.1]:=by
   rw[bC hx,L5];rfl
  rw[C0 (by rw[C3];omega)];cases kn with
  |true =>
   exact⟨(true,k+1),by rw[F8],⟨g,by simp only;rw[ht];exact⟨λ_=>L6 _ (q2.1 rfl),λ_=>trivial⟩⟩,by simp only;omega⟩
  |false =>
   have hn:¬(p,q)∈(l.take k).map Prod.fst:=λz=>by have:=q2.2 z;cases this
   have e1:((p,q)∈(l.take (k+1)).map Prod.fst)↔x.1.1=p/\x.1.2=q:=by
    rw[ht,J2];constructor
    ·rintro (z|z)
     ·exact absurd z hn
     ·have z:(p,q)=x.1:=by simpa using z
      rw[<- z];exact⟨rfl,rfl⟩
    ·rintro⟨z1,z2⟩;right;simp[<- z1,<- z2]
   rw[G0,B4 (gB hx),B4 (gB hx)];have hS:(prC x).S=(x.1.1:Int):=rfl;have hT:(prC x).T=(x.1.2:Int):=rfl;by_cases z1:x.1.1=p
   ·refine⟨(decide ((prC x).T=(q:Int)),k+1),by rw[C0 (show(prC x).S=(p:Int) by omega)],⟨g,?_⟩,by simp only;omega⟩;show decide ((prC x).T=(q:Int))=true↔_;rw[e1,decide_eq_true_iff];constructor
    ·exact λz=>⟨z1,by omega⟩
    ·exact λz=>by have:=z.2;omega
   ·refine⟨(false,k+1),by rw[B1 (show ¬(prC x).S=(p:Int) by omega)],⟨g,?_⟩,by simp only;omega⟩;show false=true↔_;rw[e1];exact⟨λz=>(by cases z),λz=>absurd z.1 z1⟩
 ·right;have:k=l.length:=by omega
  subst this;rw[V2]at q2;rw[B1 (by rw[C3];omega)];cases kn with
  |true=>rw[G7 (q2.1 rfl)]
  |false=>rw[J0 (λz=>by have:=q2.2 z;cases this)]
def first_row(T:Two a b){p0:Nat×Nat}(h1:p0.1<a.N.length)(h2:p0.2<b.N.length){i:Nat}{x:(Nat×Nat)×A2}(hi:i<=a.N.length*b.N.length)
  (hx:(pB a b p0 (i*a.I.toNat))[i]?=some x) (hd:∀r,r<i*a.I.toNat->difB a b p0 r=false) :
  ∃r,iter (λ(s:List Y9×Nat)=>W2.s85 a b i s.1 s.2) fuel ((pB a b p0 (i*a.I.toNat)).map prC,0)=some r /\
   ((r=.inl ((pB a b p0 ((i+1)*a.I.toNat)).map prC)/\∀r,r<(i+1)*a.I.toNat->difB a b p0 r=false) \/
   (∃res,r=.inr (.inr (.inr res))/\Fst a b p0 res)):=by
 have a8:=T.a1.n2;have a6:=T.b1.n2;have hI:=T.a1.i2;have a5:=iT T h1 h2 _ x (I8 hx)
 obtain⟨r,hr,hq⟩:=H4 (step:=λ(s:List Y9×Nat)=>W2.s85 a b i s.1 s.2) (λs=>s.2<=a.I.toNat/\s.1=(pB a b p0 (i*a.I.toNat+s.2)).map prC/\∀r,r<i*a.I.toNat+s.2->difB a b p0 r=false) (λs=>a.I.toNat-s.2) (λr=>(r=.inl ((pB a b p0 ((i+1)*a.I.toNat)).map prC)/\∀r,r<(i+1)*a.I.toNat->difB a b p0 r=false)\/(∃res,r=.inr (.inr (.inr res))/\Fst a b p0 res)) (λs ⟨q1,q2,q4⟩=>by
  obtain⟨l,c⟩:=s
  simp only at q1 q2 q4
  subst q2
  simp only[W2.s85]
  by_cases g:c<a.I.toNat
  ·have a2:=pB_get hx (r:=i*a.I.toNat+c) (by omega)
   obtain⟨g1,_,_,ra,oa,e1,e2,e3,e4⟩:=T.a1.at a5.1 g
   obtain⟨f1,_,_,rb,ob,d1,d2,d3,d4⟩:=T.b1.at a5.2.1 (a:=c) (by rw[<- T.inp];exact g)
   have a9:=big_sum (c:=c) hi a8 a6 (K:=a.I.toNat) (by omega) (by omega)
   have b2:=pB_len T h1 h2 (i*a.I.toNat+c)
   have b3:a.N.length*b.N.length<=128*128:=kP a8 a6
   have a7:oZ (prC x).Word (c:Int)=some (x.2++[(c:Int)]):=by
    unfold oZ
    show chk (B5 x.2.length 8) (chk (B5 (x.2.length+1) 8) _)=_
    rw[Q1,Q1]
    rfl
   rw[C0,B4 (gB a2),a7,A5,B4 (gB a2),D6 (n:=(prC x).S) (i:=x.1.1) rfl e2,B4 e4,B4 (gB a2),D6 (n:=(prC x).T) (i:=x.1.2) rfl d2,B4 d4]
   by_cases a3:ot a x.1.1 c≠ot b x.1.2 c
   ·right
    rw[C0 a3]
    exact⟨_,rfl,Or.inr ⟨_,rfl,Or.inl ⟨i,c,x,g,a2,a3,q4,rfl⟩⟩⟩
   ·left
    have a4:∀r,r<i*a.I.toNat+(c+1)->difB a b p0 r=false:=λr hr=>by
     rcases K4 r (i*a.I.toNat+c) with q|q
     ·exact q4 r q
     ·have:r=i*a.I.toNat+c:=by omega
      rw[this,jZ g a2,J0 a3]
    have a0:=pB_step g a2
    rw[B1 a3,B4 (gB a2),D6 (n:=(prC x).S) (i:=x.1.1) rfl e1,B4 e3,B4 (gB a2),D6 (n:=(prC x).T) (i:=x.1.2) rfl d1,B4 d3,known_eq (by omega),A5]
    by_cases hm:pE a b x.1 c∈(pB a b p0 (i*a.I.toNat+c)).map Prod.fst
    ·rw[if_pos hm]at a0
     refine⟨((pB a b p0 (i*a.I.toNat+c)).map prC,c+1),by rw[G7 (show(nx a x.1.1 c,nx b x.1.2 c)∈_ from hm),aS,G0,K3],⟨g,by simp only;rw[a0],a4⟩,by simp only;omega⟩
    ·rw[if_neg hm]at a0
     refine⟨((pB a b p0 (i*a.I.toNat+c)).map prC++[prC (pE a b x.1 c,x.2++[(c:Int)])],c+1),?_,⟨g,by simp only;rw[a0,L5];rfl,a4⟩,by simp only;omega⟩
     rw[J0 (show ¬(nx a x.1.1 c,nx b x.1.2 c)∈_ from hm),cR,F8,H1 (by unfold B5;rw[C3];omega),K3]
     rfl
  ·right
   have e':c=a.I.toNat:=by omega
   subst e'
   rw[pB_next]
   exact⟨_,by rw[B1],Or.inl ⟨rfl,by rw[eO];exact q4⟩⟩) fuel ((pB a b p0 (i*a.I.toNat)).map prC,0) ⟨D9 _,rfl,hd⟩ (by have:=E6;simp only;omega)
 exact⟨r,hr,hq⟩
def R09_first_eq(T:Two a b){p0:Nat×Nat}(h1:p0.1<a.N.length)(h2:p0.2<b.N.length):∃res,W2 a b (p0.1:Int) (p0.2:Int)=some res/\Fst a b p0 res:=by
 have a3:=T.a1.n2;have a2:=T.b1.n2;have a5:a.N.length*b.N.length<=128*128:=kP a3 a2;unfold W2
 obtain⟨r,hr,hq⟩:=H4 (step:=λ(s:List Y9×Nat)=>W2.s86 a b s.1 s.2) (λs=>s.2<=(pB a b p0 (s.2*a.I.toNat)).length/\s.1=(pB a b p0 (s.2*a.I.toNat)).map prC/\∀r,r<s.2*a.I.toNat->difB a b p0 r=false) (λs=>a.N.length*b.N.length+1-s.2) (λr=>(r=.inl ()/\Fst a b p0 ([],false))\/∃res,r=.inr res/\Fst a b p0 res) (λs ⟨q1,q2,q4⟩=>by
  obtain⟨l,i⟩:=s
  simp only at q1 q2 q4
  subst q2
  simp only[W2.s86]
  have a4:=pB_len T h1 h2 (i*a.I.toNat)
  by_cases g:i<(pB a b p0 (i*a.I.toNat)).length
  ·have hx:=get_at g
   generalize (pB a b p0 (i*a.I.toNat))[i]=x at hx
   obtain⟨r,z1,z2⟩:=first_row T h1 h2 (by omega) hx q4
   rw[C0 (by rw[C3];omega),z1,A5]
   rcases z2 with⟨rfl,z4⟩|⟨res,rfl,z3⟩
   ·left
    have a0:=(dF (e:=pE a b) (K:=a.I.toNat) (s0:=p0) (show i*a.I.toNat<=(i+1)*a.I.toNat by rw[eO];omega)).length_le
    exact⟨((pB a b p0 ((i+1)*a.I.toNat)).map prC,i+1),rfl,⟨by simp only;unfold pB at g ⊢;omega,rfl,z4⟩,by simp only;omega⟩
   ·right
    exact⟨.inr res,rfl,Or.inr ⟨res,rfl,z3⟩⟩
  ·right
   refine⟨.inl (),by rw[B1 (by rw[C3];omega)],Or.inl ⟨rfl,Or.inr ⟨pB a b p0 (i*a.I.toNat),⟨?_⟩,?_,rfl⟩⟩⟩
   ·rw[show(pB a b p0 (i*a.I.toNat)).length=i by omega]
    rfl
   ·rw[show(pB a b p0 (i*a.I.toNat)).length=i by omega]
    exact q4) fuel ([(⟨(p0.1:Int),(p0.2:Int),[]⟩:Y9)],0) ⟨D9 _,by simp only;rw[gV];simp[pB,bfsB,prC],λr hr=>by simp only at hr;omega⟩ (by have:=E6;simp only;omega)
 rw[hr,A5];rcases hq with⟨rfl,hq⟩|⟨res,rfl,hq⟩
 ·exact⟨_,rfl,hq⟩
 ·exact⟨_,rfl,hq⟩
def fst_none{p0:Nat×Nat}{w0:A2}(h:Fst a b p0 (w0,false)):∀w,WOk a.I w->outs a p0.1 w=outs b p0.2 w:=by
 rcases h with⟨i,c,x,_,_,_,_,g⟩|⟨L,g1,g2,_⟩
 ·injection g with _ g
  cases g
 ·have key:∀(w:A2) (i:Nat) (x:(Nat×Nat)×A2),L[i]?=some x->WOk a.I w->outs a x.1.1 w=outs b x.1.2 w:=by
   intro w
   induction w with
   |nil=>intro _ _ _ _;rfl
   |cons z w ih =>
    intro i x hx hw;have hz:=hw.head;have hc:z.toNat<a.I.toNat:=by omega
    have hi:=(F6.1 hx).1;obtain⟨x',e1,e2⟩:=g1.long hi hc;rw[hx]at e1;injection e1 with e1
    subst e1;have hd:=g2 (i*a.I.toNat+z.toNat) (dV hi hc);rw[jZ hc e2]at hd
    have a0:ot a x.1.1 z.toNat=ot b x.1.2 z.toNat:=X9 λq=>by
     rw[G7 q]at hd;cases hd
    obtain⟨j,y,f1,f2,_⟩:=g1.closed hx hc;have:=ih j y f1 hw.tail;rw[f2]at this;show ot a x.1.1 z.toNat::outs a (nx a x.1.1 z.toNat) w=ot b x.1.2 z.toNat::outs b (nx b x.1.2 z.toNat) w;rw[a0];congr 1
  exact λw hw=>key w 0 _ g1.first hw
end
end
section
def leastR{p:Nat->Prop}:∀{r:Nat},p r->∃q,p q/\∀q',q'<q->¬p q':=λ{r} h=>by
 induction r using Nat.strongRecOn with
 |ind r ih =>
  by_cases g:∃q,q<r/\p q
  ·obtain⟨q,h1,h2⟩:=g;exact ih q h1 h2
  ·exact⟨r,h,λq' hq hp=>g ⟨q',hq,hp⟩⟩
structure Can(M:B6):Prop where
 c4:∀i a u,i<M.N.length->a<M.I.toNat->0<u->u<=nx M i a->∃i' a',a'<M.I.toNat/\i'*M.I.toNat+a'<=i*M.I.toNat+a/\i'<u/\nx M i' a'=u
 c5:∀u,0<u->u<M.N.length->∃i a,i<u/\a<M.I.toNat/\nx M i a=u
def Eqv(a:B6)(s:Nat)(b:B6)(t:Nat):Prop:=∀w,WOk a.I w->outs a s w=outs b t w
structure gY(m M:B6):Prop where
 ok:K7 M
 inp:M.I=m.I
 start:M.S=0
 eqv:Eqv M 0 m m.S.toNat
 min:∀i j,i<M.N.length->j<M.N.length->Eqv M i M j->i=j
 can:Can M
def Eqv.step{a b:B6}(hi:a.I=b.I){s t c:Nat}(h:Eqv a s b t)(hc:c<a.I.toNat):ot a s c=ot b t c/\Eqv a (nx a s c) b (nx b t c):=by
 have key:∀w,WOk a.I w->ot a s c::outs a (nx a s c) w=ot b t c::outs b (nx b t c) w:=λw hw=>by
  have:=h ((c:Int)::w) (λx hx=>by
   rcases L8.1 hx with rfl|hx
   ·omega
   ·exact hw x hx)
  exact this
 have h0:=key [] (λx hx=>by cases hx);injection h0 with h0 _
 refine⟨h0,λw hw=>?_⟩;have:=key w hw;injection this with _ this
def Eqv.symm{a b:B6}(hi:a.I=b.I){s t:Nat}(h:Eqv a s b t):Eqv b t a s:=λw hw=>(h w (by rw[hi];exact hw)).symm
def Eqv.trans{a b c:B6}(hi:a.I=b.I){s t u:Nat}(h:Eqv a s b t)(g:Eqv b t c u):Eqv a s c u:=λw hw=>(h w hw).trans (g w (by rw[<- hi];exact hw))
def Eqv.dest{a b:B6}(hi:a.I=b.I){s t:Nat}(h:Eqv a s b t){w:A2}(hw:WOk a.I w):Eqv a (dest a s w) b (dest b t w):=λv hv=>by
 have:=h (w++v) (hw.append hv);rw[oR,oR]at this;exact List.append_inj_right this (by rw[kB,kB])
section
variable {M M':B6}
def can_match(HM:K7 M)(HM':K7 M')(hi:M.I=M'.I)(hmin:∀i j,i<M.N.length->j<M.N.length->Eqv M i M j->i=j)(hmin':∀i j,i<M'.N.length->j<M'.N.length->Eqv M' i M' j->i=j)(C:Can M)(C':Can M')(h0:Eqv M 0 M' 0) :
  ∀u,u<M.N.length->u<M'.N.length/\Eqv M u M' u:=by
 intro u
 induction u using Nat.strongRecOn with
 |ind u ih =>
  intro hu;by_cases hz:u=0
  ·subst hz;exact⟨HM'.n1,h0⟩
  obtain⟨i0,a0,b1,b2,b3⟩:=C.c5 u (by omega) hu;have hK:0<M.I.toNat:=by omega
  obtain⟨r,⟨⟨i,a,p1,p2,p3,p4⟩,a3⟩⟩:∃r,(∃i a,i<M.N.length/\a<M.I.toNat/\r=i*M.I.toNat+a/\nx M i a=u)/\∀r',r'<r->¬ ∃i a,i<M.N.length/\a<M.I.toNat/\r'=i*M.I.toNat+a/\nx M i a=u :=
   leastR (p:=λr=>∃i a,i<M.N.length/\a<M.I.toNat/\r=i*M.I.toNat+a/\nx M i a=u) (r:=i0*M.I.toNat+a0) ⟨i0,a0,by omega,b2,rfl,b3⟩
  have b5:i<u:=by
   rcases K4 i u with q|q
   ·exact q
   ·exfalso;refine a3 (i0*M.I.toNat+a0) ?_ ⟨i0,a0,by omega,b2,rfl,b3⟩;have:=dV (show i0<i by omega) b2;omega
  obtain⟨a8,hR⟩:=ih i b5 p1;obtain⟨_,a4⟩:=hR.step hi p2;rw[p4]at a4;have a6:a<M'.I.toNat:=by rw[<- hi];exact p2
  have a5:=(HM'.at a8 a6).1
  have a7:∀i' a',i'<M.N.length->a'<M.I.toNat->i'*M.I.toNat+a'<r->nx M i' a'<u:=λi' a' g1 g2 g3=>by
   rcases K4 (nx M i' a') u with q|q
   ·exact q
   ·exfalso;obtain⟨i2,a2,z1,z2,z3,z4⟩:=C.c4 i' a' u g1 g2 (by omega) q;exact a3 (i2*M.I.toNat+a2) (by omega) ⟨i2,a2,by omega,z1,rfl,z4⟩
  rcases kR (nx M' i a) u with q|q|q
  ·exfalso;obtain⟨_,hv⟩:=ih _ q (by omega);have:=hmin u (nx M' i a) hu (by omega) (a4.trans hi (hv.symm hi));omega
  ·rw[q]at a4 a5;exact⟨a5,a4⟩
  ·exfalso;obtain⟨i2,a2,z1,z2,z3,z4⟩:=C'.c4 i a u a8 a6 (by omega) (by omega);rw[<- hi]at z1 z2;obtain⟨w1,w2⟩:=ih i2 z3 (by omega);obtain⟨_,w3⟩:=w2.step hi z1;rw[z4]at w3
   have a9:i2*M.I.toNat+a2<r:=by
    rcases K4 (i2*M.I.toNat+a2) r with g|g
    ·exact g
    ·exfalso;have he:i2*M.I.toNat+a2=i*M.I.toNat+a:=by omega
     have e1:i2=i:=by rw[<- dW (i:=i2) z1,he,dW p2]
     subst e1;have e2:a2=a:=by omega
     subst e2;omega
   have hv:=a7 i2 a2 (by omega) z1 a9;obtain⟨v1,v2⟩:=ih _ hv (by omega);have b4:u<M'.N.length:=by omega
   have:=hmin' (nx M i2 a2) u v1 b4 ((v2.symm hi).trans hi.symm w3);omega
def row_ext{l l':A4}{n k:Nat}{g:Nat->Nat->Int}(h1:l.length=n)(h2:l'.length=n)(h:∀i,i<n->∃x y,l[i]?=some x/\l'[i]?=some y/\x.length=k/\y.length=k/\∀a,a<k->x[a]?=some (g i a)/\y[a]?=some (g i a)):l=l':=by
 refine aC λi=>?_;rcases K4 i n with g1|g1
 ·obtain⟨x,y,e1,e2,e3,e4,e5⟩:=h i g1;rw[e1,e2];congr 1;refine aC λa=>?_;rcases K4 a k with g2|g2
  ·rw[(e5 a g2).1,(e5 a g2).2]
  ·rw[M2 (by omega),M2 (by omega)]
 ·rw[M2 (by omega),M2 (by omega)]
def minsem_uniq{m:B6}(S:gY m M)(S':gY m M'):M=M':=by
 have hi:M.I=M'.I:=S.inp.trans S'.inp.symm;have h0:Eqv M 0 M' 0:=S.eqv.trans S.inp (S'.eqv.symm S'.inp);have A:=can_match S.ok S'.ok hi S.min S'.min S.can S'.can h0;have B:=can_match S'.ok S.ok hi.symm S'.min S.min S'.can S.can (h0.symm hi)
 have hn:M.N.length=M'.N.length:=by
  have p1:=S.ok.n1;have p2:=S'.ok.n1;have a1:=(A (M.N.length-1) (by omega)).1;have b1:=(B (M'.N.length-1) (by omega)).1;omega
 have hx:∀i a,i<M.N.length->a<M.I.toNat->nx M i a=nx M' i a/\ot M i a=ot M' i a:=λi a h1 h2=>by
  obtain⟨e1,e2⟩:=(A i h1).2.step hi h2;refine⟨?_,e1⟩;have g1:=(S.ok.at h1 h2).1;have g2:=(S'.ok.at (show i<M'.N.length by omega) (a:=a) (by rw[<- hi];exact h2)).1;have e3:=(A _ g1).2;exact S'.min _ _ (by omega) g2 ((e3.symm hi).trans hi.symm e2)
 have hN:M.N=M'.N:=row_ext (n:=M.N.length) (k:=M.I.toNat) (g:=λi a=>(↑(nx M i a):Int)) rfl hn.symm λi h=>by
  obtain⟨x,y,e1,e2,e3,e4,_⟩:=S.ok.row i h;obtain⟨x',y',f1,f2,f3,f4,_⟩:=S'.ok.row i (by omega);refine⟨x,x',e1,f1,by omega,by omega,λa ha=>?_⟩;obtain⟨_,_,_,z,z',g1,_,g2,_⟩:=S.ok.at h ha;obtain⟨_,_,_,v,v',k1,_,k2,_⟩:=S'.ok.at (show i<M'.N.length by omega) (a:=a) (by rw[<- hi];exact ha);rw[e1]at g1;rw[f1]at k1;injection g1 with g1
  injection k1 with k1
  subst g1;subst k1;exact⟨g2,by rw[k2,(hx i a h ha).1]⟩
 have hO:M.O=M'.O:=row_ext (n:=M.N.length) (k:=M.I.toNat) (g:=λi a=>ot M i a) S.ok.ol (S'.ok.ol.trans hn.symm) λi h=>by
  obtain⟨x,y,e1,e2,e3,e4,_⟩:=S.ok.row i h;obtain⟨x',y',f1,f2,f3,f4,_⟩:=S'.ok.row i (by omega);refine⟨y,y',e2,f2,by omega,by omega,λa ha=>?_⟩;obtain⟨_,_,_,z,z',_,g1,_,g2⟩:=S.ok.at h ha;obtain⟨_,_,_,v,v',_,k1,_,k2⟩:=S'.ok.at (show i<M'.N.length by omega) (a:=a) (by rw[<- hi];exact ha);rw[e2]at g1;rw[f2]at k1;injection g1 with g1
  injection k1 with k1
  subst g1;subst k1;exact⟨g2,by rw[k2,(hx i a h ha).2]⟩
 have hs:M.S=M'.S:=S.start.trans S'.start.symm;obtain⟨a1,a2,a3,a4⟩:=M;obtain⟨b1,b2,b3,b4⟩:=M';simp only at hi hs hN hO;rw[hi,hs,hN,hO]
end
structure Shape{A:Type}[DecidableEq A](e:A->Nat->A)(o:A->Nat->Int)(L:List (A×A2))(M:B6):Prop where
 len:M.N.length=L.length
 row:∀i x a,L[i]?=some x->a<M.I.toNat->∃y,L[nx M i a]?=some y/\y.1=e x.1 a/\ot M i a=o x.1 a
def nodup_at{A:Type}{l:List A}(h:l.Nodup){i j:Nat}{x:A}(hi:l[i]?=some x)(hj:l[j]?=some x):i=j:=by
 have h1:=(F6.1 hi);have h2:=(F6.1 hj);obtain⟨a1,a2⟩:=h1;obtain⟨b1,b2⟩:=h2;rcases kR i j with q|q|q
 ·exact absurd (a2.trans b2.symm) (iQ.1 h i j a1 b1 q)
 ·exact q
 ·exact absurd (b2.trans a2.symm) (iQ.1 h j i b1 a1 q)
def shape_can{A:Type}[DecidableEq A]{e:A->Nat->A}{o:A->Nat->Int}{s0:A}{L:List (A×A2)}{M:B6}(hE:aN e M.I.toNat s0 L)(S:Shape e o L M)(hK:0<M.I.toNat):Can M:=by
 have at_:∀i a x y j,L[i]?=some x->a<M.I.toNat->L[j]?=some y->y.1=e x.1 a->nx M i a=j:=λi a x y j hx ha hj he=>by
  obtain⟨y',h1,h2,_⟩:=S.row i x a hx ha;exact nodup_at hE.nodup (x:=e x.1 a) (by rw[H7,h1,<- h2];rfl) (by rw[H7,hj,<- he];rfl)
 refine⟨λi a u hi ha hu a0=>?_,λu hu a2=>?_⟩
 ·have hx:=get_at (l:=L) (i:=i) (by rw[<- S.len];exact hi);obtain⟨j,y,h1,h2,h3⟩:=hE.closed hx ha;rw[at_ i a _ y j hx ha h1 h2]at a0;obtain⟨i',a',z,w,g1,g2,g3,g4,g5,g6⟩:=h3 u hu a0;exact⟨i',a',g1,g2,g3,at_ i' a' z w u g4 g1 g5 g6⟩
 ·have hx:=get_at (l:=L) (i:=u) (by rw[<- S.len];exact a2);rcases hE.from hK hx with q|⟨i,a,y,g1,g2,g3,g4⟩
  ·omega
  ·exact⟨i,a,g1,g2,at_ i a y _ u g3 g2 hx (by rw[g4])⟩
end
section
section
variable {m:B6}
def libclone_w{w:A2}(h:w.length<=1000000):mQ w=some w:=BC (by unfold SmW;omega)
structure TrimOk(m t:B6)(L:List (Nat×A2)):Prop where
 end_:MEnd m m.S.toNat L
 inp:t.I=m.I
 start:t.S=0
 ok:K7 t
 shape:Shape (nx m) (ot m) L t
def mEnd_rng(H:K7 m){s0:Nat}{L:List (Nat×A2)}(hs:s0<m.N.length)(hE:MEnd m s0 L):L.length<=m.N.length/\∀x∈L,x.1<m.N.length/\dest m s0 x.2=x.1/\WOk m.I x.2:=by
 refine⟨?_,λx hx=>?_⟩
 ·rw[hE.eq];exact mB_len H hs _
 ·rw[hE.eq]at hx;have:=mB_rng H hs _ x hx;exact⟨this.1,this.2.2⟩
def mealy_Trim_eq(hv:S4 m=0):∃t L,S6 m=some (t,0)/\TrimOk m t L:=by
 have H:=dZ hv;have b8:=H.st;have hn:=H.n2;have hI:=H.i2;have b3:=H.i1;have hs:m.S.toNat<m.N.length:=by omega
 obtain⟨L,hE,hR⟩:=BE hv;obtain⟨b7,a2⟩:=mEnd_rng H hs hE;have b2:=hE.nodup;unfold S6;rw[kN,A5,hv,B1 (by decide),hR,A5,H1 ⟨by omega,by omega,by unfold B5;omega⟩]
 -- the numbers
 obtain⟨num,a6,b5,a8⟩:=H4 (step:=λ(s:A2×Nat)=>S6.s2 (natI (L.map Prod.fst)) s.1 s.2) (λs=>s.2<=L.length/\s.1.length=m.N.length/\∀(j:Nat) (x:Nat×A2),j<s.2->L[j]?=some x->s.1[x.1]?=some (j:Int)) (λs=>L.length-s.2) (λr=>r.length=m.N.length/\∀(j:Nat) (x:Nat×A2),L[j]?=some x->r[x.1]?=some (j:Int)) (λs ⟨q1,q2,q3⟩=>by
  obtain⟨y,i⟩:=s
  simp only at q1 q2 q3
  simp only[S6.s2]
  by_cases g:i<L.length
  ·left
   have hx:=get_at g
   generalize L[i]=x at hx
   have a0:=(a2 x (I8 hx)).1
   have hy:=get_at (l:=y) (i:=x.1) (by omega)
   refine⟨(y.set x.1 (i:Int),i+1),?_,⟨g,by simp[q2],λj z hj hz=>?_⟩,by simp only;omega⟩
   ·rw[C0 (by rw[dH,C3];omega),B4 (nR (i:=i) (u:=x.1) (by rw[H7,hx];rfl)),D6 rfl hy,I7]
   ·simp only
    by_cases e:x.1=z.1
    ·have:i=j:=nodup_at b2 (x:=x.1) (by rw[H7,hx];rfl) (by rw[H7,hz,e];rfl)
     subst this
     rw[<- e,P9 (by omega)]
    ·rw[O6 e]
     rcases K4 j i with h|h
     ·exact q3 j z h hz
     ·have:j=i:=by simp only at hj;omega
      subst this
      rw[hx]at hz
      injection hz with hz
      rw[hz]at e
      exact absurd rfl e
  ·right
   exact⟨y,by rw[B1 (by rw[dH,C3];omega)],q2,λj x hx=>q3 j x (by have:=(F6.1 hx).1;omega) hx⟩) fuel (List.replicate m.N.length 0,0) ⟨D9 _,by simp,λj x h=>absurd h (N9 _)⟩ (by have:=E6;simp only;omega)
 rw[a6,A5]
 -- one row
 have a7:∀(x:Nat×A2) (row:A2),x∈L->m.N[x.1]?=some row->∃r,iter (λ(s:A2×Nat)=>S6.s15 num row s.1 s.2) fuel (List.replicate (Int.toNat m.I) 0,0)=some r/\r.length=m.I.toNat/\∀a,a<m.I.toNat->∃(j:Nat) (y:Nat×A2),L[j]?=some y/\y.1=nx m x.1 a/\r[a]?=some (j:Int):=by
  intro x row hx a3;have a0:=(a2 x hx).1
  have b4:row.length=m.I.toNat:=by
   obtain⟨x',y',h1,_,h3,_⟩:=H.row x.1 a0;rw[a3]at h1;injection h1 with h1
   subst h1;omega
  obtain⟨i,hi⟩:=List.mem_iff_getElem?.1 hx
  exact H4 (step:=λ(s:A2×Nat)=>S6.s15 num row s.1 s.2) (λs=>s.2<=m.I.toNat/\s.1.length=m.I.toNat/\∀a,a<s.2->∃(j:Nat) (y:Nat×A2),L[j]?=some y/\y.1=nx m x.1 a/\s.1[a]?=some (j:Int)) (λs=>m.I.toNat-s.2) (λr=>r.length=m.I.toNat/\∀a,a<m.I.toNat->∃(j:Nat) (y:Nat×A2),L[j]?=some y/\y.1=nx m x.1 a/\r[a]?=some (j:Int)) (λs ⟨q1,q2,q3⟩=>by
   obtain⟨y,a⟩:=s
   simp only at q1 q2 q3
   simp only[S6.s15]
   by_cases g:a<m.I.toNat
   ·left
    obtain⟨h1,_,_,x',y',h2,_,h4,_⟩:=H.at a0 g
    rw[a3]at h2
    injection h2 with h2
    subst h2
    obtain⟨j,z,z1,z2,_⟩:=hE.closed hi g
    have hy:=get_at (l:=y) (i:=a) (by omega)
    have a5:=a8 j z z1
    rw[z2]at a5
    refine⟨(y.set a (j:Int),a+1),?_,⟨g,by simp[q2],λb hb=>?_⟩,by simp only;omega⟩
    ·rw[C0,B4 h4,D6 rfl a5,B4 hy]
    ·simp only
     by_cases e:a=b
     ·subst e
      exact⟨j,z,z1,z2,by rw[P9 (by omega)]⟩
     ·obtain⟨j',z',w1,w2,w3⟩:=q3 b (by simp only at hb;omega)
      exact⟨j',z',w1,w2,by rw[O6 e,w3]⟩
   ·right
    have:a=m.I.toNat:=by omega
    subst this
    exact⟨y,by rw[B1],q2,q3⟩) fuel (List.replicate (Int.toNat m.I) 0,0) ⟨D9 _,by simp,λa h=>absurd h (N9 _)⟩ (by have:=E6;simp only;omega)
 -- all rows
 obtain⟨r,hr,P,Q,rfl,p1,p2,p3⟩:=H4 (step:=λ(s:A4×A4×Nat)=>S6.s16 m (natI (L.map Prod.fst)) num s.1 s.2.1 s.2.2) (λs=>s.2.2<=L.length/\s.1.length=s.2.2/\s.2.1.length=s.2.2/\∀(i:Nat) (x:Nat×A2),i<s.2.2->L[i]?=some x->(∃r,s.1[i]?=some r/\r.length=m.I.toNat/\∀a,a<m.I.toNat->∃(j:Nat) (y:Nat×A2),L[j]?=some y/\y.1=nx m x.1 a/\r[a]?=some (j:Int))/\s.2.1[i]?=m.O[x.1]?) (λs=>L.length-s.2.2) (λr=>∃P Q,r=(P,Q)/\P.length=L.length/\Q.length=L.length/\∀(i:Nat) (x:Nat×A2),L[i]?=some x->(∃r,P[i]?=some r/\r.length=m.I.toNat/\∀a,a<m.I.toNat->∃(j:Nat) (y:Nat×A2),L[j]?=some y/\y.1=nx m x.1 a/\r[a]?=some (j:Int))/\Q[i]?=m.O[x.1]?) (λs ⟨q1,q2,q3,q4⟩=>by
  obtain⟨P,Q,i⟩:=s
  simp only at q1 q2 q3 q4
  simp only[S6.s16]
  by_cases g:i<L.length
  ·left
   have hx:=get_at g
   generalize L[i]=x at hx
   have a4:=I8 hx
   have a0:=(a2 x a4).1
   obtain⟨row,out,e1,e2,e3,e4,_⟩:=H.row x.1 a0
   obtain⟨r,f1,f2,f3⟩:=a7 x row a4 e1
   refine⟨(P++[r],Q++[out],i+1),?_,⟨g,by simp[q2],by simp[q3],λj z hj hz=>?_⟩,by simp only;omega⟩
   ·rw[C0 (by rw[dH,C3];omega),B4 (nR (i:=i) (u:=x.1) (by rw[H7,hx];rfl)),H1 ⟨by omega,by omega,by unfold B5;omega⟩,D6 rfl e1,f1,A5,Q1,D6 rfl e2,libclone_w (by omega),A5,Q1]
   ·simp only
    rcases K4 j i with h|h
    ·obtain⟨⟨r',w1,w2⟩,w3⟩:=q4 j z h hz
     exact⟨⟨r',by rw[P2 (by omega),w1],w2⟩,by rw[P2 (by omega),w3]⟩
    ·have:j=i:=by simp only at hj;omega
     subst this
     rw[hx]at hz
     injection hz with hz
     subst hz
     refine⟨⟨r,?_,f2,f3⟩,?_⟩
     ·rw[V6 (by omega),q2,V1]
      rfl
     ·rw[V6 (by omega),q3,V1,e2]
      rfl
  ·right
   have:i=L.length:=by omega
   subst this
   exact⟨_,by rw[B1 (by rw[dH,C3];omega)],P,Q,rfl,q2,q3,λj x hx=>q4 j x (F6.1 hx).1 hx⟩) fuel ([],[],0) ⟨D9 _,rfl,rfl,λi x h=>absurd h (N9 _)⟩ (by have:=E6;simp only;omega)
 rw[hr,A5];have b6:0<L.length:=(F6.1 hE.first).1
 have a9:∀i x a,L[i]?=some x->a<m.I.toNat->∃(j:Nat) (y:Nat×A2),L[j]?=some y/\y.1=nx m x.1 a/\nx (⟨m.I,0,P,Q⟩:B6) i a=j/\ot (⟨m.I,0,P,Q⟩:B6) i a=ot m x.1 a:=λi x a hx ha=>by
  obtain⟨⟨r,w1,w2,w3⟩,w4⟩:=p3 i x hx;obtain⟨j,y,z1,z2,z3⟩:=w3 a ha;refine⟨j,y,z1,z2,?_,?_⟩
  ·unfold nx;simp only;rw[w1,H5,z3,H5,I7]
  ·unfold ot;simp only;rw[w4]
 refine⟨⟨m.I,0,P,Q⟩,L,rfl,hE,rfl,rfl,⟨b3,hI,by simp only;omega,by simp only;omega,⟨bN 0,by simp only;omega⟩,by simp only;omega,λi hi=>?_⟩,⟨p1,λi x a hx ha=>?_⟩⟩
 ·simp only at hi ⊢;have hx:=get_at (l:=L) (i:=i) (by omega);obtain⟨⟨r,w1,w2,w3⟩,w4⟩:=p3 i _ hx;obtain⟨row,out,e1,e2,e3,e4,e5,e6⟩:=H.row L[i].1 (a2 _ (I8 hx)).1;refine⟨r,out,w1,by rw[w4,e2],by omega,e4,λu hu=>?_,e6⟩;obtain⟨a,ha,rfl⟩:=dP.1 hu;obtain⟨j,y,z1,z2,z3⟩:=w3 a (by omega);rw[get_at ha]at z3;injection z3 with z3
  have:=(F6.1 z1).1;omega
 ·obtain⟨j,y,z1,z2,z3,z4⟩:=a9 i x a hx ha;exact⟨y,by rw[z3];exact z1,z2,z4⟩
def trim_outs{t:B6}{L:List (Nat×A2)}(T:TrimOk m t L):∀(w:A2) (i:Nat) (x:Nat×A2),L[i]?=some x->WOk m.I w->outs t i w=outs m x.1 w
 |[],_,_,_,_=>rfl
 |z::w,i,x,hx,hw=>by
  have hz:=hw.head;obtain⟨y,h1,h2,h3⟩:=T.shape.row i x z.toNat hx (by rw[T.inp];omega);have:=trim_outs T w _ y h1 hw.tail;show ot t i z.toNat::outs t (nx t i z.toNat) w=ot m x.1 z.toNat::outs m (nx m x.1 z.toNat) w;rw[h3,this,h2]
end
end
end Go.Proofs.YtkeplokjplkcmaaGreat.Sym

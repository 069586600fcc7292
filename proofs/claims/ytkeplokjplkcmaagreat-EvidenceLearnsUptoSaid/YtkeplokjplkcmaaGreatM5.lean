/-
  Parts of the proof, behind each other.
-/
import Derived.Test.YtkeplokjplkcmaaGreatM4
set_option linter.all false
set_option maxRecDepth 100000
set_option maxHeartbeats 4000000
open Go.RowKit
namespace Go.Proofs.YtkeplokjplkcmaaGreat.Sym
section
section
variable {O Z:Type}[BEq O]
def mset_new{k:O}{v:Z}:∀{m:List (O×Z)},mget k m=none->mset k v m=m++[(k,v)]
 |[],_=>rfl
 |p::m,h=>by
  unfold mget at h;unfold mset;cases e:k==p.1 with
  |true=>rw[e]at h;cases h
  |false =>
   rw[e]at h;show p::mset k v m=_;rw[mset_new h];rfl
end
def li_beq(a b:A2):(a==b)=true↔a=b:=beq_iff_eq
section
variable {m:B6}{c:A2}
def sigV(m:B6)(c:A2)(s a p:Nat):Int:=if p<a then ot m s p else if 64<=p/\p-64<a then(c[nx m s (p-64)]?).getD 0 else 0
def sigA(m:B6)(c:A2)(s:Nat):A2:=(List.range 128).map (sigV m c s m.I.toNat)
def sigA_at(s:Nat){p:Nat}(hp:p<128):(sigA m c s)[p]?=some (sigV m c s m.I.toNat p):=by
 unfold sigA;rw[H7,Q6 hp];rfl
def sigA_len(s:Nat):(sigA m c s).length=128:=by simp[sigA]
def sigV_lo{s a K:Nat}(h:a<K):sigV m c s K a=ot m s a:=if_pos h
def sigV_hi{s a K:Nat}(h:a<K)(hK:K<=64):sigV m c s K (64+a)=(c[nx m s a]?).getD 0:=by
 unfold sigV;have h1:¬64+a<K:=by omega
 have h2:64<=64+a/\64+a-64<K:=by omega
 have h3:64+a-64=a:=by omega
 rw[if_neg h1,if_pos h2,h3]
def sigA_eq(hI:m.I<=64){s t:Nat}:sigA m c s=sigA m c t↔∀a,a<m.I.toNat->ot m s a=ot m t a/\(c[nx m s a]?).getD 0=(c[nx m t a]?).getD 0:=by
 constructor
 ·intro h a ha;have h1:=sigA_at (m:=m) (c:=c) s (p:=a) (by omega);rw[h,sigA_at t (by omega)]at h1;injection h1 with h1
  rw[sigV_lo ha,sigV_lo ha]at h1;have h2:=sigA_at (m:=m) (c:=c) s (p:=64+a) (by omega);rw[h,sigA_at t (by omega)]at h2;injection h2 with h2
  rw[sigV_hi ha (by omega),sigV_hi ha (by omega)]at h2;exact⟨h1.symm,h2.symm⟩
 ·intro h;unfold sigA;refine nD λp _=>?_;unfold sigV;by_cases h1:p<m.I.toNat
  ·rw[if_pos h1,if_pos h1,(h p h1).1]
  ·rw[if_neg h1,if_neg h1];by_cases h2:64<=p/\p-64<m.I.toNat
   ·rw[if_pos h2,if_pos h2,(h _ h2.2).2]
   ·rw[if_neg h2,if_neg h2]
def sig_loop(H:K7 m)(hc:c.length=m.N.length){s:Nat}(hs:s<m.N.length):iter (λ(q:A2×Nat)=>T6.s18 m c s q.1 q.2) fuel (List.replicate 128 0,0)=some (sigA m c s):=by
 have hI:=H.i2;refine S1 (λq=>q.2<=m.I.toNat/\q.1=(List.range 128).map (sigV m c s q.2)) (λq=>m.I.toNat-q.2) (λq hq=>?_) ⟨D9 _,?_⟩ (by have:=E6;simp only;omega)
 ·obtain⟨y,a⟩:=q;obtain⟨q1,q2⟩:=hq;simp only at q1 q2;rw[q2];simp only[T6.s18];by_cases g:a<m.I.toNat
  ·left;obtain⟨h1,_,_,x,o,e1,e2,e3,e4⟩:=H.at hs g;have a0:=get_at (l:=c) (i:=nx m s a) (by omega)
   have hr:∀p,p<128->((List.range 128).map (sigV m c s a))[p]?=some (sigV m c s a p):=λp hp=>by
    rw[H7,Q6 hp];rfl
   refine⟨((List.range 128).map (sigV m c s (a+1)),a+1),?_,⟨g,rfl⟩,by simp only;omega⟩;rw[C0,B4 e2,B4 e4,H1 (by omega),B4 (hr a (by omega)),K3,B4 e1,B4 e3,D6 rfl a0,H1 (by omega),B4 (x:=sigV m c s a (64+a)) (by rw[O6 (by omega),hr _ (by omega)]),K3];congr 4;refine aC λp=>?_;rcases K4 p 128 with hp|hp
   ·rw[H7 (f:=sigV m c s (a+1)),Q6 hp,K6];by_cases p1:64+a=p
    ·subst p1;rw[P9 (by simp;omega)];congr 1;unfold sigV;rw[if_neg (by omega),if_pos (by omega),show 64+a-64=a by omega,a0,H5]
    ·rw[O6 p1];by_cases p2:a=p
     ·subst p2;rw[P9 (by simp;omega)];congr 1;unfold sigV;rw[if_pos (by omega)]
     ·rw[O6 p2,hr p hp];congr 1;unfold sigV;by_cases p3:p<a
      ·rw[if_pos p3,if_pos (by omega)]
      ·have p5:¬p<a+1:=by omega
       rw[if_neg p3,if_neg p5];by_cases p4:64<=p/\p-64<a
       ·have p6:64<=p/\p-64<a+1:=by omega
        rw[if_pos p4,if_pos p6]
       ·have p6:¬(64<=p/\p-64<a+1):=by omega
        rw[if_neg p4,if_neg p6]
   ·rw[M2 (by simp;omega),M2 (by simp;omega)]
  ·right;have:a=m.I.toNat:=by omega
   subst this;rw[B1];rfl
 ·simp only;refine aC λp=>?_;rcases K4 p 128 with hp|hp
  ·rw[W4,if_pos hp,H7,Q6 hp,K6];unfold sigV;rw[if_neg (by omega),if_neg (by omega)]
  ·rw[M2 (by simp;omega),M2 (by simp;omega)]
def FirstOcc(o:A2):Prop:=∀(s x:Nat),o[s]?=some (x:Int)->∀u:Nat,u<x->∃s',s'<s/\o[s']?=some (u:Int)
structure ClsF(m:B6)(k:Nat)(c:A2):Prop where
 cls:aF m k c
 first:FirstOcc c
def E_of_next(H:K7 m):∀{k s t:Nat},s<m.N.length->t<m.N.length->(∀a,a<m.I.toNat->ot m s a=ot m t a/\E m k (nx m s a) (nx m t a))->E m (k+1) s t
 |0,_,_,_,_,h=>⟨trivial,h⟩
 |_+1,_,_,hs,ht,h=>⟨E_of_next H hs ht λa ha=>⟨(h a ha).1,(h a ha).2.1⟩,h⟩
def sig_iff(H:K7 m){k:Nat}(C:aF m k c){s t:Nat}(hs:s<m.N.length)(ht:t<m.N.length):sigA m c s=sigA m c t↔E m (k+1) s t:=by
 rw[sigA_eq H.i2]
 have hq:∀a,a<m.I.toNat->((c[nx m s a]?).getD 0=(c[nx m t a]?).getD 0↔E m k (nx m s a) (nx m t a)):=λa ha=>by
  have h1:=(H.at hs ha).1;have h2:=(H.at ht ha).1;rw[<- C.cls _ _ h1 h2];obtain⟨x,x1,_⟩:=C.rng _ h1;obtain⟨y,y1,_⟩:=C.rng _ h2;rw[x1,y1,H5,H5];exact⟨λh=>by rw[h],λh=>by injection h⟩
 constructor
 ·exact λh=>E_of_next H hs ht λa ha=>⟨(h a ha).1,(hq a ha).1 (h a ha).2⟩
 ·exact λh a ha=>⟨(h.2 a ha).1,(hq a ha).2 (h.2 a ha).2⟩
structure Giv(m:B6)(c:A2)(mp:List (A2×Int))(o:A2)(s:Nat):Prop where
 len:o.length=m.N.length
 keys:∀p∈mp,p.1.length=128
 le:mp.length<=s
 get:∀s',s'<s->∃x:Nat,x<mp.length/\o[s']?=some (x:Int)/\mget (sigA m c s') mp=some (x:Int)
 org:∀k v,mget k mp=some v->∃s',s'<s/\sigA m c s'=k
 inj:∀s' s'',s'<s->s''<s->o[s']?=o[s'']?->sigA m c s'=sigA m c s''
 first:∀(s' x:Nat),s'<s->o[s']?=some (x:Int)->∀u:Nat,u<x->∃s'',s''<s'/\o[s'']?=some (u:Int)
 all:∀u:Nat,u<mp.length->∃s',s'<s/\o[s']?=some (u:Int)
open Classical in
def zqp(H:K7 m){k:Nat}(C:aF m k c):∃(c':A2) (n:Nat),T6 m c=some (c',(n:Int))/\ClsF m (k+1) c'/\n=nreps m (k+1):=by
 have hn:=H.n2;have hc:=C.len;unfold T6;rw[H1 ⟨by omega,by omega,by unfold B5;omega⟩]
 obtain⟨r,hr,mp,o,rfl,G,b2⟩:=H4 (step:=λ(s:(List (A2×Int))×A2×Nat)=>T6.s20 m c s.1 s.2.1 s.2.2) (λs=>s.2.2<=m.N.length/\Giv m c s.1 s.2.1 s.2.2/\s.1.length=(List.range s.2.2).countP λs=>decide (Rep m (k+1) s)) (λs=>m.N.length-s.2.2) (λr=>∃mp o,r=(mp,o)/\Giv m c mp o m.N.length/\mp.length=nreps m (k+1)) (λs ⟨q1,G,q3⟩=>by
  obtain⟨mp,o,s⟩:=s
  simp only at q1 G q3
  simp only[T6.s20]
  by_cases g:s<m.N.length
  ·left
   have a4:=sigA_len (m:=m) (c:=c) s
   have b4:=G.le
   have ho:=get_at (l:=o) (i:=s) (by rw[G.len];exact g)
   rw[C0,sig_loop H hc g,A5,H1 a4,H1 ⟨a4,G.keys⟩]
   have a8:(mget (sigA m c s) mp=none)↔Rep m (k+1) s:=by
    constructor
    ·intro h t ht hE
     obtain⟨x,_,_,x3⟩:=G.get t ht
     rw[<- (sig_iff H C g (by omega)).2 hE,h]at x3
     cases x3
    ·intro h
     cases e:mget (sigA m c s) mp with
     |none=>rfl
     |some v =>
      obtain⟨s',h1,h2⟩:=G.org _ _ e
      exact absurd ((sig_iff H C g (by omega)).1 h2.symm) (h s' h1)
   have a5:(List.range (s+1)).countP (λs=>decide (Rep m (k+1) s))=(List.range s).countP (λs=>decide (Rep m (k+1) s))+if Rep m (k+1) s then 1 else 0:=by
    rw[fP,tF]
    congr 1
    by_cases h:Rep m (k+1) s
    ·rw[if_pos h,qD,G7 h]
     rfl
    ·rw[if_neg h,qD,J0 h]
     rfl
   have a0:∀{s':Nat} {v:Int},s'<s->(o.set s v)[s']?=o[s']?:=λh=>O6 (by omega)
   have a3:∀{v:Int},(o.set s v)[s]?=some v:=P9 (by rw[G.len];exact g)
   cases e:mget (sigA m c s) mp with
   |none =>
    have hR:=a8.1 e
    have a6:mset (sigA m c s) (mp.length:Int) mp=mp++[(sigA m c s,(mp.length:Int))]:=mset_new e
    refine⟨(mset (sigA m c s) (mp.length:Int) mp,o.set s (mp.length:Int),s+1),?_,⟨g,?_,?_⟩,by simp only;omega⟩
    ·rw[tG,cR,F8,H1 a4,H1 ⟨a4,G.keys⟩,A5]
     simp only[T6.k19]
     rw[B4 ho]
    ·simp only
     refine⟨by simp[G.len],?_,by rw[a6];simp;omega,?_,?_,?_,?_,?_⟩
     ·intro p hp
      rw[a6]at hp
      rcases J2.1 hp with h|h
      ·exact G.keys p h
      ·have:p=(sigA m c s,(mp.length:Int)):=by simpa using h
       rw[this]
       exact a4
     ·intro s' b3
      by_cases h:s'<s
      ·obtain⟨x,x1,x2,x3⟩:=G.get s' h
       refine⟨x,by rw[a6];simp;omega,by rw[a0 h,x2],?_⟩
       rw[mK li_beq (λq=>?_),x3]
       rw[q,e]at x3
       cases x3
      ·have:s'=s:=by omega
       subst this
       exact⟨mp.length,by rw[a6];simp,a3,sL li_beq mp⟩
     ·intro kk v hv
      by_cases h:kk=sigA m c s
      ·exact⟨s,by omega,h.symm⟩
      ·rw[mK li_beq h]at hv
       obtain⟨s',h1,h2⟩:=G.org _ _ hv
       exact⟨s',by omega,h2⟩
     ·have a7:∀s',s'<s->o[s']?≠some (mp.length:Int):=λs' h q=>by
       obtain⟨x,x1,x2,_⟩:=G.get s' h
       rw[x2]at q
       injection q with q
       omega
      intro s' s'' h1 h2 h3
      by_cases a1:s'<s<;>by_cases a2:s''<s
      ·rw[a0 a1,a0 a2]at h3
       exact G.inj _ _ a1 a2 h3
      ·have:s''=s:=by omega
       subst this
       rw[a0 a1,a3]at h3
       exact absurd h3 (a7 s' a1)
      ·have:s'=s:=by omega
       subst this
       rw[a0 a2,a3]at h3
       exact absurd h3.symm (a7 s'' a2)
      ·have:s'=s'':=by omega
       rw[this]
     ·intro s' x h1 h2 u hu
      by_cases a1:s'<s
      ·rw[a0 a1]at h2
       obtain⟨s'',z1,z2⟩:=G.first s' x a1 h2 u hu
       exact⟨s'',z1,by rw[a0 (by omega),z2]⟩
      ·have:s'=s:=by omega
       subst this
       rw[a3]at h2
       injection h2 with h2
       obtain⟨s'',z1,z2⟩:=G.all u (by omega)
       exact⟨s'',z1,by rw[a0 z1,z2]⟩
     ·intro u hu
      rw[a6]at hu
      simp at hu
      rcases K4 u mp.length with h|h
      ·obtain⟨s',z1,z2⟩:=G.all u h
       exact⟨s',by omega,by rw[a0 z1,z2]⟩
      ·have:u=mp.length:=by omega
       subst this
       exact⟨s,by omega,a3⟩
    ·simp only
     rw[a5,if_pos hR,a6,<- q3]
     simp
   |some v =>
    have hR:¬Rep m (k+1) s:=λq=>by
     rw[a8.2 q]at e
     cases e
    obtain⟨t,ht,a9⟩:=G.org _ _ e
    obtain⟨x,x1,x2,x3⟩:=G.get t ht
    have hv:v=(x:Int):=by
     rw[a9,e]at x3
     injection x3
    refine⟨(mp,o.set s v,s+1),?_,⟨g,?_,?_⟩,by simp only;omega⟩
    ·rw[xM,aS,G0,H5,A5]
     simp only[T6.k19]
     rw[B4 ho]
    ·simp only
     refine⟨by simp[G.len],G.keys,by omega,?_,?_,?_,?_,?_⟩
     ·intro s' b3
      by_cases h:s'<s
      ·obtain⟨x,y1,y2,y3⟩:=G.get s' h
       exact⟨x,y1,by rw[a0 h,y2],y3⟩
      ·have:s'=s:=by omega
       subst this
       exact⟨x,x1,by rw[a3,hv],by rw[e,hv]⟩
     ·intro kk v hv
      obtain⟨s',h1,h2⟩:=G.org _ _ hv
      exact⟨s',by omega,h2⟩
     ·intro s' s'' h1 h2 h3
      by_cases a1:s'<s<;>by_cases a2:s''<s
      ·rw[a0 a1,a0 a2]at h3
       exact G.inj _ _ a1 a2 h3
      ·have:s''=s:=by omega
       subst this
       rw[a0 a1,a3,hv,<- x2]at h3
       rw[<- a9]
       exact G.inj _ _ a1 ht h3
      ·have:s'=s:=by omega
       subst this
       rw[a0 a2,a3,hv,<- x2]at h3
       rw[<- a9]
       exact G.inj _ _ ht a2 h3
      ·have:s'=s'':=by omega
       rw[this]
     ·intro s' y h1 h2 u hu
      by_cases a1:s'<s
      ·rw[a0 a1]at h2
       obtain⟨s'',z1,z2⟩:=G.first s' y a1 h2 u hu
       exact⟨s'',z1,by rw[a0 (by omega),z2]⟩
      ·have:s'=s:=by omega
       subst this
       rw[a3]at h2
       injection h2 with h2
       obtain⟨s'',z1,z2⟩:=G.first t x ht x2 u (by omega)
       exact⟨s'',by omega,by rw[a0 (by omega),z2]⟩
     ·intro u hu
      obtain⟨s',z1,z2⟩:=G.all u hu
      exact⟨s',by omega,by rw[a0 z1,z2]⟩
    ·simp only
     rw[a5,if_neg hR,<- q3,Y0]
  ·right
   have:s=m.N.length:=by omega
   subst this
   exact⟨_,by rw[B1],mp,o,rfl,G,q3⟩) fuel ([],List.replicate c.length 0,0) ⟨D9 _,⟨by simp[hc],λp hp=>(by cases hp),H0 _,λs' h=>absurd h (N9 _),λk v h=>(by cases h),λs' _ h=>absurd h (N9 _),λs' _ h=>absurd h (N9 _),λu h=>absurd h (N9 _)⟩,rfl⟩ (by have:=E6;simp only;omega)
 refine⟨o,mp.length,by rw[hr,A5];rfl,⟨⟨G.len,λs hs=>?_,λs t hs ht=>?_⟩,λs x hx=>G.first s x (by rw[<- G.len];exact(F6.1 hx).1) hx⟩,b2⟩
 ·obtain⟨x,x1,x2,_⟩:=G.get s hs;have:=G.le;exact⟨x,x2,by omega⟩
 ·rw[<- sig_iff H C hs ht];constructor
  ·exact G.inj s t hs ht
  ·intro h;obtain⟨x,_,x2,x3⟩:=G.get s hs;obtain⟨y,_,y2,y3⟩:=G.get t ht;rw[h,y3]at x3;rw[x2,y2,x3]
open Classical in
def zno(H:K7 m):∃c i,fL m 128=some (c,i)/\ClsF m m.N.length c:=by
 have hn:=H.n2;have a2:=H.n1;have a0:(min (max (128:Int) 0) (m.N.length:Int))=(m.N.length:Int):=by omega
 unfold fL;rw[H1 ⟨by omega,by omega,by unfold B5;omega⟩]
 obtain⟨r,hr,hq⟩:=H4 (step:=λ(s:A2×Int×Nat)=>fL.s2 m 128 s.1 s.2.1 s.2.2) (λs=>s.2.2<=m.N.length/\ClsF m s.2.2 s.1/\s.2.1=(↑(nreps m s.2.2):Int)) (λs=>m.N.length-s.2.2) (λr=>(∃c,r=.inl c/\ClsF m m.N.length c)\/∃c i,r=.inr (c,i)/\ClsF m m.N.length c) (λs ⟨q1,q2,q3⟩=>by
  obtain⟨c,n,i⟩:=s
  simp only at q1 q2 q3
  simp only[fL.s2]
  rw[a0]
  by_cases g:i<m.N.length
  ·obtain⟨c',n',h1,h2,h3⟩:=zqp H q2.cls
   rw[C0,h1,A5]
   by_cases e:n'=nreps m i
   ·right
    rw[C0 (by simp only;omega)]
    refine⟨_,rfl,Or.inr ⟨c,_,rfl,⟨⟨q2.cls.len,q2.cls.rng,λs t hs ht=>?_⟩,q2.first⟩⟩⟩
    rw[q2.cls.cls s t hs ht]
    have hS:Stab m i:=stab_of (by omega)
    constructor
    ·intro h
     have key:∀j,E m (i+j) s t:=by
      intro j
      induction j with
      |zero=>exact h
      |succ j ih=>exact stab_add H hS j s t hs ht ih
     have:=key (m.N.length-i)
     rwa [show i+(m.N.length-i)=m.N.length by omega]at this
    ·exact E_mono (by omega)
   ·left
    exact⟨(c',(n':Int),i+1),by rw[B1 (by simp only;omega)],⟨g,h2,by simp only;rw[h3]⟩,by simp only;omega⟩
  ·right
   have:i=m.N.length:=by omega
   subst this
   exact⟨_,by rw[B1],Or.inl ⟨c,rfl,q2⟩⟩) fuel (List.replicate m.N.length 0,1,0) ⟨D9 _,⟨⟨by simp,λs hs=>⟨0,by simp[hs],a2⟩,λs t hs ht=>⟨λ_=>trivial,λ_=>by simp[hs,ht]⟩⟩,λs x hx u hu=>by
    have:=(F6.1 hx).2
    simp at this
    omega⟩,by
    simp only
    have:nreps m 0=1:=by
     unfold nreps
     have h0:∀n,0<n->(List.range n).countP (λs=>decide (Rep m 0 s))=1:=by
      intro n
      induction n with
      |zero=>intro h;omega
      |succ n ih =>
       intro _
       rw[fP,tF,qD]
       by_cases hz:n=0
       ·subst hz
        rw[G7 (show Rep m 0 0 from λt ht=>absurd ht (N9 _))]
        rfl
       ·rw[ih (by omega),J0 (show ¬Rep m 0 n from λq=>q 0 (by omega) trivial)]
        rfl
     exact h0 _ a2
    rw[this]
    rfl⟩ (by have:=E6;simp only;omega)
 rw[hr,A5];rcases hq with⟨c,rfl,h⟩|⟨c,i,rfl,h⟩
 ·exact⟨c,_,rfl,h⟩
 ·exact⟨c,i,rfl,h⟩
def znc(hv:S4 m=0):∃c,pN m=some (c,0)/\ClsF m m.N.length c:=by
 obtain⟨c,i,h1,h2⟩:=zno (dZ hv);refine⟨c,?_,h2⟩;unfold pN sT;rw[kN,A5,hv,B1 (by decide),h1,A5,A5]
end
end
section
section
variable {m t:B6}{c:A2}
def iZ(c:A2)(s u:Nat):Prop:=c[s]?=some (u:Int)/\∀s',s'<s->c[s']?≠some (u:Int)
def first_lt(F:FirstOcc c){s u i v:Nat}(hs:iZ c s u)(hi:i<s)(hv:c[i]?=some (v:Int)):v<u:=by
 rcases kR v u with h|h|h
 ·exact h
 ·rw[h]at hv;exact absurd hv (hs.2 i hi)
 ·obtain⟨s',h1,h2⟩:=F i v hv u h;exact absurd h2 (hs.2 s' (by omega))
def first_le(F:FirstOcc c){s u i v:Nat}(hs:iZ c s u)(hv:c[i]?=some (v:Int))(hu:u<=v):s<=i:=by
 rcases K4 i s with h|h
 ·have:=first_lt F hs h hv;omega
 ·exact h
structure Quo(t M:B6)(c:A2):Prop where
 inp:M.I=t.I
 start:M.S=0
 len:M.O.length=M.N.length
 ub:∀s,s<t.N.length->∃x:Nat,c[s]?=some (x:Int)/\x<M.N.length
 row:∀u,u<M.N.length->∃s r o,s<t.N.length/\iZ c s u/\M.N[u]?=some r/\M.O[u]?=some o/\r.length=t.I.toNat/\(∀a,a<t.I.toNat->r[a]?=c[nx t s a]?)/\t.O[s]?=some o
 le:M.N.length<=t.N.length
variable {M:B6}
def jU(H:K7 t)(Q:Quo t M c){u:Nat}(hu:u<M.N.length):∃s,s<t.N.length/\iZ c s u/\∀a,a<t.I.toNat->c[nx t s a]?=some (↑(nx M u a):Int)/\ot M u a=ot t s a:=by
 obtain⟨s,r,o,h1,h2,h3,h4,h5,h6,h7⟩:=Q.row u hu;refine⟨s,h1,h2,λa ha=>?_⟩;obtain⟨x,x1,_⟩:=Q.ub _ (H.at h1 ha).1;have hr:=h6 a ha;rw[x1]at hr;refine⟨?_,?_⟩
 ·rw[x1];unfold nx;rw[h3,H5,hr,H5,I7]
 ·unfold ot;rw[h4,h7]
def quo_step(H:K7 t)(C:ClsF t t.N.length c){s s' a:Nat}(hs:s<t.N.length)(hs':s'<t.N.length)(h:c[s]?=c[s']?)(ha:a<t.I.toNat):ot t s a=ot t s' a/\c[nx t s a]?=c[nx t s' a]?:=by
 have h1:=E_all H hs hs' ((C.cls.cls s s' hs hs').1 h) (t.N.length+1);exact⟨(h1.2 a ha).1,(C.cls.cls _ _ (H.at hs ha).1 (H.at hs' ha).1).2 (h1.2 a ha).2⟩
def qV(H:K7 t)(C:ClsF t t.N.length c)(Q:Quo t M c):∀(w:A2) (s u:Nat),s<t.N.length->c[s]?=some (u:Int)->WOk t.I w->outs M u w=outs t s w
 |[],_,_,_,_,_=>rfl
 |z::w,s,u,hs,hu,hw=>by
  have hz:=hw.head;have ha:z.toNat<t.I.toNat:=by omega
  obtain⟨x,x1,x2⟩:=Q.ub s hs
  have a0:u<M.N.length:=by
   rw[hu]at x1;injection x1 with x1
   omega
  obtain⟨s',h1,h2,h3⟩:=jU H Q a0;obtain⟨e1,e2⟩:=quo_step H C hs h1 (hu.trans h2.1.symm) ha;have h4:=h3 _ ha;have:=qV H C Q w (nx t s z.toNat) (nx M u z.toNat) (H.at hs ha).1 (by rw[e2,h4.1]) hw.tail;show ot M u z.toNat::outs M (nx M u z.toNat) w=ot t s z.toNat::outs t (nx t s z.toNat) w;rw[this,h4.2,e1]
def quo_ok(H:K7 t)(Q:Quo t M c):K7 M:=by
 have hn:=H.n1;have a3:=H.n2;obtain⟨x,_,x2⟩:=Q.ub 0 hn;have a2:=Q.le;refine⟨by rw[Q.inp];exact H.i1,by rw[Q.inp];exact H.i2,by omega,by omega,by rw[Q.start];omega,Q.len,λu hu=>?_⟩;have a0:=H.i1;obtain⟨s,r,o,h1,h2,h3,h4,h5,h6,h7⟩:=Q.row u hu;obtain⟨x',y',e1,e2,e3,e4,e5,e6⟩:=H.row s h1;rw[h7]at e2;injection e2 with e2
 subst e2;refine⟨r,o,h3,h4,by rw[Q.inp];omega,by rw[Q.inp];exact e4,λv hv=>?_,e6⟩;obtain⟨a,ha,rfl⟩:=dP.1 hv;obtain⟨z,z1,z2⟩:=Q.ub _ (H.at h1 (a:=a) (by omega)).1;have hr:=h6 a (by omega);rw[get_at ha,z1]at hr;injection hr with hr
 omega
def quo_can(H:K7 t)(C:ClsF t t.N.length c)(Q:Quo t M c)(K:Can t):Can M:=by
 have a7:∀s,iZ c s 0->s=0:=λs hs=>by
  obtain⟨x,x1,_⟩:=Q.ub 0 H.n1;have:=first_le C.first hs x1 (D9 _);omega
 have a0:∀s u,iZ c s u->0<u->0<s:=λs u hs hu=>by
  rcases eT s with h|h
  ·subst h;obtain⟨s',h1,_⟩:=C.first 0 u hs.1 0 hu;omega
  ·exact h
 have a2:∀{i a s u:Nat},i<s->i<t.N.length->a<t.I.toNat->iZ c s u->nx t i a=s->∃v:Nat,c[i]?=some (v:Int)/\v<u/\nx M v a=u:=λ{i a s u} h1 h2 h3 h4 h5=>by
  obtain⟨v,v1,v2⟩:=Q.ub i h2;refine⟨v,v1,first_lt C.first h4 h1 v1,?_⟩;obtain⟨s',g1,g2,g3⟩:=jU H Q v2;have e:=(quo_step H C h2 g1 (v1.trans g2.1.symm) h3).2;have g4:=(g3 a h3).1;rw[<- e,h5,h4.1]at g4;injection g4 with g4
  omega
 refine⟨λi a u hi ha hu a4=>?_,λu hu a6=>?_⟩
 ·rw[Q.inp]at ha ⊢;obtain⟨s,h1,h2,h3⟩:=jU H Q hi;have hD:=(h3 a ha).1;have a9:=(H.at h1 ha).1
  have a5:u<M.N.length:=by
   have:=(quo_ok H Q).at hi (a:=a) (by rw[Q.inp];exact ha);omega
  obtain⟨su,g1,g2,g3⟩:=jU H Q a5;have a3:=first_le C.first g2 hD a4;obtain⟨i',a',z1,z2,z3,z4⟩:=K.c4 s a su h1 ha (a0 su u g2 hu) a3;obtain⟨v,v1,v2,v3⟩:=a2 z3 (by omega) z1 g2 z4;refine⟨v,a',z1,?_,v2,v3⟩
  have a8:i'<=s:=by
   rcases K4 s i' with q|q
   ·have:=dV q ha;omega
   ·exact q
  rcases K4 i' s with q|q
  ·have:=first_lt C.first h2 q v1;have:=dV this z1;omega
  ·have e:i'=s:=by omega
   subst e;have hv:=h2.1;rw[v1]at hv;injection hv with hv
   have:v=i:=by omega
   subst this;omega
 ·rw[Q.inp];obtain⟨su,g1,g2,g3⟩:=jU H Q a6;obtain⟨i,a,z1,z2,z3⟩:=K.c5 su (a0 su u g2 hu) g1;obtain⟨v,v1,v2,v3⟩:=a2 z1 (by omega) z2 g2 z3;exact⟨v,a,v2,z2,v3⟩
def quo_min(H:K7 t)(C:ClsF t t.N.length c)(Q:Quo t M c){i j:Nat}(hi:i<M.N.length)(hj:j<M.N.length)(h:Eqv M i M j):i=j:=by
 obtain⟨s,h1,h2,_⟩:=jU H Q hi;obtain⟨s',g1,g2,_⟩:=jU H Q hj
 have he:E t t.N.length s s':=oC λw _ hw=>by
  rw[<- qV H C Q w s i h1 h2.1 hw,<- qV H C Q w s' j g1 g2.1 hw];exact h w (by rw[Q.inp];exact hw)
 have:=(C.cls.cls s s' h1 g1).2 he;rw[h2.1,g2.1]at this;injection this with this
 omega
def quo_sem{L:List (Nat×A2)}(T:TrimOk m t L)(C:ClsF t t.N.length c)(Q:Quo t M c):gY m M:=by
 have H:=T.ok;have hK:0<t.I.toNat:=by have:=H.i1;omega
 have hE:aN (nx m) t.I.toNat m.S.toNat L:=by rw[T.inp];exact T.end_
 have a0:=shape_can hE T.shape hK
 have h0:c[0]?=some (↑(0:Nat):Int):=by
  obtain⟨x,x1,_⟩:=Q.ub 0 H.n1;rcases eT x with h|h
  ·rw[x1,h]
  ·obtain⟨s',h1,_⟩:=C.first 0 x x1 0 h;omega
 refine⟨quo_ok H Q,Q.inp.trans T.inp,Q.start,λw hw=>?_,λi j hi hj h=>quo_min H C Q hi hj h,quo_can H C Q a0⟩;have a2:WOk t.I w:=by rw[<- Q.inp];exact hw
 rw[qV H C Q w 0 0 H.n1 h0 a2,trim_outs T w 0 _ T.end_.first (by rw[<- T.inp];exact a2)]
def min_loop(H:K7 t)(C:ClsF t t.N.length c)(e e2:Int):∃P R,iter (λ(s:A4×A4×Nat)=>S8.s32 (t,e) (c,e2) s.1 s.2.1 s.2.2) fuel ([],[],0)=some (P,R)/\Quo t (⟨t.I,0,P,R⟩:B6) c:=by
 have hn:=H.n2;have a8:=H.n1;have hI:=H.i2;have a7:=H.i1;have hc:=C.cls.len
 obtain⟨r,hr,P,R,rfl,hQ⟩:=H4 (step:=λ(s:A4×A4×Nat)=>S8.s32 (t,e) (c,e2) s.1 s.2.1 s.2.2) (λs=>s.2.2<=t.N.length/\s.2.1.length=s.1.length/\s.1.length<=s.2.2/\(∀s',s'<s.2.2->∃x:Nat,c[s']?=some (x:Int)/\x<s.1.length)/\∀u,u<s.1.length->∃s' r o,s'<s.2.2/\iZ c s' u/\s.1[u]?=some r/\s.2.1[u]?=some o/\r.length=t.I.toNat/\(∀a,a<t.I.toNat->r[a]?=c[nx t s' a]?)/\t.O[s']?=some o) (λs=>t.N.length-s.2.2) (λr=>∃P R,r=(P,R)/\Quo t (⟨t.I,0,P,R⟩:B6) c) (λs ⟨q1,q2,q3,q4,q5⟩=>by
  obtain⟨P,R,s⟩:=s
  simp only at q1 q2 q3 q4 q5
  simp only[S8.s32]
  by_cases g:s<t.N.length
  ·left
   obtain⟨x,x1,x2⟩:=C.cls.rng s g
   rw[C0,B4 x1]
   by_cases hx:x<P.length
   ·refine⟨(P,R,s+1),?_,⟨g,q2,by simp only;omega,λs' a0=>?_,λu hu=>?_⟩,by simp only;omega⟩
    ·rw[C0,A5]
     rfl
    ·simp only at a0 ⊢
     rcases K4 s' s with h|h
     ·exact q4 s' h
     ·have:s'=s:=by omega
      subst this
      exact⟨x,x1,hx⟩
    ·obtain⟨s',r,o,z1,z2⟩:=q5 u hu
     exact⟨s',r,o,by simp only;omega,z2⟩
   ·have a6:x=P.length:=by
     rcases K4 P.length x with h|h
     ·obtain⟨s',h1,h2⟩:=C.first s x x1 P.length h
      obtain⟨y,y1,y2⟩:=q4 s' h1
      rw[h2]at y1
      injection y1 with y1
      omega
     ·omega
    subst a6
    obtain⟨row,out,e1,a2,e3,e4,e5,e6⟩:=H.row s g
    obtain⟨r,hr,a4,a5⟩:=H4 (step:=λ(q:A2×Nat)=>S8.s30 (c,e2) row q.1 q.2) (λq=>q.2<=t.I.toNat/\q.1.length=q.2/\∀a,a<q.2->q.1[a]?=c[nx t s a]?) (λq=>t.I.toNat-q.2) (λr=>r.length=t.I.toNat/\∀a,a<t.I.toNat->r[a]?=c[nx t s a]?) (λq ⟨w1,w2,w3⟩=>by
     obtain⟨y,a⟩:=q
     simp only at w1 w2 w3
     simp only[S8.s30]
     by_cases f:a<t.I.toNat
     ·left
      obtain⟨h1,_,_,x',y',h2,_,h4,_⟩:=H.at g f
      rw[e1]at h2
      injection h2 with h2
      subst h2
      have a3:=get_at (l:=c) (i:=nx t s a) (by omega)
      refine⟨(y++[c[nx t s a]'(by omega)],a+1),?_,⟨f,by simp[w2],λb hb=>?_⟩,by simp only;omega⟩
      ·rw[C0,B4 h4,D6 rfl a3,Q1]
      ·simp only at hb ⊢
       rcases K4 b a with h|h
       ·rw[P2 (by omega),w3 b h]
       ·have:b=a:=by omega
        subst this
        rw[V6 (by omega),w2,V1,a3]
        rfl
     ·right
      have:a=t.I.toNat:=by omega
      subst this
      exact⟨y,by rw[B1],w2,w3⟩) fuel ([],0) ⟨D9 _,rfl,λa h=>absurd h (N9 _)⟩ (by have:=E6;simp only;omega)
    refine⟨(P++[r],R++[out],s+1),?_,⟨g,by simp[q2],by simp;omega,λs' a0=>?_,λu hu=>?_⟩,by simp only;omega⟩
    ·rw[B1,B4 e1,hr,A5,Q1,B4 a2,H1 (by unfold B5;simp;omega),Q1,A5]
     rfl
    ·simp only at a0 ⊢
     rw[J4,Q3]
     rcases K4 s' s with h|h
     ·obtain⟨y,y1,y2⟩:=q4 s' h
      exact⟨y,y1,by omega⟩
     ·have:s'=s:=by omega
      subst this
      exact⟨_,x1,by omega⟩
    ·simp only at hu ⊢
     rw[J4,Q3]at hu
     rcases K4 u P.length with h|h
     ·obtain⟨s',r',o,z1,z2,z3,z4,z5⟩:=q5 u h
      exact⟨s',r',o,by omega,z2,by rw[P2 h,z3],by rw[P2 (by omega),z4],z5⟩
     ·have:u=P.length:=by omega
      subst this
      refine⟨s,r,out,by omega,⟨x1,λs' a0 q=>?_⟩,by simp,?_,a4,a5,a2⟩
      ·obtain⟨y,y1,y2⟩:=q4 s' a0
       rw[q]at y1
       injection y1 with y1
       omega
      ·rw[V6 (by omega),q2,V1]
       rfl
  ·right
   have:s=t.N.length:=by omega
   subst this
   exact⟨_,by rw[B1],P,R,rfl,⟨rfl,rfl,q2,q4,q5,q3⟩⟩) fuel ([],[],0) ⟨D9 _,rfl,H0 _,λs' h=>absurd h (N9 _),λu h=>absurd h (N9 _)⟩ (by have:=E6;simp only;omega)
 exact⟨P,R,hr,hQ⟩
def uJ(H:K7 m):S4 m=0:=by
 have:=zt3 H;rw[kN]at this;injection this
def BL(hv:S4 m=0):∃M,S8 m=some (M,0)/\gY m M:=by
 obtain⟨t,L,h1,T⟩:=mealy_Trim_eq hv;obtain⟨c,h2,C⟩:=znc (uJ T.ok);obtain⟨P,R,h3,Q⟩:=min_loop T.ok C 0 0;refine⟨⟨t.I,0,P,R⟩,?_,quo_sem T C Q⟩;unfold S8;rw[h1,A5,B1 (λh=>h rfl),h2,A5,B1 (λh=>h rfl),h3,A5];rfl
end
end
section
section
variable {m:B6}{c:A2}
def clN(c:A2)(s:Nat):Nat:=((c[s]?).getD 0).toNat
open Classical in
noncomputable def rpN(m:B6)(c:A2)(x:Nat):Nat:=if h:∃s,s<m.N.length/\clN c s=x then Classical.choose h else 0
noncomputable def qE(m:B6)(c:A2)(x a:Nat):Nat:=clN c (nx m (rpN m c x) a)
noncomputable def qO(m:B6)(c:A2)(x a:Nat):Int:=ot m (rpN m c x) a
def lC(C:aF m m.N.length c){s:Nat}(hs:s<m.N.length):c[s]?=some (↑(clN c s):Int)/\clN c s<m.N.length:=by
 obtain⟨x,x1,x2⟩:=C.rng s hs;unfold clN;rw[x1,H5,I7];exact⟨rfl,x2⟩
def clN_iff(C:aF m m.N.length c){s t:Nat}(hs:s<m.N.length)(ht:t<m.N.length):clN c s=clN c t↔E m m.N.length s t:=by
 rw[<- C.cls s t hs ht,(lC C hs).1,(lC C ht).1];exact⟨λh=>by rw[h],λh=>by injection h with h;omega⟩
def rpN_spec{s:Nat}(hs:s<m.N.length):rpN m c (clN c s)<m.N.length/\clN c (rpN m c (clN c s))=clN c s:=by
 have h:∃s',s'<m.N.length/\clN c s'=clN c s:=⟨s,hs,rfl⟩;unfold rpN;rw[dif_pos h];exact tS h
def qE_eq(H:K7 m)(C:aF m m.N.length c){s a:Nat}(hs:s<m.N.length)(ha:a<m.I.toNat):qE m c (clN c s) a=clN c (nx m s a)/\qO m c (clN c s) a=ot m s a:=by
 obtain⟨h1,h2⟩:=rpN_spec (c:=c) hs;have h3:=E_all H h1 hs ((clN_iff C h1 hs).1 h2) (m.N.length+1);exact⟨(clN_iff C (H.at h1 ha).1 (H.at hs ha).1).2 (h3.2 a ha).2,(h3.2 a ha).1⟩
noncomputable def qB(m:B6)(c:A2)(r:Nat):List (Nat×A2):=bfsB (qE m c) m.I.toNat (clN c m.S.toNat) r
def qB_rng(H:K7 m)(C:aF m m.N.length c):∀(r:Nat),∀x∈qB m c r,∃s,s<m.N.length/\clN c s=x.1
 |0,x,hx=>by
  have:x=(clN c m.S.toNat,[]):=by simpa[qB,bfsB]using hx
  subst this;exact⟨m.S.toNat,by have:=H.st;omega,rfl⟩
 |r+1,x,hx=>by
  have ih:=qB_rng H C r;unfold qB at hx;rw[bfsB]at hx;split at hx
  ·exact ih x hx
  ·rename_i y hy;split at hx
   ·exact ih x hx
   ·rcases J2.1 hx with h|h
    ·exact ih x h
    ·have hK:0<m.I.toNat:=by have:=H.i1;omega
     obtain⟨s,s1,s2⟩:=ih y (I8 hy);have ha:=jJ r hK;have a0:x=(qE m c y.1 (r%m.I.toNat),y.2++[(↑(r%m.I.toNat):Int)]):=by simpa using h
     subst a0;exact⟨nx m s (r%m.I.toNat),(H.at s1 ha).1,by rw[<- s2,(qE_eq H C s1 ha).1]⟩
def qB_len(H:K7 m)(C:aF m m.N.length c)(r:Nat):(qB m c r).length<=m.N.length:=by
 have:=jA (lU (e:=qE m c) (K:=m.I.toNat) (s0:=clN c m.S.toNat) r) (l':=List.range m.N.length) λx hx=>by
  obtain⟨y,hy,rfl⟩:=I3.1 hx;obtain⟨s,s1,s2⟩:=qB_rng H C r y hy;rw[<- s2];exact M5.2 (lC C s1).2
 rwa [C3,P3]at this
def qB_step{i a:Nat}{x:Nat×A2}(ha:a<m.I.toNat)(hx:(qB m c (i*m.I.toNat+a))[i]?=some x) :
  qB m c (i*m.I.toNat+(a+1))=if qE m c x.1 a∈(qB m c (i*m.I.toNat+a)).map Prod.fst then qB m c (i*m.I.toNat+a) else qB m c (i*m.I.toNat+a)++[(qE m c x.1 a,x.2++[(a:Int)])]:=bfs_step ha hx
def qB_next{i:Nat}:qB m c (i*m.I.toNat+m.I.toNat)=qB m c ((i+1)*m.I.toNat):=by rw[eO]
def qB_get{i r:Nat}{x:Nat×A2}(hx:(qB m c (i*m.I.toNat))[i]?=some x)(hr:i*m.I.toNat<=r):(qB m c r)[i]?=some x:=aZ (dF hr) hx
structure Nums(m:B6)(c:A2)(ord:List Nat)(num:A2)(B:List (Nat×A2)):Prop where
 ol:ord.length=B.length
 oc:∀(j u:Nat) (x:Nat×A2),ord[j]?=some u->B[j]?=some x->u<m.N.length/\clN c u=x.1
 nl:num.length=m.N.length
 n1:∀(j:Nat) (x:Nat×A2),B[j]?=some x->num[x.1]?=some (j:Int)
 n2:∀x:Nat,x<m.N.length->x∉B.map Prod.fst->num[x]?=some (-1:Int)
def Nums.push{ord:List Nat}{num:A2}{B:List (Nat×A2)}{u:Nat}{w:A2}(N:Nums m c ord num B)(C:aF m m.N.length c)(hu:u<m.N.length)(hn:clN c u∉B.map Prod.fst)(hB:(B.map Prod.fst).Nodup):Nums m c (ord++[u]) (num.set (clN c u) (B.length:Int)) (B++[(clN c u,w)]):=by
 have a0:=(lC C hu).2;refine⟨by simp[N.ol],λj v x hj hx=>?_,by simp[N.nl],λj x hx=>?_,λx hx hm=>?_⟩
 ·rcases K4 j B.length with h|h
  ·rw[P2 (by rw[N.ol];exact h)]at hj;rw[P2 h]at hx;exact N.oc j v x hj hx
  ·have hl:=(F6.1 hx).1;rw[J4,Q3]at hl;have:j=B.length:=by omega
   subst this;rw[V6 (by rw[N.ol];exact H0 _),N.ol,V1]at hj;rw[V6 (H0 _),V1]at hx;injection hj with hj
   injection hx with hx
   subst hj;subst hx;exact⟨hu,rfl⟩
 ·rcases K4 j B.length with h|h
  ·rw[P2 h]at hx;rw[O6 (λq=>hn (by rw[q];exact I3.2 ⟨x,I8 hx,rfl⟩)),N.n1 j x hx]
  ·have hl:=(F6.1 hx).1;rw[J4,Q3]at hl;have:j=B.length:=by omega
   subst this;rw[V6 (H0 _),V1]at hx;injection hx with hx
   subst hx;rw[P9 (by rw[N.nl];exact a0)]
 ·rw[L5,J2,not_or]at hm;have h1:clN c u≠x:=λq=>hm.2 (by simp[q]);rw[O6 h1];exact N.n2 x hx hm.1
def rmin_row(H:K7 m)(C:aF m m.N.length c){e:Int}{i:Nat}{x:Nat×A2}{ord:List Nat}{num:A2}(hx:(qB m c (i*m.I.toNat))[i]?=some x)(N:Nums m c ord num (qB m c (i*m.I.toNat))) :
  ∃(ord':List Nat) (num' row out:A2),iter (λ(s:A2×A2×A2×A2×Nat)=>O4.s56 m (c,e) i s.1 s.2.1 s.2.2.1 s.2.2.2.1 s.2.2.2.2) fuel (natI ord,num,[],[],0)=some (natI ord',num',row,out)/\Nums m c ord' num' (qB m c ((i+1)*m.I.toNat))/\row.length=m.I.toNat/\out.length=m.I.toNat /\
   ∀a,a<m.I.toNat->∃(j:Nat) (z:Nat×A2),(qB m c ((i+1)*m.I.toNat))[j]?=some z/\z.1=qE m c x.1 a/\row[a]?=some (j:Int)/\out[a]?=some (qO m c x.1 a):=by
 have hI:=H.i2;have hn:=H.n2
 obtain⟨r,hr,ord',num',row,out,rfl,g1,g2,g3,g4⟩:=H4 (step:=λ(s:A2×A2×A2×A2×Nat)=>O4.s56 m (c,e) i s.1 s.2.1 s.2.2.1 s.2.2.2.1 s.2.2.2.2) (λs=>∃ord':List Nat,s.1=natI ord'/\s.2.2.2.2<=m.I.toNat/\Nums m c ord' s.2.1 (qB m c (i*m.I.toNat+s.2.2.2.2))/\s.2.2.1.length=s.2.2.2.2/\s.2.2.2.1.length=s.2.2.2.2 /\
   ∀a,a<s.2.2.2.2->∃(j:Nat) (z:Nat×A2),(qB m c (i*m.I.toNat+s.2.2.2.2))[j]?=some z/\z.1=qE m c x.1 a/\s.2.2.1[a]?=some (j:Int)/\s.2.2.2.1[a]?=some (qO m c x.1 a)) (λs=>m.I.toNat-s.2.2.2.2) (λr=>∃(ord':List Nat) (num' row out:A2),r=(natI ord',num',row,out)/\Nums m c ord' num' (qB m c ((i+1)*m.I.toNat))/\row.length=m.I.toNat/\out.length=m.I.toNat /\
   ∀a,a<m.I.toNat->∃(j:Nat) (z:Nat×A2),(qB m c ((i+1)*m.I.toNat))[j]?=some z/\z.1=qE m c x.1 a/\row[a]?=some (j:Int)/\out[a]?=some (qO m c x.1 a)) (λs ⟨ord',q1,q2,q3,q4,q5,q6⟩=>by
  obtain⟨o,num',row,out,a⟩:=s
  simp only at q1 q2 q3 q4 q5 q6
  subst q1
  simp only[O4.s56]
  by_cases g:a<m.I.toNat
  ·left
   have a8:=qB_get hx (r:=i*m.I.toNat+a) (by omega)
   have b8:=qB_len H C (i*m.I.toNat+a)
   have b4:=(F6.1 a8).1
   have hv:=get_at (l:=ord') (i:=i) (by rw[q3.ol];exact b4)
   generalize ord'[i]'(by rw[q3.ol];exact b4)=v at hv
   obtain⟨b3,b5⟩:=q3.oc i v x hv a8
   obtain⟨t1,_,_,xr,yr,e1,e2,e3,e4⟩:=H.at b3 g
   have a7:=qE_eq H C b3 g
   rw[b5]at a7
   have a5:=lC C t1
   have a0:=qB_step g a8
   rw[a7.1]at a0
   have b6:=q3.ol
   rw[C0,B4 (nR hv),D6 rfl e1,B4 e3]
   have b2:∀{a2:List Nat} {a3:A2} {B2:List (Nat×A2)} {j:Nat} {z:Nat×A2},qB m c (i*m.I.toNat+(a+1))=B2->Nums m c a2 a3 B2->B2[j]?=some z->z.1=clN c (nx m v a)->a2[i]?=some v->(∀(j:Nat) (z:Nat×A2),(qB m c (i*m.I.toNat+a))[j]?=some z->B2[j]?=some z) ->
     O4.k55 m (c,e) i row out a (↑(nx m v a):Int) (natI a2) a3=some (.inl (natI a2,a3,row++[(j:Int)],out++[ot m v a],a+1)) /\
     (∃ord'':List Nat,natI a2=natI ord''/\a+1<=m.I.toNat/\Nums m c ord'' a3 (qB m c (i*m.I.toNat+(a+1)))/\(row++[(j:Int)]).length=a+1/\(out++[ot m v a]).length=a+1/\∀b,b<a+1->∃(j':Nat) (z:Nat×A2),(qB m c (i*m.I.toNat+(a+1)))[j']?=some z/\z.1=qE m c x.1 b/\(row++[(j:Int)])[b]?=some (j':Int)/\(out++[ot m v a])[b]?=some (qO m c x.1 b)):=by
    intro a2 a3 B2 j z hB N2 hz a6 b7 a9
    refine⟨?_,a2,rfl,g,by rw[hB];exact N2,by simp[q4],by simp[q5],λb hb=>?_⟩
    ·simp only[O4.k55]
     have:=N2.n1 j z hz
     rw[a6]at this
     rw[D6 rfl a5.1,D6 rfl this,Q1,B4 (nR b7),D6 rfl e2,B4 e4,Q1,K3]
    ·rw[hB]
     rcases K4 b a with h|h
     ·obtain⟨j',z',w1,w2,w3,w4⟩:=q6 b h
      exact⟨j',z',a9 _ _ w1,w2,by rw[P2 (by omega),w3],by rw[P2 (by omega),w4]⟩
     ·have:b=a:=by omega
      subst this
      exact⟨j,z,hz,by rw[a6,a7.1],by rw[V6 (by omega),q4,V1];rfl,by rw[V6 (by omega),q5,V1,a7.2];rfl⟩
   by_cases hm:clN c (nx m v a)∈(qB m c (i*m.I.toNat+a)).map Prod.fst
   ·rw[if_pos hm]at a0
    obtain⟨z,hz,a6⟩:=I3.1 hm
    obtain⟨j,hj⟩:=List.mem_iff_getElem?.1 hz
    have a4:=q3.n1 j z hj
    rw[a6]at a4
    obtain⟨f1,f2⟩:=b2 a0 q3 hj a6 hv (λ_ _ h=>h)
    refine⟨(natI ord',num',row++[(j:Int)],out++[ot m v a],a+1),?_,f2,by simp only;omega⟩
    rw[D6 rfl a5.1,D6 rfl a4,B1,A5]
    exact f1
   ·rw[if_neg hm]at a0
    have a4:=q3.n2 _ a5.2 hm
    have N2:=q3.push (w:=x.2++[(a:Int)]) C t1 hm (lU _)
    obtain⟨f1,f2⟩:=b2 (j:=(qB m c (i*m.I.toNat+a)).length) (z:=(clN c (nx m v a),x.2++[(a:Int)])) a0 N2 (by simp) rfl (by rw[P2 (by omega),hv]) (λj z h=>by rw[P2 (F6.1 h).1,h])
    refine⟨(natI (ord'++[nx m v a]),num'.set (clN c (nx m v a)) (↑(qB m c (i*m.I.toNat+a)).length:Int),row++[(↑(qB m c (i*m.I.toNat+a)).length:Int)],out++[ot m v a],a+1),?_,f2,by simp only;omega⟩
    rw[D6 rfl a5.1,D6 rfl a4,C0,D6 rfl a5.1,D6 rfl a4,H1 (by unfold B5;rw[dH];omega),natI_push,dH,A5,b6]
    exact f1
  ·right
   have:a=m.I.toNat:=by omega
   subst this
   rw[qB_next]at q3 q6
   exact⟨_,by rw[B1],ord',num',row,out,rfl,q3,q4,q5,q6⟩) fuel (natI ord,num,[],[],0) ⟨ord,rfl,D9 _,N,rfl,rfl,λa h=>absurd h (N9 _)⟩ (by have:=E6;simp only;omega)
 exact⟨ord',num',row,out,hr,g1,g2,g3,g4⟩
def yS(hv:S4 m=0):∃M,O4 m=some (M,0)/\gY m M:=by
 have b7:Y7 m=some 0:=by rw[oV,hv]
 have H:=dZ hv;have hn:=H.n2;have d0:=H.st;have b8:=H.i1;have c7:=H.i2;obtain⟨c,c1,C⟩:=zqe b7 m.N.length;rw[Nat.min_self]at C
 have c0:oU m=some (c,0):=by
  unfold oU;rw[c1,A5]
 unfold O4;rw[c0,A5,B1 (by simp),H1 ⟨by omega,by omega,by unfold B5;omega⟩]
 obtain⟨y,hy,y1,y2⟩:=H4 (step:=λ(s:A2×Nat)=>O4.s2 s.1 s.2) (λs=>s.1.length=m.N.length/\s.2<=m.N.length/\∀x,x<s.2->s.1[x]?=some (-1:Int)) (λs=>m.N.length-s.2) (λr=>r.length=m.N.length/\∀x,x<m.N.length->r[x]?=some (-1:Int)) (λs ⟨g1,g2,g3⟩=>by
  obtain⟨y,i⟩:=s
  simp only at g1 g2 g3
  simp only[O4.s2]
  by_cases g:i<y.length
  ·left
   have hx:=get_at g
   refine⟨(y.set i (-1),i+1),by rw[O3 hx,F8,B4 hx],⟨by simp[g1],by simp only;omega,λx a3=>?_⟩,by simp only;omega⟩
   simp only
   by_cases e:i=x
   ·subst e
    rw[P9 g]
   ·rw[O6 e]
    exact g3 x (by simp only at a3;omega)
  ·right
   exact⟨y,by rw[B1],g1,λx hx=>g3 x (by omega)⟩) fuel ((List.replicate m.N.length 0),0) ⟨by simp,D9 _,λx h=>absurd h (N9 _)⟩ (by have:=E6;simp only;omega)
 have hs:m.S.toNat<m.N.length:=by omega
 obtain⟨x1,x2⟩:=lC C hs;rw[hy,A5,D6 (i:=m.S.toNat) (by omega) x1,D6 rfl (y2 _ x2)]
 have N0:Nums m c [m.S.toNat] (y.set (clN c m.S.toNat) 0) (qB m c 0):=by
  have b2:qB m c 0=[(clN c m.S.toNat,[])]:=rfl;refine⟨rfl,λj u x hj hx=>?_,by simp[y1],λj x hx=>?_,λx hx hm=>?_⟩
  ·have hl:=(F6.1 hj).1;rw[Q3]at hl;have:j=0:=by omega
   subst this;rw[b2]at hx;injection hj with hj
   injection hx with hx
   subst hj;subst hx;exact⟨hs,rfl⟩
  ·rw[b2]at hx;have hl:=(F6.1 hx).1;rw[Q3]at hl;have:j=0:=by omega
   subst this;injection hx with hx
   subst hx;rw[P9 (by omega)];rfl
  ·rw[b2]at hm;rw[O6 (λq=>hm (by simp[q])),y2 x hx]
 obtain⟨r,hr,L,P,R,rfl,hE,p1,p2,p3⟩:=H4 (step:=λ(s:A2×A2×A4×A4×Nat)=>O4.s58 m (c,0) s.1 s.2.1 s.2.2.1 s.2.2.2.1 s.2.2.2.2) (λs=>∃ord:List Nat,s.1=natI ord/\Nums m c ord s.2.1 (qB m c (s.2.2.2.2*m.I.toNat))/\s.2.2.2.2<=(qB m c (s.2.2.2.2*m.I.toNat)).length/\s.2.2.1.length=s.2.2.2.2/\s.2.2.2.1.length=s.2.2.2.2 /\
   ∀(i:Nat) (x:Nat×A2),i<s.2.2.2.2->(qB m c (s.2.2.2.2*m.I.toNat))[i]?=some x->∃row out,s.2.2.1[i]?=some row/\s.2.2.2.1[i]?=some out/\row.length=m.I.toNat/\out.length=m.I.toNat/\∀a,a<m.I.toNat->∃(j:Nat) (z:Nat×A2),(qB m c (s.2.2.2.2*m.I.toNat))[j]?=some z/\z.1=qE m c x.1 a/\row[a]?=some (j:Int)/\out[a]?=some (qO m c x.1 a)) (λs=>m.N.length+1-s.2.2.2.2) (λr=>∃L P R,r=(P,R)/\aN (qE m c) m.I.toNat (clN c m.S.toNat) L/\P.length=L.length/\R.length=L.length /\
   ∀(i:Nat) (x:Nat×A2),L[i]?=some x->∃row out,P[i]?=some row/\R[i]?=some out/\row.length=m.I.toNat/\out.length=m.I.toNat/\∀a,a<m.I.toNat->∃(j:Nat) (z:Nat×A2),L[j]?=some z/\z.1=qE m c x.1 a/\row[a]?=some (j:Int)/\out[a]?=some (qO m c x.1 a)) (λs ⟨ord,q1,q2,q3,q4,q5,q6⟩=>by
  obtain⟨o,num,P,R,i⟩:=s
  simp only at q1 q2 q3 q4 q5 q6
  subst q1
  have c8:=qB_len H C (i*m.I.toNat)
  have d2:=q2.ol
  simp only[O4.s58]
  by_cases g:i<(qB m c (i*m.I.toNat)).length
  ·left
   have hx:=get_at g
   generalize (qB m c (i*m.I.toNat))[i]=x at hx
   obtain⟨a5,b5,row,out,f1,f2,f3,f4,f5⟩:=rmin_row H C (e:=0) hx q2
   have a2:qB m c (i*m.I.toNat) <+: qB m c ((i+1)*m.I.toNat):=dF (by rw[eO];omega)
   have b9:=a2.length_le
   refine⟨(natI a5,b5,P++[row],R++[out],i+1),?_,⟨a5,rfl,f2,by simp only;omega,by simp[q4],by simp[q5],λk z hk hz=>?_⟩,by simp only;omega⟩
   ·rw[dH,C0,f1,A5]
    simp only[O4.k57]
    rw[Q1,Q1]
   ·simp only at hk hz ⊢
    rcases K4 k i with h|h
    ·have a6:=get_at (l:=qB m c (i*m.I.toNat)) (i:=k) (by omega)
     have a4:=aZ a2 a6
     rw[hz]at a4
     injection a4 with a4
     rw[<- a4]at a6
     obtain⟨b3,b4,w1,w2,w3,w4,w5⟩:=q6 k z h a6
     refine⟨b3,b4,by rw[P2 (by omega),w1],by rw[P2 (by omega),w2],w3,w4,λa ha=>?_⟩
     obtain⟨j,z',v1,v2⟩:=w5 a ha
     exact⟨j,z',aZ a2 v1,v2⟩
    ·have:k=i:=by omega
     subst this
     have a3:=aZ a2 hx
     rw[hz]at a3
     injection a3 with a3
     subst a3
     exact⟨row,out,by rw[V6 (by omega),q4,V1];rfl,by rw[V6 (by omega),q5,V1];rfl,f3,f4,f5⟩
  ·right
   have he:(qB m c (i*m.I.toNat)).length=i:=by omega
   refine⟨(P,R),by rw[dH,B1],qB m c (i*m.I.toNat),P,R,rfl,⟨?_⟩,by omega,by omega,λk x hx=>q6 k x (by have:=(F6.1 hx).1;omega) hx⟩
   rw[he]
   rfl) fuel ([m.S],y.set (clN c m.S.toNat) 0,[],[],0) ⟨[m.S.toNat],by simp[natI];omega,by simp only;rw[gV];exact N0,D9 _,rfl,rfl,λi x h=>absurd h (N9 _)⟩ (by have:=E6;simp only;omega)
 have c9:L.length<=m.N.length:=by
  rw[hE.eq];exact qB_len H C _
 have a7:∀x∈L,∃s,s<m.N.length/\clN c s=x.1:=by
  rw[hE.eq];exact qB_rng H C _
 have d1:0<L.length:=(F6.1 hE.first).1
 have b6:Shape (qE m c) (qO m c) L (⟨m.I,0,P,R⟩:B6):=⟨p1,λi x a hx ha=>by
  obtain⟨row,out,w1,w2,w3,w4,w5⟩:=p3 i x hx
  obtain⟨j,z,z1,z2,z3,z4⟩:=w5 a ha
  have e1:nx (⟨m.I,0,P,R⟩:B6) i a=j:=by
   unfold nx
   simp only
   rw[w1,H5,z3,H5,I7]
  refine⟨z,by rw[e1];exact z1,z2,?_⟩
  unfold ot
  simp only
  rw[w2,H5,z4,H5]⟩
 have c6:K7 (⟨m.I,0,P,R⟩:B6):=by
  refine⟨b8,c7,by simp only;omega,by simp only;omega,⟨bN 0,by simp only;omega⟩,by simp only;omega,λi hi=>?_⟩;simp only at hi ⊢;have hx:=get_at (l:=L) (i:=i) (by omega);obtain⟨row,out,w1,w2,w3,w4,w5⟩:=p3 i _ hx;refine⟨row,out,w1,w2,by omega,by omega,λu hu=>?_,λv hv=>?_⟩
  ·obtain⟨a,ha,rfl⟩:=dP.1 hu;obtain⟨j,z,z1,_,z3,_⟩:=w5 a (by omega);rw[get_at ha]at z3;injection z3 with z3
   have:=(F6.1 z1).1;omega
  ·obtain⟨a,ha,rfl⟩:=dP.1 hv;obtain⟨j,z,_,_,_,z4⟩:=w5 a (by omega);rw[get_at ha]at z4;injection z4 with z4
   obtain⟨s,s1,s2⟩:=a7 _ (I8 hx);have h:=H.at s1 (a:=a) (by omega);rw[<- s2,(qE_eq H C s1 (a:=a) (by omega)).2]at z4;omega
 have a0:∀(w:A2) (i:Nat) (x:Nat×A2) (s:Nat),L[i]?=some x->s<m.N.length->clN c s=x.1->WOk m.I w->outs (⟨m.I,0,P,R⟩:B6) i w=outs m s w:=by
  intro w
  induction w with
  |nil=>intro _ _ _ _ _ _ _;rfl
  |cons z w ih =>
   intro i x s hx hs hc hw;have hz:=hw.head;have ha:z.toNat<m.I.toNat:=by omega
   obtain⟨y,g1,g2,g3⟩:=b6.row i x z.toNat hx ha;have a9:=qE_eq H C hs ha;rw[hc]at a9;have:=ih _ y (nx m s z.toNat) g1 (H.at hs ha).1 (by rw[g2,a9.1]) hw.tail;show ot (⟨m.I,0,P,R⟩:B6) i z.toNat::outs _ (nx (⟨m.I,0,P,R⟩:B6) i z.toNat) w=ot m s z.toNat::outs m (nx m s z.toNat) w;rw[this,g3,a9.2]
 refine⟨⟨m.I,0,P,R⟩,by rw[I7,hr,A5];rfl,⟨c6,rfl,rfl,λw hw=>a0 w 0 _ _ hE.first hs rfl hw,λi j hi hj h=>?_,shape_can (M:=(⟨m.I,0,P,R⟩:B6)) hE b6 (by simp only;omega)⟩⟩;simp only at hi hj;have hx:=get_at (l:=L) (i:=i) (by omega);have a8:=get_at (l:=L) (i:=j) (by omega);obtain⟨s,s1,s2⟩:=a7 _ (I8 hx);obtain⟨t,t1,t2⟩:=a7 _ (I8 a8)
 have he:E m m.N.length s t:=oC λw _ hw=>by
  rw[<- a0 w i _ s hx s1 s2 hw,<- a0 w j _ t a8 t1 t2 hw];exact h w hw
 have hc:=(clN_iff C s1 t1).2 he;exact nodup_at hE.nodup (x:=clN c s) (by rw[H7,hx,s2];rfl) (by rw[H7,a8,hc,t2];rfl)
def min_same(hv:S4 m=0):∃M,S8 m=some (M,0)/\O4 m=some (M,0)/\gY m M:=by
 obtain⟨M,h1,h2⟩:=BL hv;obtain⟨M',h3,h4⟩:=yS hv;have:=minsem_uniq h2 h4;subst this;exact⟨M,h1,h3,h2⟩
end
end
section
def uM{V:Type}[DecidableEq V]{l l':List V}(h:l.Nodup)(hs:∀x∈l,x∈l')(hl:l'.length<=l.length):∀x∈l',x∈l:=λx hx=>X9 λhn=>by
 have:=jA (l:=x::l) (l':=l') (aU.2 ⟨hn,h⟩) λy hy=>by
  rcases L8.1 hy with rfl|hy
  ·exact hx
  ·exact hs y hy
 simp only[G9]at this;omega
section
variable {m M:B6}
def K7.two(H:K7 m):Two m m:=⟨H,H,rfl⟩
open Classical in
noncomputable def sepR(m:B6)(s t:Nat):A2×Bool:=if h:∃res,Fst m m (s,t) res then Classical.choose h else([],false)
noncomputable def sepW(m:B6)(s t:Nat):A2:=(sepR m s t).1
noncomputable def sepB(m:B6)(s t:Nat):Bool:=(sepR m s t).2
def sepR_of{s t:Nat}{res:A2×Bool}(h:Fst m m (s,t) res):Fst m m (s,t) (sepW m s t,sepB m s t):=by
 have h':∃res,Fst m m (s,t) res:=⟨res,h⟩;have:sepR m s t=Classical.choose h':=dif_pos h';show Fst m m (s,t) (sepR m s t);rw[this];exact tS h'
def sep_fst(H:K7 m){s t:Nat}(hs:s<m.N.length)(ht:t<m.N.length):Fst m m (s,t) (sepW m s t,sepB m s t):=by
 obtain⟨res,_,h⟩:=BN H.two (p0:=(s,t)) hs ht;exact sepR_of h
def States_prog(hv:S4 m=0){s t:Nat}(hs:s<m.N.length)(ht:t<m.N.length):oY m (s:Int) (t:Int)=some (sepW m s t,sepB m s t,0):=by
 have H:=dZ hv;have hK:0<m.I.toNat:=by have:=H.i1;omega
 obtain⟨res,h1,h2⟩:=BN H.two (p0:=(s,t)) hs ht;have:=fst_uniq hK h2 (sepR_of h2);unfold oY;rw[kN,A5,hv,B1 (by decide),B1,B1,B1,J0 (by omega),A5,G0,h1,A5,this]
def States_ref(hv:S4 m=0){s t:Nat}(hs:s<m.N.length)(ht:t<m.N.length):oJ m (s:Int) (t:Int)=some (sepW m s t,sepB m s t,0):=by
 have H:=dZ hv;have hK:0<m.I.toNat:=by have:=H.i1;omega
 obtain⟨res,h1,h2⟩:=R09_first_eq H.two (p0:=(s,t)) hs ht;have:=fst_uniq hK h2 (sepR_of h2);unfold oJ;rw[oV,A5,hv,B1 (by decide),B1,B1,B1,J0 (by omega),A5,G0,h1,A5,this]
def sepW_sm(H:K7 m){s t:Nat}(hs:s<m.N.length)(ht:t<m.N.length):WOk m.I (sepW m s t)/\(sepW m s t).length<=m.N.length*m.N.length*m.I.toNat:=by
 have h:=sep_fst H hs ht;rcases h with⟨i,c,x,g1,g2,g3,g4,g5⟩|⟨L,_,_,g⟩
 ·injection g5 with g5 _
  have hr:=iT H.two (p0:=(s,t)) hs ht _ x (I8 g2);have a0:=pB_len H.two (p0:=(s,t)) hs ht (i*m.I.toNat+c);have hi:=(F6.1 g2).1;have:=dV (show i<m.N.length*m.N.length by omega) g1;refine⟨?_,?_⟩
  ·rw[g5];refine WOk.append hr.2.2.2.2.2 λz hz=>?_;have:z=(c:Int):=by simpa using hz
   omega
  ·rw[g5];simp;omega
 ·injection g with g _
  rw[g];exact⟨λa ha=>(by cases ha),D9 _⟩
structure dJ(m:B6):Prop where
 reach:∀s,s<m.N.length->∃w,WOk m.I w/\dest m m.S.toNat w=s
 apart:∀i j,i<m.N.length->j<m.N.length->Eqv m i m j->i=j
def sepB_of(H:K7 m)(P:dJ m){s t:Nat}(hs:s<m.N.length)(ht:t<m.N.length)(hne:s≠t):sepB m s t=true:=by
 cases e:sepB m s t with
 |true=>rfl
 |false =>
  have h:=sep_fst H hs ht;rw[e]at h;exact absurd (P.apart s t hs ht (fst_none h)) hne
def can_reach(K:Can M)(hK:0<M.I.toNat):∀u,u<M.N.length->∃w,WOk M.I w/\dest M 0 w=u:=by
 intro u
 induction u using Nat.strongRecOn with
 |ind u ih =>
  intro hu;by_cases hz:u=0
  ·subst hz;exact⟨[],λa ha=>(by cases ha),rfl⟩
  ·obtain⟨i,a,h1,h2,h3⟩:=K.c5 u (by omega) hu;obtain⟨w,w1,w2⟩:=ih i h1 (by omega);refine⟨w++[(a:Int)],w1.append λz hz=>?_,?_⟩
   ·have:z=(a:Int):=by simpa using hz
    omega
   ·rw[jE,w2];show nx M i (Int.toNat ↑a)=u;rw[I7,h3]
def zA(S:gY m M):dJ M:=⟨λs hs=>by
 have hK:0<M.I.toNat:=by have:=S.ok.i1;omega
 rw[S.start]
 exact can_reach S.can hK s hs,S.min⟩
def sem_le(H:K7 m)(S:gY m M):M.N.length<=m.N.length/\(M.N.length=m.N.length↔dJ m):=by
 have hK:0<M.I.toNat:=by have:=S.ok.i1;omega
 have a7:=H.st;have a3:=can_reach S.can hK
 have hf:∀u,∃s,u<M.N.length->s<m.N.length/\Eqv M u m s/\∃w,WOk m.I w/\dest m m.S.toNat w=s:=λu=>by
  by_cases hu:u<M.N.length
  ·obtain⟨w,w1,w2⟩:=a3 u hu;have hw:WOk m.I w:=by rw[<- S.inp];exact w1
   refine⟨dest m m.S.toNat w,λ_=>⟨H.dest hw (by omega),?_,w,hw,rfl⟩⟩;have:=S.eqv.dest S.inp w1
   rwa [w2]at this
  ·exact⟨0,λh=>absurd h hu⟩
 obtain⟨f,hf⟩:=CH hf
 have a0:((List.range M.N.length).map f).Nodup:=by
  refine qJ.2 (List.Pairwise.imp_of_mem (λ{a b} ha hb hne he=>hne ?_) (tC (n:=M.N.length)));have h1:=hf a (M5.1 ha);have h2:=hf b (M5.1 hb);rw[<- he]at h2;exact S.min a b (M5.1 ha) (M5.1 hb) (h1.2.1.trans S.inp (h2.2.1.symm S.inp))
 have a2:∀x∈(List.range M.N.length).map f,x∈List.range m.N.length:=λx hx=>by
  obtain⟨u,hu,rfl⟩:=I3.1 hx;exact M5.2 (hf u (M5.1 hu)).1
 have a5:=jA a0 a2;rw[C3,P3,P3]at a5;refine⟨a5,λhe=>⟨λs hs=>?_,λi j hi hj a6=>?_⟩,λP=>?_⟩
 ·have:=uM a0 a2 (by simp[he]) s (M5.2 hs);obtain⟨u,hu,rfl⟩:=I3.1 this;exact(hf u (M5.1 hu)).2.2
 ·obtain⟨u,hu,rfl⟩:=I3.1 (uM a0 a2 (by simp[he]) i (M5.2 hi));obtain⟨v,hv,rfl⟩:=I3.1 (uM a0 a2 (by simp[he]) j (M5.2 hj));have h1:=hf u (M5.1 hu);have h2:=hf v (M5.1 hv);have:=S.min u v (M5.1 hu) (M5.1 hv) ((h1.2.1.trans S.inp a6).trans S.inp (h2.2.1.symm S.inp));rw[this]
 ·have hg:∀s,∃u,s<m.N.length->u<M.N.length/\Eqv M u m s:=λs=>by
   by_cases hs:s<m.N.length
   ·obtain⟨w,w1,w2⟩:=P.reach s hs;have hw:WOk M.I w:=by rw[S.inp];exact w1
    refine⟨dest M 0 w,λ_=>⟨S.ok.dest hw S.ok.n1,?_⟩⟩;have:=S.eqv.dest S.inp hw
    rwa [w2]at this
   ·exact⟨0,λh=>absurd h hs⟩
  obtain⟨g,hg⟩:=CH hg
  have a4:((List.range m.N.length).map g).Nodup:=by
   refine qJ.2 (List.Pairwise.imp_of_mem (λ{a b} ha hb hne he=>hne ?_) (tC (n:=m.N.length)));have h1:=hg a (M5.1 ha);have h2:=hg b (M5.1 hb);rw[<- he]at h2;exact P.apart a b (M5.1 ha) (M5.1 hb) ((h1.2.symm S.inp).trans S.inp.symm h2.2)
  have:=jA a4 (l':=List.range M.N.length) λx hx=>by
   obtain⟨u,hu,rfl⟩:=I3.1 hx;exact M5.2 (hg u (M5.1 hu)).1
  rw[C3,P3,P3]at this;omega
def reach_all{L:List (Nat×A2)}{s0:Nat}(hE:MEnd m s0 L):∀(w:A2) (i:Nat) (x:Nat×A2),L[i]?=some x->WOk m.I w->∃(j:Nat) (y:Nat×A2),L[j]?=some y/\y.1=dest m x.1 w
 |[],i,x,hx,_=>⟨i,x,hx,rfl⟩
 |z::w,i,x,hx,hw=>by
  have hz:=hw.head;obtain⟨j,y,h1,h2,_⟩:=hE.closed hx (a:=z.toNat) (by omega);obtain⟨k,v,g1,g2⟩:=reach_all hE w j y h1 hw.tail;exact⟨k,v,g1,by rw[g2,h2];rfl⟩
def minimal_prog(hv:S4 m=0):∃b,pO m=some b/\(b=true↔dJ m):=by
 have H:=dZ hv;have a5:=H.st;obtain⟨M,h1,S⟩:=BL hv;obtain⟨a3,a0⟩:=sem_le H S;obtain⟨L,hE,hR⟩:=BE hv;obtain⟨a2,a4⟩:=mEnd_rng H (by omega) hE;refine⟨decide (M.N.length=m.N.length),?_,by rw[decide_eq_true_iff];exact a0⟩;unfold pO;rw[kN,A5,hv,B1 (by decide),hR,A5,A5];by_cases hl:L.length=m.N.length
 ·rw[B1 (by rw[dH,C3];omega),h1,A5,C0 rfl,A5];show some (decide ((M.N.length:Int)=(m.N.length:Int)))=_;congr 1;exact decide_eq_decide.2 (by omega)
 ·rw[C0 (by rw[dH,C3];omega),J0];intro he;have P:=a0.1 he
  have:=jA (l:=List.range m.N.length) (l':=L.map Prod.fst) tC λs hs=>by
   obtain⟨w,w1,w2⟩:=P.reach s (M5.1 hs);obtain⟨j,y,g1,g2⟩:=reach_all hE w 0 _ hE.first w1;exact I3.2 ⟨y,I8 g1,by rw[g2];exact w2⟩
  rw[P3,C3]at this;omega
def minimal_ref(hv:S4 m=0):∃b,oS m=some b/\(b=true↔dJ m):=by
 obtain⟨M,h2,S⟩:=yS hv;obtain⟨a2,a0⟩:=sem_le (dZ hv) S;refine⟨decide (M.N.length=m.N.length),?_,by rw[decide_eq_true_iff];exact a0⟩;unfold oS;rw[h2,A5,C0 rfl,A5];show some (decide ((M.N.length:Int)=(m.N.length:Int)))=_;congr 1;exact decide_eq_decide.2 (by omega)
open Classical in
noncomputable def chkM(m:B6):Int:=if S4 m≠0 then S4 m else if dJ m then 0 else 1
open Classical in
def check_prog(m:B6):pJ m=some (chkM m):=by
 unfold chkM pJ;rw[kN,A5];by_cases hv:S4 m=0
 ·obtain⟨b,h1,h3⟩:=minimal_prog hv;rw[B1,h1,A5,if_neg (λh=>h hv)];cases b with
  |true=>rw[if_pos (h3.1 rfl)];rfl
  |false=>rw[if_neg (λq=>by have:=h3.2 q;cases this)];rfl
 ·rw[C0 hv,if_pos hv]
open Classical in
def check_ref(m:B6):oF m=some (chkM m):=by
 unfold chkM oF;rw[oV,A5];by_cases hv:S4 m=0
 ·obtain⟨b,h1,h3⟩:=minimal_ref hv;rw[B1,h1,A5,if_neg (λh=>h hv)];cases b with
  |true=>rw[if_pos (h3.1 rfl)];rfl
  |false=>rw[if_neg (λq=>by have:=h3.2 q;cases this)];rfl
 ·rw[C0 hv,if_pos hv]
end
end

section
section
variable {m M:B6}{ids:List (A4)}{front middle:A4}
structure Parts(M:B6)(front middle:A4)(ids:List (A4)):Prop where
 ok:S4 M=0
 il:ids.length=M.N.length
 is_:∀l∈ids,l.length<=200/\∀x∈l,x.length<=600
 f1:front.length<=200
 f2:∀u∈front,WOk M.I u/\u.length<=200
 m1:middle.length<=200
 m2:∀v∈middle,WOk M.I v/\v.length<=200
def check_of{w:A2}(H:K7 M)(h:WOk M.I w)(hl:w.length<=1024):W7 w M.I=0:=by
 have:=H.i1;have:=H.i2;unfold W7;rw[if_pos (by omega),if_neg (by omega),if_pos]
 exact R4.2 λa ha=>by
  have:=h a ha;simp;omega
end
end
section
section
variable {M I:B6}{sM sI k:Nat}{U:A4}{T:Nat->A4}
structure Pass(M I:B6)(sM sI k:Nat)(U:A4)(T:Nat->A4):Prop where
 two:Two M I
 hM:sM<M.N.length
 hI:sI<I.N.length
 nil:[]∈U
 ok:∀u∈U,WOk M.I u
 cov:∀s,s<M.N.length->∃u∈U,dest M sM u=s
 tne:∀s,s<M.N.length->∃x,x∈T s
 tok:∀s,∀x∈T s,WOk M.I x
 sep:∀s s',s<M.N.length->s'<M.N.length->s≠s'->∃x,x∈T s/\x∈T s'/\outs M s x≠outs M s' x
 pass:∀u∈U,∀v,WOk M.I v->v.length<=k+1->∀x∈T (dest M sM (u++v)),outs M sM (u++v++x)=outs I sI (u++v++x)
 few:∀l:List Nat,l.Nodup->(∀q∈l,∃w,WOk M.I w/\dest I sI w=q)->l.length<=M.N.length+k
variable (P:Pass M I sM sI k U T)
include P
end
end
section
section
variable {m b M:B6}
def rZ(x:A2):G3 x x=x.length:=by
 induction x with
 |nil=>rfl
 |cons u x ih=>simp[G3,ih]
end
end
section
section
variable {m b M:B6}
end
end

section
def vD{R:Type}{F:Nat->R}:∀(a b:A2) (j:Nat) (B:Nat->Option Int),(∀i,B (j+i)=b[i]?)->a.length=b.length->scan (λk x=>if B k=some x then none else some (F k)) j a=if a=b then none else some (F (j+G3 a b))
 |[],[],_,_,_,_=>rfl
 |[],_::_,_,_,_,h=>by cases h
 |_::_,[],_,_,_,h=>by cases h
 |x::a,y::b,j,B,hB,h=>by
  have h0:B j=some y:=by have:=hB 0;simpa using this
  unfold scan;by_cases e:y=x
  ·subst e;rw[if_pos h0];show scan _ (j+1) a=_;rw[vD a b (j+1) B (λi=>by have:=hB (i+1);rw[show j+1+i=j+(i+1) by omega];simpa using this) (by simpa using h)];by_cases e2:a=b
   ·subst e2;rw[if_pos rfl,if_pos rfl]
   ·rw[if_neg e2,if_neg (λq=>e2 (by injection q))];rw[show j+1+G3 a b=j+G3 (y::a) (y::b) by simp[G3];omega]
  ·rw[if_neg (λq=>e (by rw[h0]at q;injection q)),if_neg (λq=>e (by injection q with q1;exact q1.symm))];rw[show G3 (x::a) (y::b)=0 by simp[G3,Ne.symm e]];rfl
def R08_Equal_eq{a b:A2}(h:SmW a):gL a b=some (decide (a=b)):=by
 unfold gL;by_cases a0:a.length=b.length
 ·rw[B1,Z8 (l:=a) (λk x=>if b[k]?=some x then none else some false) (λk x hx=>?_) ?_ (by unfold SmW at h;omega),A5,vD (F:=λ_=>false) a b 0 (λk=>b[k]?) (λi=>by rw[F7]) a0]
  ·by_cases e:a=b
   ·rw[if_pos e,G7 e];rfl
   ·rw[if_neg e,J0 e];rfl
  ·simp only[gL.s2];rw[B1]
  ·have hk:=(F6.1 hx).1;have hy:=get_at (show k<b.length by omega);simp only[gL.s2];rw[C0,B4 hx,B4 hy,hy];by_cases e:x=b[k]'(by omega)
   ·rw[B1 (λh=>h e),if_pos (by rw[e])]
   ·rw[C0 e,if_neg (λq=>e (by injection q with q;exact q.symm))]
 ·rw[C0,J0 (λe=>a0 (by rw[e]))]
section
variable {m b:B6}
end
end
section
section
variable {m:B6}
def fromM_ok(hv:S4 m=0){s:Nat}(hs:s<m.N.length){w:A2}(hw:W7 w m.I=0):fromM m (s:Int) w=(outs m s w,(↑(dest m s w):Int),0):=by
 unfold fromM;rw[if_neg (λh=>h hv),if_neg (by omega),if_neg (λh=>h hw),I7]
open Classical in
end
end
section
def slices_EqualD{a b:A2}(h:SmW a):gS a b=some (decide (a=b)):=by
 unfold gS;by_cases a0:a.length=b.length
 ·rw[B1,Z8 (l:=a) (λk x=>if b[k]?=some x then none else some false) (λk x hx=>?_) ?_ (by unfold SmW at h;omega),A5,vD (F:=λ_=>false) a b 0 (λk=>b[k]?) (λi=>by rw[F7]) a0]
  ·by_cases e:a=b
   ·rw[if_pos e,G7 e];rfl
   ·rw[if_neg e,J0 e];rfl
  ·simp only[gS.s2];rw[B1]
  ·have hk:=(F6.1 hx).1;have hy:=get_at (show k<b.length by omega);simp only[gS.s2];rw[C0,B4 hx,B4 hy,hy];by_cases e:x=b[k]'(by omega)
   ·rw[B1 (λh=>h e),if_pos (by rw[e])]
   ·rw[C0 e,if_neg (λq=>e (by injection q with q;exact q.symm))]
 ·rw[C0,J0 (λe=>a0 (by rw[e]))]
section
variable {m:B6}
def sepd(m:B6)(s t:Nat)(acc:A4):Bool:=acc.any λw=>decide (outs m s w≠outs m t w)
noncomputable def chStep(m:B6)(s:Nat)(acc:A4)(t:Nat):A4:=if sepd m s t acc=true then acc else acc++[sepW m s t]
noncomputable def chRow(m:B6)(s:Nat)(acc:A4)(t:Nat):A4:=(List.range' (s+1) (t-(s+1))).foldl (chStep m s) acc
noncomputable def chTo(m:B6)(s:Nat):A4:=(List.range s).foldl (λacc s=>chRow m s acc m.N.length) []
noncomputable def chS(m:B6):A4:=sortW (chTo m m.N.length)
def uV{s t:Nat}{acc:A4}(h:s<t):chRow m s acc (t+1)=chStep m s (chRow m s acc t) t:=by
 unfold chRow;rw[show t+1-(s+1)=(t-(s+1))+1 by omega,List.range'_concat,qI,show s+1+1*(t-(s+1))=t by omega];rfl
def uC(s:Nat):chTo m (s+1)=chRow m s (chTo m s) m.N.length:=by
 unfold chTo;rw[fP,qI];rfl
def BO(H:K7 m){s:Nat}(hs:s<m.N.length){w:A2}(hw:WOk m.I w)(hl:w.length<=100000000):eM m (s:Int) w=some (outs m s w):=by
 unfold eM
 have key:=S1 (step:=λ(q:Int×A2×Nat)=>eM.s2 m w q.1 q.2.1 q.2.2) (r:=outs m s w) (λq=>q.2.2<=w.length/\q.1=(↑(dest m s (w.take q.2.2)):Int)/\q.2.1=outs m s (w.take q.2.2)) (λq=>w.length-q.2.2) (λq ⟨g1,g2,g3⟩=>by
  obtain⟨st,y,k⟩:=q
  simp only at g1 g2 g3
  subst g2
  subst g3
  simp only[eM.s2]
  by_cases g4:k<w.length
  ·left
   have hx:=get_at g4
   obtain⟨x0,x1⟩:=hw _ (P7 g4)
   have ha:w[k].toNat<m.I.toNat:=by omega
   have hd:Sym.dest m s (w.take k)<m.N.length:=H.dest (hw.take k) hs
   obtain⟨_,_,_,x,y,e1,e2,e3,e4⟩:=H.at hd ha
   refine⟨((↑(Sym.dest m s (w.take (k+1))):Int),outs m s (w.take (k+1)),k+1),?_,⟨g4,rfl,rfl⟩,by simp only;omega⟩
   rw[O3 hx,F8,B4 hx,D6 rfl e2,D6 (i:=w[k].toNat) (by omega) e4,H1 (by unfold B5;rw[kB,M7];omega),D6 rfl e1,D6 (i:=w[k].toNat) (by omega) e3,bC hx,jE,oR]
   rfl
  ·right
   have e:k=w.length:=by omega
   subst e
   rw[B1,V2]) (n:=fuel) (s:=((s:Int),[],0)) ⟨D9 _,rfl,rfl⟩ (by have:=E6;simp only;omega)
 rw[H1 ⟨bN 0,by omega,by unfold B5;omega⟩,key,A5]
def SepS(m:B6):Prop:=∀s t,s<t->t<m.N.length->(sepW m s t).length<=1024
def ChOk(m:B6)(acc:A4):Prop:=∀w∈acc,WOk m.I w/\w.length<=1024
def separated_eq(H:K7 m){s t:Nat}(hs:s<m.N.length)(ht:t<m.N.length){acc:A4}(hA:ChOk m acc)(hl:acc.length<=1000000):pM m acc (s:Int) (t:Int)=some (sepd m s t acc):=by
 unfold pM iM;rw[Z8 (l:=acc) (λ_ w=>if decide (outs m s w≠outs m t w)=true then some true else none) (λi w hw=>?_) ?_ (by omega),A5]
 ·unfold sepd;cases e:scan (λ_ w=>if decide (outs m s w≠outs m t w)=true then some true else none) 0 acc with
  |some r =>
   obtain⟨i,x,hx,hg⟩:=qW e;split at hg
   ·rename_i h;injection hg with hg
    rw[pX.2 ⟨x,I8 hx,h⟩,<- hg];rfl
   ·cases hg
  |none =>
   rw[xK.2 λx hx=>by
    obtain⟨i,hi,rfl⟩:=dP.1 hx
    have:=eG.1 e i _ (get_at hi)
    split at this
    ·cases this
    ·assumption]
   rfl
 ·simp only[iM.s2];rw[B1]
 ·have hi:=(F6.1 hw).1;obtain⟨h1,h2⟩:=hA w (I8 hw);simp only[iM.s2];rw[C0,B4 hw];unfold pS;rw[BO H hs h1 (by omega),A5,BO H ht h1 (by omega),A5,slices_EqualD (by unfold SmW;rw[kB];omega),A5,A5];by_cases e:outs m s w=outs m t w
  ·rw[G7 e,aS,G0,if_neg (by simp[e])]
  ·rw[J0 e,cR,F8,if_pos (by simp[e])]
def R11_some_eq(hv:S4 m=0){s t:Nat}(hs:s<m.N.length)(ht:t<m.N.length){acc:A4}(hA:ChOk m acc)(hl:acc.length<=1000000):gD m (s:Int) (t:Int) acc=some (sepd m s t acc):=by
 have H:=dZ hv;unfold gD;rw[Z8 (l:=acc) (λ_ w=>if decide (outs m s w≠outs m t w)=true then some true else none) (λi w hw=>?_) ?_ (by omega),A5]
 ·unfold sepd;cases e:scan (λ_ w=>if decide (outs m s w≠outs m t w)=true then some true else none) 0 acc with
  |some r =>
   obtain⟨i,x,hx,hg⟩:=qW e;split at hg
   ·rename_i h;injection hg with hg
    rw[pX.2 ⟨x,I8 hx,h⟩,<- hg];rfl
   ·cases hg
  |none =>
   rw[xK.2 λx hx=>by
    obtain⟨i,hi,rfl⟩:=dP.1 hx
    have:=eG.1 e i _ (get_at hi)
    split at this
    ·cases this
    ·assumption]
   rfl
 ·simp only[gD.s2];rw[B1]
 ·have hi:=(F6.1 hw).1;obtain⟨h1,h2⟩:=hA w (I8 hw);have a0:=check_of H h1 h2;simp only[gD.s2];rw[C0,B4 hw];unfold sN nY;rw[zJ (by unfold SmW;omega),A5,A5,zJ (by unfold SmW;omega),A5,A5,fromM_ok hv hs a0,fromM_ok hv ht a0,R08_Equal_eq (by unfold SmW;rw[kB];omega),A5,A5];by_cases e:outs m s w=outs m t w
  ·rw[G7 e,aS,G0,if_neg (by simp[e])]
  ·rw[J0 e,cR,F8,if_pos (by simp[e])]
def chStep_okS(H:K7 m)(hb:SepS m){s t:Nat}(hs:s<m.N.length)(ht:t<m.N.length)(hst:s<t){acc:A4}(hA:ChOk m acc):ChOk m (chStep m s acc t)/\(chStep m s acc t).length<=acc.length+1:=by
 unfold chStep;split
 ·exact⟨hA,by omega⟩
 ·refine⟨λw hw=>?_,by simp⟩;rcases J2.1 hw with h|h
  ·exact hA w h
  ·have:w=sepW m s t:=by simpa using h
   subst this;obtain⟨h1,h2⟩:=sepW_sm H hs ht;exact⟨h1,hb s t hst ht⟩
def rE(H:K7 m)(hb:SepS m){s:Nat}(hs:s<m.N.length){acc:A4}(hA:ChOk m acc):∀t,t<=m.N.length->ChOk m (chRow m s acc t)/\(chRow m s acc t).length<=acc.length+t
 |0,_=>by
  unfold chRow;rw[Nat.zero_sub];exact⟨hA,by simp⟩
 |t+1,ht=>by
  obtain⟨h1,h2⟩:=rE H hb hs hA t (by omega);by_cases g:s<t
  ·rw[uV g];obtain⟨h3,h4⟩:=chStep_okS H hb hs (t:=t) (by omega) g h1;exact⟨h3,by omega⟩
  ·unfold chRow;rw[show t+1-(s+1)=0 by omega];exact⟨hA,by simp⟩
def kC(H:K7 m)(hb:SepS m):∀s,s<=m.N.length->ChOk m (chTo m s)/\(chTo m s).length<=s*m.N.length
 |0,_=>⟨λw hw=>(by cases hw),by simp[chTo]⟩
 |s+1,hs=>by
  obtain⟨h1,h2⟩:=kC H hb s (by omega);rw[uC];obtain⟨h3,h4⟩:=rE H hb (s:=s) (by omega) h1 m.N.length (H0 _);exact⟨h3,by rw[eO];omega⟩
def oG(H:K7 m)(hb:SepS m){s:Nat}(hs:s<=m.N.length):(chTo m s).length<=128*128:=by
 have h1:=(kC H hb s hs).2;have hn:=H.n2;have h2:s*m.N.length<=128*128:=kP (by omega) hn;omega
def zmo(hv:S4 m=0)(P:dJ m)(hb:SepS m):bI m=some (chS m,0):=by
 have H:=dZ hv;have hn:=H.n2
 have hc:chkM m=0:=by
  unfold chkM;rw[if_neg (λh=>h hv),if_pos P]
 unfold bI;rw[check_prog m,A5,hc,B1 (by decide)]
 have a2:∀s,s<m.N.length->iter (λ(q:A4×Nat)=>bI.s13 m s q.1 q.2) fuel (chTo m s,s+1)=some (.inl (chRow m s (chTo m s) m.N.length)):=λs hs=>by
  obtain⟨c1,_⟩:=kC H hb s (kU hs);have c2:=oG H hb (kU hs);refine S1 (λq=>s<q.2/\q.2<=m.N.length/\q.1=chRow m s (chTo m s) q.2) (λq=>m.N.length-q.2) (λq ⟨q1,q2,q3⟩=>?_) ⟨jQ _,hs,by unfold chRow;rw[V1];rfl⟩ (by have:=E6;simp only;omega);obtain⟨y,t⟩:=q;simp only at q1 q2 q3;subst q3;obtain⟨d1,d2⟩:=rE H hb hs c1 t q2;simp only[bI.s13];by_cases g:t<m.N.length
  ·left;refine⟨(chRow m s (chTo m s) (t+1),t+1),?_,⟨by simp only;omega,g,rfl⟩,by simp only;omega⟩;rw[C0,separated_eq H hs g d1 (by omega),A5,uV q1];unfold chStep;cases e:sepd m s t (chRow m s (chTo m s) t) with
   |true =>
    rw[F8,A5,if_pos rfl];rfl
   |false =>
    rw[G0,States_prog hv hs g,A5];simp only;rw[B1 (λh=>h rfl),Q1,A5,if_neg (by decide)];rfl
  ·right;have:t=m.N.length:=by omega
   subst this;rw[B1]
 have a0:=S1 (step:=λ(q:A4×Nat)=>bI.s14 m q.1 q.2) (r:=.inl (chTo m m.N.length)) (λq=>q.2<=m.N.length/\q.1=chTo m q.2) (λq=>m.N.length-q.2) (λq ⟨q1,q2⟩=>by
  obtain⟨y,s⟩:=q
  simp only at q1 q2
  subst q2
  simp only[bI.s14]
  by_cases g:s<m.N.length
  ·left
   refine⟨(chTo m (s+1),s+1),?_,⟨g,rfl⟩,by simp only;omega⟩
   rw[C0,a2 s g,A5,uC]
   rfl
  ·right
   have:s=m.N.length:=by omega
   subst this
   rw[B1]) (n:=fuel) (s:=([],0)) ⟨D9 _,rfl⟩ (by have:=E6;simp only;omega)
 rw[a0,A5];have c2:=oG H hb (H0 m.N.length);show(jF (chTo m m.N.length)).bind _=_
 rw[wM ⟨by omega,λw hw=>by
  have:=((kC H hb m.N.length (H0 _)).1 w hw).2
  unfold SmW
  omega⟩,A5]
 rfl
def zsd(hv:S4 m=0)(P:dJ m)(hb:SepS m):bF m=some (chS m,0):=by
 have H:=dZ hv;have hn:=H.n2
 have hc:chkM m=0:=by
  unfold chkM;rw[if_neg (λh=>h hv),if_pos P]
 unfold bF;rw[check_ref m,A5,hc,B1 (by decide)]
 have a2:∀s,s<m.N.length->iter (λ(q:A4×Nat)=>bF.s13 m s q.1 q.2) fuel (chTo m s,s+1)=some (chRow m s (chTo m s) m.N.length):=λs hs=>by
  obtain⟨c1,_⟩:=kC H hb s (kU hs);have c2:=oG H hb (kU hs);refine S1 (λq=>s<q.2/\q.2<=m.N.length/\q.1=chRow m s (chTo m s) q.2) (λq=>m.N.length-q.2) (λq ⟨q1,q2,q3⟩=>?_) ⟨jQ _,hs,by unfold chRow;rw[V1];rfl⟩ (by have:=E6;simp only;omega);obtain⟨y,t⟩:=q;simp only at q1 q2 q3;subst q3;obtain⟨d1,d2⟩:=rE H hb hs c1 t q2;simp only[bF.s13];by_cases g:t<m.N.length
  ·left;refine⟨(chRow m s (chTo m s) (t+1),t+1),?_,⟨by simp only;omega,g,rfl⟩,by simp only;omega⟩;rw[C0,R11_some_eq hv hs g d1 (by omega),A5,uV q1];unfold chStep;cases e:sepd m s t (chRow m s (chTo m s) t) with
   |true =>
    rw[aS,G0,if_pos rfl]
   |false =>
    rw[cR,F8,States_ref hv hs g,A5,Q1,if_neg (by decide)]
  ·right;have:t=m.N.length:=by omega
   subst this;rw[B1]
 have a0:=S1 (step:=λ(q:A4×Nat)=>bF.s14 m q.1 q.2) (r:=chTo m m.N.length) (λq=>q.2<=m.N.length/\q.1=chTo m q.2) (λq=>m.N.length-q.2) (λq ⟨q1,q2⟩=>by
  obtain⟨y,s⟩:=q
  simp only at q1 q2
  subst q2
  simp only[bF.s14]
  by_cases g:s<m.N.length
  ·left
   refine⟨(chTo m (s+1),s+1),?_,⟨g,rfl⟩,by simp only;omega⟩
   rw[C0,a2 s g,A5,uC]
  ·right
   have:s=m.N.length:=by omega
   subst this
   rw[B1]) (n:=fuel) (s:=([],0)) ⟨D9 _,rfl⟩ (by have:=E6;simp only;omega)
 rw[a0,A5];have c2:=oG H hb (H0 m.N.length)
 rw[AU ⟨by omega,λw hw=>by
  have:=((kC H hb m.N.length (H0 _)).1 w hw).2
  unfold SmW
  omega⟩,A5]
 rfl
end
end
section
structure Known(mp:List (ByteArray×Bool))(out:A4):Prop where
 nd:out.Nodup
 le:out.length<=10000
 get:∀w:A2,(mget (⟨(keyL w).toArray⟩:ByteArray) mp).getD false=decide (w∈out)
section
variable {p q:A4}
end
end
section
section
variable {p q:A4}
end
end
section
section
variable {M:B6}{P:A4}
end
end
section
section
variable {front middle last:A4}
end
end
section
section
variable {m M:B6}
end
end
section
section
variable {m b M:B6}
end
end
section
section
variable {A:Type}[DecidableEq A]{e:A->Nat->A}{K:Nat}{s0:A}
def bfs_mono:∀(r:Nat) {u v:Nat} {x y:A×A2},u<=v->(bfsB e K s0 r)[u]?=some x->(bfsB e K s0 r)[v]?=some y->x.2.length<=y.2.length
 |0,u,v,x,y,huv,hx,hy=>by
  have h1:=(F6.1 hx).1;have h2:=(F6.1 hy).1;have hl:(bfsB e K s0 0).length=1:=rfl;have e1:u=0:=by omega
  have e2:v=0:=by omega
  subst e1;subst e2;rw[hx]at hy;injection hy with hy
  rw[hy];exact H0 _
 |r+1,u,v,x,y,huv,hx,hy=>by
  have ih:=λ{u v x y}=>bfs_mono r (u:=u) (v:=v) (x:=x) (y:=y);rw[bfsB]at hx hy;cases hp:(bfsB e K s0 r)[r / K]? with
  |none =>
   rw[hp]at hx hy;exact ih huv hx hy
  |some p =>
   rw[hp]at hx hy;simp only at hx hy;split at hx
   ·rename_i g;rw[if_pos g]at hy;exact ih huv hx hy
   ·rename_i g;rw[if_neg g]at hy;have hv:=(F6.1 hy).1;rw[J4,Q3]at hv;rcases K4 v (bfsB e K s0 r).length with h|h
    ·rw[P2 h]at hy;rw[P2 (by omega)]at hx;exact ih huv hx hy
    ·have ev:v=(bfsB e K s0 r).length:=by omega
     subst ev;rw[V6 (H0 _),V1]at hy;injection hy with hy
     subst hy;simp only[J4,Q3];rcases K4 u (bfsB e K s0 r).length with h2|h2
     ·rw[P2 h2]at hx;rcases nV hx with q|⟨r',z,q1,q2,q3,q4⟩
      ·subst q;rw[nS]at hx;injection hx with hx
       subst hx;simp
      ·have:=ih (tK (c:=K) (kU q1)) q3 hp;rw[q4];simp only[J4,Q3];omega
     ·have eu:u=(bfsB e K s0 r).length:=by omega
      subst eu;rw[V6 (H0 _),V1]at hx;injection hx with hx
      subst hx;simp
def bfs_early{N j r:Nat}{y:A×A2}(hK:0<K)(hy:(bfsB e K s0 N)[j]?=some y)(hr:j*K<=r)(hN:r<=N):(bfsB e K s0 r)[j]?=some y:=by
 have a0:=dF (e:=e) (K:=K) (s0:=s0) hN;rcases K4 j (bfsB e K s0 r).length with g|g
 ·have:=aZ a0 (L1 g);rw[hy]at this;rw[L1 g,this]
 ·exfalso
  have a2:∀d,bfsB e K s0 (r+d)=bfsB e K s0 r:=by
   intro d
   induction d with
   |zero=>rfl
   |succ d ih =>
    show bfsB e K s0 (r+d+1)=_;rw[bfsB,ih,M2 ?_];have h1:j<=(r+d) / K:=(Nat.le_div_iff_mul_le hK).2 (by omega);omega
  have h2:=a2 (N-r);rw[show r+(N-r)=N by omega]at h2;rw[h2]at hy;have:=(F6.1 hy).1;omega
def bfs_reach{f:A->A2->A}(f0:∀a,f a []=a)(f1:∀a w (c:Nat),f a (w++[(c:Int)])=e (f a w) c){i:Nat}{x:A×A2}{N:Nat}(hx:(bfsB e K s0 N)[i]?=some x)(hN:i*K<=N) :
  ∀(n:Nat) (w:A2),w.length=n->(∀z∈w,0<=z/\z<(K:Int))->n<x.2.length->∃j y,j<i/\(bfsB e K s0 (i*K))[j]?=some y/\y.1=f s0 w/\y.2.length<=n:=by
 intro n
 induction n with
 |zero =>
  intro w hw _ a3;have:w=[]:=V7 hw;subst this;refine⟨0,(s0,[]),Nat.pos_of_ne_zero λh=>?_,nS _,(f0 s0).symm,H0 _⟩;subst h;rw[nS]at hx;injection hx with hx
  subst hx;exact absurd a3 (by simp)
 |succ n ih =>
  intro w hw hz a3;rcases List.eq_nil_or_concat w with rfl|⟨v,c,rfl⟩
  ·simp at hw
  rw[List.concat_eq_append]at hw hz ⊢;obtain⟨c0,c1⟩:=hz c (M0 _ (J3.2 rfl));obtain⟨a,rfl⟩:=tN c0;have hK:0<K:=by omega
  have ha:a<K:=by omega
  obtain⟨j,y,j1,j2,j3,j4⟩:=ih v (by simpa using hw) (λz h=>hz z (L6 _ h)) (by omega);have a5:j*K+a+1<=i*K:=by have:=dV j1 ha;omega
  have hy:=bfs_early hK j2 (r:=j*K+a) (by omega) (by omega);have a4:=bfs_to (e:=e) (K:=K) (s0:=s0) (r:=j*K+a) (x:=y) (by rw[dW ha];exact hy);rw[lA ha]at a4;obtain⟨z,b2,a7⟩:=I3.1 a4;obtain⟨l,hl,ez⟩:=dP.1 b2;have a0:(bfsB e K s0 (j*K+a+1))[l]?=some z:=by rw[L1 hl,ez]
  have a6:z.2.length<=n+1:=by
   rcases nV a0 with q|⟨r',u,q1,q2,q3,q4⟩
   ·subst q;rw[nS]at a0;injection a0 with a0
    subst a0;simp
   ·have hd:r' / K<=j:=by
     have:=tK (c:=K) (show r'<=j*K+a by omega)
     rwa [dW ha]at this
    have a8:=aZ (qZ (e:=e) (K:=K) (s0:=s0) (j*K+a)) hy;have:=bfs_mono _ hd q3 a8;rw[q4];simp only[J4,Q3];omega
  have a2:=aZ (dF (e:=e) (K:=K) (s0:=s0) a5) a0;refine⟨l,z,Nat.lt_of_not_le λa9=>?_,a2,by rw[a7,f1,j3],a6⟩;have h3:=aZ (dF (e:=e) (K:=K) (s0:=s0) hN) a2;have:=bfs_mono _ a9 hx h3;omega
end
section
variable {m:B6}
def xW:∀{v:A2} {s t:Nat},WOk m.I v->outs m s v≠outs m t v->∃(u:A2) (c:Nat) (z:A2),v=u++(c:Int)::z/\c<m.I.toNat/\ot m (dest m s u) c≠ot m (dest m t u) c
 |[],s,t,_,h=>absurd rfl h
 |a::v,s,t,hw,h=>by
  have ha:=hw.head;obtain⟨c,rfl⟩:=tN ha.1;by_cases g:ot m s c=ot m t c
  ·obtain⟨u,d,z,h1,h2,h3⟩:=xW (v:=v) (s:=nx m s c) (t:=nx m t c) hw.tail λhv=>h (by
    show ot m s (Int.toNat (c:Int))::outs m (nx m s (Int.toNat (c:Int))) v=ot m t (Int.toNat (c:Int))::outs m (nx m t (Int.toNat (c:Int))) v
    rw[I7,g,hv])
   exact⟨(c:Int)::u,d,z,by rw[h1];rfl,h2,h3⟩
  ·exact⟨[],c,v,rfl,by omega,g⟩
def moore(H:K7 m)(P:dJ m){s t:Nat}(hs:s<m.N.length)(ht:t<m.N.length)(hne:s≠t):∃v,v.length<=m.N.length/\WOk m.I v/\outs m s v≠outs m t v:=by
 refine X9 λg=>hne (P.apart s t hs ht λw hw=>?_);have hE:E m m.N.length s t:=oC λw hl hw=>X9 λh=>g ⟨w,hl,hw,h⟩;exact E_outs (E_all H hs ht hE w.length) hw
def sepW_short(H:K7 m)(P:dJ m){s t:Nat}(hs:s<m.N.length)(ht:t<m.N.length)(hne:s≠t):(sepW m s t).length<=m.N.length:=by
 have hF:=sep_fst H hs ht;rw[sepB_of H P hs ht hne]at hF;rcases hF with⟨i,c,x,h1,h2,h3,h4,h5⟩|⟨L,_,_,h5⟩
 ·injection h5 with h5 _
  rw[h5,J4,Q3];obtain⟨v,v1,v2,v3⟩:=moore H P hs ht hne;obtain⟨u,d,z,rfl,u2,u3⟩:=xW v2 v3;simp only[J4,G9]at v1;refine pY λa2=>?_
  have hu:∀q∈u,0<=q/\q<(m.I.toNat:Int):=λq hq=>by
   have:=v2 q (L6 _ hq);omega
  have fd:∀(st:Nat) (w:A2) (c:Nat),dest m st (w++[(c:Int)])=nx m (dest m st w) c:=λst w c=>by
   rw[jE];show nx m (dest m st w) (Int.toNat (c:Int))=_;rw[I7]
  obtain⟨j,y,j1,j2,j3,j4⟩:=bfs_reach (e:=pE m m) (K:=m.I.toNat) (s0:=(s,t)) (f:=λp w=>(dest m p.1 w,dest m p.2 w)) (λa=>rfl) (λa w c=>by
   simp only[fd]
   rfl) (N:=i*m.I.toNat+c) h2 (by omega) u.length u rfl hu (by omega)
  have hK:0<m.I.toNat:=by omega
  have a0:=dV j1 u2;have hy:=bfs_early hK j2 (r:=j*m.I.toNat+d) (by omega) (by omega);have:=h4 (j*m.I.toNat+d) (by omega);rw[jZ u2 hy,j3,G7 u3]at this;cases this
 ·injection h5 with _ h5
  cases h5
end
end
section
def uO(l:A4):(sortW l).length<=l.length:=by
 refine iH (List.Pairwise.imp (λ{a b} h e=>?_) (fG l)) λx hx=>(bD l x).1 hx;rw[e,kE]at h;cases h
def red0_get{P:A8}(h:0<P.N.length):(red0 P)[0]?=some true:=by
 unfold red0;rw[P9 (by rw[J6];exact h)]
def learn_eb{o:I4}{P:A8}{J:A8->List Bool->Prop}(e1:P6 o=some (P,0))(e2:P5 o=some (P,0))(H:H9 P)(G:Conn P)(h0:P.S=0)
  (h1:∀p red b,LrnE p red->J p red->BlueE p red b->((∀r:Nat,red[r]?=some true->Q0 p r b)/\∀c,(∃r a,aY p red r a c)->(∀r:Nat,red[r]?=some true->Q0 p r c)->b<=c)->J p (red.set b true))
  (h2:∀p red b r0 Q cl red',LrnE p red->J p red->BlueE p red b->FoldB p red r0 b Q cl red'->J (renP Q) red') (j:J P (red0 P)) :
  ∃p' red',U6 o=some (p',0)/\N4 o=some (p',0)/\LrnE p' red'/\J p' red'/\∀r a b,¬aY p' red' r a b:=by
 have hn:=H.n2;have hp:=H.n1;have hr:(red0 P).length=P.N.length:=by unfold red0;rw[P0,J6]
 obtain⟨L,hL,-⟩:=rY H hr;obtain⟨p',red',l1,l2,a0⟩:=evl_loop h1 h2 ⟨learn_start H G,h0,red0_get hp⟩ j hL;refine⟨p',red',?_,?_,a0⟩
 ·unfold U6;rw[e1,A5,B1 (λh=>h rfl),H1 ⟨by omega,bN _,by unfold B5;simp only[I7];omega⟩];simp only;rw[D6 (i:=0) (x:=false) h0 (by rw[W4,if_pos hp])];have:List.set (List.replicate P.N.length false) P.S.toNat true=red0 P:=by rw[h0];rfl
  rw[this];exact l1
 ·unfold N4;rw[e2,A5,B1 (λh=>h rfl),H1 ⟨by omega,bN _,by unfold B5;simp only[I7];omega⟩];simp only;rw[B4 (x:=false) (by rw[W4,if_pos hp])];have:List.set (List.replicate P.N.length false) 0 true=red0 P:=rfl;rw[this,hL,A5,l2,A5];rfl
def learn_ev{o:I4}(ho:SmO o)(hv:bS o)(hP:(allP o).length<=4090):∃P p' red',U6 o=some (p',0)/\N4 o=some (p',0)/\LrnE p' red'/\Tells o p'/\p'.I=o.I/\p'.N.length<=P.N.length/\P.N.length<=(allP o).length/\P6 o=some (P,0):=by
 obtain⟨P,t1,t2,H,G,h0,hI,TM⟩:=tree_both ho hv hP;obtain⟨p',red',l1,l2,K,⟨j1,j2,j3⟩,-⟩:=learn_eb (J:=λp _=>Tells o p/\p.I=o.I/\p.N.length<=P.N.length) t1 t2 H G h0 (λp red b _ j _ _=>j) (λp red b r0 Q cl red' K j hb hF=>⟨j.1.hom hF.ok.ok (fold_hom K.l.ok hF.quo),by have:=hF.quo.inp;have:=j.2.1;show Q.I=_;omega,by have:=hF.lt;have:=j.2.2;omega⟩) ⟨⟨H,λt ht=>⟨_,tree_run hv h0 TM ht⟩⟩,hI,H0 _⟩;exact⟨P,p',red',l1,l2,K,j1,j2,j3,by rw[TM.gn.len];exact uO _,t1⟩
section
variable {p:A8}
def compl_ok(H:H9 p)(hn:p.N.length<=128):∃M,jW p 0=(M,0)/\K7 M/\M.I=p.I/\M.N.length=p.N.length:=by
 refine⟨⟨p.I,p.S,(List.range p.N.length).map (bV p),(List.range p.N.length).map (bR p 0)⟩,?_,⟨H.i1,H.i2,?_,?_,?_,?_,λs hs=>?_⟩,rfl,?_⟩
 ·unfold jW;rw[if_neg (λh=>h H.valid),if_neg (by omega),if_neg (by omega)]
 ·rw[C3,P3];exact H.n1
 ·rw[C3,P3];exact hn
 ·simp only[C3,P3];exact H.st
 ·simp only[C3,P3]
 ·simp only[C3,P3]at hs ⊢;refine⟨bV p s,bR p 0 s,by rw[H7,Q6 hs];rfl,by rw[H7,Q6 hs];rfl,?_,?_,λu hu=>?_,λv hv=>?_⟩
  ·unfold bV;rw[C3,P3];have:=H.i1;omega
  ·unfold bR;rw[C3,P3];have:=H.i1;omega
  ·unfold bV at hu;obtain⟨a,ha,rfl⟩:=I3.1 hu;obtain⟨n1,n2,n3,n4,n5,x,y,hx,hy,a0,a2,_⟩:=H.at hs (M5.1 ha);unfold compN;rw[hx,H5,a0,H5];split<;>omega
  ·unfold bR at hv;obtain⟨a,ha,rfl⟩:=I3.1 hv;obtain⟨n1,n2,n3,n4,n5,x,y,hx,hy,a0,a2,_⟩:=H.at hs (M5.1 ha);unfold compO;rw[hx,H5,a0,H5,hy,H5,a2,H5];split<;>omega
 ·simp only[C3,P3]
end
section
variable {p:A8}{M:B6}
def sngL(n:Nat):A4:=(List.range n).map λ(a:Nat)=>[(a:Int)]
def sngL_succ(n:Nat):sngL (n+1)=sngL n++[[(n:Int)]]:=by unfold sngL;rw[fP,L5];rfl
def xT{o:I4}(h:o.I<=64):iter (λ(s:A4×Nat)=>cP.s2 o s.1 s.2) fuel ([],0)=some (sngL o.I.toNat):=by
 refine S1 (λs=>s.2<=o.I.toNat/\s.1=sngL s.2) (λs=>o.I.toNat-s.2) (λ⟨y,a⟩ ⟨g1,g2⟩=>?_) ⟨D9 _,rfl⟩ (by have:=E6;simp only;omega);simp only at g1 g2;subst g2;have hl:(sngL a).length=a:=by unfold sngL;rw[C3,P3]
 simp only[cP.s2];by_cases ha:a<o.I.toNat
 ·left;exact⟨(sngL (a+1),a+1),by rw[C0,Q1,K3,sngL_succ],⟨ha,rfl⟩,by simp only;omega⟩
 ·right;have e1:a=o.I.toNat:=by omega
  subst e1;rw[B1]
def ref_singles{o:I4}(h:o.I<=64):iter (λ(s:A4×Nat)=>fE.s2 o s.1 s.2) fuel ([],0)=some (sngL o.I.toNat):=by
 have e:(λ(s:A4×Nat)=>fE.s2 o s.1 s.2)=λ(s:A4×Nat)=>cP.s2 o s.1 s.2:=rfl;rw[e];exact xT h
def seps(H:K7 M)(P:dJ M):SepS M:=λs t h ht=>by
 have:=sepW_short H P (s:=s) (t:=t) (by omega) ht (by omega);have:=H.n2;omega
noncomputable def sufE(I:Nat)(M:B6):A4:=sortW (sngL I++chS M)
def suf_sm(H:K7 M)(P:dJ M){I:Nat}(hI:I<=64):SmL (sngL I++chS M):=by
 have hc:=(kC H (seps H P) M.N.length (H0 _)).1;have hl:=oG H (seps H P) (H0 M.N.length);have a0:=uO (chTo M M.N.length);refine⟨?_,λw hw=>?_⟩
 ·rw[J4];unfold sngL chS;rw[C3,P3];omega
 ·rcases J2.1 hw with hw|hw
  ·obtain⟨a,_,rfl⟩:=I3.1 hw;unfold SmW;simp
  ·have:=(hc w ((bD _ _).1 hw)).2;unfold SmW;omega
def seed_both{o:I4}{p:A8}(h1:o.I<=64)(e1:U6 o=some (p,0))(H:H9 p)(hn:p.N.length<=128):∃m M,jW p 0=(m,0)/\K7 m/\m.I=p.I/\m.N.length=p.N.length/\gY m M/\cP o=some (⟨o.I,accW p,sufE o.I.toNat M⟩,0)/\(N4 o=some (p,0)->fE o=some (⟨o.I,accW p,sufE o.I.toNat M⟩,0)):=by
 obtain⟨m,c1,Hm,c2,c3⟩:=compl_ok H hn;obtain⟨M,m1,m2,S⟩:=min_same (uJ Hm);have PM:=zA S;have hM:=uJ S.ok;have hS:=seps S.ok PM;have a2:=suf_sm S.ok PM (I:=o.I.toNat) (by omega);have a0:[sngL o.I.toNat,chS M].flatten=sngL o.I.toNat++chS M:=by simp
 refine⟨m,M,c1,Hm,c2,c3,S,?_,λe2=>?_⟩
 ·unfold cP;rw[e1,A5,B1 (λh=>h rfl)];simp only;rw[zpa (by omega),c1,A5,B1 (λh=>h rfl)];simp only;rw[m1,A5];simp only;rw[zmo hM PM hS,A5,xT h1,A5,ev_access H,A5];simp only;rw[zqk (by simp) (by rw[a0];exact a2),A5,a0];rfl
 ·unfold fE;rw[e2,A5,B1 (λh=>h rfl)];simp only;rw[zra (by omega),c1,A5,B1 (λh=>h rfl)];simp only;rw[m2,A5];simp only;rw[zsd hM PM hS,A5,ref_singles h1,A5,ref_access H,A5];simp only;rw[R02_Union_eq (by simp) (by rw[a0];exact a2),A5,a0];rfl
def suf_sml(H:K7 M)(P:dJ M){I:Nat}(hI:I<=64):SmL (sufE I M):=by
 obtain⟨h1,h2⟩:=suf_sm H P hI;have:=uO (sngL I++chS M);exact⟨by unfold sufE;omega,λw hw=>h2 w ((bD _ _).1 hw)⟩
def acc_sml(H:H9 p):SmL (accW p):=by
 have hn:=H.n2;obtain⟨j,K,_⟩:=accL_ok H;have:=K.few;exact⟨by unfold accW;rw[C3];omega,λw hw=>by have:=yL H hw;unfold SmW;omega⟩
end
def plain_ELearns(o:I4)(ho:SmO o):pL o=some true:=by
 unfold pL;obtain⟨b,e1,hb⟩:=R35_Large_eq ho;have a0:∀k:Option Bool,((some true:Option Bool).bind λy=>cond y ((lW).bind λc=>some c) k)=some true:=λk=>by rw[A5,F8,AM,A5]
 rw[e1,A5];cases b with
 |true=>rw[F8];exact a0 _
 |false =>
  obtain⟨hP,hI⟩:=hb rfl;obtain⟨e,e2,he⟩:=R16_Valid_tot o ho;rw[G0,e2,A5];by_cases h:e=0
  ·obtain⟨P,p,red,l1,l2,K,T,a4,a5,a6,_⟩:=learn_ev ho (he h) (by omega);obtain⟨m,M,c1,Hm,c2,c3,S,s1,s2⟩:=seed_both (by omega) l1 T.1 (by omega);obtain⟨d1,d2⟩:=T.1.sml;have a3:=suf_sml S.ok (zA S) (I:=o.I.toNat) (by omega);have a2:=acc_sml T.1;rw[J0 (λg=>g h),A5,G0,l1,l2,s1,s2 l2,A5,A5,A5,A5];simp only;rw[R35_Same_self d1 d2,A5,F8,decide_true,F8];unfold mR;simp only;rw[decide_true,F8,sR _ _ a2,A5,C0 rfl,sR _ _ a3,A5,G7 rfl,A5,A5,F8,F8,AM,A5,A5]
  ·rw[G7 h];exact a0 _
end
def zk5(x0:I4)(_:yH x0)(s0:rM x0<=1048576):pL x0=some true :=
 plain_ELearns x0 (smo_of s0)
def eI{X:St}{src:List (Nat×Option Nat)}{E:Nat->Nat}{t:Nat}{y b:IV}(h1:X.av t=.im y)(h2:AV.im y=.im b):∃x,X.av t=x/\SubR X src E x (.im b):=⟨.im y,h1,.im (Sub.rfl' h2)⟩
def odt{p:Prop}[Decidable p](h:decide p=true):p:=of_decide_eq_true h
def odf{p:Prop}[Decidable p](h:decide p=false):¬p:=of_decide_eq_false h
def ctd{V:Type}{p:Prop}[Decidable p]{x y z:V}(hb:decide p=true)(h:cond (decide p) x y=z):x=z/\p:=⟨cond_t hb h,odt hb⟩
def cfd{V:Type}{p:Prop}[Decidable p]{x y z:V}(hb:decide p=false)(h:cond (decide p) x y=z):y=z/\¬p:=⟨cond_f hb h,odf hb⟩
def hT{X:St}:Holds X True:=Holds.true_ _
abbrev lZ{V:Type}(l:List V):Prop:=List.length l<=17592186044416
def eA{X:St}{avs:List (Nat×AV)}{kds:List (Nat×Kd)}{cels:List (Nat×Nat×AV)}(src:List (Nat×Option Nat))(hn:ndB (srcs src) []=true:=by exact rfl)(ha:SubL X src (gnM kds) avs:=by repeat' (first|exact trivial|refine⟨eI rfl rfl,?_⟩|refine⟨⟨.own _ _ _,rfl,.own rfl rfl rfl⟩,?_⟩|refine⟨⟨.osl _ _,rfl,.osl rfl rfl rfl⟩,?_⟩|refine⟨⟨.im (.val (.slice none 0 0)),rfl,.made rfl rfl⟩,?_⟩|refine⟨⟨.sub _ _ _,rfl,.sub rfl rfl⟩,?_⟩|refine⟨⟨.osv _ _ _ _,rfl,.osv rfl rfl rfl⟩,?_⟩|refine⟨⟨.agg [.osl _ _],rfl,.agg (.cons (.osl rfl rfl rfl) (.nil))⟩,?_⟩))(hk:KdL X src kds:=by repeat' (first|exact trivial|refine⟨.inl ⟨_,rfl,rfl,trivial⟩,?_⟩|refine⟨.inl ⟨_,rfl,rfl,⟨rfl,rfl⟩⟩,?_⟩|refine⟨.inr ⟨rfl,rfl,.inl ⟨_,_,rfl,by decide⟩⟩,?_⟩|refine⟨.inr ⟨rfl,rfl,.inr (.inl ⟨_,_,_,rfl⟩)⟩,?_⟩))(hc:CeL X src (gnM kds) cels:=by repeat' (first|exact trivial|refine⟨⟨_,.im _,rfl,rfl,.im (Sub.rfl' rfl)⟩,?_⟩|refine⟨⟨_,.own _ _ _,rfl,rfl,.own rfl rfl rfl⟩,?_⟩|refine⟨⟨_,.osl _ _,rfl,rfl,.osl rfl rfl rfl⟩,?_⟩|refine⟨⟨_,.im (.val (.slice none 0 0)),rfl,rfl,.made rfl rfl⟩,?_⟩)):Ent X (mkSt avs kds cels):=Ent.mk src hn ha hk hc
def C4{S R:Type}{step:S->Option (S⊕R)}{r:R}{k:Nat}{x:R}(h:Fin step r k (.inr x)):x=r:=h
def B7{V:Type}{p:Prop}[Decidable p]{x y z:V}{A B:Prop}(h:cond (decide p) x y=z)(k:decide p=true->x=z->p->A)(l:decide p=false->y=z->¬p->B):Both (decide p) A B:=.mk (λe=>k e (ctd e h).1 (ctd e h).2) λe=>l e (cfd e h).1 (cfd e h).2
def W6{V:Type}{p:Prop}[Decidable p]{x y z:V}{A B:Prop}(h:cond (decide p) x y=z)(k:decide p=true->x=z->p->A)(l:decide p=false->y=z->¬p->B):Both (decide p==true) A B:=.mk (λe=>k (beq_tt e) (ctd (beq_tt e) h).1 (ctd (beq_tt e) h).2) λe=>l (beq_tf e) (cfd (beq_tf e) h).1 (cfd (beq_tf e) h).2
def nH{V:Type}{p:Prop}[Decidable p]{x y z:V}{A B:Prop}(h:cond (decide p) x y=z)(k:decide p=false->y=z->¬p->A)(l:decide p=true->x=z->p->B):Both (decide p==false) A B:=.mk (λe=>k (beq_ff e) (cfd (beq_ff e) h).1 (cfd (beq_ff e) h).2) λe=>l (beq_ft e) (ctd (beq_ft e) h).1 (ctd (beq_ft e) h).2
def G8{V:Type}{b:Bool}{x y z:V}{A B:Prop}(h:cond b x y=z)(k:b=true->x=z->A)(l:b=false->y=z->B):Both b A B:=.mk (λe=>k e (cond_t e h)) λe=>l e (cond_f e h)
def bQ{V:Type}{b:Bool}{x y z:V}{A B:Prop}(h:cond b x y=z)(k:b=true->x=z->A)(l:b=false->y=z->B):Both (b==true) A B:=.mk (λe=>k (beq_tt e) (cond_t (beq_tt e) h)) λe=>l (beq_tf e) (cond_f (beq_tf e) h)
def fT{V:Type}{b:Bool}{x y z:V}{A B:Prop}(h:cond b x y=z)(k:b=false->y=z->A)(l:b=true->x=z->B):Both (b==false) A B:=.mk (λe=>k (beq_ff e) (cond_f (beq_ff e) h)) λe=>l (beq_ft e) (cond_t (beq_ft e) h)
def E3{V G:Type}{l:List V}{c:V->List IV}{i:Nat}{F:V->Option G}{r:G}{Z:Option Nat}{K:List IV->Prop}(h:idxn l i F=some r)(k:∀x,l[i]?=some x->F x=some r->K (c x))(hz:∀x,Z=some (c x).length:=by exact λ_=>rfl):∃e,(0<=(i:Int)/\(l.map c)[(i:Int).toNat]?=some e/\Z=some e.length)/\K e:=by
 obtain⟨x,hx,h⟩:=I5 h;exact⟨c x,⟨by omega,D3 hx,hz x⟩,k x hx h⟩
def L0{V G:Type}{l:List V}{c:V->List IV}{i:Int}{F:V->Option G}{r:G}{Z:Option Nat}{K:List IV->Prop}(h:idx l i F=some r)(k:∀x,0<=i->l[i.toNat]?=some x->F x=some r->K (c x))(hz:∀x,Z=some (c x).length:=by exact λ_=>rfl):∃e,(0<=i/\(l.map c)[i.toNat]?=some e/\Z=some e.length)/\K e:=by
 obtain⟨x,h0,hx,h⟩:=I9 h;exact⟨c x,⟨h0,D3 hx,hz x⟩,k x h0 hx h⟩
def E1{S R:Type}{step:S->Option (S⊕R)}{n:Nat}{s0:S}{r:R}(h:Sym.iter step n s0=some r)(st:S->St)(J:S->Prop){body:(Exit->St->Prop)->St->Prop}{K:Exit->St->Prop}{X:St}(e0:Ent X (st s0))(hJ:∀s,Holds (st s) (J s))
 (hb:∀k s o,J s->step s=some o->Fin step r k o->body (λe X'=>match e with|.normal=>Nxt step r st k X'|e=>K e X') (st s)):eY body K X:=eY.iter step st J h e0 hJ hb
def E5{P:Program}{f:FuncId}{fn:Func}{c:Code}{xs:List Arg}{r:Rs}(own:List Nat)(h:OkAs xs->frcW (entW xs) 0 sig0 λ_ X=>Y4 P (SpX P) fn.ntmps own c (retK P fn.results.toList xs r) X)(hm:P.follows .mixedOrders=true:=by exact rfl)(hf:P.funcs[f]?=some fn:=by exact rfl)(hname:(fn.name=="runtime.NumGoroutine")=false:=by exact rfl)(hb:fn.body=some c:=by exact rfl)
 (hn:xs.length<=fn.ntmps:=by exact lV rfl) (hok:fW xs=true:=by exact rfl):Sp P f xs r:=sp_of hm own hf hname hb hn hok h
def R9{J:Prop}{Z:Type}(oc:Unit⊕Z)(st:St){body:(St->Prop)->Prop}{rest:St->Prop}(hJ:Holds st J)(h:body (J7 oc λ_=>st))(k:∀y:Unit,oc=.inl y->J->rest st):Cut body rest:=T8 oc (λ_=>st) (λ_=>J) (λ_=>hJ) h k
def zzR_{x:Int}(h:-9223372036854775808<=x/\x<=9223372036854775807):inR x:=h
abbrev B3(x:Int):AV:=.im (nI x)
abbrev A9(x:Nat):AV:=.im (nI (x:Int))
abbrev H6(x:Bool):AV:=.im (nB x)
abbrev B9(x:List IV):AV:=.im (.ref x)
abbrev C9{V:Type}(c:V->List IV)(l:List V):AV:=.im (nL c l)
def zid:List Nat->List (Nat×Option Nat)
 |[]=>[]
 |a::l=>(a,some a)::zid l
def J1:List Nat->List (Nat×Option Nat)
 |a::b::l=>(a,some b)::J1 l
 |_=>[]
def idk:List (Nat×Kd)->List (Nat×Option Nat)
 |[]=>[]
 |a::l=>(a.1,some a.1)::idk l
def eZ{X:St}{avs:List (Nat×AV)}{kds:List (Nat×Kd)}{cels:List (Nat×Nat×AV)}(hn:ndB (srcs (idk kds)) []=true:=by exact rfl)(ha:SubL X (idk kds) (gnM kds) avs:=by repeat' (first|exact trivial|refine⟨eI rfl rfl,?_⟩|refine⟨⟨.own _ _ _,rfl,.own rfl rfl rfl⟩,?_⟩|refine⟨⟨.osl _ _,rfl,.osl rfl rfl rfl⟩,?_⟩|refine⟨⟨.im (.val (.slice none 0 0)),rfl,.made rfl rfl⟩,?_⟩|refine⟨⟨.sub _ _ _,rfl,.sub rfl rfl⟩,?_⟩|refine⟨⟨.osv _ _ _ _,rfl,.osv rfl rfl rfl⟩,?_⟩|refine⟨⟨.agg [.osl _ _],rfl,.agg (.cons (.osl rfl rfl rfl) (.nil))⟩,?_⟩))(hk:KdL X (idk kds) kds:=by repeat' (first|exact trivial|refine⟨.inl ⟨_,rfl,rfl,trivial⟩,?_⟩|refine⟨.inl ⟨_,rfl,rfl,⟨rfl,rfl⟩⟩,?_⟩))(hc:CeL X (idk kds) (gnM kds) cels:=by repeat' (first|exact trivial|refine⟨⟨_,.im _,rfl,rfl,.im (Sub.rfl' rfl)⟩,?_⟩|refine⟨⟨_,.own _ _ _,rfl,rfl,.own rfl rfl rfl⟩,?_⟩|refine⟨⟨_,.osl _ _,rfl,rfl,.osl rfl rfl rfl⟩,?_⟩|refine⟨⟨_,.im (.val (.slice none 0 0)),rfl,rfl,.made rfl rfl⟩,?_⟩)):Ent X (mkSt avs kds cels):=Ent.mk (idk kds) hn ha hk hc
def N5{V G:Type}{X:Option V}{F:V->Option G}{r:G}{J:V->Prop}(h:X.bind F=some r)(st:V->St){body:(St->Prop)->Prop}{rest:St->Prop}(hJ:∀y,Holds (st y) (J y))(k:∀y,F y=some r->J y->rest (st y))(hb:∀y,X=some y->body (Join (st y)):=by intro y h;repeat' ((try conv=>whnf);first|refine D2 (by assumption) ?_|refine E7 (by assumption) ?_|refine D2 (N3 (by assumption)) ?_|refine E7 (cJ (by assumption)) ?_|refine D2 (I6 (by assumption)) ?_|refine E7 (Q5 (by assumption)) ?_|refine D2 rfl ?_|refine E7 rfl ?_|refine B7 h (λ_ h _=>?_) λ_ h _=>?_|refine nH h (λ_ h _=>?_) λ_ h _=>?_|refine W6 h (λ_ h _=>?_) λ_ h _=>?_|refine G8 h (λ_ h=>?_) λ_ h=>?_|refine fT h (λ_ h=>?_) λ_ h=>?_|refine bQ h (λ_ h=>?_) λ_ h=>?_|refine E3 h λ_ _ h=>?_|refine L0 h λ_ _ _ h=>?_|refine A7 _ C6 ?_|refine A3 rfl ?_|(cases h;exact C7 eZ))):Cut body rest:=by
 obtain⟨y,hc,h⟩:=A6 h;exact Cut.mk (st y) (J y) (hJ y) (hb y hc) (k y h)
def E4{J:Prop}(s:St){body:(St->Prop)->Prop}{rest:St->Prop}(hJ:Holds s J)(h:body (Join s))(k:J->rest s):Cut body rest:=Cut.mk s J hJ h k
def sp_R35_Large(o_:I4)(r:Bool)(h:fH o_=some r):Sp Tryz.prog 12 [.im (.agg (N6 o_))] (.im (nB r)):=by
 refine E5 [700001] λhk=>?_;have z1:lZ o_.T:=B8 (D7 hk.1 1 rfl);unfold fH at h;obtain⟨b7,h,a3⟩:=A6 h;refine E4 (mkSt [(1,B9 (N6 o_)),(3,A9 b7)] [] []) hT ?_ λhp=>?_;refine E1 h (λ(a2,a6)=>mkSt [(1,B9 (N6 o_)),(3,A9 a2),(4,A9 a6)] [] []) (λ(a2,a6)=>True) eZ (λ⟨a2,a6⟩=>hT) ?_;rintro k ⟨a2,a6⟩ o hp h a0;change fH.s2 o_ a2 a6=_ at h;unfold fH.s2 at h;refine N5 h (λa7=>mkSt [(1,B9 (N6 o_)),(3,A9 a2),(4,A9 a6),(13,H6 a7)] [] []) (λ_=>hT) λa7 h hp=>?_;refine G8 h (λb2 h=>?_) λb2 h=>?_;obtain⟨b3,h⟩:=C8 h;refine C5.mk b3<|E3 h λb4 a4 h=>?_;refine A7 b4.In.length C6 ?_;obtain⟨b5,h⟩:=C8 h;refine C5.mk b5 ?_;obtain⟨b6,h⟩:=C8 h;refine C5.mk b6 ?_;cases h;exact D4 _ a0 eZ;cases h;cases C4 a0;exact C7 eZ;replace h:=a3;refine N5 h (λa8=>mkSt [(2,H6 a8)] [] []) (λ_=>hT) λa8 h hp=>?_;cases h;exact⟨rfl,rfl⟩
def sp_R01_Size(inputs_:Int)(r:Bool)(h:nU inputs_=some r):Sp Tryz.prog 80 [.im (nI inputs_)] (.im (nB r)):=by
 refine E5 [] λhk=>?_;unfold nU at h;refine N5 h (λa2=>mkSt [(2,H6 a2)] [] []) (λ_=>hT) λa2 h hp=>?_;cases h;exact⟨rfl,rfl⟩
def vU(w_:A2)(inputs_ r:Int)(h:dK w_ inputs_=some r):Sp Tryz.prog 42 [.im (nL cI w_),.im (nI inputs_)] (.im (nI r)):=by
 refine E5 [] λhk=>?_;have z1:lZ w_:=B8 hk.1;unfold dK at h;obtain⟨b4,a4,h⟩:=A6 h;refine⟨_,sp_R01_Size inputs_ b4 a4,?_⟩;refine G8 h (λb5 h=>?_) λb5 h=>?_;cases h;exact⟨rfl,rfl⟩;refine A7 w_.length C6<|B7 h (λb6 h a8=>?_) λb6 h a8=>?_;cases h;exact⟨rfl,rfl⟩;obtain⟨oc,h,a3⟩:=A6 h;refine R9 oc (mkSt [] [] []) hT ?_ ?_;refine E1 h (λa2=>mkSt [(0,C9 cI w_),(1,B3 inputs_),(5,A9 a2)] [] []) (λa2=>lZ w_/\True) eZ (λa2=>((D5 0 rfl).and hT)) ?_;rintro k a2 o hp h a0;unfold dK.s2 at h;obtain⟨b7,_⟩:=hp;refine A7 w_.length C6<|B7 h (λb2 h a6=>?_) λb2 h a6=>?_;refine N5 h (λa7=>mkSt [(0,C9 cI w_),(1,B3 inputs_),(5,A9 a2),(30,H6 a7)] [] []) (λ_=>((D5 0 rfl).and hT)) λa7 h hp=>?_;obtain⟨b8,_⟩:=hp;refine G8 h (λb3 h=>?_) λb3 h=>?_;cases h;cases C4 a0;replace h:some _=some _:=a3;cases h;exact⟨rfl,rfl⟩;refine C5.mk (zzR_ (by omega)) ?_;cases h;exact D4 _ a0 eZ;cases h;cases C4 a0;exact J7.mk' _ rfl eZ;rintro⟨⟩ rfl hp;replace h:=L4 a3;cases h;exact⟨rfl,rfl⟩
def sO(a_ b_:A2)(r:Int)(h:eE a_ b_=some r):Sp Tryz.prog 74 [.im (nL cI a_),.im (nL cI b_)] (.im (nI r)):=by
 refine E5 [] λhk=>?_;have z1:lZ a_:=B8 hk.1;have z2:lZ b_:=B8 hk.2.1;unfold eE at h;obtain⟨a7,h,a3⟩:=A6 h;refine E4 (mkSt [(5,A9 a7)] [] []) hT ?_ λhp=>?_;refine E1 h (λa2=>mkSt [(0,C9 cI a_),(1,C9 cI b_),(5,A9 a2)] [] []) (λa2=>lZ a_/\lZ b_/\True) eZ (λa2=>((D5 0 rfl).and ((D5 1 rfl).and hT))) ?_;rintro k a2 o hp h a0;unfold eE.s2 at h;obtain⟨b3,b4,_⟩:=hp;refine N5 h (λa6=>mkSt [(0,C9 cI a_),(1,C9 cI b_),(5,A9 a2),(26,H6 a6)] [] []) (λ_=>((D5 0 rfl).and ((D5 1 rfl).and hT))) λa6 h hp=>?_;obtain⟨b5,b6,_⟩:=hp;refine G8 h (λa8 h=>?_) λa8 h=>?_;obtain⟨b2,h⟩:=C8 h;refine C5.mk b2 ?_;cases h;exact D4 _ a0 eZ;cases h;cases C4 a0;exact C7 eZ;replace h:=a3;cases h;exact⟨rfl,rfl⟩
def sp_R01_Lex(a_ b_:A2)(r:Int)(h:nK a_ b_=some r):Sp Tryz.prog 75 [.im (nL cI a_),.im (nL cI b_)] (.im (nI r)):=by
 refine E5 [] λhk=>?_;have z1:lZ a_:=B8 hk.1;have z2:lZ b_:=B8 hk.2.1;unfold nK at h;obtain⟨a2,a0,h⟩:=A6 h;refine⟨_,sO a_ b_ a2 a0,?_⟩;refine N5 h (λa6=>mkSt [(0,C9 cI a_),(1,C9 cI b_),(5,B3 a2),(9,H6 a6)] [] []) (λ_=>((D5 0 rfl).and ((D5 1 rfl).and hT))) λa6 h hp=>?_;obtain⟨b3,b4,_⟩:=hp;refine G8 h (λa8 h=>?_) λa8 h=>?_;cases h;exact⟨rfl,rfl⟩;refine N5 h (λa7=>mkSt [(20,H6 a7)] [] []) (λ_=>hT) λa7 h hp=>?_;refine G8 h (λb2 h=>?_) λb2 h=>?_;cases h;exact⟨rfl,rfl⟩;cases h;exact⟨rfl,rfl⟩
def BH(a_ b_:A2)(r:Int)(h:mH a_ b_=some r):Sp Tryz.prog 34 [.im (nL cI a_),.im (nL cI b_)] (.im (nI r)):=by
 refine E5 [] λhk=>?_;have z1:lZ a_:=B8 hk.1;have z2:lZ b_:=B8 hk.2.1;unfold mH at h;refine A7 a_.length C6<|A7 b_.length C6<|B7 h (λa7 h a2=>?_) λa7 h a2=>?_;cases h;exact⟨rfl,rfl⟩;refine A7 a_.length C6<|A7 b_.length C6<|B7 h (λa8 h a6=>?_) λa8 h a6=>?_;cases h;exact⟨rfl,rfl⟩;obtain⟨b2,a0,h⟩:=A6 h;refine⟨_,sp_R01_Lex a_ b_ b2 a0,?_⟩;cases h;exact⟨rfl,rfl⟩
def sp_R16_Proper(t_:I0)(inputs_ r:Int)(h:fI t_ inputs_=some r):Sp Tryz.prog 43 [.im (.agg (M8 t_)),.im (nI inputs_)] (.im (nI r)):=by
 refine E5 [700002] λhk=>?_;have z1:lZ t_.In:=B8 (D7 hk.1 0 rfl);have z2:lZ t_.O:=B8 (D7 hk.1 1 rfl);unfold fI at h;obtain⟨b5,a4,h⟩:=A6 h;refine⟨_,vU t_.In inputs_ b5 a4,?_⟩;refine B7 h (λb6 h a8=>?_) λb6 h a8=>?_;cases h;exact⟨rfl,rfl⟩;refine A7 t_.O.length C6<|A7 t_.In.length C6<|B7 h (λb7 h b2=>?_) λb7 h b2=>?_;cases h;exact⟨rfl,rfl⟩;obtain⟨oc,h,a3⟩:=A6 h;refine R9 oc (mkSt [] [] []) hT ?_ ?_;refine E1 h (λa2=>mkSt [(2,B9 (M8 t_)),(6,A9 a2)] [] []) (λa2=>True) eZ (λ_=>hT) ?_;rintro k a2 o hp h a0;unfold fI.s2 at h;refine A7 t_.O.length C6<|B7 h (λb3 h a6=>?_) λb3 h a6=>?_;refine N5 h (λa7=>mkSt [(2,B9 (M8 t_)),(6,A9 a2),(41,H6 a7)] [] []) (λ_=>hT) λa7 h hp=>?_;refine G8 h (λb4 h=>?_) λb4 h=>?_;cases h;cases C4 a0;replace h:some _=some _:=a3;cases h;exact⟨rfl,rfl⟩;refine C5.mk (zzR_ (by omega)) ?_;cases h;exact D4 _ a0 eZ;cases h;cases C4 a0;exact J7.mk' _ rfl eZ;rintro⟨⟩ rfl hp;replace h:=L4 a3;cases h;exact⟨rfl,rfl⟩
def zqf(w_ p_:A2)(r:Bool)(h:mM w_ p_=some r):Sp Tryz.prog 81 [.im (nL cI w_),.im (nL cI p_)] (.im (nB r)):=by
 refine E5 [] λhk=>?_;have z1:lZ w_:=B8 hk.1;have z2:lZ p_:=B8 hk.2.1;unfold mM at h;obtain⟨a2,a0,h⟩:=A6 h;refine⟨_,sO w_ p_ a2 a0,?_⟩;refine A7 p_.length C6 ?_;cases h;exact⟨rfl,rfl⟩
def sp_R16_Differ(a_ b_:I0)(r:Int)(h:gK a_ b_=some r):Sp Tryz.prog 82 [.im (.agg (M8 a_)),.im (.agg (M8 b_))] (.im (nI r)):=by
 refine E5 [700002,700003] λhk=>?_;have z1:lZ a_.In:=B8 (D7 hk.1 0 rfl);have z2:lZ a_.O:=B8 (D7 hk.1 1 rfl);have z3:lZ b_.In:=B8 (D7 hk.2.1 0 rfl);have z4:lZ b_.O:=B8 (D7 hk.2.1 1 rfl);unfold gK at h;obtain⟨a8,a4,h⟩:=A6 h;refine⟨_,sO a_.In b_.In a8 a4,?_⟩;obtain⟨oc,h,a3⟩:=A6 h;refine R9 oc (mkSt [] [] []) hT ?_ ?_;refine E1 h (λa2=>mkSt [(2,B9 (M8 a_)),(3,B9 (M8 b_)),(5,B3 a8),(6,A9 a2)] [] []) (λa2=>True) eZ (λ_=>hT) ?_;rintro k a2 o hp h a0;unfold gK.s2 at h;refine B7 h (λb2 h a6=>?_) λb2 h a6=>?_;refine E3 h λb5 a5 h=>?_;refine E3 h λb6 a9 h=>?_;refine B7 h (λb3 h a7=>?_) λb3 h a7=>?_;cases h;cases C4 a0;replace h:some _=some _:=a3;cases h;exact⟨rfl,rfl⟩;obtain⟨b4,h⟩:=C8 h;refine C5.mk b4 ?_;cases h;exact D4 _ a0 eZ;cases h;cases C4 a0;exact J7.mk' _ rfl eZ;rintro⟨⟩ rfl hp;replace h:=L4 a3;cases h;exact⟨rfl,rfl⟩
def sp_R16_apart(o_:I4)(r:Int)(h:X7 o_=some r):Sp Tryz.prog 44 [.im (.agg (N6 o_))] (.im (nI r)):=by
 refine E5 [700001] λhk=>?_;have z1:lZ o_.T:=B8 (D7 hk.1 1 rfl);unfold X7 at h;obtain⟨oc,h,d1⟩:=A6 h;refine R9 oc (mkSt [] [] []) hT ?_ ?_;refine E1 h (λa2=>mkSt [(1,B9 (N6 o_)),(3,A9 a2)] [] []) (λa2=>True) eZ (λ_=>hT) ?_;rintro k a2 o hp h a9;unfold X7.s32 at h;refine A7 o_.T.length C6<|B7 h (λb4 h b2=>?_) λb4 h b2=>?_;refine C5.mk (zzR_ (by omega)) ?_;obtain⟨⟨a4,a5⟩,h,d2⟩:=A6 h;refine E4 (mkSt [(1,B9 (N6 o_)),(3,A9 a2),(4,H6 a4),(5,H6 a5)] [] []) hT ?_ λhp=>?_;refine E1 h (λ(a3,a0,a8)=>mkSt [(1,B9 (N6 o_)),(3,A9 a2),(4,H6 a3),(5,H6 a0),(6,A9 a8)] [] []) (λ(a3,a0,a8)=>True) eZ (λ⟨a3,a0,a8⟩=>hT) ?_;rintro k ⟨a3,a0,a8⟩ o hp h c9;change X7.s30 o_ a2 a3 a0 a8=_ at h;unfold X7.s30 at h;refine A7 o_.T.length C6<|B7 h (λb5 h b3=>?_) λb5 h b3=>?_;obtain⟨d0,h,d5⟩:=A6 h;refine E4 (mkSt [(1,B9 (N6 o_)),(3,A9 a2),(4,H6 d0),(5,H6 a0),(6,A9 a8)] [] []) hT ?_ λhp=>?_;refine fT h (λa7 h=>?_) λa7 h=>?_
 iterate 3 (refine D2 (N3 a7) ?_)
 refine E3 h λb6 d8 h=>?_
 iterate 6 (refine D2 (N3 a7) ?_)
 refine E3 h λb7 d6 h=>?_
 iterate 3 (refine D2 (N3 a7) ?_)
 obtain⟨b8,d4,h⟩:=A6 h;refine⟨_,zqf b6.In b7.In b8 d4,?_⟩;refine E7 a7 ?_;cases h;exact C7 eZ
 iterate 12 (refine E7 (cJ a7) ?_)
 refine D2 a7 ?_;cases h;exact C7 eZ;replace h:=d5;refine fT h (λa6 h=>?_) λa6 h=>?_
 iterate 3 (refine D2 (N3 a6) ?_)
 refine E3 h λb9 d7 h=>?_
 iterate 5 (refine D2 (N3 a6) ?_)
 refine E3 h λc0 d9 h=>?_
 iterate 2 (refine D2 (N3 a6) ?_)
 obtain⟨c6,d3,h⟩:=A6 h;refine⟨_,sp_R16_Differ b9 c0 c6 d3,?_⟩;refine D2 (N3 a6)<|E7 a6<|C5.mk (zzR_ (by omega)) ?_;cases h;exact D4 _ c9 eZ
 iterate 11 (refine E7 (cJ a6) ?_)
 refine D2 a6<|C5.mk (zzR_ (by omega)) ?_;cases h;exact D4 _ c9 eZ;cases h;cases C4 c9;exact C7 eZ;replace h:X7.k31 a2 a4 a5=some _:=d2;unfold X7.k31 at h;refine G8 h (λc7 h=>?_) λc7 h=>?_;cases h;cases C4 a9;replace h:some _=some _:=d1;cases h;exact⟨rfl,rfl⟩;refine G8 h (λc8 h=>?_) λc8 h=>?_;cases h;cases C4 a9;replace h:some _=some _:=d1;cases h;exact⟨rfl,rfl⟩;refine C5.mk (zzR_ (by omega)) ?_;cases h;exact D4 _ a9 eZ;cases h;cases C4 a9;exact J7.mk' _ rfl eZ;rintro⟨⟩ rfl hp;replace h:=L4 d1;cases h;exact⟨rfl,rfl⟩
def sp_R16_Valid(o_:I4)(r:Int)(h:gG o_=some r):Sp Tryz.prog 13 [.im (.agg (N6 o_))] (.im (nI r)):=by
 refine E5 [700001] λhk=>?_;have z1:lZ o_.T:=B8 (D7 hk.1 1 rfl);unfold gG at h;refine N5 h (λd3=>mkSt [(1,B9 (N6 o_)),(14,H6 d3)] [] []) (λ_=>hT) λd3 h hp=>?_;refine G8 h (λd4 h=>?_) λd4 h=>?_;cases h;exact⟨rfl,rfl⟩;refine A7 o_.T.length C6<|B7 h (λd5 h b6=>?_) λd5 h b6=>?_;cases h;exact⟨rfl,rfl⟩;obtain⟨oc,h,a3⟩:=A6 h;refine R9 oc (mkSt [(1,B9 (N6 o_))] [] []) hT ?_ ?_;refine E1 h (λa6=>mkSt [(1,B9 (N6 o_)),(3,A9 a6)] [] []) (λa6=>True) eZ (λ_=>hT) ?_;rintro k a6 o hp h a0;unfold gG.s2 at h;refine A7 o_.T.length C6<|B7 h (λb7 h a8=>?_) λb7 h a8=>?_;refine E3 h λa7 d9 h=>?_;refine A3 rfl<|A3 rfl<|A3 rfl ?_;obtain⟨b8,a5,h⟩:=A6 h;refine⟨_,vU a7.In o_.I b8 a5,?_⟩;refine B7 h (λb9 h b2=>?_) λb9 h b2=>?_;cases h;cases C4 a0;replace h:some _=some _:=a3;cases h;exact⟨rfl,rfl⟩;refine A3 rfl<|A3 rfl<|A7 a7.In.length C6<|B7 h (λc0 h b3=>?_) λc0 h b3=>?_;cases h;cases C4 a0;replace h:some _=some _:=a3;cases h;exact⟨rfl,rfl⟩;refine A3 rfl ?_;obtain⟨c6,a9,h⟩:=A6 h;refine⟨_,sp_R16_Proper a7 o_.I c6 a9,?_⟩;refine B7 h (λc7 h b4=>?_) λc7 h b4=>?_;cases h;cases C4 a0;replace h:some _=some _:=a3;cases h;exact⟨rfl,rfl⟩;obtain⟨c8,h,d6⟩:=A6 h;refine E4 (mkSt [(1,B9 (N6 o_)),(3,A9 a6),(64,H6 c8)] [] []) hT ?_ λhp=>?_;refine W6 h (λa2 h b5=>?_) λa2 h b5=>?_
 iterate 3 (refine D2 (I6 a2) ?_)
 refine C5.mk (zzR_ (by omega))<|D2 (I6 a2)<|L0 h λc9 d8 e0 h=>?_
 iterate 3 (refine D2 (I6 a2) ?_)
 refine A3 rfl<|D2 (I6 a2)<|A3 rfl<|D2 (I6 a2) ?_;obtain⟨d0,a4,h⟩:=A6 h;refine⟨_,BH c9.In a7.In d0 a4,?_⟩;refine D2 (I6 a2)<|D2 a2 ?_;cases h;exact C7 eZ
 iterate 10 (refine E7 (Q5 a2) ?_)
 refine E7 a2 ?_;cases h;exact C7 eZ;replace h:=d6;refine G8 h (λd1 h=>?_) λd1 h=>?_;cases h;cases C4 a0;replace h:some _=some _:=a3;cases h;exact⟨rfl,rfl⟩;refine C5.mk (zzR_ (by omega)) ?_;cases h;exact D4 _ a0 eZ;cases h;cases C4 a0;exact J7.mk' _ rfl eZ;rintro⟨⟩ rfl hp;replace h:=L4 a3;obtain⟨d2,d7,h⟩:=A6 h;refine⟨_,sp_R16_apart o_ d2 d7,?_⟩;cases h;exact⟨rfl,rfl⟩
def sp_R02_place(l_:A4)(w_:A2)(r:Int)(h:gI l_ w_=some r):Sp Tryz.prog 105 [.im (nL (cL cI) l_),.im (nL cI w_)] (.im (nI r)):=by
 refine E5 [] λhk=>?_;have z1:lZ l_:=B8 hk.1;have z2:lZ w_:=B8 hk.2.1;unfold gI at h;refine A7 l_.length C6 ?_;obtain⟨a5,h,a9⟩:=A6 h;refine E4 (mkSt [(5,A9 a5)] [] []) hT ?_ λhp=>?_;refine E1 h (λ(a3,a0)=>mkSt [(0,C9 (cL cI) l_),(1,C9 cI w_),(5,A9 a3),(6,A9 a0)] [] []) (λ(a3,a0)=>lZ l_/\lZ w_/\True) eZ (λ⟨a3,a0⟩=>((D5 0 rfl).and ((D5 1 rfl).and hT))) ?_;rintro k ⟨a3,a0⟩ o hp h a4;change gI.s2 l_ w_ a3 a0=_ at h;unfold gI.s2 at h;obtain⟨a8,b2,_⟩:=hp;refine B7 h (λb3 h a2=>?_) λb3 h a2=>?_;obtain⟨b4,h⟩:=C8 h;refine C5.mk b4 ?_;obtain⟨b5,h⟩:=C8 h;refine A3 b5<|E3 h λb6 c0 h=>?_;obtain⟨b7,b9,h⟩:=A6 h;refine⟨_,BH b6 w_ b7 b9,?_⟩;refine B7 h (λb8 h a6=>?_) λb8 h a6=>?_;obtain⟨a7,h⟩:=C8 h;refine C5.mk a7 ?_;cases h;exact D4 _ a4 eZ;cases h;exact D4 _ a4 eZ;cases h;cases C4 a4;exact C7 eZ;replace h:=a9;cases h;exact⟨rfl,rfl⟩
def vO(a_ b_:A2)(r:Bool)(h:jC a_ b_=some r):Sp Tryz.prog 33 [.im (nL cI a_),.im (nL cI b_)] (.im (nB r)):=by
 refine E5 [] λhk=>?_;have z1:lZ a_:=B8 hk.1;have z2:lZ b_:=B8 hk.2.1;unfold jC at h;obtain⟨a7,h,a0⟩:=A6 h;refine E4 (mkSt [(4,H6 a7)] [] []) hT ?_ λhp=>?_;refine A7 a_.length C6<|A7 b_.length C6<|W6 h (λa2 h a6=>?_) λa2 h a6=>?_
 iterate 2 (refine D2 (I6 a2) ?_)
 obtain⟨a8,a3,h⟩:=A6 h;refine⟨_,sO a_ b_ a8 a3,?_⟩
 iterate 2 (refine D2 (I6 a2) ?_)
 refine A7 a_.length C6<|D2 (I6 a2)<|D2 a2 ?_;cases h;exact C7 eZ
 iterate 5 (refine E7 (Q5 a2) ?_)
 refine E7 a2 ?_;cases h;exact C7 eZ;replace h:=a0;cases h;exact⟨rfl,rfl⟩
def zX(l_:A4)(w_:A2)(r:A4)(h:OkL (List.map (cL cI) l_)->Ok (nL cI w_)->eB l_ w_=some r):Sp Tryz.prog 72 [.row 60 1 (List.map (cL cI) l_),.im (nL cI w_)] (.row 60 1 (List.map (cL cI) r)):=by
 refine E5 [44,500009] λhk=>?_;replace h:=h hk.1 hk.2.1;have z1:lZ l_:=nM hk.1;have z2:lZ w_:=B8 hk.2.1;unfold eB at h;refine A3 ⟨rfl,trivial⟩ ?_;obtain⟨a7,e4,h⟩:=A6 h;refine⟨_,sp_R02_place l_ w_ a7 e4,?_⟩;refine A3 cN ?_;obtain⟨c0,h,e5⟩:=A6 h;refine E4 (mkSt [(0,.osl 64 1),(1,C9 cI w_),(5,B3 a7),(21,H6 c0)] [(64,.row 60 1 (List.map (cL cI) l_))] []) ((D5 1 rfl).and ((Holds.kdl 64 rfl).and hT)) ?_ λhp=>?_;refine A3 rfl<|A7 l_.length C6<|W6 h (λa2 h b3=>?_) λa2 h b3=>?_
 iterate 2 (refine D2 (I6 a2) ?_)
 obtain⟨c6,e2,e1,h⟩:=I9 h;refine A3 ⟨e2,rfl,D1 e1⟩<|D2 (I6 a2)<|⟨_,_,⟨rfl,D3 e1,rfl,rfl⟩,?_⟩
 iterate 2 (refine D2 (I6 a2) ?_)
 obtain⟨c7,e3,h⟩:=A6 h;refine⟨_,vO c6 w_ c7 e3,?_⟩;refine D2 a2 ?_;cases h;exact C7 (eA (J1 [64,0]))
 iterate 5 (refine E7 (Q5 a2) ?_)
 refine E7 a2 ?_;cases h;exact C7 (eA (J1 [64,0]));replace h:=e5;obtain⟨d7,d8,_⟩:=hp;refine G8 h (λc8 h=>?_) λc8 h=>?_;cases h;exact A3 ⟨rfl,trivial⟩ ⟨rfl,rfl⟩;obtain⟨c9,h⟩:=C8 h;refine A3 ⟨rfl,J9 (l:=[[]]) (c:=cL cI) λ_=>rfl,show B5 _ 24 by simpa only[C3,G9,K5,F7]using c9⟩ ?_;refine A7 (List.map (cL cI) (l_++[[]])) (J8 (l:=l_) (m:=[[]]) (c:=cL cI))<|A3 rfl<|A7 (List.length (l_++[[]])) C6 ?_;obtain⟨d0,h⟩:=C8 h;refine C5.mk d0 ?_;obtain⟨b9,h,e6⟩:=A6 h;refine E4 (mkSt [(0,.osl 64 1),(1,C9 cI w_),(5,B3 a7)] [(64,.row 60 1 (List.map (cL cI) b9))] []) ((D5 1 rfl).and ((Holds.kdl 64 rfl).and hT)) ?_ λhp=>?_;refine E1 h (λ(a6,a8)=>mkSt [(0,.osl 64 1),(1,C9 cI w_),(5,B3 a7),(6,B3 a8)] [(64,.row 60 1 (List.map (cL cI) a6))] []) (λ(a6,a8)=>lZ w_/\lZ a6/\True) eZ (λ⟨a6,a8⟩=>((D5 1 rfl).and ((Holds.kdl 64 rfl).and hT))) ?_;rintro k ⟨a6,a8⟩ o hp h a3;change eB.s2 a7 a6 a8=_ at h;unfold eB.s2 at h;obtain⟨d1,d2,_⟩:=hp;refine B7 h (λb4 h b2=>?_) λb4 h b2=>?_;obtain⟨b5,h⟩:=C8 h;refine C5.mk b5 ?_;obtain⟨b6,d9,a4,h⟩:=I9 h;refine A3 ⟨d9,rfl,D1 a4⟩<|⟨_,_,⟨rfl,D3 a4,rfl,rfl⟩,?_⟩;obtain⟨d3,e0,a0,h⟩:=I9 h;refine A3 ⟨e0,rfl,D1 a0⟩<|A3 ⟨rfl,trivial⟩<|⟨_,D3 a0,?_⟩;refine A7 (List.map (cL cI) (List.set a6 a8.toNat b6)) (M9 rfl) ?_;obtain⟨b7,h⟩:=C8 h;refine C5.mk b7 ?_;cases h;exact D4 _ a3 eZ;cases h;cases C4 a3;exact C7 eZ;replace h:=e6;obtain⟨d4,d5,_⟩:=hp;obtain⟨b8,h⟩:=C8 h;refine A3 ⟨rfl,J9 (l:=w_) (c:=cI) λ_=>rfl,show B5 _ 8 by simpa only[C3,G9,K5,F7]using b8⟩ ?_;refine A7 (List.map cI ([]++w_)) (J8 (l:=[]) (m:=w_) (c:=cI)) ?_;obtain⟨d6,a9,a5,h⟩:=I9 h;refine A3 ⟨a9,rfl,D1 a5⟩<|A3 ⟨rfl,rfl,trivial⟩<|⟨_,D3 a5,?_⟩;refine A7 (List.map (cL cI) (List.set b9 a7.toNat ([]++w_))) (M9 rfl) ?_;cases h;exact A3 ⟨rfl,trivial⟩ ⟨rfl,rfl⟩
def zs1(l_ r:A4)(h:aP l_=some r):Sp Tryz.prog 36 [.im (nL (cL cI) l_)] (.row 60 1 (List.map (cL cI) r)):=by
 refine E5 [29000] λhk=>?_;have z1:lZ l_:=B8 hk.1;unfold aP at h;obtain⟨b5,h,a9⟩:=A6 h;refine E4 (mkSt [(3,.osl 64 1)] [(64,.row 60 1 (List.map (cL cI) b5))] []) ((Holds.kdl 64 rfl).and hT) ?_ λhp=>?_;refine E1 h (λ(a8,a6)=>mkSt [(0,C9 (cL cI) l_),(3,.osl 64 1),(4,A9 a6)] [(64,.row 60 1 (List.map (cL cI) a8))] []) (λ(a8,a6)=>lZ l_/\lZ a8/\True) (eA [(64,none)]) (λ⟨a8,a6⟩=>((D5 0 rfl).and ((Holds.kdl 64 rfl).and hT))) ?_;rintro k ⟨a8,a6⟩ o hp h a3;change aP.s14 l_ a8 a6=_ at h;unfold aP.s14 at h;obtain⟨c7,c8,_⟩:=hp;refine A7 l_.length C6<|B7 h (λb6 h b3=>?_) λb6 h b3=>?_;obtain⟨b7,h,a5⟩:=A6 h;refine E4 (mkSt [(0,C9 (cL cI) l_),(3,.osl 64 1),(4,A9 a6)] [(64,.row 60 1 (List.map (cL cI) b7))] []) ((D5 0 rfl).and ((Holds.kdl 64 rfl).and hT)) ?_ λhp=>?_;refine E1 h (λ(a7,a2)=>mkSt [(0,C9 (cL cI) l_),(3,.osl 64 1),(4,A9 a6),(5,A9 a2)] [(64,.row 60 1 (List.map (cL cI) a7))] []) (λ(a7,a2)=>lZ l_/\lZ a7/\True) eZ (λ⟨a7,a2⟩=>((D5 0 rfl).and ((Holds.kdl 64 rfl).and hT))) ?_;rintro k ⟨a7,a2⟩ o hp h a0;change aP.s13 l_ a6 a7 a2=_ at h;unfold aP.s13 at h;obtain⟨c9,d0,_⟩:=hp;refine E3 h λb8 d6 h=>?_;refine A7 b8.length C6<|B7 h (λb9 h b4=>?_) λb9 h b4=>?_;refine E3 h λb2 d5 h=>?_;obtain⟨d1,h⟩:=C8 h;refine A3 (show(0:Int)<=(0:Int)/\(0:Int)<=(a2:Int)/\(a2:Int)<=(↑(List.length (List.map cI b2)):Int)/\(∀e∈List.map cI b2,List.length e=1) from⟨by omega,by first|omega|(simp only[C3];omega),by first|omega|(simp only[C3];omega),J9 λ_=>rfl⟩) ?_
 refine A7 (List.map cI (List.take a2 b2)) nX<|A3 ⟨rfl,trivial⟩ ?_;obtain⟨c0,a4,h⟩:=A6 h;refine⟨_,zX a7 (List.take a2 b2) c0 (λ_ _=>a4),?_⟩;obtain⟨c6,h⟩:=C8 h;refine C5.mk c6 ?_;cases h;exact D4 _ a0 (eA (J1 [64,28]));cases h;cases C4 a0;exact C7 eZ;replace h:=a5;obtain⟨d2,d3,_⟩:=hp;refine C5.mk (zzR_ (by omega)) ?_;cases h;exact D4 _ a3 eZ;cases h;cases C4 a3;exact C7 eZ;replace h:=a9;obtain⟨d4,_⟩:=hp;cases h;exact A3 ⟨rfl,trivial⟩ ⟨rfl,rfl⟩
def zS(l_:A4)(w_:A2)(r:Int)(h:fD l_ w_=some r):Sp Tryz.prog 77 [.im (nL (cL cI) l_),.im (nL cI w_)] (.im (nI r)):=by
 refine E5 [] λhk=>?_;have z1:lZ l_:=B8 hk.1;have z2:lZ w_:=B8 hk.2.1;unfold fD at h;obtain⟨b6,h,a5⟩:=A6 h;refine E4 (mkSt [(5,A9 b6)] [] []) hT ?_ λhp=>?_;refine E1 h (λa6=>mkSt [(0,C9 (cL cI) l_),(1,C9 cI w_),(5,A9 a6)] [] []) (λa6=>lZ l_/\lZ w_/\True) eZ (λa6=>((D5 0 rfl).and ((D5 1 rfl).and hT))) ?_;rintro k a6 o hp h a0;unfold fD.s2 at h;obtain⟨b7,b8,_⟩:=hp;obtain⟨a8,h,a4⟩:=A6 h;refine E4 (mkSt [(0,C9 (cL cI) l_),(1,C9 cI w_),(5,A9 a6),(18,H6 a8)] [] []) ((D5 0 rfl).and ((D5 1 rfl).and hT)) ?_ λhp=>?_;refine A7 l_.length C6<|W6 h (λa2 h a7=>?_) λa2 h a7=>?_
 iterate 2 (refine D2 (I6 a2) ?_)
 refine E3 h λb2 a9 h=>?_
 iterate 3 (refine D2 (I6 a2) ?_)
 obtain⟨b3,a3,h⟩:=A6 h;refine⟨_,vO b2 w_ b3 a3,?_⟩;refine D2 (I6 a2)<|D2 a2 ?_;cases h;exact C7 eZ
 iterate 6 (refine E7 (Q5 a2) ?_)
 refine E7 a2 ?_;cases h;exact C7 eZ;replace h:=a4;obtain⟨b9,c0,_⟩:=hp;refine G8 h (λb4 h=>?_) λb4 h=>?_;obtain⟨b5,h⟩:=C8 h;refine C5.mk b5 ?_;cases h;exact D4 _ a0 eZ;cases h;cases C4 a0;exact C7 eZ;replace h:=a5;cases h;exact⟨rfl,rfl⟩
def sp_R35_blank(inputs_ states_:Int)(r:A8)(h:U2 inputs_ states_=some r):SpX Tryz.prog 76 (.lent .dead::.ow .dead::[.im (nI inputs_),.im (nI states_)]) (.mk true [.im (nI r.I),.im (nI r.S),.ow (.grid 60 3 1 (List.map (cL cI) r.N) none),.ow (.grid 60 3 1 (List.map (cL cI) r.O) none)] []):=by
 refine sp_ofT rfl [9000031,9000037] rfl rfl rfl (lV rfl) rfl λhk=>?_;unfold U2 at h;refine A3 rfl ?_;obtain⟨⟨b6,b7⟩,h,a9⟩:=A6 h;refine E4 (mkSt [(4,.own 64 1 0),(5,.own 65 1 0)] [(64,.box 24 4),(65,.box 24 4),(66,.grid 60 3 1 (List.map (cL cI) b6) none),(67,.grid 60 3 1 (List.map (cL cI) b7) none)] [(64,0,.im (nI 0)),(64,1,.im (nI 0)),(64,2,.im (.val (.slice none 0 0))),(64,3,.im (.val (.slice none 0 0))),(65,0,.im (nI inputs_)),(65,1,.im (nI 0)),(65,2,.osl 66 1),(65,3,.osl 67 1)]) ((Holds.kdg 66 rfl).and ((Holds.kdg 67 rfl).and hT)) ?_ λhp=>?_;refine E1 h (λ(a2,a6,a7)=>mkSt [(0,B3 inputs_),(1,B3 states_),(4,.own 64 1 0),(5,.own 65 1 0),(6,A9 a7)] [(64,.box 24 4),(65,.box 24 4),(66,.grid 60 3 1 (List.map (cL cI) a2) none),(67,.grid 60 3 1 (List.map (cL cI) a6) none)] [(64,0,.im (nI 0)),(64,1,.im (nI 0)),(64,2,.im (.val (.slice none 0 0))),(64,3,.im (.val (.slice none 0 0))),(65,0,.im (nI inputs_)),(65,1,.im (nI 0)),(65,2,.osl 66 1),(65,3,.osl 67 1)]) (λ(a2,a6,a7)=>lZ a2/\lZ a6/\True) (eA [(64,some 4),(65,some 5),(66,none),(67,none)]) (λ⟨a2,a6,a7⟩=>((Holds.kdg 66 rfl).and ((Holds.kdg 67 rfl).and hT))) ?_;rintro k ⟨a2,a6,a7⟩ o hp h a3;change U2.s20 inputs_ states_ a2 a6 a7=_ at h;unfold U2.s20 at h;obtain⟨d3,d4,_⟩:=hp;refine B7 h (λc0 h b8=>?_) λc0 h b8=>?_;obtain⟨⟨b3,b4⟩,h,a5⟩:=A6 h;refine E4 (mkSt [(0,B3 inputs_),(1,B3 states_),(4,.own 64 1 0),(5,.own 65 1 0),(6,A9 a7),(7,.osl 68 1),(8,.osl 69 1)] [(64,.box 24 4),(65,.box 24 4),(66,.grid 60 3 1 (List.map (cL cI) a2) none),(67,.grid 60 3 1 (List.map (cL cI) a6) none),(68,.row 3 1 (List.map cI b3)),(69,.row 3 1 (List.map cI b4))] [(64,0,.im (nI 0)),(64,1,.im (nI 0)),(64,2,.im (.val (.slice none 0 0))),(64,3,.im (.val (.slice none 0 0))),(65,0,.im (nI inputs_)),(65,1,.im (nI 0)),(65,2,.osl 66 1),(65,3,.osl 67 1)]) ((Holds.kdg 66 rfl).and ((Holds.kdg 67 rfl).and ((Holds.kdl 68 rfl).and ((Holds.kdl 69 rfl).and hT)))) ?_ λhp=>?_;refine E1 h (λ(a8,b2,b5)=>mkSt [(0,B3 inputs_),(1,B3 states_),(4,.own 64 1 0),(5,.own 65 1 0),(6,A9 a7),(7,.osl 68 1),(8,.osl 69 1),(9,A9 b5)] [(64,.box 24 4),(65,.box 24 4),(66,.grid 60 3 1 (List.map (cL cI) a2) none),(67,.grid 60 3 1 (List.map (cL cI) a6) none),(68,.row 3 1 (List.map cI a8)),(69,.row 3 1 (List.map cI b2))] [(64,0,.im (nI 0)),(64,1,.im (nI 0)),(64,2,.im (.val (.slice none 0 0))),(64,3,.im (.val (.slice none 0 0))),(65,0,.im (nI inputs_)),(65,1,.im (nI 0)),(65,2,.osl 66 1),(65,3,.osl 67 1)]) (λ(a8,b2,b5)=>lZ a2/\lZ a6/\lZ a8/\lZ b2/\True) (eA [(64,some 64),(65,some 65),(66,some 66),(67,some 67),(68,none),(69,none)]) (λ⟨a8,b2,b5⟩=>((Holds.kdg 66 rfl).and ((Holds.kdg 67 rfl).and ((Holds.kdl 68 rfl).and ((Holds.kdl 69 rfl).and hT))))) ?_;rintro k ⟨a8,b2,b5⟩ o hp h a0;change U2.s18 inputs_ a8 b2 b5=_ at h;unfold U2.s18 at h;obtain⟨d5,d6,d7,d8,_⟩:=hp;refine B7 h (λc6 h b9=>?_) λc6 h b9=>?_;obtain⟨c7,h⟩:=C8 h;refine A3 ⟨rfl,J9 (l:=[(-1:Int)]) (c:=cI) λ_=>rfl,show B5 _ 8 by simpa only[C3,G9,K5,F7]using c7⟩ ?_;refine A7 (List.map cI (a8++[(-1:Int)])) (J8 (l:=a8) (m:=[(-1:Int)]) (c:=cI)) ?_;obtain⟨c8,h⟩:=C8 h;refine A3 ⟨rfl,J9 (l:=[(-1:Int)]) (c:=cI) λ_=>rfl,show B5 _ 8 by simpa only[C3,G9,K5,F7]using c8⟩ ?_;refine A7 (List.map cI (b2++[(-1:Int)])) (J8 (l:=b2) (m:=[(-1:Int)]) (c:=cI)) ?_;obtain⟨c9,h⟩:=C8 h;refine C5.mk c9 ?_;cases h;exact D4 _ a0 eZ;cases h;cases C4 a0;exact C7 eZ;replace h:U2.k19 a2 a6 a7 b3 b4=some _:=a5;unfold U2.k19 at h;obtain⟨d9,e0,e1,e2,_⟩:=hp;refine A3 rfl<|A3 rfl<|A3 ⟨rfl,trivial⟩<|A7 (List.map (cL cI) [b3]) rfl ?_;obtain⟨d0,h⟩:=C8 h;refine A3 ⟨rfl,rfl,trivial⟩<|A3 (show B5 _ 24 by have a4:=d0;simpa only[C3]using a4)<|A7 (List.map (cL cI) (a2++[b3])) (J8 (l:=a2) (m:=[b3]) (c:=cL cI))<|A3 rfl<|A3 rfl<|A3 rfl<|A3 rfl<|A3 ⟨rfl,trivial⟩<|A7 (List.map (cL cI) [b4]) rfl ?_;obtain⟨d1,h⟩:=C8 h;refine A3 ⟨rfl,rfl,trivial⟩<|A3 (show B5 _ 24 by have a4:=d1;simpa only[C3]using a4)<|A7 (List.map (cL cI) (a6++[b4])) (J8 (l:=a6) (m:=[b4]) (c:=cL cI))<|A3 rfl<|A3 rfl ?_;obtain⟨d2,h⟩:=C8 h;refine C5.mk d2 ?_;cases h;exact D4 _ a3 (eA (J1 [64,64,65,65,66,32,67,38]));cases h;cases C4 a3;exact C7 eZ;replace h:U2.k21 inputs_ b6 b7=some _:=a9;unfold U2.k21 at h;obtain⟨e3,e4,_⟩:=hp;refine A3 rfl<|A3 rfl ?_;cases h;refine A3 ⟨rfl,trivial⟩ ?_;exact A3 ⟨rfl,rfl,trivial⟩ ⟨rfl,rfl⟩
def zC(o_:I4)(r:A8×Int)(h:P5 o_=some r):Sp Tryz.prog 37 [.im (.agg (N6 o_))] (.tup [.agg (D8 r.1),nI r.2]):=by
 refine E5 [11,500063,500080,700001,8000038,8700038] λhk=>?_;have z1:lZ o_.T:=B8 (D7 hk.1 1 rfl);unfold P5 at h;obtain⟨e2,h,h9⟩:=A6 h;refine E4 (mkSt [(1,B9 (N6 o_)),(2,.own 99 1 0),(4,.osl 100 1)] [(99,.box 24 4),(100,.row 60 1 (List.map (cL cI) e2))] [(99,0,.im (nI 0)),(99,1,.im (nI 0)),(99,2,.im (.val (.slice none 0 0))),(99,3,.im (.val (.slice none 0 0)))]) ((Holds.kdl 100 rfl).and hT) ?_ λhp=>?_;refine E1 h (λ(b7,b9)=>mkSt [(1,B9 (N6 o_)),(2,.own 99 1 0),(4,.osl 100 1),(5,A9 b9)] [(99,.box 24 4),(100,.row 60 1 (List.map (cL cI) b7))] [(99,0,.im (nI 0)),(99,1,.im (nI 0)),(99,2,.im (.val (.slice none 0 0))),(99,3,.im (.val (.slice none 0 0)))]) (λ(b7,b9)=>lZ b7/\True) (eA (J1 [99,2,100,11])) (λ⟨b7,b9⟩=>((Holds.kdl 100 rfl).and hT)) ?_;rintro k ⟨b7,b9⟩ o hp h h5;change P5.s2 o_ b7 b9=_ at h;unfold P5.s2 at h;obtain⟨g8,_⟩:=hp;refine A7 o_.T.length C6<|B7 h (λe3 h d2=>?_) λe3 h d2=>?_;refine E3 h λd3 i9 h=>?_;obtain⟨e4,h⟩:=C8 h;refine A3 ⟨rfl,J9 (l:=[d3.In]) (c:=cL cI) λ_=>rfl,show B5 _ 24 by simpa only[C3,G9,K5,F7]using e4⟩ ?_;refine A7 (List.map (cL cI) (b7++[d3.In])) (J8 (l:=b7) (m:=[d3.In]) (c:=cL cI))<|C5.mk (zzR_ (by omega)) ?_;cases h;exact D4 _ h5 eZ;cases h;cases C4 h5;exact C7 eZ;replace h:=h9;obtain⟨g9,_⟩:=hp;refine A3 ⟨rfl,trivial⟩ ?_;obtain⟨b3,i4,h⟩:=A6 h;refine⟨_,zs1 e2 b3 i4,?_⟩;refine A3 rfl<|A7 b3.length C6<|B7 h (λe5 h d4=>?_) λe5 h d4=>?_;refine A3 rfl ?_;cases h;refine A3 ⟨rfl,trivial⟩ ?_;exact⟨rfl,rfl⟩;refine A3 rfl<|A7 b3.length C6 ?_;obtain⟨b6,i0,h⟩:=A6 h;refine⟨_,sp_R35_blank o_.I (b3.length:Int) b6 i0,?_⟩;refine A3 rfl ?_;obtain⟨⟨c0,c6⟩,h,i3⟩:=A6 h;refine E4 (mkSt [(2,.own 99 1 0),(6,.own 100 1 0)] [(99,.box 24 4),(100,.box 24 4),(101,.grid 60 3 1 (List.map (cL cI) c0) none),(102,.grid 60 3 1 (List.map (cL cI) c6) none)] [(99,0,.im (nI 0)),(99,1,.im (nI 0)),(99,2,.im (.val (.slice none 0 0))),(99,3,.im (.val (.slice none 0 0))),(100,0,.im (nI b6.I)),(100,1,.im (nI b6.S)),(100,2,.osl 101 1),(100,3,.osl 102 1)]) ((Holds.kdg 101 rfl).and ((Holds.kdg 102 rfl).and hT)) ?_ λhp=>?_;refine E1 h (λ(b4,b5,a7)=>mkSt [(1,B9 (N6 o_)),(2,.own 99 1 0),(4,.osl 100 1),(6,.own 101 1 0),(7,A9 a7)] [(99,.box 24 4),(100,.row 60 1 (List.map (cL cI) b3)),(101,.box 24 4),(102,.grid 60 3 1 (List.map (cL cI) b4) none),(103,.grid 60 3 1 (List.map (cL cI) b5) none)] [(99,0,.im (nI 0)),(99,1,.im (nI 0)),(99,2,.im (.val (.slice none 0 0))),(99,3,.im (.val (.slice none 0 0))),(101,0,.im (nI b6.I)),(101,1,.im (nI b6.S)),(101,2,.osl 102 1),(101,3,.osl 103 1)]) (λ(b4,b5,a7)=>lZ b3/\lZ b4/\lZ b5/\True) (eA (J1 [99,99,100,29,101,6,102,3254,103,3255])) (λ⟨b4,b5,a7⟩=>((Holds.kdl 100 rfl).and ((Holds.kdg 102 rfl).and ((Holds.kdg 103 rfl).and hT)))) ?_;rintro k ⟨b4,b5,a7⟩ o hp h a9;change P5.s22 o_ b3 b4 b5 a7=_ at h;unfold P5.s22 at h;obtain⟨e6,e7,e8,_⟩:=hp;refine A7 o_.T.length C6<|B7 h (λd5 h c7=>?_) λd5 h c7=>?_;refine E3 h λa2 i7 h=>?_;refine A3 rfl ?_;obtain⟨⟨c8,c9⟩,h,h6⟩:=A6 h;refine E4 (mkSt [(1,B9 (N6 o_)),(2,.own 99 1 0),(4,.osl 100 1),(6,.own 101 1 0),(7,A9 a7)] [(99,.box 24 4),(100,.row 60 1 (List.map (cL cI) b3)),(101,.box 24 4),(102,.grid 60 3 1 (List.map (cL cI) c8) none),(103,.grid 60 3 1 (List.map (cL cI) c9) none)] [(99,0,.im (nI 0)),(99,1,.im (nI 0)),(99,2,.im (.val (.slice none 0 0))),(99,3,.im (.val (.slice none 0 0))),(101,0,.im (nI b6.I)),(101,1,.im (nI b6.S)),(101,2,.osl 102 1),(101,3,.osl 103 1)]) ((Holds.kdl 100 rfl).and ((Holds.kdg 102 rfl).and ((Holds.kdg 103 rfl).and hT))) ?_ λhp=>?_;refine E1 h (λ(a8,b2,a6)=>mkSt [(1,B9 (N6 o_)),(2,.own 99 1 0),(4,.osl 100 1),(6,.own 101 1 0),(7,A9 a7),(8,.own 104 1 0),(9,A9 a6)] [(99,.box 24 4),(100,.row 60 1 (List.map (cL cI) b3)),(101,.box 24 4),(102,.grid 60 3 1 (List.map (cL cI) a8) none),(103,.grid 60 3 1 (List.map (cL cI) b2) none),(104,.box 70 2)] [(99,0,.im (nI 0)),(99,1,.im (nI 0)),(99,2,.im (.val (.slice none 0 0))),(99,3,.im (.val (.slice none 0 0))),(101,0,.im (nI b6.I)),(101,1,.im (nI b6.S)),(101,2,.osl 102 1),(101,3,.osl 103 1),(104,0,.im (nL cI a2.In)),(104,1,.im (nL cI a2.O))]) (λ(a8,b2,a6)=>lZ b3/\lZ a8/\lZ b2/\lZ a2.In/\lZ a2.O/\True) (eA (J1 [99,99,100,100,101,101,102,102,103,103,104,8])) (λ⟨a8,b2,a6⟩=>((Holds.kdl 100 rfl).and ((Holds.kdg 102 rfl).and ((Holds.kdg 103 rfl).and ((Holds.cel 104 0 rfl (by decide) rfl).and ((Holds.cel 104 1 rfl (by decide) rfl).and hT)))))) ?_;rintro k ⟨a8,b2,a6⟩ o hp h f6;change P5.s20 b3 a2 a8 b2 a6=_ at h;unfold P5.s20 at h;obtain⟨e9,f3,f4,f5,f7,_⟩:=hp;refine A3 rfl<|A3 rfl<|A7 a2.In.length C6<|B7 h (λd6 h d0=>?_) λd6 h d0=>?_;refine A3 rfl<|A3 rfl ?_;obtain⟨f8,h⟩:=C8 h;refine A3 (show(0:Int)<=(0:Int)/\(0:Int)<=(a6:Int)/\(a6:Int)<=(↑(List.length (List.map cI a2.In)):Int)/\(∀e∈List.map cI a2.In,List.length e=1) from⟨by omega,by first|omega|(simp only[C3];omega),by first|omega|(simp only[C3];omega),J9 λ_=>rfl⟩) ?_
 refine A7 (List.map cI (List.take a6 a2.In)) nX<|A3 ⟨rfl,trivial⟩ ?_;obtain⟨b8,h8,h⟩:=A6 h;refine⟨_,zS b3 (List.take a6 a2.In) b8 h8,?_⟩;refine A3 cN<|A3 rfl<|A3 rfl ?_;obtain⟨d7,h4,a3,h⟩:=I9 h;refine A3 ⟨h4,rfl,D1 a3⟩<|A3 ⟨rfl,D1 a3⟩<|A3 rfl<|A3 rfl<|E3 h λd8 i5 h=>?_;refine A3 rfl<|A3 rfl<|C5.mk (zzR_ (by omega)) ?_;obtain⟨f9,h⟩:=C8 h;refine A3 (show(0:Int)<=(0:Int)/\(0:Int)<=((a6:Int)+1)/\((a6:Int)+1)<=(↑(List.length (List.map cI a2.In)):Int)/\(∀e∈List.map cI a2.In,List.length e=1) from⟨by omega,by first|omega|(simp only[C3];omega),by first|omega|(simp only[C3];omega),J9 λ_=>rfl⟩) ?_
 refine A7 (List.map cI (List.take (a6+1) a2.In)) nX<|A3 ⟨rfl,trivial⟩ ?_;obtain⟨d1,h7,h⟩:=A6 h;refine⟨_,zS b3 (List.take (a6+1) a2.In) d1 h7,?_⟩;refine A3 cN ?_;obtain⟨g1,h3,a5,h⟩:=I9 h;refine⟨_,⟨h3,rfl,D3 a3,D1 a5⟩,?_⟩;refine⟨_,_,⟨rfl,D3 a3,D3 a5⟩,?_⟩;refine A7 (List.map (cL cI) (List.set a8 (Int.toNat b8) (List.set d7 (Int.toNat d8) d1))) (iF rfl)<|A3 rfl<|A3 rfl ?_;obtain⟨d9,h0,a0,h⟩:=I9 h;refine A3 ⟨h0,rfl,D1 a0⟩<|A3 ⟨rfl,D1 a0⟩<|A3 rfl<|A3 rfl<|E3 h λe0 i6 h=>?_;refine A3 rfl<|A3 rfl<|E3 h λe1 i8 h=>?_;obtain⟨g2,h2,a4,h⟩:=I9 h;refine⟨_,⟨h2,rfl,D3 a0,D1 a4⟩,?_⟩;refine⟨_,_,⟨rfl,D3 a0,D3 a4⟩,?_⟩;refine A7 (List.map (cL cI) (List.set b2 (Int.toNat b8) (List.set d9 (Int.toNat e0) e1))) (iF rfl)<|C5.mk (zzR_ (by omega)) ?_;cases h;exact D4 _ f6 eZ;cases h;cases C4 f6;exact C7 eZ;replace h:P5.k21 a7 c8 c9=some _:=h6;unfold P5.k21 at h;obtain⟨g3,g4,g5,_⟩:=hp;refine C5.mk (zzR_ (by omega)) ?_;cases h;exact D4 _ a9 eZ;cases h;cases C4 a9;exact C7 (eA (J1 [99,99,100,101,101,102,102,103]));replace h:P5.k23 b6 c0 c6=some _:=i3;unfold P5.k23 at h;obtain⟨g6,g7,_⟩:=hp;refine A3 rfl<|A3 rfl ?_;cases h;refine A3 ⟨rfl,trivial⟩ ?_;exact A3 ⟨rfl,rfl,trivial⟩ ⟨rfl,rfl⟩
def wG(p_:A8)(r:Int)(h:bE p_=some r):Sp Tryz.prog 31 [.im (.agg (D8 p_))] (.im (nI r)):=by
 refine E5 [700001] λhk=>?_;have z1:lZ p_.N:=B8 (D7 hk.1 2 rfl);have z2:lZ p_.O:=B8 (D7 hk.1 3 rfl);unfold bE at h;refine A7 p_.N.length C6<|N5 h (λd0=>mkSt [(1,B9 (D8 p_)),(3,B3 (p_.N.length:Int)),(11,H6 d0)] [] []) (λ_=>hT) λd0 h hp=>?_;refine G8 h (λd2 h=>?_) λd2 h=>?_;cases h;exact⟨rfl,rfl⟩;refine B7 h (λd3 h b5=>?_) λd3 h b5=>?_;cases h;exact⟨rfl,rfl⟩;refine B7 h (λd4 h b6=>?_) λd4 h b6=>?_;cases h;exact⟨rfl,rfl⟩;refine N5 h (λd1=>mkSt [(1,B9 (D8 p_)),(3,B3 (p_.N.length:Int)),(26,H6 d1)] [] []) (λ_=>hT) λd1 h hp=>?_;refine G8 h (λd5 h=>?_) λd5 h=>?_;cases h;exact⟨rfl,rfl⟩;refine A7 p_.O.length C6<|B7 h (λd6 h b7=>?_) λd6 h b7=>?_;cases h;exact⟨rfl,rfl⟩;obtain⟨oc,h,a5⟩:=A6 h;refine R9 oc (mkSt [] [] []) hT ?_ ?_;refine E1 h (λa2=>mkSt [(1,B9 (D8 p_)),(3,B3 (p_.N.length:Int)),(42,B3 (p_.N.length:Int)),(43,A9 a2)] [] []) (λa2=>True) eZ (λ_=>hT) ?_;rintro k a2 o hp h a0;unfold bE.s14 at h;refine B7 h (λb8 h a8=>?_) λb8 h a8=>?_;refine N5 h (λb2=>mkSt [(1,B9 (D8 p_)),(3,B3 (p_.N.length:Int)),(4,A9 a2),(42,B3 (p_.N.length:Int)),(43,A9 a2),(65,H6 b2)] [] []) (λ_=>hT) λb2 h hp=>?_;refine G8 h (λb9 h=>?_) λb9 h=>?_;cases h;cases C4 a0;replace h:some _=some _:=a5;cases h;exact⟨rfl,rfl⟩;refine E3 h λa6 e1 h=>?_;refine A7 a6.length C6 ?_;obtain⟨oc,h,a4⟩:=A6 h;refine R9 oc (mkSt [(1,B9 (D8 p_)),(3,B3 (p_.N.length:Int)),(42,B3 (p_.N.length:Int)),(43,A9 a2)] [] []) hT ?_ ?_;refine E1 h (λa7=>mkSt [(1,B9 (D8 p_)),(3,B3 (p_.N.length:Int)),(4,A9 a2),(42,B3 (p_.N.length:Int)),(43,A9 a2),(70,C9 cI a6),(71,B3 (a6.length:Int)),(72,A9 a7)] [] []) (λa7=>lZ a6/\True) eZ (λa7=>((D5 70 rfl).and hT)) ?_;rintro k a7 o hp h a3;unfold bE.s13 at h;obtain⟨d7,_⟩:=hp;refine B7 h (λc0 h b3=>?_) λc0 h b3=>?_;refine E3 h λc6 e2 h=>?_;refine E3 h λd8 e0 h=>?_;refine E3 h λc7 a9 h=>?_;refine N5 h (λb4=>mkSt [(1,B9 (D8 p_)),(3,B3 (p_.N.length:Int)),(4,A9 a2),(6,B3 c6),(7,B3 c7),(42,B3 (p_.N.length:Int)),(43,A9 a2),(70,C9 cI a6),(71,B3 (a6.length:Int)),(72,A9 a7),(99,H6 b4)] [] []) (λ_=>((D5 70 rfl).and hT)) λb4 h hp=>?_;obtain⟨d9,_⟩:=hp;refine G8 h (λc8 h=>?_) λc8 h=>?_;cases h;cases C4 a3;replace h:some _=some _:=a4;cases h;cases C4 a0;replace h:some _=some _:=a5;cases h;exact⟨rfl,rfl⟩;refine G8 h (λc9 h=>?_) λc9 h=>?_;cases h;cases C4 a3;replace h:some _=some _:=a4;cases h;cases C4 a0;replace h:some _=some _:=a5;cases h;exact⟨rfl,rfl⟩;refine C5.mk (zzR_ (by omega)) ?_;cases h;exact D4 _ a3 eZ;cases h;cases C4 a3;exact J7.mk' _ rfl eZ;rintro⟨⟩ rfl hp;replace h:=L4 a4;refine C5.mk (zzR_ (by omega)) ?_;cases h;exact D4 _ a0 eZ;cases h;cases C4 a0;exact J7.mk' _ rfl eZ;rintro⟨⟩ rfl hp;replace h:=L4 a5;cases h;exact⟨rfl,rfl⟩
def wH(up_:A2)(s_ r:Int)(h:eK up_ s_=some r):Sp Tryz.prog 108 [.im (nL cI up_),.im (nI s_)] (.im (nI r)):=by
 refine E5 [] λhk=>?_;have z1:lZ up_:=B8 hk.1;unfold eK at h;obtain⟨s64,h,a3⟩:=A6 h;refine E4 (mkSt [(1,B3 s64)] [] []) hT ?_ λhp=>?_;refine E1 h (λs68=>mkSt [(0,C9 cI up_),(1,B3 s68)] [] []) (λs68=>lZ up_/\True) eZ (λs68=>((D5 0 rfl).and hT)) ?_;rintro k s68 o hp h a0;unfold eK.s2 at h;obtain⟨b3,_⟩:=hp;refine L0 h λa7 a4 b2 h=>?_;refine B7 h (λa6 h a2=>?_) λa6 h a2=>?_;refine L0 h λa8 a5 a9 h=>?_;cases h;exact D4 _ a0 eZ;cases h;cases C4 a0;exact C7 eZ;replace h:=a3;cases h;exact⟨rfl,rfl⟩
def BS(p_:A8)(class_:A2)(a_ r:Int)(h:fM p_ class_ a_=some r):Sp Tryz.prog 109 [.im (.agg (D8 p_)),.im (nL cI class_),.im (nI a_)] (.im (nI r)):=by
 refine E5 [700003] λhk=>?_;have z1:lZ p_.N:=B8 (D7 hk.1 2 rfl);have z2:lZ p_.O:=B8 (D7 hk.1 3 rfl);have z3:lZ class_:=B8 hk.2.1;unfold fM at h;refine A7 class_.length C6 ?_;obtain⟨oc,h,a3⟩:=A6 h;refine R9 oc (mkSt [] [] []) hT ?_ ?_;refine E1 h (λa2=>mkSt [(2,B3 a_),(3,B9 (D8 p_)),(9,C9 cI class_),(10,B3 (class_.length:Int)),(11,A9 a2)] [] []) (λa2=>lZ class_/\True) eZ (λa2=>((D5 9 rfl).and hT)) ?_;rintro k a2 o hp h a0;unfold fM.s2 at h;obtain⟨b3,_⟩:=hp;refine B7 h (λa8 h a6=>?_) λa8 h a6=>?_;refine E3 h λb4 b7 h=>?_;refine L0 h λb5 a4 a9 h=>?_;refine L0 h λb6 a5 b8 h=>?_;refine B7 h (λb2 h a7=>?_) λb2 h a7=>?_;cases h;cases C4 a0;replace h:some _=some _:=a3;cases h;exact⟨rfl,rfl⟩;refine C5.mk (zzR_ (by omega)) ?_;cases h;exact D4 _ a0 eZ;cases h;cases C4 a0;exact J7.mk' _ rfl eZ;rintro⟨⟩ rfl hp;replace h:=L4 a3;cases h;exact⟨rfl,rfl⟩
def zqb(p_:A8)(s_ t_:Int)(r:A2×Bool)(h:M1 p_ s_ t_=some r):Sp Tryz.prog 78 [.im (.agg (D8 p_)),.im (nI s_),.im (nI t_)] (.tup [nL cI r.1,nB r.2]):=by
 refine E5 [37,44,500055,500061,500076,500083,500153,600025,700003] λhk=>?_;have z1:lZ p_.N:=B8 (D7 hk.1 2 rfl);have z2:lZ p_.O:=B8 (D7 hk.1 3 rfl);unfold M1 at h;refine A7 p_.N.length C6 ?_;obtain⟨k0,h⟩:=C8 h;refine A3 k0<|A7 (List.map cI (List.replicate p_.N.length (0:Int))) (V9 (c:=cI) (z:=0) (n:=p_.N.length) rfl rfl)<|A7 p_.N.length C6 ?_;obtain⟨k1,h⟩:=C8 h;refine A3 k1<|A7 (List.map (cL cI) (List.replicate p_.N.length ([]:A2))) (V9 (c:=(cL cI)) (z:=([]:A2)) (n:=p_.N.length) rfl rfl) ?_;refine A3 rfl<|A7 (List.length (List.replicate p_.N.length (0:Int))) C6 ?_;obtain⟨⟨g5,g6⟩,h,p5⟩:=A6 h;refine E4 (mkSt [(1,B3 s_),(2,B3 t_),(3,B9 (D8 p_)),(8,.osl 157 1),(9,.osl 158 1)] [(157,.row 3 1 (List.map cI g5)),(158,.grid 60 3 1 (List.map (cL cI) g6) none)] []) ((Holds.kdl 157 rfl).and ((Holds.kdg 158 rfl).and hT)) ?_ λhp=>?_;refine E1 h (λ(d7,d8,d2)=>mkSt [(1,B3 s_),(2,B3 t_),(3,B9 (D8 p_)),(8,.osl 157 1),(9,.osl 158 1),(27,B3 (↑(List.length (List.replicate p_.N.length (0:Int))):Int)),(28,A9 d2)] [(157,.row 3 1 (List.map cI d7)),(158,.grid 60 3 1 (List.map (cL cI) d8) none)] []) (λ(d7,d8,d2)=>lZ d7/\lZ d8/\True) (eA (J1 [157,21,158,25])) (λ⟨d7,d8,d2⟩=>((Holds.kdl 157 rfl).and ((Holds.kdg 158 rfl).and hT))) ?_;rintro k ⟨d7,d8,d2⟩ o hp h o6;change M1.s2 p_ d7 d8 d2=_ at h;unfold M1.s2 at h;obtain⟨k5,k6,_⟩:=hp;refine B7 h (λk2 h g4=>?_) λk2 h g4=>?_;obtain⟨k8,o4,h⟩:=I5 h;refine A3 ⟨(by omega),rfl,D1 o4⟩<|A3 ⟨rfl,trivial⟩<|⟨_,D3 o4,?_⟩;refine A7 (List.map cI (List.set d7 d2 (d2:Int))) (M9 rfl) ?_;obtain⟨l0,o3,h⟩:=I5 h;refine A3 ⟨(by omega),rfl,D1 o3⟩<|A3 ⟨rfl,rfl,D1 o3,trivial⟩<|A7 (List.map (cL cI) (List.set d8 d2 [(d2:Int)])) uQ ?_;obtain⟨k4,h⟩:=C8 h;refine C5.mk k4 ?_;cases h;exact D4 _ o6 eZ;cases h;cases C4 o6;exact C7 eZ;replace h:M1.k37 p_ s_ t_ g5 g6=some _:=p5;unfold M1.k37 at h;obtain⟨l3,l4,_⟩:=hp;obtain⟨oc,h,o5⟩:=A6 h;refine T8 oc (Y:=A2) (λb2=>mkSt [(8,.osl 157 1)] [(157,.row 3 1 (List.map cI b2))] []) (λb2=>lZ b2/\True) (by rintro b2;exact((Holds.kdl 157 rfl).and hT)) ?_ ?_;refine E1 h (λ(a2,a6,b5)=>mkSt [(3,B9 (D8 p_)),(8,.osl 157 1),(9,.osl 158 1),(11,.osl 159 1)] [(157,.row 3 1 (List.map cI a2)),(158,.grid 60 3 1 (List.map (cL cI) a6) none),(159,.que 121 2 (List.map c_A2 b5))] []) (λ(a2,a6,b5)=>lZ a2/\lZ a6/\lZ b5/\True) ((Ent.que 44 rfl).trans (eA (J1 [157,157,158,158,159,44]))) (λ⟨a2,a6,b5⟩=>((Holds.kdl 157 rfl).and ((Holds.kdg 158 rfl).and ((Holds.kdql 159 rfl).and hT)))) ?_;rintro k ⟨a2,a6,b5⟩ o hp h a5;change M1.s34 p_ a2 a6 b5=_ at h;unfold M1.s34 at h;obtain⟨g7,g8,g9,_⟩:=hp;refine A3 rfl<|A7 b5.length C6<|B7 h (λe4 h d9=>?_) λe4 h d9=>?_;obtain⟨oc,h,l8⟩:=A6 h;refine T8 oc (Y:=A2×A4×List T_A2) (λ(b9,c0,b6)=>mkSt [(3,B9 (D8 p_)),(8,.osl 157 1),(9,.osl 158 1),(11,.osl 159 1)] [(157,.row 3 1 (List.map cI b9)),(158,.grid 60 3 1 (List.map (cL cI) c0) none),(159,.que 121 2 (List.map c_A2 b6))] []) (λ(b9,c0,b6)=>lZ b9/\lZ c0/\lZ b6/\True) (by rintro⟨b9,c0,b6⟩;exact((Holds.kdl 157 rfl).and ((Holds.kdg 158 rfl).and ((Holds.kdql 159 rfl).and hT)))) ?_ ?_;obtain⟨e5,m0,h⟩:=I5 h;refine A3 ⟨(by omega),rfl,D1 m0⟩<|A3 ⟨by decide,by decide,rfl⟩<|⟨_,_,⟨rfl,D3 m0,rfl,rfl⟩,?_⟩;refine A3 ⟨rfl,trivial⟩ ?_;obtain⟨b3,n8,h⟩:=A6 h;refine⟨_,wH a2 e5.f0 b3 n8,?_⟩;refine A3 cN ?_;obtain⟨e6,m4,h⟩:=I5 h;refine A3 ⟨(by omega),rfl,D1 m4⟩<|A3 ⟨by decide,by decide,rfl⟩<|⟨_,_,⟨rfl,D3 m4,rfl,rfl⟩,?_⟩;refine A3 ⟨rfl,trivial⟩ ?_;obtain⟨b7,o1,h⟩:=A6 h;refine⟨_,wH a2 e6.f1 b7 o1,?_⟩;refine A3 cN<|B7 h (λe7 h e0=>?_) λe7 h e0=>?_;cases h;exact J7.mk' _ rfl eZ;obtain⟨oc,h,l9⟩:=A6 h;refine T8 oc (Y:=List T_A2) (λc6=>mkSt [(3,B9 (D8 p_)),(8,.osl 157 1),(9,.osl 158 1),(11,.osl 159 1),(12,B3 b3),(13,B3 b7)] [(157,.row 3 1 (List.map cI a2)),(158,.grid 60 3 1 (List.map (cL cI) a6) none),(159,.que 121 2 (List.map c_A2 c6))] []) (λc6=>lZ a2/\lZ a6/\lZ c6/\True) (by rintro c6;exact((Holds.kdl 157 rfl).and ((Holds.kdg 158 rfl).and ((Holds.kdql 159 rfl).and hT)))) ?_ ?_;refine E1 h (λ(a8,a7)=>mkSt [(3,B9 (D8 p_)),(8,.osl 157 1),(9,.osl 158 1),(11,.osl 159 1),(12,B3 b3),(13,B3 b7),(66,B3 p_.I),(67,A9 a7)] [(157,.row 3 1 (List.map cI a2)),(158,.grid 60 3 1 (List.map (cL cI) a6) none),(159,.que 121 2 (List.map c_A2 a8))] []) (λ(a8,a7)=>lZ a2/\lZ a6/\lZ a8/\True) eZ (λ⟨a8,a7⟩=>((Holds.kdl 157 rfl).and ((Holds.kdg 158 rfl).and ((Holds.kdql 159 rfl).and hT)))) ?_;rintro k ⟨a8,a7⟩ o hp h a4;change M1.s32 p_ a6 b3 b7 a8 a7=_ at h;unfold M1.s32 at h;obtain⟨h0,h2,h3,_⟩:=hp;refine B7 h (λe8 h e1=>?_) λe8 h e1=>?_;obtain⟨oc,h,l7⟩:=A6 h;refine T8 oc (Y:=List T_A2) (λc7=>mkSt [(3,B9 (D8 p_)),(8,.osl 157 1),(9,.osl 158 1),(11,.osl 159 1),(12,B3 b3),(13,B3 b7),(66,B3 p_.I),(67,A9 a7)] [(157,.row 3 1 (List.map cI a2)),(158,.grid 60 3 1 (List.map (cL cI) a6) none),(159,.que 121 2 (List.map c_A2 c7))] []) (λc7=>lZ a2/\lZ a6/\lZ c7/\True) (by rintro c7;exact((Holds.kdl 157 rfl).and ((Holds.kdg 158 rfl).and ((Holds.kdql 159 rfl).and hT)))) ?_ ?_;obtain⟨e9,n4,a0,h⟩:=I9 h;refine A3 ⟨n4,rfl,D1 a0⟩<|A3 ⟨rfl,D1 a0⟩<|A3 ⟨rfl,trivial⟩ ?_;obtain⟨d3,n5,h⟩:=A6 h;refine⟨_,sp_cast (by rw[rowAt_map a0];try rfl) (BS p_ e9 (a7:Int) d3 n5),?_⟩;refine A3 cN ?_;obtain⟨f3,n3,a3,h⟩:=I9 h;refine A3 ⟨n3,rfl,D1 a3⟩<|A3 ⟨rfl,D1 a3⟩<|A3 ⟨rfl,trivial⟩ ?_;obtain⟨d4,o2,h⟩:=A6 h;refine⟨_,sp_cast (by rw[rowAt_map a3];try rfl) (BS p_ f3 (a7:Int) d4 o2),?_⟩;refine A3 cN<|N5 h (λd5=>mkSt [(3,B9 (D8 p_)),(8,.osl 157 1),(9,.osl 158 1),(11,.osl 159 1),(12,B3 b3),(13,B3 b7),(14,A9 a7),(15,B3 d3),(16,B3 d4),(66,B3 p_.I),(67,A9 a7),(89,H6 d5)] [(157,.row 3 1 (List.map cI a2)),(158,.grid 60 3 1 (List.map (cL cI) a6) none),(159,.que 121 2 (List.map c_A2 a8))] []) (λ_=>((Holds.kdl 157 rfl).and ((Holds.kdg 158 rfl).and ((Holds.kdql 159 rfl).and hT)))) λd5 h hp=>?_;obtain⟨h4,h5,h6,_⟩:=hp;refine G8 h (λf4 h=>?_) λf4 h=>?_;cases h;exact J7.mk' _ rfl eZ;refine L0 h λh7 p3 q0 h=>?_;refine E3 h λh8 q3 h=>?_;refine L0 h λh9 p1 p9 h=>?_;refine E3 h λi0 p8 h=>?_;refine B7 h (λf5 h e2=>?_) λf5 h e2=>?_;cases h;replace h:some _=some _:=l7;cases h;cases C4 a4;replace h:some _=some _:=l9;cases h;replace h:some _=some _:=l8;cases h;cases C4 a5;replace h:some _=some _:=o5;cases h;exact⟨rfl,rfl⟩;refine L0 h λi3 o9 p6 h=>?_;refine E3 h λc8 p7 h=>?_;refine L0 h λi4 o8 q1 h=>?_;refine E3 h λc9 q2 h=>?_;obtain⟨f7,h⟩:=C8 h;refine A3 ⟨rfl,sX _,J9 (l:=[(⟨c8,c9⟩:T_A2)]) (c:=c_A2) λ_=>rfl,show B5 _ 16 by simpa only[C3,G9,K5,F7]using f7⟩ ?_;refine A7 (List.map c_A2 (a8++[(⟨c8,c9⟩:T_A2)])) (J8 (l:=a8) (m:=[(⟨c8,c9⟩:T_A2)]) (c:=c_A2)) ?_;cases h;exact J7.mk' _ rfl eZ;rintro c7 rfl hp;replace h:=L4 l7;obtain⟨i5,i6,i7,_⟩:=hp;obtain⟨f8,h⟩:=C8 h;refine C5.mk f8 ?_;cases h;exact D4 _ a4 eZ;cases h;cases C4 a4;exact J7.mk' _ rfl eZ;rintro c6 rfl hp;replace h:=L4 l9;obtain⟨i8,i9,j0,_⟩:=hp;obtain⟨j1,m6,m3,h⟩:=I9 h;refine A3 ⟨m6,rfl,D1 m3⟩<|A3 ⟨rfl,trivial⟩<|⟨_,D3 m3,?_⟩;refine A7 (List.map cI (List.set a2 b7.toNat b3)) (M9 rfl) ?_;obtain⟨d0,m7,a9,h⟩:=I9 h;refine A3 ⟨m7,rfl,D1 a9⟩<|A3 ⟨rfl,D1 a9⟩ ?_;obtain⟨d1,m8,f6,h⟩:=I9 h;refine A3 ⟨m8,rfl,D1 f6⟩<|A3 ⟨rfl,D1 f6⟩ ?_;obtain⟨f9,h⟩:=C8 h;refine⟨_,_,⟨rfl,rfl,by omega,D3 a9,D3 f6,(show B5 _ 8 by have o7:=f9;simpa only[C3]using o7)⟩,?_⟩;refine A7 (List.map cI (d0++d1)) (J8 (l:=d0) (m:=d1) (c:=cI)) ?_;obtain⟨j2,m9,l5,h⟩:=I9 h;refine A3 ⟨m9,rfl,D1 l5⟩<|A3 ⟨rfl,rfl,D1 l5,rfl⟩<|A7 (List.map (cL cI) (List.set a6 (Int.toNat b3) (d0++d1))) uQ ?_;cases h;exact J7.mk' _ rfl eZ;rintro⟨b9,c0,b6⟩ rfl hp;have p4:=L4 l8;replace h:M1.k33 b9 c0 b6=some _:=p4;clear p4;unfold M1.k33 at h;obtain⟨j3,j4,j5,_⟩:=hp;obtain⟨g1,h⟩:=C8 h;refine A3 ⟨rfl,by decide,by have o7:=g1;simp only[C3];exact o7⟩ ?_;refine A7 (List.map c_A2 (List.drop 1 b6)) mV ?_;cases h;exact D4 _ a5 eZ;cases h;cases C4 a5;exact J7.mk' _ rfl eZ;rintro b2 rfl hp;replace h:=L4 o5;obtain⟨j6,_⟩:=hp;refine A3 rfl<|A7 b2.length C6 ?_;obtain⟨g2,h,n7⟩:=A6 h;refine E4 (mkSt [(8,.osl 157 1)] [(157,.row 3 1 (List.map cI g2))] []) ((Holds.kdl 157 rfl).and hT) ?_ λhp=>?_;refine E1 h (λ(b4,b8)=>mkSt [(8,.osl 157 1),(145,B3 (b2.length:Int)),(146,A9 b8)] [(157,.row 3 1 (List.map cI b4))] []) (λ(b4,b8)=>lZ b4/\True) eZ (λ⟨b4,b8⟩=>((Holds.kdl 157 rfl).and hT)) ?_;rintro k ⟨b4,b8⟩ o hp h m5;change M1.s36 b2 b4 b8=_ at h;unfold M1.s36 at h;obtain⟨j7,_⟩:=hp;refine B7 h (λg3 h e3=>?_) λg3 h e3=>?_;refine A3 ⟨rfl,trivial⟩ ?_;obtain⟨d6,n9,h⟩:=A6 h;refine⟨_,wH b4 (b8:Int) d6 n9,?_⟩;refine A3 cN ?_;obtain⟨j8,l6,h⟩:=I5 h;refine A3 ⟨(by omega),rfl,D1 l6⟩<|A3 ⟨rfl,trivial⟩<|⟨_,D3 l6,?_⟩;refine A7 (List.map cI (List.set b4 b8 d6)) (M9 rfl)<|C5.mk (zzR_ (by omega)) ?_;cases h;exact D4 _ m5 eZ;cases h;cases C4 m5;exact C7 eZ;replace h:=n7;obtain⟨j9,_⟩:=hp;cases h;exact A3 ⟨rfl,trivial⟩ ⟨rfl,rfl⟩
def BU(p_:A8)(s_ t_:Int)(r:Int×Bool)(h:R0 p_ s_ t_=some r):Sp Tryz.prog 38 [.im (.agg (D8 p_)),.im (nI s_),.im (nI t_)] (.tup [nI r.1,nB r.2]):=by
 refine E5 [700003] λhk=>?_;have z1:lZ p_.N:=B8 (D7 hk.1 2 rfl);have z2:lZ p_.O:=B8 (D7 hk.1 3 rfl);unfold R0 at h;obtain⟨b5,e9,h⟩:=A6 h;refine⟨_,zqb p_ s_ t_ b5 e9,?_⟩;refine G8 h (λe8 h=>?_) λe8 h=>?_;cases h;exact⟨rfl,rfl⟩;refine A7 p_.N.length C6 ?_;obtain⟨d8,h,f3⟩:=A6 h;refine E4 (mkSt [(10,A9 d8)] [] []) hT ?_ λhp=>?_;refine E1 h (λ(b2,b3,a2)=>mkSt [(3,B9 (D8 p_)),(8,C9 cI b5.1),(10,A9 b2),(11,.osl 64 1),(27,B3 (p_.N.length:Int)),(28,A9 a2)] [(64,.map (mapV wA wB b3))] []) (λ(b2,b3,a2)=>lZ b5.1/\True) (eA (J1 [64,24])) (λ⟨b2,b3,a2⟩=>((D5 8 rfl).and hT)) ?_;rintro k ⟨b2,b3,a2⟩ o hp h a3;change R0.s56 p_ b5 b2 b3 a2=_ at h;unfold R0.s56 at h;obtain⟨d9,_⟩:=hp;refine B7 h (λd0 h c7=>?_) λd0 h c7=>?_;refine E3 h λa7 f5 h=>?_;refine A7 a7.length C6 ?_;obtain⟨⟨b6,b7⟩,h,a5⟩:=A6 h;refine E4 (mkSt [(3,B9 (D8 p_)),(8,C9 cI b5.1),(10,A9 b6),(11,.osl 64 1),(27,B3 (p_.N.length:Int)),(28,A9 a2)] [(64,.map (mapV wA wB b7))] []) ((D5 8 rfl).and hT) ?_ λhp=>?_;refine E1 h (λ(b4,a8,a6)=>mkSt [(3,B9 (D8 p_)),(8,C9 cI b5.1),(10,A9 b4),(11,.osl 64 1),(12,A9 a2),(27,B3 (p_.N.length:Int)),(28,A9 a2),(35,C9 cI a7),(36,B3 (a7.length:Int)),(37,A9 a6)] [(64,.map (mapV wA wB a8))] []) (λ(b4,a8,a6)=>lZ b5.1/\lZ a7/\True) eZ (λ⟨b4,a8,a6⟩=>((D5 8 rfl).and ((D5 35 rfl).and hT))) ?_;rintro k ⟨b4,a8,a6⟩ o hp h a0;change R0.s54 b5 a2 a7 b4 a8 a6=_ at h;unfold R0.s54 at h;obtain⟨e0,e1,_⟩:=hp;refine B7 h (λd1 h c8=>?_) λd1 h c8=>?_;obtain⟨⟨b8,b9⟩,h,a4⟩:=A6 h;refine E4 (mkSt [(3,B9 (D8 p_)),(8,C9 cI b5.1),(10,A9 b8),(11,.osl 64 1),(12,A9 a2),(27,B3 (p_.N.length:Int)),(28,A9 a2),(35,C9 cI a7),(36,B3 (a7.length:Int)),(37,A9 a6)] [(64,.map (mapV wA wB b9))] []) ((D5 8 rfl).and ((D5 35 rfl).and hT)) ?_ λhp=>?_;refine E3 h λe2 f4 h=>?_;refine B7 h (λd2 h c9=>?_) λd2 h c9=>?_;cases h;exact C7 eZ;obtain⟨d3,h,a9⟩:=A6 h;refine E4 (mkSt [(3,B9 (D8 p_)),(8,C9 cI b5.1),(10,A9 d3),(11,.osl 64 1),(12,A9 a2),(13,A9 a6),(27,B3 (p_.N.length:Int)),(28,A9 a2),(35,C9 cI a7),(36,B3 (a7.length:Int)),(37,A9 a6)] [(64,.map (mapV wA wB a8))] []) ((D5 8 rfl).and ((D5 35 rfl).and hT)) ?_ λhp=>?_;refine E3 h λc0 f7 h=>?_;obtain⟨d4,h⟩:=C8 h;refine A3 rfl<|⟨[c0,(a6:Int)],_,qU (g:=wB) rfl ⟨rfl,d4⟩,?_⟩;refine A7 (wB ((mget [c0,(a6:Int)] a8).getD false)) ((getD_map rfl _).trans (congrArg (Option.getD · _) (get_arr _ _ _).symm))<|G8 h (λd5 h=>?_) λd5 h=>?_;obtain⟨d6,h⟩:=C8 h;refine C5.mk d6 ?_;cases h;exact C7 eZ;cases h;exact C7 eZ;replace h:=a9;obtain⟨e3,e4,_⟩:=hp;refine E3 h λc6 f6 h=>?_;obtain⟨d7,h⟩:=C8 h;refine A3 rfl<|⟨[c6,(a6:Int)],_,qU (g:=wB) rfl ⟨rfl,d7⟩,?_⟩;refine A7 (mapV wA wB (mset [c6,(a6:Int)] true a8)) (by rw[set_arr];exact mapA_set _ _) ?_;cases h;exact C7 eZ;replace h:R0.k53 a6 b8 b9=some _:=a4;unfold R0.k53 at h;obtain⟨e5,e6,_⟩:=hp;refine C5.mk (zzR_ (by omega)) ?_;cases h;exact D4 _ a0 eZ;cases h;cases C4 a0;exact C7 eZ;replace h:R0.k55 a2 b6 b7=some _:=a5;unfold R0.k55 at h;obtain⟨e7,_⟩:=hp;refine C5.mk (zzR_ (by omega)) ?_;cases h;exact D4 _ a3 eZ;cases h;cases C4 a3;exact C7 eZ;replace h:=f3;cases h;exact⟨rfl,rfl⟩
def wN(p_:A8)(s_ t_:Int)(r:Int×Bool×Int)(h:pD p_ s_ t_=some r):Sp Tryz.prog 10 [.im (.agg (D8 p_)),.im (nI s_),.im (nI t_)] (.tup [nI r.1,nB r.2.1,nI r.2.2]):=by
 refine E5 [700003] λhk=>?_;have z1:lZ p_.N:=B8 (D7 hk.1 2 rfl);have z2:lZ p_.O:=B8 (D7 hk.1 3 rfl);unfold pD at h;obtain⟨a7,a3,h⟩:=A6 h;refine⟨_,wG p_ a7 a3,?_⟩;refine B7 h (λa8 h a2=>?_) λa8 h a2=>?_;cases h;exact⟨rfl,rfl⟩;refine N5 h (λa6=>mkSt [(1,B3 s_),(2,B3 t_),(3,B9 (D8 p_)),(29,H6 a6)] [] []) (λ_=>hT) λa6 h hp=>?_;refine G8 h (λb2 h=>?_) λb2 h=>?_;cases h;exact⟨rfl,rfl⟩;obtain⟨b3,a0,h⟩:=A6 h;refine⟨_,BU p_ s_ t_ b3 a0,?_⟩;cases h;exact⟨rfl,rfl⟩
def zph(p_:A8)(red_:List Bool)(r:A2)(h:U5 p_ red_=some r):Sp Tryz.prog 46 [.im (.agg (D8 p_)),.im (nL cB red_)] (.row 3 1 (List.map cI r)):=by
 refine E5 [700002] λhk=>?_;have z1:lZ p_.N:=B8 (D7 hk.1 2 rfl);have z2:lZ p_.O:=B8 (D7 hk.1 3 rfl);have z3:lZ red_:=B8 hk.2.1;unfold U5 at h;refine A7 red_.length C6 ?_;obtain⟨d5,h⟩:=C8 h;refine A3 d5<|A7 (List.map cB (List.replicate red_.length false)) (V9 (c:=cB) (z:=false) (n:=red_.length) rfl rfl)<|A7 red_.length C6 ?_;obtain⟨b3,h,f8⟩:=A6 h;refine E4 (mkSt [(5,.osl 64 1)] [(64,.row 4 1 (List.map cB b3))] []) ((Holds.kdl 64 rfl).and hT) ?_ λhp=>?_;refine E1 h (λ(b4,a2)=>mkSt [(1,C9 cB red_),(2,B9 (D8 p_)),(5,.osl 64 1),(16,C9 cB red_),(17,B3 (red_.length:Int)),(18,A9 a2)] [(64,.row 4 1 (List.map cB b4))] []) (λ(b4,a2)=>lZ red_/\lZ b4/\True) (eA (J1 [64,15])) (λ⟨b4,a2⟩=>((D5 1 rfl).and ((Holds.kdl 64 rfl).and hT))) ?_;rintro k ⟨b4,a2⟩ o hp h a9;change U5.s14 p_ red_ b4 a2=_ at h;unfold U5.s14 at h;obtain⟨d6,d7,_⟩:=hp;refine B7 h (λc7 h b7=>?_) λc7 h b7=>?_;refine E3 h λb6 g1 h=>?_;refine E3 h λb2 f9 h=>?_;refine A7 b2.length C6 ?_;obtain⟨c8,h,f7⟩:=A6 h;refine E4 (mkSt [(1,C9 cB red_),(2,B9 (D8 p_)),(5,.osl 64 1),(16,C9 cB red_),(17,B3 (red_.length:Int)),(18,A9 a2)] [(64,.row 4 1 (List.map cB c8))] []) ((D5 1 rfl).and ((Holds.kdl 64 rfl).and hT)) ?_ λhp=>?_;refine E1 h (λ(a6,b5)=>mkSt [(1,C9 cB red_),(2,B9 (D8 p_)),(5,.osl 64 1),(7,H6 b6),(16,C9 cB red_),(17,B3 (red_.length:Int)),(18,A9 a2),(27,C9 cI b2),(28,B3 (b2.length:Int)),(29,A9 b5)] [(64,.row 4 1 (List.map cB a6))] []) (λ(a6,b5)=>lZ red_/\lZ b2/\lZ a6/\True) eZ (λ⟨a6,b5⟩=>((D5 1 rfl).and ((D5 27 rfl).and ((Holds.kdl 64 rfl).and hT)))) ?_;rintro k ⟨a6,b5⟩ o hp h a0;change U5.s13 red_ b6 b2 a6 b5=_ at h;unfold U5.s13 at h;obtain⟨d8,d9,e0,_⟩:=hp;refine B7 h (λc9 h b8=>?_) λc9 h b8=>?_;refine E3 h λb9 g2 h=>?_;refine N5 h (λc0=>mkSt [(1,C9 cB red_),(2,B9 (D8 p_)),(5,.osl 64 1),(7,H6 b6),(9,B3 b9),(16,C9 cB red_),(17,B3 (red_.length:Int)),(18,A9 a2),(27,C9 cI b2),(28,B3 (b2.length:Int)),(29,A9 b5),(44,H6 c0)] [(64,.row 4 1 (List.map cB a6))] []) (λ_=>((D5 1 rfl).and ((D5 27 rfl).and ((Holds.kdl 64 rfl).and hT)))) λc0 h hp=>?_;obtain⟨e1,e2,e3,_⟩:=hp;refine G8 h (λd0 h=>?_) λd0 h=>?_;obtain⟨e4,f5,a5,h⟩:=I9 h;refine A3 ⟨f5,rfl,D1 a5⟩<|A3 ⟨rfl,trivial⟩<|⟨_,D3 a5,?_⟩;refine A7 (List.map cB (List.set a6 b9.toNat true)) (M9 rfl)<|C5.mk (zzR_ (by omega)) ?_;cases h;exact D4 _ a0 eZ;refine C5.mk (zzR_ (by omega)) ?_;cases h;exact D4 _ a0 eZ;cases h;cases C4 a0;exact C7 eZ;replace h:=f7;obtain⟨e5,e6,_⟩:=hp;refine C5.mk (zzR_ (by omega)) ?_;cases h;exact D4 _ a9 eZ;cases h;cases C4 a9;exact C7 eZ;replace h:=f8;obtain⟨e7,_⟩:=hp;refine A3 rfl<|A7 b3.length C6 ?_;obtain⟨d1,h,f6⟩:=A6 h;refine E4 (mkSt [(10,.osl 64 1)] [(64,.row 3 1 (List.map cI d1))] []) ((Holds.kdl 64 rfl).and hT) ?_ λhp=>?_;refine E1 h (λ(a7,a8)=>mkSt [(10,.osl 64 1),(50,.osl 65 1),(51,B3 (b3.length:Int)),(52,A9 a8)] [(64,.row 3 1 (List.map cI a7)),(65,.row 4 1 (List.map cB b3))] []) (λ(a7,a8)=>lZ a7/\lZ b3/\True) (eA [(64,none),(65,some 64)]) (λ⟨a7,a8⟩=>((Holds.kdl 64 rfl).and ((Holds.kdl 65 rfl).and hT))) ?_;rintro k ⟨a7,a8⟩ o hp h a3;change U5.s16 b3 a7 a8=_ at h;unfold U5.s16 at h;obtain⟨e8,e9,_⟩:=hp;refine B7 h (λd2 h c6=>?_) λd2 h c6=>?_;obtain⟨f3,a4,h⟩:=I5 h;refine A3 ⟨(by omega),rfl,D1 a4⟩<|⟨_,_,⟨rfl,D3 a4,rfl,rfl⟩,?_⟩;refine G8 h (λd3 h=>?_) λd3 h=>?_;obtain⟨d4,h⟩:=C8 h;refine A3 ⟨rfl,J9 (l:=[(a8:Int)]) (c:=cI) λ_=>rfl,show B5 _ 8 by simpa only[C3,G9,K5,F7]using d4⟩ ?_;refine A7 (List.map cI (a7++[(a8:Int)])) (J8 (l:=a7) (m:=[(a8:Int)]) (c:=cI)) ?_;refine C5.mk (zzR_ (by omega)) ?_;cases h;exact D4 _ a3 eZ;refine C5.mk (zzR_ (by omega)) ?_;cases h;exact D4 _ a3 eZ;cases h;cases C4 a3;exact C7 eZ;replace h:=f6;obtain⟨f4,_⟩:=hp;cases h;exact A3 ⟨rfl,trivial⟩ ⟨rfl,rfl⟩
def zqq(p_:A8)(red_:List Bool)(blue_:Int)(r:X8)(h:aK p_ red_ blue_=some r):Sp Tryz.prog 86 [.im (.agg (D8 p_)),.im (nL cB red_),.im (nI blue_)] (.im (.agg (wU r))):=by
 refine E5 [700003] λhk=>?_;have z1:lZ p_.N:=B8 (D7 hk.1 2 rfl);have z2:lZ p_.O:=B8 (D7 hk.1 3 rfl);have z3:lZ red_:=B8 hk.2.1;unfold aK at h;refine A7 red_.length C6 ?_;obtain⟨⟨b4,b5,b6⟩,h,a9⟩:=A6 h;refine E4 (mkSt [(6,.own 64 1 0),(7,.own 65 1 0)] [(64,.box 84 3),(65,.box 84 3)] [(64,0,.im (nI 0)),(64,1,.im (nI 0)),(64,2,.im (nI 0)),(65,0,.im (nI b4)),(65,1,.im (nI b5)),(65,2,.im (nI (b6:Int)))]) hT ?_ λhp=>?_;refine E1 h (λ(a7,a8,b2,a2)=>mkSt [(2,B3 blue_),(3,B9 (D8 p_)),(6,.own 64 1 0),(7,.own 65 1 0),(12,C9 cB red_),(13,B3 (red_.length:Int)),(14,A9 a2)] [(64,.box 84 3),(65,.box 84 3)] [(64,0,.im (nI 0)),(64,1,.im (nI 0)),(64,2,.im (nI 0)),(65,0,.im (nI a7)),(65,1,.im (nI a8)),(65,2,.im (nI (b2:Int)))]) (λ(a7,a8,b2,a2)=>lZ red_/\True) (eA (J1 [64,6,65,7])) (λ⟨a7,a8,b2,a2⟩=>((D5 12 rfl).and hT)) ?_;rintro k ⟨a7,a8,b2,a2⟩ o hp h a0;change aK.s10 p_ red_ blue_ a7 a8 b2 a2=_ at h;unfold aK.s10 at h;obtain⟨d1,_⟩:=hp;refine B7 h (λc7 h b7=>?_) λc7 h b7=>?_;obtain⟨⟨b8,b9,c0⟩,h,a5⟩:=A6 h;refine E4 (mkSt [(2,B3 blue_),(3,B9 (D8 p_)),(6,.own 64 1 0),(7,.own 65 1 0),(12,C9 cB red_),(13,B3 (red_.length:Int)),(14,A9 a2)] [(64,.box 84 3),(65,.box 84 3)] [(64,0,.im (nI 0)),(64,1,.im (nI 0)),(64,2,.im (nI 0)),(65,0,.im (nI b8)),(65,1,.im (nI b9)),(65,2,.im (nI (c0:Int)))]) ((D5 12 rfl).and hT) ?_ λhp=>?_;refine E3 h λd2 d5 h=>?_;refine G8 h (λc8 h=>?_) λc8 h=>?_;cases h;exact C7 eZ;obtain⟨c6,a3,h⟩:=A6 h;refine⟨_,BU p_ (a2:Int) blue_ c6 a3,?_⟩;obtain⟨c9,h,a4⟩:=A6 h;refine E4 (mkSt [(2,B3 blue_),(3,B9 (D8 p_)),(6,.own 64 1 0),(7,.own 65 1 0),(8,A9 a2),(10,B3 c6.1),(12,C9 cB red_),(13,B3 (red_.length:Int)),(14,A9 a2),(39,H6 c9)] [(64,.box 84 3),(65,.box 84 3)] [(64,0,.im (nI 0)),(64,1,.im (nI 0)),(64,2,.im (nI 0)),(65,0,.im (nI a7)),(65,1,.im (nI a8)),(65,2,.im (nI (b2:Int)))]) ((D5 12 rfl).and hT) ?_ λhp=>?_;refine bQ h (λa6 h=>?_) λa6 h=>?_;refine A3 rfl ?_
 iterate 2 (refine D2 (I6 a6) ?_)
 refine A3 (by kernel_rfl)<|A7 (decide (a7=0)&&(decide (a8=0)&&(decide ((b2:Int)=0)&&true))) rfl<|D2 (I6 a6)<|fT h (λb3 h=>?_) λb3 h=>?_;refine D2 (N3 b3)<|A3 rfl<|D2 (N3 b3)<|A3 rfl<|D2 (N3 b3)<|D2 (I6 a6)<|E7 b3<|D2 a6 ?_;cases h;exact C7 eZ
 iterate 3 (refine E7 (cJ b3) ?_)
 refine D2 (I6 a6)<|D2 b3<|D2 a6 ?_;cases h;exact C7 eZ
 iterate 4 (refine E7 (Q5 a6) ?_)
 refine E7 a6 ?_;cases h;exact C7 eZ;replace h:=a4;obtain⟨d3,_⟩:=hp;refine G8 h (λd0 h=>?_) λd0 h=>?_;refine A3 rfl ?_;cases h;exact C7 eZ;cases h;exact C7 eZ;replace h:aK.k9 a2 b8 b9 c0=some _:=a5;unfold aK.k9 at h;obtain⟨d4,_⟩:=hp;refine C5.mk (zzR_ (by omega)) ?_;cases h;exact D4 _ a0 eZ;cases h;cases C4 a0;exact C7 eZ;replace h:aK.k11 b4 b5 b6=some _:=a9;unfold aK.k11 at h;refine A3 rfl<|A3 rfl ?_;cases h;refine A3 ⟨rfl,trivial⟩ ?_;exact⟨rfl,rfl⟩
def zol(p_:A8)(red_:List Bool)(l_:A2)(r:X8×Int)(h:aQ p_ red_ l_=some r):Sp Tryz.prog 47 [.im (.agg (D8 p_)),.im (nL cB red_),.im (nL cI l_)] (.tup [.agg (wU r.1),nI r.2]):=by
 refine E5 [700003] λhk=>?_;have z1:lZ p_.N:=B8 (D7 hk.1 2 rfl);have z2:lZ p_.O:=B8 (D7 hk.1 3 rfl);have z3:lZ red_:=B8 hk.2.1;have z4:lZ l_:=B8 hk.2.2.1;unfold aQ at h;refine A7 l_.length C6 ?_;obtain⟨oc,h,a3⟩:=A6 h;refine T8 oc (Y:=Int×Int×Int) (λ(b4,b5,b6)=>mkSt [(6,.own 64 1 0),(8,.own 65 1 0)] [(64,.box 84 3),(65,.box 84 3)] [(64,0,.im (nI 0)),(64,1,.im (nI 0)),(64,2,.im (nI 0)),(65,0,.im (nI b4)),(65,1,.im (nI b5)),(65,2,.im (nI b6))]) (λ(b4,b5,b6)=>True) (by rintro⟨b4,b5,b6⟩;exact hT) ?_ ?_;refine E1 h (λ(a6,a7,a8,b3)=>mkSt [(1,C9 cB red_),(3,B9 (D8 p_)),(6,.own 64 1 0),(8,.own 65 1 0),(12,C9 cI l_),(13,B3 (l_.length:Int)),(14,A9 b3)] [(64,.box 84 3),(65,.box 84 3)] [(64,0,.im (nI 0)),(64,1,.im (nI 0)),(64,2,.im (nI 0)),(65,0,.im (nI a6)),(65,1,.im (nI a7)),(65,2,.im (nI a8))]) (λ(a6,a7,a8,b3)=>lZ red_/\lZ l_/\True) (eA (J1 [64,6,65,8])) (λ⟨a6,a7,a8,b3⟩=>((D5 1 rfl).and ((D5 12 rfl).and hT))) ?_;rintro k ⟨a6,a7,a8,b3⟩ o hp h a0;change aQ.s2 p_ red_ l_ a6 a7 a8 b3=_ at h;unfold aQ.s2 at h;obtain⟨c8,c9,_⟩:=hp;refine B7 h (λb8 h b7=>?_) λb8 h b7=>?_;refine E3 h λb9 d2 h=>?_;obtain⟨b2,a5,h⟩:=A6 h;refine⟨_,zqq p_ red_ b9 b2 a5,?_⟩;refine A3 rfl<|A3 rfl<|A3 (by kernel_rfl)<|A7 (decide (b2.score=0)&&(decide (b2.blue=0)&&(decide (b2.red=0)&&true))) rfl<|G8 h (λc0 h=>?_) λc0 h=>?_;refine A3 rfl<|A3 rfl ?_;cases h;cases C4 a0;replace h:some _=some _:=a3;cases h;refine A3 ⟨rfl,trivial⟩ ?_;exact⟨rfl,rfl⟩;obtain⟨c6,h,a4⟩:=A6 h;refine E4 (mkSt [(1,C9 cB red_),(3,B9 (D8 p_)),(6,.own 64 1 0),(8,.own 65 1 0),(11,.own 66 1 0),(12,C9 cI l_),(13,B3 (l_.length:Int)),(14,A9 b3),(36,H6 c6)] [(64,.box 84 3),(65,.box 84 3),(66,.box 84 3)] [(64,0,.im (nI 0)),(64,1,.im (nI 0)),(64,2,.im (nI 0)),(65,0,.im (nI a6)),(65,1,.im (nI a7)),(65,2,.im (nI a8)),(66,0,.im (nI b2.score)),(66,1,.im (nI b2.blue)),(66,2,.im (nI b2.red))]) ((D5 1 rfl).and ((D5 12 rfl).and hT)) ?_ λhp=>?_;refine A3 rfl<|A3 (by kernel_rfl)<|A7 (decide (a6=0)&&(decide (a7=0)&&(decide (a8=0)&&true))) rfl<|fT h (λa2 h=>?_) λa2 h=>?_;refine A3 rfl<|D2 (N3 a2)<|A3 rfl<|D2 (N3 a2)<|A3 rfl<|D2 (N3 a2)<|A3 rfl<|D2 (N3 a2)<|E7 a2 ?_;cases h;exact C7 (eA (J1 [64,64,65,65,66,11]))
 iterate 4 (refine E7 (cJ a2) ?_)
 refine D2 a2 ?_;cases h;exact C7 (eA (J1 [64,64,65,65,66,11]));replace h:=a4;obtain⟨d0,d1,_⟩:=hp;refine G8 h (λc7 h=>?_) λc7 h=>?_;refine A3 rfl<|A3 rfl<|C5.mk (zzR_ (by omega)) ?_;cases h;exact D4 _ a0 eZ;refine C5.mk (zzR_ (by omega)) ?_;cases h;exact D4 _ a0 eZ;cases h;cases C4 a0;exact J7.mk' _ rfl eZ;rintro⟨b4,b5,b6⟩ rfl hp;have a9:=L4 a3;replace h:aQ.k3 b4 b5 b6=some _:=a9;clear a9;unfold aQ.k3 at h;refine A3 rfl<|A3 rfl ?_;cases h;refine A3 ⟨rfl,trivial⟩ ?_;exact⟨rfl,rfl⟩
def znn(p_ q_:A8)(red_ r:List Bool)(h:R7 p_ q_ red_=some r):Sp Tryz.prog 48 [.im (.agg (D8 p_)),.im (.agg (D8 q_)),.im (nL cB red_)] (.row 4 1 (List.map cB r)):=by
 refine E5 [39,700003,700004] λhk=>?_;have z1:lZ p_.N:=B8 (D7 hk.1 2 rfl);have z2:lZ p_.O:=B8 (D7 hk.1 3 rfl);have z3:lZ q_.N:=B8 (D7 hk.2.1 2 rfl);have z4:lZ q_.O:=B8 (D7 hk.2.1 3 rfl);have z5:lZ red_:=B8 hk.2.2.1;unfold R7 at h;refine A7 p_.N.length C6 ?_;obtain⟨h2,h⟩:=C8 h;refine A3 h2<|A7 (List.map cI (List.replicate p_.N.length (0:Int))) (V9 (c:=cI) (z:=0) (n:=p_.N.length) rfl rfl)<|A3 rfl<|A7 (List.length (List.replicate p_.N.length (0:Int))) C6 ?_;obtain⟨e2,h,k5⟩:=A6 h;refine E4 (mkSt [(2,C9 cB red_),(3,B9 (D8 p_)),(4,B9 (D8 q_)),(7,.osl 98 1)] [(98,.row 3 1 (List.map cI e2))] []) ((D5 2 rfl).and ((Holds.kdl 98 rfl).and hT)) ?_ λhp=>?_;refine E1 h (λ(c6,c9)=>mkSt [(2,C9 cB red_),(3,B9 (D8 p_)),(4,B9 (D8 q_)),(7,.osl 98 1),(19,B3 (↑(List.length (List.replicate p_.N.length (0:Int))):Int)),(20,A9 c9)] [(98,.row 3 1 (List.map cI c6))] []) (λ(c6,c9)=>lZ red_/\lZ c6/\True) (eA (J1 [98,17])) (λ⟨c6,c9⟩=>((D5 2 rfl).and ((Holds.kdl 98 rfl).and hT))) ?_;rintro k ⟨c6,c9⟩ o hp h j9;change R7.s2 p_ c6 c9=_ at h;unfold R7.s2 at h;obtain⟨i4,i5,_⟩:=hp;refine B7 h (λh3 h d7=>?_) λh3 h d7=>?_;obtain⟨i6,j8,h⟩:=I5 h;refine A3 ⟨(by omega),rfl,D1 j8⟩<|A3 ⟨rfl,trivial⟩<|⟨_,D3 j8,?_⟩;refine A7 (List.map cI (List.set c6 c9 (-1:Int))) (M9 rfl) ?_;obtain⟨h4,h⟩:=C8 h;refine C5.mk h4 ?_;cases h;exact D4 _ j9 eZ;cases h;cases C4 j9;exact C7 eZ;replace h:=k5;obtain⟨i7,i8,_⟩:=hp;obtain⟨i9,k1,k0,h⟩:=I9 h;refine A3 ⟨k1,rfl,D1 k0⟩<|A3 ⟨rfl,trivial⟩<|⟨_,D3 k0,?_⟩;refine A7 (List.map cI (List.set e2 p_.S.toNat q_.S)) (M9 rfl)<|A7 q_.N.length C6 ?_;obtain⟨h5,h⟩:=C8 h;refine A3 h5<|A7 (List.map cB (List.replicate q_.N.length false)) (V9 (c:=cB) (z:=false) (n:=q_.N.length) rfl rfl) ?_;obtain⟨d8,h,k8⟩:=A6 h;refine E4 (mkSt [(9,.osl 98 1)] [(98,.row 4 1 (List.map cB d8))] []) ((Holds.kdl 98 rfl).and hT) ?_ λhp=>?_;refine E1 h (λ(b4,b5,b2)=>mkSt [(2,C9 cB red_),(3,B9 (D8 p_)),(4,B9 (D8 q_)),(7,.osl 98 1),(9,.osl 99 1),(10,.osl 100 1)] [(98,.row 3 1 (List.map cI b4)),(99,.row 4 1 (List.map cB b5)),(100,.que 3 1 (List.map cI b2))] []) (λ(b4,b5,b2)=>lZ red_/\lZ b4/\lZ b5/\lZ b2/\True) ((Ent.que 39 rfl).trans (eA (J1 [98,98,99,36,100,39]))) (λ⟨b4,b5,b2⟩=>((D5 2 rfl).and ((Holds.kdl 98 rfl).and ((Holds.kdl 99 rfl).and ((Holds.kdql 100 rfl).and hT))))) ?_;rintro k ⟨b4,b5,b2⟩ o hp h j1;change R7.s22 p_ q_ red_ b4 b5 b2=_ at h;unfold R7.s22 at h;obtain⟨e3,e4,e5,e6,_⟩:=hp;refine A3 rfl<|A7 b2.length C6<|B7 h (λd9 h d0=>?_) λd9 h d0=>?_;obtain⟨b9,f6,h⟩:=I5 h;refine A3 ⟨(by omega),rfl,D1 f6⟩<|⟨_,_,⟨rfl,D3 f6,rfl,rfl⟩,?_⟩;obtain⟨b7,h,k2⟩:=A6 h;refine E4 (mkSt [(2,C9 cB red_),(3,B9 (D8 p_)),(4,B9 (D8 q_)),(7,.osl 98 1),(9,.osl 99 1),(10,.osl 100 1),(11,B3 b9)] [(98,.row 3 1 (List.map cI b4)),(99,.row 4 1 (List.map cB b7)),(100,.que 3 1 (List.map cI b2))] []) ((D5 2 rfl).and ((Holds.kdl 98 rfl).and ((Holds.kdl 99 rfl).and ((Holds.kdql 100 rfl).and hT)))) ?_ λhp=>?_;refine L0 h λh6 l5 l7 h=>?_;refine G8 h (λe0 h=>?_) λe0 h=>?_;obtain⟨e1,j5,j0,h⟩:=I9 h;refine A3 ⟨j5,rfl,D1 j0⟩<|⟨_,_,⟨rfl,D3 j0,rfl,rfl⟩,?_⟩;obtain⟨h7,j6,j4,h⟩:=I9 h;refine A3 ⟨j6,rfl,D1 j4⟩<|A3 ⟨rfl,trivial⟩<|⟨_,D3 j4,?_⟩;refine A7 (List.map cB (List.set b5 e1.toNat true)) (M9 rfl) ?_;cases h;exact C7 eZ;cases h;exact C7 eZ;replace h:=k2;obtain⟨h8,h9,i0,i3,_⟩:=hp;refine L0 h λb6 l4 l9 h=>?_;refine A7 b6.length C6 ?_;obtain⟨⟨c0,b8⟩,h,k4⟩:=A6 h;refine E4 (mkSt [(2,C9 cB red_),(3,B9 (D8 p_)),(4,B9 (D8 q_)),(7,.osl 98 1),(9,.osl 99 1),(10,.osl 100 1)] [(98,.row 3 1 (List.map cI c0)),(99,.row 4 1 (List.map cB b7)),(100,.que 3 1 (List.map cI b8))] []) ((D5 2 rfl).and ((Holds.kdl 98 rfl).and ((Holds.kdl 99 rfl).and ((Holds.kdql 100 rfl).and hT)))) ?_ λhp=>?_;refine E1 h (λ(a6,a2,a7)=>mkSt [(2,C9 cB red_),(3,B9 (D8 p_)),(4,B9 (D8 q_)),(7,.osl 98 1),(9,.osl 99 1),(10,.osl 100 1),(11,B3 b9),(62,C9 cI b6),(63,B3 (b6.length:Int)),(64,A9 a7)] [(98,.row 3 1 (List.map cI a6)),(99,.row 4 1 (List.map cB b7)),(100,.que 3 1 (List.map cI a2))] []) (λ(a6,a2,a7)=>lZ red_/\lZ b6/\lZ a6/\lZ b7/\lZ a2/\True) eZ (λ⟨a6,a2,a7⟩=>((D5 2 rfl).and ((D5 62 rfl).and ((Holds.kdl 98 rfl).and ((Holds.kdl 99 rfl).and ((Holds.kdql 100 rfl).and hT)))))) ?_;rintro k ⟨a6,a2,a7⟩ o hp h a0;change R7.s20 q_ b9 b6 a6 a2 a7=_ at h;unfold R7.s20 at h;obtain⟨e7,e8,e9,f3,f4,_⟩:=hp;refine B7 h (λd1 h c7=>?_) λd1 h c7=>?_;refine E3 h λb3 l6 h=>?_;obtain⟨d2,h,j7⟩:=A6 h;refine E4 (mkSt [(2,C9 cB red_),(3,B9 (D8 p_)),(4,B9 (D8 q_)),(7,.osl 98 1),(9,.osl 99 1),(10,.osl 100 1),(11,B3 b9),(12,A9 a7),(13,B3 b3),(62,C9 cI b6),(63,B3 (b6.length:Int)),(64,A9 a7),(77,H6 d2)] [(98,.row 3 1 (List.map cI a6)),(99,.row 4 1 (List.map cB b7)),(100,.que 3 1 (List.map cI a2))] []) ((D5 2 rfl).and ((D5 62 rfl).and ((Holds.kdl 98 rfl).and ((Holds.kdl 99 rfl).and ((Holds.kdql 100 rfl).and hT))))) ?_ λhp=>?_;refine W6 h (λa8 h c8=>?_) λa8 h c8=>?_
 iterate 2 (refine D2 (I6 a8) ?_)
 obtain⟨f5,a9,a3,h⟩:=I9 h;refine A3 ⟨a9,rfl,D1 a3⟩<|D2 (I6 a8)<|⟨_,_,⟨rfl,D3 a3,rfl,rfl⟩,?_⟩;refine D2 (I6 a8)<|D2 a8 ?_;cases h;exact C7 eZ
 iterate 4 (refine E7 (Q5 a8) ?_)
 refine E7 a8 ?_;cases h;exact C7 eZ;replace h:=j7;obtain⟨f7,f8,f9,g1,g2,_⟩:=hp;refine G8 h (λd3 h=>?_) λd3 h=>?_;obtain⟨g3,j3,a5,h⟩:=I9 h;refine A3 ⟨j3,rfl,D1 a5⟩<|⟨_,_,⟨rfl,D3 a5,rfl,rfl⟩,?_⟩;refine L0 h λg4 k6 l3 h=>?_;refine E3 h λd4 l0 h=>?_;obtain⟨g5,j2,a4,h⟩:=I9 h;refine A3 ⟨j2,rfl,D1 a4⟩<|A3 ⟨rfl,trivial⟩<|⟨_,D3 a4,?_⟩;refine A7 (List.map cI (List.set a6 b3.toNat d4)) (M9 rfl) ?_;obtain⟨d5,h⟩:=C8 h;refine A3 ⟨rfl,sX _,J9 (l:=[b3]) (c:=cI) λ_=>rfl,show B5 _ 8 by simpa only[C3,G9,K5,F7]using d5⟩ ?_;refine A7 (List.map cI (a2++[b3])) (J8 (l:=a2) (m:=[b3]) (c:=cI))<|C5.mk (zzR_ (by omega)) ?_;cases h;exact D4 _ a0 eZ;refine C5.mk (zzR_ (by omega)) ?_;cases h;exact D4 _ a0 eZ;cases h;cases C4 a0;exact C7 eZ;replace h:R7.k21 b7 c0 b8=some _:=k4;unfold R7.k21 at h;obtain⟨g6,g7,g8,g9,_⟩:=hp;obtain⟨d6,h⟩:=C8 h;refine A3 ⟨rfl,by decide,by have l8:=d6;simp only[C3];exact l8⟩ ?_;refine A7 (List.map cI (List.drop 1 b8)) mV ?_;cases h;exact D4 _ j1 eZ;cases h;cases C4 j1;exact C7 (eA (J1 [98,99]));replace h:=k8;obtain⟨h0,_⟩:=hp;cases h;exact A3 ⟨rfl,trivial⟩ ⟨rfl,rfl⟩
def zib(s_:A2)(f_:Int->Option Bool)(f1_:FuncId)(hf1:∀x0 r,f_ x0=some r->Sp Tryz.prog f1_ [.im (nI x0)] (.im (nB r)))(r:Int)(h:gT s_ f_=some r):Sp Tryz.prog 157 [.im (nL cI s_),.im (.fn f1_ [])] (.im (nI r)):=by
 refine E5 [] λhk=>?_;have z1:lZ s_:=B8 hk.1;unfold gT at h;refine A7 s_.length C6 ?_;obtain⟨oc,h,a3⟩:=A6 h;refine R9 oc (mkSt [] [] []) hT ?_ ?_;refine E1 h (λa2=>mkSt [(0,C9 cI s_),(1,.im (.fn f1_ [])),(7,B3 (s_.length:Int)),(8,A9 a2)] [] []) (λa2=>lZ s_/\True) eZ (λa2=>((D5 0 rfl).and hT)) ?_;rintro k a2 o hp h a0;unfold gT.s2 at h;obtain⟨b4,_⟩:=hp;refine B7 h (λa7 h a6=>?_) λa7 h a6=>?_;refine E3 h λa8 a5 h=>?_;obtain⟨b2,a4,h⟩:=A6 h;refine⟨_,hf1 a8 b2 a4,?_⟩;refine G8 h (λb3 h=>?_) λb3 h=>?_;cases h;cases C4 a0;replace h:some _=some _:=a3;cases h;exact⟨rfl,rfl⟩;refine C5.mk (zzR_ (by omega)) ?_;cases h;exact D4 _ a0 eZ;cases h;cases C4 a0;exact J7.mk' _ rfl eZ;rintro⟨⟩ rfl hp;replace h:=L4 a3;cases h;exact⟨rfl,rfl⟩
def zha(s_:A2)(f_:Int->Option Bool)(f1_:FuncId)(hf1:∀x0 r,f_ x0=some r->Sp Tryz.prog f1_ [.im (nI x0)] (.im (nB r)))(r:Bool)(h:pT s_ f_=some r):Sp Tryz.prog 137 [.im (nL cI s_),.im (.fn f1_ [])] (.im (nB r)):=by
 refine E5 [] λhk=>?_;have z1:lZ s_:=B8 hk.1;unfold pT at h;obtain⟨a2,a0,h⟩:=A6 h;refine⟨_,zib s_ f_ f1_ hf1 a2 a0,?_⟩;cases h;exact⟨rfl,rfl⟩
def zo7(inputs_:Int)(r:Bool)(h:pC inputs_=some r):Sp Tryz.prog 136 [.im (nI inputs_)] (.im (nB r)):=by
 refine E5 [] λhk=>?_;unfold pC at h;refine N5 h (λa2=>mkSt [(2,H6 a2)] [] []) (λ_=>hT) λa2 h hp=>?_;cases h;exact⟨rfl,rfl⟩
def zsc(a_ p1_:Int)(r:Bool)(h:mL a_ p1_=some r):Sp Tryz.prog 138 [.im (nI a_),.im (.ref (cI p1_))] (.im (nB r)):=by
 refine E5 [] λhk=>?_;unfold mL at h;refine N5 h (λa2=>mkSt [(3,H6 a2)] [] []) (λ_=>hT) λa2 h hp=>?_;cases h;exact⟨rfl,rfl⟩
def zhj(s_:A2)(f_:Int->Option Bool)(f1_:FuncId)(k1_0:IV)(hk1_0:nz k1_0=k1_0)(hf1:∀x0 r,f_ x0=some r->Sp Tryz.prog f1_ [.im (nI x0),.im k1_0] (.im (nB r)))(r:Int)(h:gU s_ f_=some r):Sp Tryz.prog 157 [.im (nL cI s_),.im (.fn f1_ [k1_0])] (.im (nI r)):=by
 refine E5 [] λhk=>?_;have z1:lZ s_:=B8 hk.1;unfold gU at h;refine A7 s_.length C6 ?_;obtain⟨oc,h,a3⟩:=A6 h;refine R9 oc (mkSt [] [] []) hT ?_ ?_;refine E1 h (λa2=>mkSt [(0,C9 cI s_),(1,.im (.fn f1_ [k1_0])),(7,B3 (s_.length:Int)),(8,A9 a2)] [] []) (λa2=>lZ s_/\True) eZ (λa2=>((D5 0 rfl).and hT)) ?_;rintro k a2 o hp h a0;unfold gU.s2 at h;obtain⟨b4,_⟩:=hp;refine B7 h (λa7 h a6=>?_) λa7 h a6=>?_;refine E3 h λa8 a5 h=>?_;obtain⟨b2,a4,h⟩:=A6 h;refine⟨_,Sp.args (hf1 a8 b2 a4) (by rw[hk1_0];try rfl),?_⟩;refine G8 h (λb3 h=>?_) λb3 h=>?_;cases h;cases C4 a0;replace h:some _=some _:=a3;cases h;exact⟨rfl,rfl⟩;refine C5.mk (zzR_ (by omega)) ?_;cases h;exact D4 _ a0 eZ;cases h;cases C4 a0;exact J7.mk' _ rfl eZ;rintro⟨⟩ rfl hp;replace h:=L4 a3;cases h;exact⟨rfl,rfl⟩
def zgv(s_:A2)(f_:Int->Option Bool)(f1_:FuncId)(k1_0:IV)(hk1_0:nz k1_0=k1_0)(hf1:∀x0 r,f_ x0=some r->Sp Tryz.prog f1_ [.im (nI x0),.im k1_0] (.im (nB r)))(r:Bool)(h:sU s_ f_=some r):Sp Tryz.prog 137 [.im (nL cI s_),.im (.fn f1_ [k1_0])] (.im (nB r)):=by
 refine E5 [] λhk=>?_;have z1:lZ s_:=B8 hk.1;unfold sU at h;obtain⟨a2,a0,h⟩:=A6 h;refine⟨_,zhj s_ f_ f1_ k1_0 hk1_0 hf1 a2 a0,?_⟩;cases h;exact⟨rfl,rfl⟩
def AZ(w_:A2)(inputs_ r:Int)(h:mG w_ inputs_=some r):Sp Tryz.prog 110 [.im (nL cI w_),.im (nI inputs_)] (.im (nI r)):=by
 refine E5 [700003] λhk=>?_;have z1:lZ w_:=B8 hk.1;unfold mG at h;obtain⟨a6,a0,h⟩:=A6 h;refine⟨_,zo7 inputs_ a6 a0,?_⟩;refine G8 h (λa7 h=>?_) λa7 h=>?_;cases h;exact⟨rfl,rfl⟩;refine A7 w_.length C6<|B7 h (λa8 h a2=>?_) λa8 h a2=>?_;cases h;exact⟨rfl,rfl⟩;obtain⟨b2,a3,h⟩:=A6 h;refine⟨_,zgv w_ (λu0=>mL u0 inputs_) 138 (.ref (cI inputs_)) rfl (λu0 r h=>(zsc u0 inputs_ r h)) b2 a3,?_⟩;refine G8 h (λb3 h=>?_) λb3 h=>?_;cases h;exact⟨rfl,rfl⟩;cases h;exact⟨rfl,rfl⟩
def wE(a_ b_:A2)(r:Int)(h:eN a_ b_=some r):Sp Tryz.prog 145 [.im (nL cI a_),.im (nL cI b_)] (.im (nI r)):=by
 refine E5 [] λhk=>?_;have z1:lZ a_:=B8 hk.1;have z2:lZ b_:=B8 hk.2.1;unfold eN at h;refine A7 a_.length C6<|A7 b_.length C6 ?_;obtain⟨oc,h,a3⟩:=A6 h;refine T8 oc (Y:=Unit) (λ(_:Unit)=>mkSt [(0,C9 cI a_),(1,C9 cI b_)] [] []) (λ(_:Unit)=>lZ a_/\lZ b_/\True) (by rintro⟨⟩;exact((D5 0 rfl).and ((D5 1 rfl).and hT))) ?_ ?_;refine E1 h (λa2=>mkSt [(0,C9 cI a_),(1,C9 cI b_),(10,B3 (min (a_.length:Int) (b_.length:Int))),(11,A9 a2)] [] []) (λa2=>lZ a_/\lZ b_/\True) eZ (λa2=>((D5 0 rfl).and ((D5 1 rfl).and hT))) ?_;rintro k a2 o hp h a0;unfold eN.s2 at h;obtain⟨b3,b4,_⟩:=hp;refine B7 h (λa8 h a6=>?_) λa8 h a6=>?_;refine E3 h λb5 a5 h=>?_;refine E3 h λb6 a4 h=>?_;refine B7 h (λb2 h a7=>?_) λb2 h a7=>?_;cases h;cases C4 a0;replace h:some _=some _:=a3;cases h;exact⟨rfl,rfl⟩;refine C5.mk (zzR_ (by omega)) ?_;cases h;exact D4 _ a0 eZ;cases h;cases C4 a0;exact J7.mk' _ rfl eZ;rintro⟨⟩ rfl hp;replace h:=L4 a3;obtain⟨b7,b8,_⟩:=hp;refine A7 a_.length C6<|A7 b_.length C6 ?_;cases h;exact⟨rfl,rfl⟩
def BV(w_ p_:A2)(r:Bool)(h:mN w_ p_=some r):Sp Tryz.prog 116 [.im (nL cI w_),.im (nL cI p_)] (.im (nB r)):=by
 refine E5 [] λhk=>?_;have z1:lZ w_:=B8 hk.1;have z2:lZ p_:=B8 hk.2.1;unfold mN at h;obtain⟨a2,a0,h⟩:=A6 h;refine⟨_,wE w_ p_ a2 a0,?_⟩;refine A7 p_.length C6 ?_;cases h;exact⟨rfl,rfl⟩
def CC(a_ b_:I0)(r:Int)(h:mS a_ b_=some r):Sp Tryz.prog 118 [.im (.agg (M8 a_)),.im (.agg (M8 b_))] (.im (nI r)):=by
 refine E5 [700002,700003] λhk=>?_;have z1:lZ a_.In:=B8 (D7 hk.1 0 rfl);have z2:lZ a_.O:=B8 (D7 hk.1 1 rfl);have z3:lZ b_.In:=B8 (D7 hk.2.1 0 rfl);have z4:lZ b_.O:=B8 (D7 hk.2.1 1 rfl);unfold mS at h;obtain⟨a2,a3,h⟩:=A6 h;refine⟨_,wE a_.In b_.In a2 a3,?_⟩;refine A7 a_.O.length C6<|A7 b_.O.length C6 ?_;obtain⟨b2,h⟩:=C8 h;refine A3 (show(0:Int)<=(0:Int)/\(0:Int)<=(min (min a2 (a_.O.length:Int)) (b_.O.length:Int))/\(min (min a2 (a_.O.length:Int)) (b_.O.length:Int))<=(↑(List.length (List.map cI a_.O)):Int)/\(∀e∈List.map cI a_.O,List.length e=1) from⟨by omega,by first|omega|(simp only[C3];omega),by first|omega|(simp only[C3];omega),J9 λ_=>rfl⟩) ?_
 refine A7 (List.map cI (List.take (Int.toNat (min (min a2 (a_.O.length:Int)) (b_.O.length:Int))) a_.O)) nX ?_;obtain⟨b3,h⟩:=C8 h;refine A3 (show(0:Int)<=(0:Int)/\(0:Int)<=(min (min a2 (a_.O.length:Int)) (b_.O.length:Int))/\(min (min a2 (a_.O.length:Int)) (b_.O.length:Int))<=(↑(List.length (List.map cI b_.O)):Int)/\(∀e∈List.map cI b_.O,List.length e=1) from⟨by omega,by first|omega|(simp only[C3];omega),by first|omega|(simp only[C3];omega),J9 λ_=>rfl⟩) ?_
 refine A7 (List.map cI (List.take (Int.toNat (min (min a2 (a_.O.length:Int)) (b_.O.length:Int))) b_.O)) nX ?_;obtain⟨a7,a0,h⟩:=A6 h;refine⟨_,(wE (List.take (Int.toNat (min (min a2 (a_.O.length:Int)) (b_.O.length:Int))) a_.O) (List.take (Int.toNat (min (min a2 (a_.O.length:Int)) (b_.O.length:Int))) b_.O) a7 a0),?_⟩;refine B7 h (λa8 h a6=>?_) λa8 h a6=>?_;cases h;exact⟨rfl,rfl⟩;cases h;exact⟨rfl,rfl⟩
def BR(x_:Int)(r:Bool)(h:cmp_isNaN_int x_=some r):Sp Tryz.prog 163 [.im (nI x_)] (.im (nB r)):=by
 refine E5 [] λhk=>?_;unfold cmp_isNaN_int at h;cases h;exact⟨rfl,rfl⟩
def BY(x_ y_ r:Int)(h:cmp_Compare_int x_ y_=some r):Sp Tryz.prog 153 [.im (nI x_),.im (nI y_)] (.im (nI r)):=by
 refine E5 [] λhk=>?_;unfold cmp_Compare_int at h;obtain⟨a7,a0,h⟩:=A6 h;refine⟨_,BR x_ a7 a0,?_⟩;obtain⟨a8,a3,h⟩:=A6 h;refine⟨_,BR y_ a8 a3,?_⟩;refine G8 h (λb2 h=>?_) λb2 h=>?_;refine G8 h (λb3 h=>?_) λb3 h=>?_;cases h;exact⟨rfl,rfl⟩;cases h;exact⟨rfl,rfl⟩;refine G8 h (λb4 h=>?_) λb4 h=>?_;cases h;exact⟨rfl,rfl⟩;refine B7 h (λb5 h a2=>?_) λb5 h a2=>?_;cases h;exact⟨rfl,rfl⟩;refine B7 h (λb6 h a6=>?_) λb6 h a6=>?_;cases h;exact⟨rfl,rfl⟩;cases h;exact⟨rfl,rfl⟩
def zix(s1_ s2_:A2)(r:Int)(h:fN s1_ s2_=some r):Sp Tryz.prog 154 [.im (nL cI s1_),.im (nL cI s2_)] (.im (nI r)):=by
 refine E5 [] λhk=>?_;have z1:lZ s1_:=B8 hk.1;have z2:lZ s2_:=B8 hk.2.1;unfold fN at h;refine A7 s1_.length C6 ?_;obtain⟨oc,h,a3⟩:=A6 h;refine T8 oc (Y:=Unit) (λ(_:Unit)=>mkSt [(0,C9 cI s1_),(1,C9 cI s2_)] [] []) (λ(_:Unit)=>lZ s1_/\lZ s2_/\True) (by rintro⟨⟩;exact((D5 0 rfl).and ((D5 1 rfl).and hT))) ?_ ?_;refine E1 h (λa2=>mkSt [(0,C9 cI s1_),(1,C9 cI s2_),(9,C9 cI s1_),(10,B3 (s1_.length:Int)),(11,A9 a2)] [] []) (λa2=>lZ s1_/\lZ s2_/\True) eZ (λa2=>((D5 0 rfl).and ((D5 1 rfl).and hT))) ?_;rintro k a2 o hp h a0;unfold fN.s2 at h;obtain⟨c0,c6,_⟩:=hp;refine B7 h (λb3 h a6=>?_) λb3 h a6=>?_;refine E3 h λb4 a9 h=>?_;refine A7 s2_.length C6<|B7 h (λb5 h a7=>?_) λb5 h a7=>?_;cases h;cases C4 a0;replace h:some _=some _:=a3;cases h;exact⟨rfl,rfl⟩;refine E3 h λb6 a5 h=>?_;obtain⟨b7,a4,h⟩:=A6 h;refine⟨_,BY b4 b6 b7 a4,?_⟩;refine B7 h (λb8 h a8=>?_) λb8 h a8=>?_;cases h;cases C4 a0;replace h:some _=some _:=a3;cases h;exact⟨rfl,rfl⟩;refine C5.mk (zzR_ (by omega)) ?_;cases h;exact D4 _ a0 eZ;cases h;cases C4 a0;exact J7.mk' _ rfl eZ;rintro⟨⟩ rfl hp;replace h:=L4 a3;obtain⟨c7,c8,_⟩:=hp;refine A7 s1_.length C6<|A7 s2_.length C6<|B7 h (λb9 h b2=>?_) λb9 h b2=>?_;cases h;exact⟨rfl,rfl⟩;cases h;exact⟨rfl,rfl⟩
def zr9(l_:List I0)(r:Bool)(h:gP l_=some r):Sp Tryz.prog 113 [.im (nL M8 l_)] (.im (nB r)):=by
 refine E5 [8000,2008000] λhk=>?_;have z1:lZ l_:=B8 hk.1;unfold gP at h;obtain⟨c6,d6,h⟩:=A6 h;refine⟨_,znk l_ c6 (d6),?_⟩;refine A3 ⟨rfl,trivial⟩ ?_;obtain⟨a7,d5,h⟩:=A6 h;refine⟨_,zk6 c6 (λu0 u1=>gQ u0 u1) 142 zm9 a7 (d5),?_⟩;obtain⟨oc,h,d1⟩:=A6 h;refine R9 oc (mkSt [] [] []) hT ?_ ?_;refine E1 h (λa6=>mkSt [(0,.osl 64 1),(3,A9 a6)] [(64,.row 70 2 (List.map M8 a7))] []) (λa6=>lZ a7/\True) (eA (J1 [64,5])) (λa6=>((Holds.kdl 64 rfl).and hT)) ?_;rintro k a6 o hp h a0;unfold gP.s2 at h;obtain⟨c7,_⟩:=hp;refine A3 rfl<|A7 a7.length C6<|B7 h (λb2 h a8=>?_) λb2 h a8=>?_;obtain⟨b3,h,d2⟩:=A6 h;refine E4 (mkSt [(0,.osl 64 1),(3,A9 a6),(38,H6 b3)] [(64,.row 70 2 (List.map M8 a7))] []) ((Holds.kdl 64 rfl).and hT) ?_ λhp=>?_;obtain⟨b4,a9,h⟩:=I5 h;refine A3 ⟨(by omega),rfl,D1 a9⟩<|A3 rfl<|⟨_,_,⟨rfl,D3 a9,rfl,rfl⟩,?_⟩;refine C5.mk (zzR_ (by omega)) ?_;obtain⟨b5,d0,a5,h⟩:=I9 h;refine A3 ⟨d0,rfl,D1 a5⟩<|A3 rfl<|⟨_,_,⟨rfl,D3 a5,rfl,rfl⟩,?_⟩;obtain⟨b6,d3,h⟩:=A6 h;refine⟨_,BV b4.In b5.In b6 d3,?_⟩;refine fT h (λa2 h=>?_) λa2 h=>?_
 iterate 2 (refine D2 (N3 a2) ?_)
 refine C5.mk (zzR_ (by omega))<|D2 (N3 a2) ?_;obtain⟨b7,c9,a4,h⟩:=I9 h;refine A3 ⟨c9,rfl,D1 a4⟩<|D2 (N3 a2)<|⟨_,⟨rfl,D3 a4,of_decide_eq_true rfl,rfl⟩,?_⟩
 iterate 3 (refine D2 (N3 a2) ?_)
 obtain⟨b8,a3,h⟩:=I5 h;refine A3 ⟨(by omega),rfl,D1 a3⟩<|D2 (N3 a2)<|⟨_,⟨rfl,D3 a3,of_decide_eq_true rfl,rfl⟩,?_⟩;refine D2 (N3 a2) ?_;obtain⟨b9,d4,h⟩:=A6 h;refine⟨_,CC b7 b8 b9 d4,?_⟩;refine D2 (N3 a2)<|E7 a2 ?_;cases h;exact C7 eZ
 iterate 10 (refine E7 (cJ a2) ?_)
 refine D2 a2 ?_;cases h;exact C7 eZ;replace h:=d2;obtain⟨c8,_⟩:=hp;refine G8 h (λc0 h=>?_) λc0 h=>?_;cases h;cases C4 a0;replace h:some _=some _:=d1;cases h;exact⟨rfl,rfl⟩;refine C5.mk (zzR_ (by omega)) ?_;cases h;exact D4 _ a0 eZ;cases h;cases C4 a0;exact J7.mk' _ rfl eZ;rintro⟨⟩ rfl hp;replace h:=L4 d1;cases h;exact⟨rfl,rfl⟩
def zm0(o_:Int)(r:Bool)(h:pP o_=some r):Sp Tryz.prog 139 [.im (nI o_)] (.im (nB r)):=by
 refine E5 [] λhk=>?_;unfold pP at h;refine N5 h (λa2=>mkSt [(2,H6 a2)] [] []) (λ_=>hT) λa2 h hp=>?_;cases h;exact⟨rfl,rfl⟩
def zow(t_:I0)(inputs_ r:Int)(h:pA t_ inputs_=some r):Sp Tryz.prog 111 [.im (.agg (M8 t_)),.im (nI inputs_)] (.im (nI r)):=by
 refine E5 [700002] λhk=>?_;have z1:lZ t_.In:=B8 (D7 hk.1 0 rfl);have z2:lZ t_.O:=B8 (D7 hk.1 1 rfl);unfold pA at h;obtain⟨a7,a0,h⟩:=A6 h;refine⟨_,AZ t_.In inputs_ a7 a0,?_⟩;refine B7 h (λa8 h a2=>?_) λa8 h a2=>?_;cases h;exact⟨rfl,rfl⟩;refine A7 t_.O.length C6<|A7 t_.In.length C6<|B7 h (λb2 h a6=>?_) λb2 h a6=>?_;cases h;exact⟨rfl,rfl⟩;obtain⟨b3,a3,h⟩:=A6 h;refine⟨_,zha t_.O (λu0=>pP u0) 139 (λu0 r h=>(zm0 u0 r h)) b3 a3,?_⟩;refine G8 h (λb4 h=>?_) λb4 h=>?_;cases h;exact⟨rfl,rfl⟩;cases h;exact⟨rfl,rfl⟩
def sp_cmp_Or_int(vals_:A2)(r:Int)(h:eF vals_=some r):Sp Tryz.prog 152 [.im (nL cI vals_)] (.im (nI r)):=by
 refine E5 [] λhk=>?_;have z1:lZ vals_:=B8 hk.1;unfold eF at h;refine A7 vals_.length C6 ?_;obtain⟨oc,h,a3⟩:=A6 h;refine R9 oc (mkSt [(3,B3 0)] [] []) hT ?_ ?_;refine E1 h (λa2=>mkSt [(3,B3 0),(6,C9 cI vals_),(7,B3 (vals_.length:Int)),(8,A9 a2)] [] []) (λa2=>lZ vals_/\True) eZ (λa2=>((D5 6 rfl).and hT)) ?_;rintro k a2 o hp h a0;unfold eF.s2 at h;obtain⟨b3,_⟩:=hp;refine B7 h (λa8 h a6=>?_) λa8 h a6=>?_;refine E3 h λb4 a4 h=>?_;refine B7 h (λb2 h a7=>?_) λb2 h a7=>?_;cases h;cases C4 a0;replace h:some _=some _:=a3;cases h;exact⟨rfl,rfl⟩;refine C5.mk (zzR_ (by omega)) ?_;cases h;exact D4 _ a0 eZ;cases h;cases C4 a0;exact J7.mk' _ rfl eZ;rintro⟨⟩ rfl hp;replace h:=L4 a3;cases h;exact⟨rfl,rfl⟩
def BM(a_ b_:A2)(r:Int)(h:iI a_ b_=some r):Sp Tryz.prog 130 [.im (nL cI a_),.im (nL cI b_)] (.im (nI r)):=by
 refine E5 [] λhk=>?_;have z1:lZ a_:=B8 hk.1;have z2:lZ b_:=B8 hk.2.1;unfold iI at h;refine A7 a_.length C6<|A7 b_.length C6 ?_;obtain⟨a2,a3,h⟩:=A6 h;refine⟨_,BY (a_.length:Int) (b_.length:Int) a2 a3,?_⟩;obtain⟨a6,a0,h⟩:=A6 h;refine⟨_,zix a_ b_ a6 a0,?_⟩;obtain⟨a7,a4,h⟩:=A6 h;refine⟨_,(sp_cmp_Or_int [a2,a6] a7 a4),?_⟩;cases h;exact⟨rfl,rfl⟩
def zqj(a_ b_:I0)(r:Int)(h:sP a_ b_=some r):Sp Tryz.prog 112 [.im (.agg (M8 a_)),.im (.agg (M8 b_))] (.im (nI r)):=by
 refine E5 [700002,700003] λhk=>?_;have z1:lZ a_.In:=B8 (D7 hk.1 0 rfl);have z2:lZ a_.O:=B8 (D7 hk.1 1 rfl);have z3:lZ b_.In:=B8 (D7 hk.2.1 0 rfl);have z4:lZ b_.O:=B8 (D7 hk.2.1 1 rfl);unfold sP at h;obtain⟨a2,a0,h⟩:=A6 h;refine⟨_,BM a_.In b_.In a2 a0,?_⟩;cases h;exact⟨rfl,rfl⟩
def zos(u_ p1_:I0)(r:Bool)(h:pG u_ p1_=some r):Sp Tryz.prog 115 [.im (.agg (M8 u_)),.im (.ref (M8 p1_))] (.im (nB r)):=by
 refine E5 [700002] λhk=>?_;have z1:lZ u_.In:=B8 (D7 hk.1 0 rfl);have z2:lZ u_.O:=B8 (D7 hk.1 1 rfl);have z3:lZ p1_.In:=B8 (Ok.ref_at hk.2.1 0 rfl);have z4:lZ p1_.O:=B8 (Ok.ref_at hk.2.1 1 rfl);unfold pG at h;obtain⟨a2,a0,h⟩:=A6 h;refine⟨_,BV u_.In p1_.In a2 a0,?_⟩;cases h;exact⟨rfl,rfl⟩
def znr(u_ p1_:I0)(r:Bool)(h:pI u_ p1_=some r):Sp Tryz.prog 117 [.im (.agg (M8 u_)),.im (.ref (M8 p1_))] (.im (nB r)):=by
 refine E5 [700002] λhk=>?_;have z1:lZ u_.In:=B8 (D7 hk.1 0 rfl);have z2:lZ u_.O:=B8 (D7 hk.1 1 rfl);have z3:lZ p1_.In:=B8 (Ok.ref_at hk.2.1 0 rfl);have z4:lZ p1_.O:=B8 (Ok.ref_at hk.2.1 1 rfl);unfold pI at h;obtain⟨a2,a0,h⟩:=A6 h;refine⟨_,CC p1_ u_ a2 a0,?_⟩;cases h;exact⟨rfl,rfl⟩
def zez(s_:List I0)(f_:I0->Option Bool)(f1_:FuncId)(k1_0:IV)(hk1_0:nz k1_0=k1_0)(hf1:∀x0 r,f_ x0=some r->Sp Tryz.prog f1_ [.im (.agg (M8 x0)),.im k1_0] (.im (nB r)))(r:Int)(h:fO s_ f_=some r):Sp Tryz.prog 144 [.im (nL M8 s_),.im (.fn f1_ [k1_0])] (.im (nI r)):=by
 refine E5 [] λhk=>?_;have z1:lZ s_:=B8 hk.1;unfold fO at h;refine A7 s_.length C6 ?_;obtain⟨oc,h,a3⟩:=A6 h;refine R9 oc (mkSt [] [] []) hT ?_ ?_;refine E1 h (λa2=>mkSt [(0,C9 M8 s_),(1,.im (.fn f1_ [k1_0])),(7,B3 (s_.length:Int)),(8,A9 a2)] [] []) (λa2=>lZ s_/\True) eZ (λa2=>((D5 0 rfl).and hT)) ?_;rintro k a2 o hp h a0;unfold fO.s2 at h;obtain⟨b4,_⟩:=hp;refine B7 h (λa7 h a6=>?_) λa7 h a6=>?_;refine E3 h λa8 a5 h=>?_;obtain⟨b2,a4,h⟩:=A6 h;refine⟨_,Sp.args (hf1 a8 b2 a4) (by rw[hk1_0];try rfl),?_⟩;refine G8 h (λb3 h=>?_) λb3 h=>?_;cases h;cases C4 a0;replace h:some _=some _:=a3;cases h;exact⟨rfl,rfl⟩;refine C5.mk (zzR_ (by omega)) ?_;cases h;exact D4 _ a0 eZ;cases h;cases C4 a0;exact J7.mk' _ rfl eZ;rintro⟨⟩ rfl hp;replace h:=L4 a3;cases h;exact⟨rfl,rfl⟩
def CG(s_:List I0)(f_:I0->Option Bool)(f1_:FuncId)(k1_0:IV)(hk1_0:nz k1_0=k1_0)(hf1:∀x0 r,f_ x0=some r->Sp Tryz.prog f1_ [.im (.agg (M8 x0)),.im k1_0] (.im (nB r)))(r:Bool)(h:mT s_ f_=some r):Sp Tryz.prog 114 [.im (nL M8 s_),.im (.fn f1_ [k1_0])] (.im (nB r)):=by
 refine E5 [] λhk=>?_;have z1:lZ s_:=B8 hk.1;unfold mT at h;obtain⟨a2,a0,h⟩:=A6 h;refine⟨_,zez s_ f_ f1_ k1_0 hk1_0 hf1 a2 a0,?_⟩;cases h;exact⟨rfl,rfl⟩
def zqn(o_:I4)(r:Int)(h:bG o_=some r):Sp Tryz.prog 83 [.im (.agg (N6 o_))] (.im (nI r)):=by
 refine E5 [700001,800008] λhk=>?_;have z1:lZ o_.T:=B8 (D7 hk.1 1 rfl);unfold bG at h;refine N5 h (λe2=>mkSt [(1,B9 (N6 o_)),(17,H6 e2)] [] []) (λ_=>hT) λe2 h hp=>?_;refine G8 h (λe3 h=>?_) λe3 h=>?_;cases h;exact⟨rfl,rfl⟩;refine A7 o_.T.length C6<|B7 h (λe4 h b9=>?_) λe4 h b9=>?_;cases h;exact⟨rfl,rfl⟩;refine A7 o_.T.length C6 ?_;obtain⟨oc,h,a4⟩:=A6 h;refine R9 oc (mkSt [(1,B9 (N6 o_))] [] []) hT ?_ ?_;refine E1 h (λa8=>mkSt [(1,B9 (N6 o_)),(23,C9 M8 o_.T),(24,B3 (o_.T.length:Int)),(25,A9 a8)] [] []) (λa8=>lZ o_.T/\True) eZ (λa8=>((D5 23 rfl).and hT)) ?_;rintro k a8 o hp h a0;unfold bG.s2 at h;obtain⟨e5,_⟩:=hp;refine B7 h (λc0 h b3=>?_) λc0 h b3=>?_;refine E3 h λb2 g1 h=>?_;refine A3 rfl<|A3 rfl<|A3 rfl ?_;obtain⟨c6,f7,h⟩:=A6 h;refine⟨_,AZ b2.In o_.I c6 f7,?_⟩;refine B7 h (λc7 h b4=>?_) λc7 h b4=>?_;cases h;cases C4 a0;replace h:some _=some _:=a4;cases h;exact⟨rfl,rfl⟩;refine A3 rfl<|A3 rfl<|A7 b2.In.length C6<|B7 h (λc8 h b5=>?_) λc8 h b5=>?_;cases h;cases C4 a0;replace h:some _=some _:=a4;cases h;exact⟨rfl,rfl⟩;refine A3 rfl ?_;obtain⟨c9,f6,h⟩:=A6 h;refine⟨_,zow b2 o_.I c9 f6,?_⟩;refine B7 h (λd0 h b6=>?_) λd0 h b6=>?_;cases h;cases C4 a0;replace h:some _=some _:=a4;cases h;exact⟨rfl,rfl⟩;obtain⟨d1,h,a9⟩:=A6 h;refine E4 (mkSt [(1,B9 (N6 o_)),(23,C9 M8 o_.T),(24,B3 (o_.T.length:Int)),(25,A9 a8),(61,H6 d1)] [] []) ((D5 23 rfl).and hT) ?_ λhp=>?_;refine W6 h (λa2 h b7=>?_) λa2 h b7=>?_
 iterate 3 (refine D2 (I6 a2) ?_)
 refine C5.mk (zzR_ (by omega))<|D2 (I6 a2)<|L0 h λd2 f8 f9 h=>?_
 iterate 2 (refine D2 (I6 a2) ?_)
 refine A3 rfl<|D2 (I6 a2) ?_;obtain⟨d3,f3,h⟩:=A6 h;refine⟨_,zqj d2 b2 d3 f3,?_⟩;refine D2 (I6 a2)<|D2 a2 ?_;cases h;exact C7 eZ
 iterate 8 (refine E7 (Q5 a2) ?_)
 refine E7 a2 ?_;cases h;exact C7 eZ;replace h:=a9;obtain⟨e6,_⟩:=hp;refine G8 h (λd4 h=>?_) λd4 h=>?_;cases h;cases C4 a0;replace h:some _=some _:=a4;cases h;exact⟨rfl,rfl⟩;refine C5.mk (zzR_ (by omega)) ?_;cases h;exact D4 _ a0 eZ;cases h;cases C4 a0;exact J7.mk' _ rfl eZ;rintro⟨⟩ rfl hp;replace h:=L4 a4;obtain⟨d5,f4,h⟩:=A6 h;refine⟨_,zr9 o_.T d5 f4,?_⟩;refine G8 h (λd6 h=>?_) λd6 h=>?_;cases h;exact⟨rfl,rfl⟩;refine A7 o_.T.length C6 ?_;obtain⟨oc,h,a5⟩:=A6 h;refine R9 oc (mkSt [] [] []) hT ?_ ?_;refine E1 h (λa6=>mkSt [(1,B9 (N6 o_)),(67,C9 M8 o_.T),(68,B3 (o_.T.length:Int)),(69,A9 a6)] [] []) (λa6=>lZ o_.T/\True) eZ (λa6=>((D5 67 rfl).and hT)) ?_;rintro k a6 o hp h a3;unfold bG.s4 at h;obtain⟨e7,_⟩:=hp;refine B7 h (λd7 h b8=>?_) λd7 h b8=>?_;refine E3 h λa7 g2 h=>?_;refine A3 rfl<|C5.mk (zzR_ (by omega)) ?_;obtain⟨e8,h⟩:=C8 h;refine A3 (show(0:Int)<=((a6:Int)+1)/\((a6:Int)+1)<=(↑(List.length (List.map M8 o_.T)):Int)/\(↑(List.length (List.map M8 o_.T)):Int)<=(↑(List.length (List.map M8 o_.T)):Int)/\(∀e∈List.map M8 o_.T,List.length e=2) from⟨by omega,by first|omega|(simp only[C3];omega),by first|omega|(simp only[C3];omega),J9 λ_=>rfl⟩) ?_
 refine A7 (List.map M8 (List.drop (a6+1) o_.T)) drop_map<|A3 ⟨rfl,trivial⟩ ?_;obtain⟨d8,f5,h⟩:=A6 h;refine⟨_,CG (List.drop (a6+1) o_.T) (λu0=>pG u0 a7) 115 (.ref (M8 a7)) rfl (λu0 r h=>(zos u0 a7 r h)) d8 f5,?_⟩;refine G8 h (λd9 h=>?_) λd9 h=>?_;cases h;cases C4 a3;replace h:some _=some _:=a5;cases h;exact⟨rfl,rfl⟩;obtain⟨e0,e9,h⟩:=A6 h;refine⟨_,CG (List.drop (a6+1) o_.T) (λu0=>pI u0 a7) 117 (.ref (M8 a7)) rfl (λu0 r h=>(znr u0 a7 r h)) e0 e9,?_⟩;refine G8 h (λe1 h=>?_) λe1 h=>?_;cases h;cases C4 a3;replace h:some _=some _:=a5;cases h;exact⟨rfl,rfl⟩;refine C5.mk (zzR_ (by omega)) ?_;cases h;exact D4 _ a3 eZ;cases h;cases C4 a3;exact J7.mk' _ rfl eZ;rintro⟨⟩ rfl hp;replace h:=L4 a5;cases h;exact⟨rfl,rfl⟩
def kL(inputs_:Int)(r:A2)(h:Z9 inputs_=some r):Sp Tryz.prog 84 [.im (nI inputs_)] (.row 3 1 (List.map cI r)):=by
 refine E5 [] λhk=>?_;unfold Z9 at h;obtain⟨a8,h⟩:=C8 h;refine A3 a8<|A7 (List.map cI (List.replicate (Int.toNat inputs_) (0:Int))) (V9 (c:=cI) (z:=0) (n:=(Int.toNat inputs_)) rfl rfl) ?_;refine A3 rfl<|A7 (List.length (List.replicate (Int.toNat inputs_) (0:Int))) C6 ?_;obtain⟨b2,h,a4⟩:=A6 h;refine E4 (mkSt [(3,.osl 64 1)] [(64,.row 3 1 (List.map cI b2))] []) ((Holds.kdl 64 rfl).and hT) ?_ λhp=>?_;refine E1 h (λ(a2,a6)=>mkSt [(3,.osl 64 1),(8,B3 (↑(List.length (List.replicate (Int.toNat inputs_) (0:Int))):Int)),(9,A9 a6)] [(64,.row 3 1 (List.map cI a2))] []) (λ(a2,a6)=>lZ a2/\True) (eA (J1 [64,6])) (λ⟨a2,a6⟩=>((Holds.kdl 64 rfl).and hT)) ?_;rintro k ⟨a2,a6⟩ o hp h a3;change Z9.s2 inputs_ a2 a6=_ at h;unfold Z9.s2 at h;obtain⟨a5,_⟩:=hp;refine B7 h (λb3 h a7=>?_) λb3 h a7=>?_;obtain⟨b5,a0,h⟩:=I5 h;refine A3 ⟨(by omega),rfl,D1 a0⟩<|A3 ⟨rfl,trivial⟩<|⟨_,D3 a0,?_⟩;refine A7 (List.map cI (List.set a2 a6 (-1:Int))) (M9 rfl) ?_;obtain⟨b4,h⟩:=C8 h;refine C5.mk b4 ?_;cases h;exact D4 _ a3 eZ;cases h;cases C4 a3;exact C7 eZ;replace h:=a4;obtain⟨b6,_⟩:=hp;cases h;exact A3 ⟨rfl,trivial⟩ ⟨rfl,rfl⟩
def CE(p_:A8)(r:A8×A2)(h:M4 p_=some r):Sp Tryz.prog 85 [.im (.agg (D8 p_))] (.tup [.agg (D8 r.1),nL cI r.2]):=by
 refine E5 [26,700001] λhk=>?_;have z1:lZ p_.N:=B8 (D7 hk.1 2 rfl);have z2:lZ p_.O:=B8 (D7 hk.1 3 rfl);unfold M4 at h;refine A7 p_.N.length C6 ?_;obtain⟨g3,n3,h⟩:=A6 h;refine⟨_,kL (p_.N.length:Int) g3 n3,?_⟩;obtain⟨k8,m9,m5,h⟩:=I9 h;refine A3 ⟨m9,rfl,D1 m5⟩<|A3 ⟨rfl,trivial⟩<|⟨_,D3 m5,?_⟩;refine A7 (List.map cI (List.set g3 p_.S.toNat 0)) (M9 rfl) ?_;obtain⟨⟨b2,a8⟩,h,n7⟩:=A6 h;refine E4 (mkSt [(1,B9 (D8 p_)),(2,.own 127 1 0),(4,.osl 128 1),(5,.osl 129 1)] [(127,.box 24 4),(128,.row 3 1 (List.map cI b2)),(129,.row 3 1 (List.map cI a8))] [(127,0,.im (nI 0)),(127,1,.im (nI 0)),(127,2,.im (.val (.slice none 0 0))),(127,3,.im (.val (.slice none 0 0)))]) ((Holds.kdl 128 rfl).and ((Holds.kdl 129 rfl).and hT)) ?_ λhp=>?_;refine E1 h (λ(d0,c7,b7)=>mkSt [(1,B9 (D8 p_)),(2,.own 127 1 0),(4,.osl 128 1),(5,.osl 129 1),(6,A9 b7)] [(127,.box 24 4),(128,.row 3 1 (List.map cI d0)),(129,.row 3 1 (List.map cI c7))] [(127,0,.im (nI 0)),(127,1,.im (nI 0)),(127,2,.im (.val (.slice none 0 0))),(127,3,.im (.val (.slice none 0 0)))]) (λ(d0,c7,b7)=>lZ d0/\lZ c7/\True) (eA (J1 [127,2,128,19,129,26])) (λ⟨d0,c7,b7⟩=>((Holds.kdl 128 rfl).and ((Holds.kdl 129 rfl).and hT))) ?_;rintro k ⟨d0,c7,b7⟩ o hp h l6;change M4.s20 p_ d0 c7 b7=_ at h;unfold M4.s20 at h;obtain⟨j1,j2,_⟩:=hp;refine A3 rfl<|A7 c7.length C6<|B7 h (λf7 h d9=>?_) λf7 h d9=>?_;obtain⟨j3,l4,h⟩:=I5 h;refine A3 ⟨(by omega),rfl,D1 l4⟩<|⟨_,_,⟨rfl,D3 l4,rfl,rfl⟩,?_⟩;refine L0 h λc8 o1 o5 h=>?_;refine A7 c8.length C6 ?_;obtain⟨⟨e0,e1⟩,h,m7⟩:=A6 h;refine E4 (mkSt [(1,B9 (D8 p_)),(2,.own 127 1 0),(4,.osl 128 1),(5,.osl 129 1),(6,A9 b7)] [(127,.box 24 4),(128,.row 3 1 (List.map cI e0)),(129,.row 3 1 (List.map cI e1))] [(127,0,.im (nI 0)),(127,1,.im (nI 0)),(127,2,.im (.val (.slice none 0 0))),(127,3,.im (.val (.slice none 0 0)))]) ((Holds.kdl 128 rfl).and ((Holds.kdl 129 rfl).and hT)) ?_ λhp=>?_;refine E1 h (λ(b8,b3,d1)=>mkSt [(1,B9 (D8 p_)),(2,.own 127 1 0),(4,.osl 128 1),(5,.osl 129 1),(6,A9 b7),(40,C9 cI c8),(41,B3 (c8.length:Int)),(42,A9 d1)] [(127,.box 24 4),(128,.row 3 1 (List.map cI b8)),(129,.row 3 1 (List.map cI b3))] [(127,0,.im (nI 0)),(127,1,.im (nI 0)),(127,2,.im (.val (.slice none 0 0))),(127,3,.im (.val (.slice none 0 0)))]) (λ(b8,b3,d1)=>lZ c8/\lZ b8/\lZ b3/\True) eZ (λ⟨b8,b3,d1⟩=>((D5 40 rfl).and ((Holds.kdl 128 rfl).and ((Holds.kdl 129 rfl).and hT)))) ?_;rintro k ⟨b8,b3,d1⟩ o hp h a3;change M4.s18 c8 b8 b3 d1=_ at h;unfold M4.s18 at h;obtain⟨j4,j5,j6,_⟩:=hp;refine B7 h (λf8 h e2=>?_) λf8 h e2=>?_;refine E3 h λd2 o4 h=>?_;obtain⟨f9,h,m6⟩:=A6 h;refine E4 (mkSt [(1,B9 (D8 p_)),(2,.own 127 1 0),(4,.osl 128 1),(5,.osl 129 1),(6,A9 b7),(8,B3 d2),(40,C9 cI c8),(41,B3 (c8.length:Int)),(42,A9 d1),(54,H6 f9)] [(127,.box 24 4),(128,.row 3 1 (List.map cI b8)),(129,.row 3 1 (List.map cI b3))] [(127,0,.im (nI 0)),(127,1,.im (nI 0)),(127,2,.im (.val (.slice none 0 0))),(127,3,.im (.val (.slice none 0 0)))]) ((D5 40 rfl).and ((Holds.kdl 128 rfl).and ((Holds.kdl 129 rfl).and hT))) ?_ λhp=>?_;refine W6 h (λc9 h e3=>?_) λc9 h e3=>?_
 iterate 2 (refine D2 (I6 c9) ?_)
 obtain⟨j7,l9,l3,h⟩:=I9 h;refine A3 ⟨l9,rfl,D1 l3⟩<|D2 (I6 c9)<|⟨_,_,⟨rfl,D3 l3,rfl,rfl⟩,?_⟩;refine D2 (I6 c9)<|D2 c9 ?_;cases h;exact C7 eZ
 iterate 4 (refine E7 (Q5 c9) ?_)
 refine E7 c9 ?_;cases h;exact C7 eZ;replace h:=m6;obtain⟨j8,j9,k0,_⟩:=hp;refine G8 h (λg1 h=>?_) λg1 h=>?_;refine A3 rfl<|A7 b3.length C6 ?_;obtain⟨k1,m4,l5,h⟩:=I9 h;refine A3 ⟨m4,rfl,D1 l5⟩<|A3 ⟨rfl,trivial⟩<|⟨_,D3 l5,?_⟩;refine A7 (List.map cI (List.set b8 d2.toNat (b3.length:Int))) (M9 rfl) ?_;obtain⟨g2,h⟩:=C8 h;refine A3 ⟨rfl,J9 (l:=[d2]) (c:=cI) λ_=>rfl,show B5 _ 8 by simpa only[C3,G9,K5,F7]using g2⟩ ?_;refine A7 (List.map cI (b3++[d2])) (J8 (l:=b3) (m:=[d2]) (c:=cI))<|C5.mk (zzR_ (by omega)) ?_;cases h;exact D4 _ a3 eZ;refine C5.mk (zzR_ (by omega)) ?_;cases h;exact D4 _ a3 eZ;cases h;cases C4 a3;exact C7 eZ;replace h:M4.k19 b7 e0 e1=some _:=m7;unfold M4.k19 at h;obtain⟨k2,k4,_⟩:=hp;refine C5.mk (zzR_ (by omega)) ?_;cases h;exact D4 _ l6 eZ;cases h;cases C4 l6;exact C7 eZ;replace h:M4.k42 p_ b2 a8=some _:=n7;unfold M4.k42 at h;obtain⟨k5,k6,_⟩:=hp;refine A3 rfl<|A3 rfl<|A7 a8.length C6 ?_;obtain⟨⟨d3,d4⟩,h,m8⟩:=A6 h;refine E4 (mkSt [(2,.own 127 1 0),(4,.osl 128 1),(9,.own 129 1 0)] [(127,.box 24 4),(128,.row 3 1 (List.map cI b2)),(129,.box 24 4),(130,.row 60 1 (List.map (cL cI) d3)),(131,.row 60 1 (List.map (cL cI) d4))] [(127,0,.im (nI 0)),(127,1,.im (nI 0)),(127,2,.im (.val (.slice none 0 0))),(127,3,.im (.val (.slice none 0 0))),(129,0,.im (nI p_.I)),(129,1,.im (nI 0)),(129,2,.osl 130 1),(129,3,.osl 131 1)]) ((Holds.kdl 128 rfl).and ((Holds.kdl 130 rfl).and ((Holds.kdl 131 rfl).and hT))) ?_ λhp=>?_;refine E1 h (λ(a2,a6,a7)=>mkSt [(1,B9 (D8 p_)),(2,.own 127 1 0),(4,.osl 128 1),(9,.own 129 1 0),(68,.osl 132 1),(69,B3 (a8.length:Int)),(70,A9 a7)] [(127,.box 24 4),(128,.row 3 1 (List.map cI b2)),(129,.box 24 4),(130,.row 60 1 (List.map (cL cI) a2)),(131,.row 60 1 (List.map (cL cI) a6)),(132,.row 3 1 (List.map cI a8))] [(127,0,.im (nI 0)),(127,1,.im (nI 0)),(127,2,.im (.val (.slice none 0 0))),(127,3,.im (.val (.slice none 0 0))),(129,0,.im (nI p_.I)),(129,1,.im (nI 0)),(129,2,.osl 130 1),(129,3,.osl 131 1)]) (λ(a2,a6,a7)=>lZ b2/\lZ a2/\lZ a6/\lZ a8/\True) (eA [(127,some 127),(128,some 128),(129,some 9),(130,none),(131,none),(132,some 129)]) (λ⟨a2,a6,a7⟩=>((Holds.kdl 128 rfl).and ((Holds.kdl 130 rfl).and ((Holds.kdl 131 rfl).and ((Holds.kdl 132 rfl).and hT))))) ?_;rintro k ⟨a2,a6,a7⟩ o hp h a5;change M4.s40 p_ b2 a8 a2 a6 a7=_ at h;unfold M4.s40 at h;obtain⟨g4,g5,g6,g7,_⟩:=hp;refine B7 h (λe4 h d6=>?_) λe4 h d6=>?_;obtain⟨d5,a4,h⟩:=I5 h;refine A3 ⟨(by omega),rfl,D1 a4⟩<|⟨_,_,⟨rfl,D3 a4,rfl,rfl⟩,?_⟩;obtain⟨e5,m3,h⟩:=A6 h;refine⟨_,kL p_.I e5 m3,?_⟩;obtain⟨e6,l8,h⟩:=A6 h;refine⟨_,kL p_.I e6 l8,?_⟩;refine L0 h λb9 n4 n8 h=>?_;refine A7 b9.length C6 ?_;obtain⟨⟨c0,c6⟩,h,m0⟩:=A6 h;refine E4 (mkSt [(1,B9 (D8 p_)),(2,.own 127 1 0),(4,.osl 128 1),(9,.own 129 1 0),(12,.osl 132 1),(13,.osl 133 1),(68,.osl 134 1),(69,B3 (a8.length:Int)),(70,A9 a7)] [(127,.box 24 4),(128,.row 3 1 (List.map cI b2)),(129,.box 24 4),(130,.row 60 1 (List.map (cL cI) a2)),(131,.row 60 1 (List.map (cL cI) a6)),(132,.row 3 1 (List.map cI c0)),(133,.row 3 1 (List.map cI c6)),(134,.row 3 1 (List.map cI a8))] [(127,0,.im (nI 0)),(127,1,.im (nI 0)),(127,2,.im (.val (.slice none 0 0))),(127,3,.im (.val (.slice none 0 0))),(129,0,.im (nI p_.I)),(129,1,.im (nI 0)),(129,2,.osl 130 1),(129,3,.osl 131 1)]) ((Holds.kdl 128 rfl).and ((Holds.kdl 130 rfl).and ((Holds.kdl 131 rfl).and ((Holds.kdl 132 rfl).and ((Holds.kdl 133 rfl).and ((Holds.kdl 134 rfl).and hT)))))) ?_ λhp=>?_;refine E1 h (λ(b4,b5,b6)=>mkSt [(1,B9 (D8 p_)),(2,.own 127 1 0),(4,.osl 128 1),(9,.own 129 1 0),(11,B3 d5),(12,.osl 132 1),(13,.osl 133 1),(68,.osl 134 1),(69,B3 (a8.length:Int)),(70,A9 a7),(84,C9 cI b9),(85,B3 (b9.length:Int)),(86,A9 b6)] [(127,.box 24 4),(128,.row 3 1 (List.map cI b2)),(129,.box 24 4),(130,.row 60 1 (List.map (cL cI) a2)),(131,.row 60 1 (List.map (cL cI) a6)),(132,.row 3 1 (List.map cI b4)),(133,.row 3 1 (List.map cI b5)),(134,.row 3 1 (List.map cI a8))] [(127,0,.im (nI 0)),(127,1,.im (nI 0)),(127,2,.im (.val (.slice none 0 0))),(127,3,.im (.val (.slice none 0 0))),(129,0,.im (nI p_.I)),(129,1,.im (nI 0)),(129,2,.osl 130 1),(129,3,.osl 131 1)]) (λ(b4,b5,b6)=>lZ b9/\lZ b2/\lZ a2/\lZ a6/\lZ b4/\lZ b5/\lZ a8/\True) (eA (J1 [127,127,128,128,129,129,130,130,131,131,132,76,133,79,134,132])) (λ⟨b4,b5,b6⟩=>((D5 84 rfl).and ((Holds.kdl 128 rfl).and ((Holds.kdl 130 rfl).and ((Holds.kdl 131 rfl).and ((Holds.kdl 132 rfl).and ((Holds.kdl 133 rfl).and ((Holds.kdl 134 rfl).and hT)))))))) ?_;rintro k ⟨b4,b5,b6⟩ o hp h a0;change M4.s38 p_ b2 d5 b9 b4 b5 b6=_ at h;unfold M4.s38 at h;obtain⟨g8,g9,h0,h2,h3,h4,h5,_⟩:=hp;refine B7 h (λe7 h d7=>?_) λe7 h d7=>?_;refine E3 h λh6 o3 h=>?_;refine B7 h (λe8 h d8=>?_) λe8 h d8=>?_;obtain⟨e9,l7,f6,h⟩:=I9 h;refine A3 ⟨l7,rfl,D1 f6⟩<|⟨_,_,⟨rfl,D3 f6,rfl,rfl⟩,?_⟩;refine L0 h λh7 n5 n9 h=>?_;refine E3 h λf3 o2 h=>?_;obtain⟨h8,l0,h⟩:=I5 h;refine A3 ⟨(by omega),rfl,D1 l0⟩<|A3 ⟨rfl,trivial⟩<|⟨_,D3 l0,?_⟩;refine A7 (List.map cI (List.set b4 b6 e9)) (M9 rfl) ?_;obtain⟨h9,a9,h⟩:=I5 h;refine A3 ⟨(by omega),rfl,D1 a9⟩<|A3 ⟨rfl,trivial⟩<|⟨_,D3 a9,?_⟩;refine A7 (List.map cI (List.set b5 b6 f3)) (M9 rfl)<|C5.mk (zzR_ (by omega)) ?_;cases h;exact D4 _ a0 eZ;refine C5.mk (zzR_ (by omega)) ?_;cases h;exact D4 _ a0 eZ;cases h;cases C4 a0;exact C7 eZ;replace h:M4.k39 a2 a6 a7 c0 c6=some _:=m0;unfold M4.k39 at h;obtain⟨i0,i3,i4,i5,i6,i7,_⟩:=hp;refine A3 rfl<|A3 rfl<|A3 ⟨rfl,trivial⟩ ?_;obtain⟨f4,h⟩:=C8 h;refine A3 ⟨rfl,J9 (l:=[c0]) (c:=cL cI) λ_=>rfl,show B5 _ 24 by simpa only[C3,G9,K5,F7]using f4⟩ ?_;refine A7 (List.map (cL cI) (a2++[c0])) (J8 (l:=a2) (m:=[c0]) (c:=cL cI))<|A3 rfl<|A3 rfl<|A3 ⟨rfl,trivial⟩ ?_;obtain⟨f5,h⟩:=C8 h;refine A3 ⟨rfl,J9 (l:=[c6]) (c:=cL cI) λ_=>rfl,show B5 _ 24 by simpa only[C3,G9,K5,F7]using f5⟩ ?_;refine A7 (List.map (cL cI) (a6++[c6])) (J8 (l:=a6) (m:=[c6]) (c:=cL cI))<|A3 rfl<|A3 rfl<|A3 rfl<|A3 rfl<|C5.mk (zzR_ (by omega)) ?_;cases h;exact D4 _ a5 (eA (J1 [127,127,128,128,129,129,130,130,131,131,132,134]));cases h;cases C4 a5;exact C7 eZ;replace h:M4.k41 p_ b2 d3 d4=some _:=m8;unfold M4.k41 at h;obtain⟨i8,i9,j0,_⟩:=hp;refine A3 rfl<|A3 rfl ?_;cases h;refine A3 ⟨rfl,trivial⟩ ?_;exact A3 ⟨rfl,rfl,rfl,trivial⟩ ⟨rfl,rfl⟩
def sp_merge_Tree(o_:I4)(r:A8×Int)(h:P6 o_=some r):Sp Tryz.prog 45 [.im (.agg (N6 o_))] (.tup [.agg (D8 r.1),nI r.2]):=by
 refine E5 [700001,9000023,9000027,9000078,9000084] λhk=>?_;have z1:lZ o_.T:=B8 (D7 hk.1 1 rfl);unfold P6 at h;obtain⟨h7,k4,h⟩:=A6 h;refine⟨_,zqn o_ h7 k4,?_⟩;refine B7 h (λh8 h e4=>?_) λh8 h e4=>?_;refine A3 rfl ?_;cases h;refine A3 ⟨rfl,trivial⟩ ?_;exact⟨rfl,rfl⟩;obtain⟨e5,k1,h⟩:=A6 h;refine⟨_,kL o_.I e5 k1,?_⟩;refine A3 ⟨rfl,trivial⟩<|A7 (List.map (cL cI) [e5]) rfl ?_;obtain⟨e6,k2,h⟩:=A6 h;refine⟨_,kL o_.I e6 k2,?_⟩;refine A3 ⟨rfl,trivial⟩<|A7 (List.map (cL cI) [e6]) rfl<|A7 o_.T.length C6 ?_;obtain⟨oc,h,j9⟩:=A6 h;refine T8 oc (Y:=A4×A4) (λ(c6,c7)=>mkSt [(1,B9 (N6 o_)),(2,.own 105 1 0),(5,.osl 106 1),(6,.osl 107 1)] [(105,.box 24 4),(106,.grid 60 3 1 (List.map (cL cI) c6) none),(107,.grid 60 3 1 (List.map (cL cI) c7) none)] [(105,0,.im (nI 0)),(105,1,.im (nI 0)),(105,2,.im (.val (.slice none 0 0))),(105,3,.im (.val (.slice none 0 0)))]) (λ(c6,c7)=>lZ c6/\lZ c7/\True) (by rintro⟨c6,c7⟩;exact((Holds.kdg 106 rfl).and ((Holds.kdg 107 rfl).and hT))) ?_ ?_;refine E1 h (λ(b5,b6,a8)=>mkSt [(1,B9 (N6 o_)),(2,.own 105 1 0),(5,.osl 106 1),(6,.osl 107 1),(29,C9 M8 o_.T),(30,B3 (o_.T.length:Int)),(31,A9 a8)] [(105,.box 24 4),(106,.grid 60 3 1 (List.map (cL cI) b5) none),(107,.grid 60 3 1 (List.map (cL cI) b6) none)] [(105,0,.im (nI 0)),(105,1,.im (nI 0)),(105,2,.im (.val (.slice none 0 0))),(105,3,.im (.val (.slice none 0 0)))]) (λ(b5,b6,a8)=>lZ o_.T/\lZ b5/\lZ b6/\True) (eA (J1 [105,2,106,23,107,27])) (λ⟨b5,b6,a8⟩=>((D5 29 rfl).and ((Holds.kdg 106 rfl).and ((Holds.kdg 107 rfl).and hT)))) ?_;rintro k ⟨b5,b6,a8⟩ o hp h a9;change P6.s56 o_ b5 b6 a8=_ at h;unfold P6.s56 at h;obtain⟨e7,e8,e9,_⟩:=hp;refine B7 h (λd7 h d3=>?_) λd7 h d3=>?_;refine E3 h λa2 k5 h=>?_;refine A3 rfl<|A3 rfl<|A3 rfl<|A7 a2.In.length C6 ?_;obtain⟨oc,h,i4⟩:=A6 h;refine T8 oc (Y:=A4×A4) (λ(b7,b8)=>mkSt [(1,B9 (N6 o_)),(2,.own 105 1 0),(5,.osl 106 1),(6,.osl 107 1),(29,C9 M8 o_.T),(30,B3 (o_.T.length:Int)),(31,A9 a8)] [(105,.box 24 4),(106,.grid 60 3 1 (List.map (cL cI) b7) none),(107,.grid 60 3 1 (List.map (cL cI) b8) none)] [(105,0,.im (nI 0)),(105,1,.im (nI 0)),(105,2,.im (.val (.slice none 0 0))),(105,3,.im (.val (.slice none 0 0)))]) (λ(b7,b8)=>lZ o_.T/\lZ b7/\lZ b8/\True) (by rintro⟨b7,b8⟩;exact((D5 29 rfl).and ((Holds.kdg 106 rfl).and ((Holds.kdg 107 rfl).and hT)))) ?_ ?_;refine E1 h (λ(a6,b2,a7,b4)=>mkSt [(1,B9 (N6 o_)),(2,.own 105 1 0),(5,.osl 106 1),(6,.osl 107 1),(8,.own 108 1 0),(9,B3 a7),(29,C9 M8 o_.T),(30,B3 (o_.T.length:Int)),(31,A9 a8),(36,C9 cI a2.In),(37,B3 (a2.In.length:Int)),(38,A9 b4)] [(105,.box 24 4),(106,.grid 60 3 1 (List.map (cL cI) a6) none),(107,.grid 60 3 1 (List.map (cL cI) b2) none),(108,.box 70 2)] [(105,0,.im (nI 0)),(105,1,.im (nI 0)),(105,2,.im (.val (.slice none 0 0))),(105,3,.im (.val (.slice none 0 0))),(108,0,.im (nL cI a2.In)),(108,1,.im (nL cI a2.O))]) (λ(a6,b2,a7,b4)=>lZ o_.T/\lZ a2.In/\lZ a6/\lZ b2/\lZ a2.O/\True) (eA (J1 [105,105,106,106,107,107,108,8])) (λ⟨a6,b2,a7,b4⟩=>((D5 29 rfl).and ((D5 36 rfl).and ((Holds.kdg 106 rfl).and ((Holds.kdg 107 rfl).and ((Holds.cel 108 1 rfl (by decide) rfl).and hT)))))) ?_;rintro k ⟨a6,b2,a7,b4⟩ o hp h f6;change P6.s54 o_ a2 a6 b2 a7 b4=_ at h;unfold P6.s54 at h;obtain⟨f3,f4,f5,f7,f8,_⟩:=hp;refine B7 h (λd8 h d4=>?_) λd8 h d4=>?_;refine E3 h λb3 k8 h=>?_;obtain⟨oc,h,i6⟩:=A6 h;refine T8 oc (Y:=A4×A4) (λ(b9,c0)=>mkSt [(1,B9 (N6 o_)),(2,.own 105 1 0),(5,.osl 106 1),(6,.osl 107 1),(8,.own 108 1 0),(9,B3 a7),(11,B3 b3),(29,C9 M8 o_.T),(30,B3 (o_.T.length:Int)),(31,A9 a8),(36,C9 cI a2.In),(37,B3 (a2.In.length:Int)),(38,A9 b4)] [(105,.box 24 4),(106,.grid 60 3 1 (List.map (cL cI) b9) none),(107,.grid 60 3 1 (List.map (cL cI) c0) none),(108,.box 70 2)] [(105,0,.im (nI 0)),(105,1,.im (nI 0)),(105,2,.im (.val (.slice none 0 0))),(105,3,.im (.val (.slice none 0 0))),(108,0,.im (nL cI a2.In)),(108,1,.im (nL cI a2.O))]) (λ(b9,c0)=>lZ o_.T/\lZ a2.In/\lZ b9/\lZ c0/\lZ a2.O/\True) (by rintro⟨b9,c0⟩;exact((D5 29 rfl).and ((D5 36 rfl).and ((Holds.kdg 106 rfl).and ((Holds.kdg 107 rfl).and ((Holds.cel 108 1 rfl (by decide) rfl).and hT)))))) ?_ ?_;obtain⟨f9,i8,a0,h⟩:=I9 h;refine A3 ⟨i8,rfl,D1 a0⟩<|A3 ⟨rfl,D1 a0⟩ ?_;obtain⟨g1,j0,i3,h⟩:=I9 h;refine⟨_,⟨j0,rfl,D3 a0,D1 i3⟩,?_⟩;refine⟨_,_,_,⟨rfl,D3 a0,D3 i3,rfl⟩,?_⟩;refine B7 h (λd9 h d5=>?_) λd9 h d5=>?_;refine A3 rfl<|A7 a6.length C6<|B7 h (λe0 h d6=>?_) λe0 h d6=>?_;refine A3 rfl ?_;cases h;replace h:some _=some _:=i6;cases h;cases C4 f6;replace h:some _=some _:=i4;cases h;cases C4 a9;replace h:some _=some _:=j9;cases h;refine A3 ⟨rfl,trivial⟩ ?_;exact⟨rfl,rfl⟩;obtain⟨d0,i9,a3,h⟩:=I9 h;refine A3 ⟨i9,rfl,D1 a3⟩<|A3 ⟨rfl,D1 a3⟩ ?_;obtain⟨d1,j3,a5,h⟩:=I9 h;refine A3 ⟨j3,rfl,D1 a5⟩<|A3 ⟨rfl,D1 a5⟩<|A3 rfl<|A7 a6.length C6<|A3 rfl<|A3 rfl<|E3 h λd2 k6 h=>?_;obtain⟨g2,j5,i7,h⟩:=I9 h;refine⟨_,⟨j5,rfl,D3 a3,D1 i7⟩,?_⟩;refine⟨_,_,⟨rfl,D3 a3,D3 i7⟩,?_⟩;refine A7 (List.map (cL cI) (List.set a6 (Int.toNat a7) (List.set d0 (Int.toNat b3) (a6.length:Int)))) (iF rfl) ?_;obtain⟨g3,j4,i0,h⟩:=I9 h;refine⟨_,⟨j4,rfl,D3 a5,D1 i0⟩,?_⟩;refine⟨_,_,⟨rfl,D3 a5,D3 i0⟩,?_⟩;refine A7 (List.map (cL cI) (List.set b2 (Int.toNat a7) (List.set d1 (Int.toNat b3) d2))) (iF rfl) ?_;obtain⟨c8,j7,h⟩:=A6 h;refine⟨_,kL o_.I c8 j7,?_⟩;refine A3 ⟨rfl,trivial⟩<|A7 (List.map (cL cI) [c8]) rfl ?_;obtain⟨e1,h⟩:=C8 h;refine A3 ⟨rfl,rfl,trivial⟩<|A3 (show B5 _ 24 by have k0:=e1;simpa only[C3]using k0)<|A7 (List.map (cL cI) ((List.set a6 (Int.toNat a7) (List.set d0 (Int.toNat b3) (a6.length:Int)))++[c8])) (J8 (l:=(List.set a6 (Int.toNat a7) (List.set d0 (Int.toNat b3) (a6.length:Int)))) (m:=[c8]) (c:=cL cI)) ?_;obtain⟨c9,j8,h⟩:=A6 h;refine⟨_,kL o_.I c9 j8,?_⟩;refine A3 ⟨rfl,trivial⟩<|A7 (List.map (cL cI) [c9]) rfl ?_;obtain⟨e2,h⟩:=C8 h;refine A3 ⟨rfl,rfl,trivial⟩<|A3 (show B5 _ 24 by have k0:=e2;simpa only[C3]using k0)<|A7 (List.map (cL cI) ((List.set b2 (Int.toNat a7) (List.set d1 (Int.toNat b3) d2))++[c9])) (J8 (l:=(List.set b2 (Int.toNat a7) (List.set d1 (Int.toNat b3) d2))) (m:=[c9]) (c:=cL cI)) ?_;cases h;exact J7.mk' _ rfl (eA (J1 [105,105,106,79,107,85,108,108]));cases h;exact J7.mk' _ rfl eZ;rintro⟨b9,c0⟩ rfl hp;have h9:=L4 i6;replace h:P6.k53 a7 b4 b3 b9 c0=some _:=h9;clear h9;unfold P6.k53 at h;obtain⟨g4,g5,g6,g7,g8,_⟩:=hp;obtain⟨g9,j1,a4,h⟩:=I9 h;refine A3 ⟨j1,rfl,D1 a4⟩<|A3 ⟨rfl,D1 a4⟩ ?_;obtain⟨h0,j2,i5,h⟩:=I9 h;refine⟨_,⟨j2,rfl,D3 a4,D1 i5⟩,?_⟩;refine⟨_,_,_,⟨rfl,D3 a4,D3 i5,rfl⟩,?_⟩;refine C5.mk (zzR_ (by omega)) ?_;cases h;exact D4 _ f6 eZ;cases h;cases C4 f6;exact J7.mk' _ rfl eZ;rintro⟨b7,b8⟩ rfl hp;have h9:=L4 i4;replace h:P6.k55 a8 b7 b8=some _:=h9;clear h9;unfold P6.k55 at h;obtain⟨h2,h3,h4,_⟩:=hp;refine C5.mk (zzR_ (by omega)) ?_;cases h;exact D4 _ a9 eZ;cases h;cases C4 a9;exact J7.mk' _ rfl eZ;rintro⟨c6,c7⟩ rfl hp;have h9:=L4 j9;replace h:P6.k57 o_ c6 c7=some _:=h9;clear h9;unfold P6.k57 at h;obtain⟨h5,h6,_⟩:=hp;refine A3 ⟨rfl,rfl,trivial⟩ ?_;obtain⟨e3,j6,h⟩:=A6 h;refine⟨_,CE (⟨o_.I,0,c6,c7⟩:A8) e3 j6,?_⟩;refine A3 rfl<|A3 rfl<|A3 rfl ?_;cases h;refine A3 ⟨rfl,trivial⟩ ?_;exact⟨rfl,rfl⟩
def pR(b_:bH)(x_:Int)(r:Int×(List (Int×Int)))(h:OkA (.lent (.map (mapV wI wI b_.up)))->Ok (nI x_)->cQ b_ x_=some r):SpX Tryz.prog 106 (.lent .dead::.box 0 [.im .any]::[.lent (.map (mapV wI wI b_.up)),.im (nI x_)]) (.mk false [.im (nI r.1)] [.lent (.map (mapV wI wI r.2))]):=by
 refine sp_ofA rfl [] 0 [.im .any] 1 rfl rfl rfl rfl (lV rfl) (lV rfl) rfl λhk=>?_;replace h:=h hk.1 hk.2.1;unfold cQ at h;refine E1 h (λa2=>mkSt [(0,.agg [.osl 0 0]),(1,B3 a2),(2,.own 65 1 0)] [(0,.map (mapV wI wI b_.up)),(65,.box 146 1)] [(65,0,.osl 0 0)]) (λa2=>True) (eA (J1 [0,0,65,2])) (λ_=>hT) ?_;rintro k a2 o hp h a0;unfold cQ.s1 at h;refine A3 rfl<|A3 rfl<|A3 rfl<|⟨_,find_int _ wI _,?_⟩;refine A7 (wI ((mget a2 b_.up).getD 0)) (getD_map rfl _)<|A7 (mget a2 b_.up).isSome (yQ _)<|G8 h (λa6 h=>?_) λa6 h=>?_;cases h;cases C4 a0;exact A3 ⟨rfl,trivial⟩ ⟨rfl,rfl⟩;cases h;exact D4 _ a0 eZ
def zjx(b_:bH)(x_ y_:Int)(r:List (Int×Int))(h:OkA (.lent (.map (mapV wI wI b_.up)))->Ok (nI x_)->Ok (nI y_)->pQ b_ x_ y_=some r):SpX Tryz.prog 107 (.lent .dead::.box 0 [.im .any]::[.lent (.map (mapV wI wI b_.up)),.im (nI x_),.im (nI y_)]) (.mk true [] [.lent (.map (mapV wI wI r))]):=by
 refine sp_ofA rfl [] 0 [.im .any] 2 rfl rfl rfl rfl (lV rfl) (lV rfl) rfl λhk=>?_;replace h:=h hk.1 hk.2.1 hk.2.2.1;unfold pQ at h;refine A3 rfl<|A3 rfl<|A3 rfl<|⟨_,set_int _ x_ wI _,?_⟩;cases h;exact A3 ⟨rfl,trivial⟩ ⟨rfl,rfl⟩
def ztq(p_:A8)(s_ t_:Int)(r:A8×A2×Bool)(h:I2 p_ s_ t_=some r):Sp Tryz.prog 73 [.im (.agg (D8 p_)),.im (nI s_),.im (nI t_)] (.tup [.agg (D8 r.1),nL cI r.2.1,nB r.2.2]):=by
 refine E5 [35,47,63,73000,79000,94000,202000,209000,229000,700003,2073000,2079000,2094000,2202000,2209000,2229000,8000072,8000078,8000093,8000201,8000208,8000228,9000042,9000054] λhk=>?_;have z1:lZ p_.N:=B8 (D7 hk.1 2 rfl);have z2:lZ p_.O:=B8 (D7 hk.1 3 rfl);unfold I2 at h;refine A3 rfl<|A7 p_.N.length C6 ?_;obtain⟨⟨l4,l5⟩,h,x6⟩:=A6 h;refine E4 (mkSt [(1,B3 s_),(2,B3 t_),(3,B9 (D8 p_)),(6,.own 235 1 0),(9,.own 236 1 0)] [(235,.box 24 4),(236,.box 24 4),(237,.grid 60 3 1 (List.map (cL cI) l4) none),(238,.grid 60 3 1 (List.map (cL cI) l5) none)] [(235,0,.im (nI 0)),(235,1,.im (nI 0)),(235,2,.im (.val (.slice none 0 0))),(235,3,.im (.val (.slice none 0 0))),(236,0,.im (nI p_.I)),(236,1,.im (nI 0)),(236,2,.osl 237 1),(236,3,.osl 238 1)]) ((Holds.kdg 237 rfl).and ((Holds.kdg 238 rfl).and hT)) ?_ λhp=>?_;refine E1 h (λ(f3,f4,h4)=>mkSt [(1,B3 s_),(2,B3 t_),(3,B9 (D8 p_)),(6,.own 235 1 0),(9,.own 236 1 0),(29,B3 (p_.N.length:Int)),(30,A9 h4)] [(235,.box 24 4),(236,.box 24 4),(237,.grid 60 3 1 (List.map (cL cI) f3) none),(238,.grid 60 3 1 (List.map (cL cI) f4) none)] [(235,0,.im (nI 0)),(235,1,.im (nI 0)),(235,2,.im (.val (.slice none 0 0))),(235,3,.im (.val (.slice none 0 0))),(236,0,.im (nI p_.I)),(236,1,.im (nI 0)),(236,2,.osl 237 1),(236,3,.osl 238 1)]) (λ(f3,f4,h4)=>lZ f3/\lZ f4/\True) (eA [(235,some 6),(236,some 9),(237,none),(238,none)]) (λ⟨f3,f4,h4⟩=>((Holds.kdg 237 rfl).and ((Holds.kdg 238 rfl).and hT))) ?_;rintro k ⟨f3,f4,h4⟩ o hp h x4;change I2.s2 p_ f3 f4 h4=_ at h;unfold I2.s2 at h;obtain⟨q8,q9,_⟩:=hp;refine B7 h (λr1 h k8=>?_) λr1 h k8=>?_;refine A3 rfl<|A3 rfl<|E3 h λh2 x9 h=>?_;obtain⟨r2,h⟩:=C8 h;refine A3 ⟨rfl,J9 (l:=h2) (c:=cI) λ_=>rfl,show B5 _ 8 by simpa only[C3,G9,K5,F7]using r2⟩ ?_;refine A7 (List.map cI ([]++h2)) (J8 (l:=[]) (m:=h2) (c:=cI))<|A3 ⟨rfl,trivial⟩<|A7 (List.map (cL cI) [([]++h2)]) rfl ?_;obtain⟨r3,h⟩:=C8 h;refine A3 ⟨rfl,rfl,trivial⟩<|A3 (show B5 _ 24 by have w3:=r3;simpa only[C3]using w3)<|A7 (List.map (cL cI) (f3++[([]++h2)])) (J8 (l:=f3) (m:=[([]++h2)]) (c:=cL cI)) ?_;refine A3 rfl<|A3 rfl<|A3 rfl<|A3 rfl<|E3 h λh3 x8 h=>?_;obtain⟨l0,h⟩:=C8 h;refine A3 ⟨rfl,J9 (l:=h3) (c:=cI) λ_=>rfl,show B5 _ 8 by simpa only[C3,G9,K5,F7]using l0⟩ ?_;refine A7 (List.map cI ([]++h3)) (J8 (l:=[]) (m:=h3) (c:=cI))<|A3 ⟨rfl,trivial⟩<|A7 (List.map (cL cI) [([]++h3)]) rfl ?_;obtain⟨l3,h⟩:=C8 h;refine A3 ⟨rfl,rfl,trivial⟩<|A3 (show B5 _ 24 by have w3:=l3;simpa only[C3]using w3)<|A7 (List.map (cL cI) (f4++[([]++h3)])) (J8 (l:=f4) (m:=[([]++h3)]) (c:=cL cI)) ?_;refine A3 rfl<|A3 rfl<|C5.mk (zzR_ (by omega)) ?_;cases h;exact D4 _ x4 (eA (J1 [235,235,236,236,237,43,238,55]));cases h;cases C4 x4;exact C7 eZ;replace h:I2.k71 p_ s_ t_ l4 l5=some _:=x6;unfold I2.k71 at h;obtain⟨r4,r5,_⟩:=hp;refine A3 rfl ?_;obtain⟨oc,h,v7⟩:=A6 h;refine T8 oc (Y:=A4×A4×(List (Int×Int))) (λ(a8,a6,e0)=>mkSt [(3,B9 (D8 p_)),(6,.own 235 1 0),(9,.own 236 1 0),(11,.own 239 1 0)] [(235,.box 24 4),(236,.box 24 4),(237,.grid 60 3 1 (List.map (cL cI) a8) none),(238,.grid 60 3 1 (List.map (cL cI) a6) none),(239,.box 146 1),(240,.map (mapV wI wI e0))] [(235,0,.im (nI 0)),(235,1,.im (nI 0)),(235,2,.im (.val (.slice none 0 0))),(235,3,.im (.val (.slice none 0 0))),(236,0,.im (nI p_.I)),(236,1,.im (nI 0)),(236,2,.osl 237 1),(236,3,.osl 238 1),(239,0,.osl 240 1)]) (λ(a8,a6,e0)=>lZ a8/\lZ a6/\True) (by rintro⟨a8,a6,e0⟩;exact((Holds.kdg 237 rfl).and ((Holds.kdg 238 rfl).and hT))) ?_ ?_;refine E1 h (λ(c7,c8,c9,b4)=>mkSt [(3,B9 (D8 p_)),(6,.own 235 1 0),(9,.own 236 1 0),(11,.own 239 1 0),(12,.osl 241 1)] [(235,.box 24 4),(236,.box 24 4),(237,.grid 60 3 1 (List.map (cL cI) c7) none),(238,.grid 60 3 1 (List.map (cL cI) c8) none),(239,.box 146 1),(240,.map (mapV wI wI c9)),(241,.que 121 2 (List.map c_A2 b4))] [(235,0,.im (nI 0)),(235,1,.im (nI 0)),(235,2,.im (.val (.slice none 0 0))),(235,3,.im (.val (.slice none 0 0))),(236,0,.im (nI p_.I)),(236,1,.im (nI 0)),(236,2,.osl 237 1),(236,3,.osl 238 1),(239,0,.osl 240 1)]) (λ(c7,c8,c9,b4)=>lZ c7/\lZ c8/\lZ b4/\True) ((Ent.que 63 rfl).trans (eA (J1 [235,235,236,236,237,237,238,238,239,11,240,58,241,63]))) (λ⟨c7,c8,c9,b4⟩=>((Holds.kdg 237 rfl).and ((Holds.kdg 238 rfl).and ((Holds.kdql 241 rfl).and hT)))) ?_;rintro k ⟨c7,c8,c9,b4⟩ o hp h s3;change I2.s46 c7 c8 c9 b4=_ at h;unfold I2.s46 at h;obtain⟨l6,l7,l8,_⟩:=hp;refine A3 rfl<|A7 b4.length C6<|B7 h (λh5 h g1=>?_) λh5 h g1=>?_;obtain⟨oc,h,t5⟩:=A6 h;refine T8 oc (Y:=A4×A4×(List (Int×Int))×List T_A2) (λ(d0,d1,e1,d2)=>mkSt [(3,B9 (D8 p_)),(6,.own 235 1 0),(9,.own 236 1 0),(11,.own 239 1 0),(12,.osl 241 1)] [(235,.box 24 4),(236,.box 24 4),(237,.grid 60 3 1 (List.map (cL cI) d0) none),(238,.grid 60 3 1 (List.map (cL cI) d1) none),(239,.box 146 1),(240,.map (mapV wI wI e1)),(241,.que 121 2 (List.map c_A2 d2))] [(235,0,.im (nI 0)),(235,1,.im (nI 0)),(235,2,.im (.val (.slice none 0 0))),(235,3,.im (.val (.slice none 0 0))),(236,0,.im (nI p_.I)),(236,1,.im (nI 0)),(236,2,.osl 237 1),(236,3,.osl 238 1),(239,0,.osl 240 1)]) (λ(d0,d1,e1,d2)=>lZ d0/\lZ d1/\lZ d2/\True) (by rintro⟨d0,d1,e1,d2⟩;exact((Holds.kdg 237 rfl).and ((Holds.kdg 238 rfl).and ((Holds.kdql 241 rfl).and hT)))) ?_ ?_;refine A3 rfl ?_;obtain⟨h6,t0,h⟩:=I5 h;refine A3 ⟨(by omega),rfl,D1 t0⟩<|A3 ⟨by decide,by decide,rfl⟩<|⟨_,_,⟨rfl,D3 t0,rfl,rfl⟩,?_⟩;refine A3 ⟨rfl,trivial⟩ ?_;obtain⟨b2,w8,h⟩:=A6 h;refine⟨_,pR (⟨c9⟩:bH) h6.f0 b2 (λ_ _=>w8),?_⟩;refine A3 rfl ?_;obtain⟨h7,u9,h⟩:=I5 h;refine A3 ⟨(by omega),rfl,D1 u9⟩<|A3 ⟨by decide,by decide,rfl⟩<|⟨_,_,⟨rfl,D3 u9,rfl,rfl⟩,?_⟩;refine A3 ⟨rfl,trivial⟩ ?_;obtain⟨b3,x2,h⟩:=A6 h;refine⟨_,pR (⟨b2.2⟩:bH) h7.f1 b3 (λ_ _=>x2),?_⟩;obtain⟨h8,h⟩:=C8 h;refine A3 ⟨rfl,by decide,by have w3:=h8;simp only[C3];exact w3⟩ ?_;refine A7 (List.map c_A2 (List.drop 1 b4)) mV<|B7 h (λh9 h g2=>?_) λh9 h g2=>?_;cases h;exact J7.mk' _ rfl eZ;refine A3 rfl<|A3 ⟨rfl,trivial⟩ ?_;obtain⟨e3,w6,h⟩:=A6 h;refine⟨_,zjx (⟨b3.2⟩:bH) (min b2.1 b3.1) (max b2.1 b3.1) e3 (λ_ _ _=>w6),?_⟩;refine A3 rfl<|A3 rfl ?_;obtain⟨e5,w2,s6,h⟩:=I9 h;refine A3 ⟨w2,rfl,D1 s6⟩<|A3 ⟨rfl,D1 s6⟩<|⟨_,⟨rfl,D3 s6⟩,?_⟩;refine A7 e5.length C6 ?_;obtain⟨oc,h,t1⟩:=A6 h;refine T8 oc (Y:=A4×A4×List T_A2) (λ(d3,d4,d5)=>mkSt [(3,B9 (D8 p_)),(6,.own 235 1 0),(9,.own 236 1 0),(11,.own 239 1 0),(12,.osl 241 1)] [(235,.box 24 4),(236,.box 24 4),(237,.grid 60 3 1 (List.map (cL cI) d3) none),(238,.grid 60 3 1 (List.map (cL cI) d4) none),(239,.box 146 1),(240,.map (mapV wI wI e3)),(241,.que 121 2 (List.map c_A2 d5))] [(235,0,.im (nI 0)),(235,1,.im (nI 0)),(235,2,.im (.val (.slice none 0 0))),(235,3,.im (.val (.slice none 0 0))),(236,0,.im (nI p_.I)),(236,1,.im (nI 0)),(236,2,.osl 237 1),(236,3,.osl 238 1),(239,0,.osl 240 1)]) (λ(d3,d4,d5)=>lZ d3/\lZ d4/\lZ d5/\True) (by rintro⟨d3,d4,d5⟩;exact((Holds.kdg 237 rfl).and ((Holds.kdg 238 rfl).and ((Holds.kdql 241 rfl).and hT)))) ?_ ?_;refine E1 h (λ(b6,b7,b5,b8)=>mkSt [(3,B9 (D8 p_)),(6,.own 235 1 0),(9,.own 236 1 0),(11,.own 239 1 0),(12,.osl 241 1),(13,B3 (min b2.1 b3.1)),(14,B3 (max b2.1 b3.1)),(98,.sub 237 0 (Int.toNat (max b2.1 b3.1))),(99,B3 (e5.length:Int)),(100,A9 b8)] [(235,.box 24 4),(236,.box 24 4),(237,.grid 60 3 1 (List.map (cL cI) b6) none),(238,.grid 60 3 1 (List.map (cL cI) b7) none),(239,.box 146 1),(240,.map (mapV wI wI e3)),(241,.que 121 2 (List.map c_A2 b5))] [(235,0,.im (nI 0)),(235,1,.im (nI 0)),(235,2,.im (.val (.slice none 0 0))),(235,3,.im (.val (.slice none 0 0))),(236,0,.im (nI p_.I)),(236,1,.im (nI 0)),(236,2,.osl 237 1),(236,3,.osl 238 1),(239,0,.osl 240 1)]) (λ(b6,b7,b5,b8)=>lZ b6/\lZ b7/\lZ b5/\True) eZ (λ⟨b6,b7,b5,b8⟩=>((Holds.kdg 237 rfl).and ((Holds.kdg 238 rfl).and ((Holds.kdql 241 rfl).and hT)))) ?_;rintro k ⟨b6,b7,b5,b8⟩ o hp h a0;change I2.s43 b2 b3 e5 b6 b7 b5 b8=_ at h;unfold I2.s43 at h;obtain⟨l9,m0,m3,_⟩:=hp;refine B7 h (λi0 h g3=>?_) λi0 h g3=>?_;obtain⟨m4,t2,h⟩:=I5 h;obtain⟨e4,u6,h⟩:=I5 h;refine⟨_,⟨(by omega),rfl,D3 t2,D1 u6⟩,?_⟩;refine⟨_,_,_,⟨rfl,D3 t2,D3 u6,rfl⟩,?_⟩;refine B7 h (λi3 h g4=>?_) λi3 h g4=>?_;obtain⟨i4,h⟩:=C8 h;refine C5.mk i4 ?_;cases h;exact D4 _ a0 eZ;refine A3 rfl<|A3 rfl ?_;obtain⟨m5,v8,a9,h⟩:=I9 h;refine A3 ⟨v8,rfl,D1 a9⟩<|A3 ⟨rfl,D1 a9⟩ ?_;obtain⟨m6,v0,h⟩:=I5 h;refine⟨_,⟨(by omega),rfl,D3 a9,D1 v0⟩,?_⟩;refine⟨_,_,_,⟨rfl,D3 a9,D3 v0,rfl⟩,?_⟩;refine B7 h (λi5 h g5=>?_) λi5 h g5=>?_;refine A3 rfl<|A3 rfl ?_;obtain⟨i6,v9,r6,h⟩:=I9 h;refine A3 ⟨v9,rfl,D1 r6⟩<|A3 ⟨rfl,D1 r6⟩<|A3 rfl<|A3 rfl ?_;obtain⟨i7,v1,a4,h⟩:=I9 h;refine A3 ⟨v1,rfl,D1 a4⟩<|A3 ⟨rfl,D1 a4⟩<|A3 rfl<|A3 rfl ?_;obtain⟨m7,v5,f6,h⟩:=I9 h;refine A3 ⟨v5,rfl,D1 f6⟩<|A3 ⟨rfl,D1 f6⟩ ?_;obtain⟨i8,u2,h⟩:=I5 h;refine⟨_,⟨(by omega),rfl,D3 f6,D1 u2⟩,?_⟩;refine⟨_,_,_,⟨rfl,D3 f6,D3 u2,rfl⟩,?_⟩;obtain⟨m8,t7,h⟩:=I5 h;refine⟨_,⟨(by omega),rfl,D3 r6,D1 t7⟩,?_⟩;refine⟨_,_,⟨rfl,D3 r6,D3 t7⟩,?_⟩;refine A7 (List.map (cL cI) (List.set b6 (Int.toNat (min b2.1 b3.1)) (List.set i6 b8 e4))) (iF rfl) ?_;obtain⟨m9,u3,h⟩:=I5 h;refine⟨_,⟨(by omega),rfl,D3 a4,D1 u3⟩,?_⟩;refine⟨_,_,⟨rfl,D3 a4,D3 u3⟩,?_⟩;refine A7 (List.map (cL cI) (List.set b7 (Int.toNat (min b2.1 b3.1)) (List.set i7 b8 i8))) (iF rfl) ?_;obtain⟨i9,h⟩:=C8 h;refine C5.mk i9 ?_;cases h;exact D4 _ a0 eZ;refine A3 rfl<|A3 rfl ?_;obtain⟨n3,v2,a3,h⟩:=I9 h;refine A3 ⟨v2,rfl,D1 a3⟩<|A3 ⟨rfl,D1 a3⟩ ?_;obtain⟨n4,t3,h⟩:=I5 h;refine⟨_,⟨(by omega),rfl,D3 a3,D1 t3⟩,?_⟩;refine⟨_,_,_,⟨rfl,D3 a3,D3 t3,rfl⟩,?_⟩;refine A3 rfl<|A3 rfl ?_;obtain⟨n5,v4,a5,h⟩:=I9 h;refine A3 ⟨v4,rfl,D1 a5⟩<|A3 ⟨rfl,D1 a5⟩ ?_;obtain⟨n7,t6,h⟩:=I5 h;refine⟨_,⟨(by omega),rfl,D3 a5,D1 t6⟩,?_⟩;refine⟨_,_,_,⟨rfl,D3 a5,D3 t6,rfl⟩,?_⟩;refine B7 h (λj0 h g6=>?_) λj0 h g6=>?_;refine A3 rfl ?_;cases h;cases C4 a0;replace h:some _=some _:=t1;cases h;replace h:some _=some _:=t5;cases h;cases C4 s3;replace h:some _=some _:=v7;cases h;refine A3 ⟨rfl,trivial⟩ ?_;exact⟨rfl,rfl⟩;refine A3 rfl<|A3 rfl ?_;obtain⟨n8,v3,r8,h⟩:=I9 h;refine A3 ⟨v3,rfl,D1 r8⟩<|A3 ⟨rfl,D1 r8⟩ ?_;obtain⟨e6,u7,h⟩:=I5 h;refine⟨_,⟨(by omega),rfl,D3 r8,D1 u7⟩,?_⟩;refine⟨_,_,_,⟨rfl,D3 r8,D3 u7,rfl⟩,?_⟩;obtain⟨j1,h⟩:=C8 h;refine A3 ⟨rfl,sX _,J9 (l:=[(⟨e6,e4⟩:T_A2)]) (c:=c_A2) λ_=>rfl,show B5 _ 16 by simpa only[C3,G9,K5,F7]using j1⟩ ?_;refine A7 (List.map c_A2 (b5++[(⟨e6,e4⟩:T_A2)])) (J8 (l:=b5) (m:=[(⟨e6,e4⟩:T_A2)]) (c:=c_A2)) ?_;obtain⟨j2,h⟩:=C8 h;refine C5.mk j2 ?_;cases h;exact D4 _ a0 eZ;cases h;cases C4 a0;exact J7.mk' _ rfl eZ;rintro⟨d3,d4,d5⟩ rfl hp;have s7:=L4 t1;replace h:I2.k44 e3 d3 d4 d5=some _:=s7;clear s7;unfold I2.k44 at h;obtain⟨n9,o1,o2,_⟩:=hp;cases h;exact J7.mk' _ rfl eZ;rintro⟨d0,d1,e1,d2⟩ rfl hp;have s7:=L4 t5;replace h:I2.k45 d0 d1 e1 d2=some _:=s7;clear s7;unfold I2.k45 at h;obtain⟨o3,o4,o5,_⟩:=hp;cases h;exact D4 _ s3 eZ;cases h;cases C4 s3;exact J7.mk' _ rfl eZ;rintro⟨a8,a6,e0⟩ rfl hp;have s7:=L4 v7;replace h:I2.k70 p_ a8 a6 e0=some _:=s7;clear s7;unfold I2.k70 at h;obtain⟨o6,o7,_⟩:=hp;refine A3 rfl<|A3 rfl<|A3 rfl<|A7 a8.length C6 ?_;obtain⟨⟨e7,e8⟩,h,w4⟩:=A6 h;refine E4 (mkSt [(3,B9 (D8 p_)),(6,.own 235 1 0),(9,.own 236 1 0),(11,.own 239 1 0)] [(235,.box 24 4),(236,.box 24 4),(237,.grid 60 3 1 (List.map (cL cI) e7) none),(238,.grid 60 3 1 (List.map (cL cI) a6) none),(239,.box 146 1),(240,.map (mapV wI wI e8))] [(235,0,.im (nI 0)),(235,1,.im (nI 0)),(235,2,.im (.val (.slice none 0 0))),(235,3,.im (.val (.slice none 0 0))),(236,0,.im (nI p_.I)),(236,1,.im (nI 0)),(236,2,.osl 237 1),(236,3,.osl 238 1),(239,0,.osl 240 1)]) ((Holds.kdg 237 rfl).and ((Holds.kdg 238 rfl).and hT)) ?_ λhp=>?_;refine E1 h (λ(d6,e2,a7)=>mkSt [(3,B9 (D8 p_)),(6,.own 235 1 0),(9,.own 236 1 0),(11,.own 239 1 0),(176,B3 (a8.length:Int)),(177,A9 a7)] [(235,.box 24 4),(236,.box 24 4),(237,.grid 60 3 1 (List.map (cL cI) d6) none),(238,.grid 60 3 1 (List.map (cL cI) a6) none),(239,.box 146 1),(240,.map (mapV wI wI e2))] [(235,0,.im (nI 0)),(235,1,.im (nI 0)),(235,2,.im (.val (.slice none 0 0))),(235,3,.im (.val (.slice none 0 0))),(236,0,.im (nI p_.I)),(236,1,.im (nI 0)),(236,2,.osl 237 1),(236,3,.osl 238 1),(239,0,.osl 240 1)]) (λ(d6,e2,a7)=>lZ d6/\lZ a6/\True) eZ (λ⟨d6,e2,a7⟩=>((Holds.kdg 237 rfl).and ((Holds.kdg 238 rfl).and hT))) ?_;rintro k ⟨d6,e2,a7⟩ o hp h t4;change I2.s66 a8 d6 e2 a7=_ at h;unfold I2.s66 at h;obtain⟨o8,o9,_⟩:=hp;refine B7 h (λj3 h g7=>?_) λj3 h g7=>?_;refine A3 rfl<|A3 rfl ?_;obtain⟨e9,s5,h⟩:=I5 h;refine A3 ⟨(by omega),rfl,D1 s5⟩<|A3 ⟨rfl,D1 s5⟩<|⟨_,⟨rfl,D3 s5⟩,?_⟩;refine A7 e9.length C6 ?_;obtain⟨⟨f5,f7⟩,h,x3⟩:=A6 h;refine E4 (mkSt [(3,B9 (D8 p_)),(6,.own 235 1 0),(9,.own 236 1 0),(11,.own 239 1 0),(176,B3 (a8.length:Int)),(177,A9 a7)] [(235,.box 24 4),(236,.box 24 4),(237,.grid 60 3 1 (List.map (cL cI) f5) none),(238,.grid 60 3 1 (List.map (cL cI) a6) none),(239,.box 146 1),(240,.map (mapV wI wI f7))] [(235,0,.im (nI 0)),(235,1,.im (nI 0)),(235,2,.im (.val (.slice none 0 0))),(235,3,.im (.val (.slice none 0 0))),(236,0,.im (nI p_.I)),(236,1,.im (nI 0)),(236,2,.osl 237 1),(236,3,.osl 238 1),(239,0,.osl 240 1)]) ((Holds.kdg 237 rfl).and ((Holds.kdg 238 rfl).and hT)) ?_ λhp=>?_;refine E1 h (λ(b9,d7,d8)=>mkSt [(3,B9 (D8 p_)),(6,.own 235 1 0),(9,.own 236 1 0),(11,.own 239 1 0),(17,A9 a7),(176,B3 (a8.length:Int)),(177,A9 a7),(184,.sub 237 0 a7),(185,B3 (e9.length:Int)),(186,A9 d8)] [(235,.box 24 4),(236,.box 24 4),(237,.grid 60 3 1 (List.map (cL cI) b9) none),(238,.grid 60 3 1 (List.map (cL cI) a6) none),(239,.box 146 1),(240,.map (mapV wI wI d7))] [(235,0,.im (nI 0)),(235,1,.im (nI 0)),(235,2,.im (.val (.slice none 0 0))),(235,3,.im (.val (.slice none 0 0))),(236,0,.im (nI p_.I)),(236,1,.im (nI 0)),(236,2,.osl 237 1),(236,3,.osl 238 1),(239,0,.osl 240 1)]) (λ(b9,d7,d8)=>lZ b9/\lZ a6/\True) eZ (λ⟨b9,d7,d8⟩=>((Holds.kdg 237 rfl).and ((Holds.kdg 238 rfl).and hT))) ?_;rintro k ⟨b9,d7,d8⟩ o hp h r9;change I2.s64 a7 e9 b9 d7 d8=_ at h;unfold I2.s64 at h;obtain⟨p1,p3,_⟩:=hp;refine B7 h (λj4 h g8=>?_) λj4 h g8=>?_;obtain⟨p4,t8,h⟩:=I5 h;obtain⟨j5,u4,h⟩:=I5 h;refine⟨_,⟨(by omega),rfl,D3 t8,D1 u4⟩,?_⟩;refine⟨_,_,_,⟨rfl,D3 t8,D3 u4,rfl⟩,?_⟩;refine B7 h (λj6 h g9=>?_) λj6 h g9=>?_;refine A3 rfl<|A3 rfl ?_;obtain⟨j7,r7,h⟩:=I5 h;refine A3 ⟨(by omega),rfl,D1 r7⟩<|A3 ⟨rfl,D1 r7⟩<|A3 rfl<|A3 ⟨rfl,trivial⟩ ?_;obtain⟨f8,x1,h⟩:=A6 h;refine⟨_,pR (⟨d7⟩:bH) j5 f8 (λ_ _=>x1),?_⟩;obtain⟨p5,t9,h⟩:=I5 h;refine⟨_,⟨(by omega),rfl,D3 r7,D1 t9⟩,?_⟩;refine⟨_,_,⟨rfl,D3 r7,D3 t9⟩,?_⟩;refine A7 (List.map (cL cI) (List.set b9 a7 (List.set j7 d8 f8.1))) (iF rfl) ?_;obtain⟨j8,h⟩:=C8 h;refine C5.mk j8 ?_;cases h;exact D4 _ r9 eZ;obtain⟨j9,h⟩:=C8 h;refine C5.mk j9 ?_;cases h;exact D4 _ r9 eZ;cases h;cases C4 r9;exact C7 eZ;replace h:I2.k65 a7 f5 f7=some _:=x3;unfold I2.k65 at h;obtain⟨p6,p7,_⟩:=hp;refine C5.mk (zzR_ (by omega)) ?_;cases h;exact D4 _ t4 eZ;cases h;cases C4 t4;exact C7 eZ;replace h:I2.k69 p_ a6 e7 e8=some _:=w4;unfold I2.k69 at h;obtain⟨p8,p9,_⟩:=hp;refine A3 rfl<|A3 ⟨rfl,trivial⟩ ?_;obtain⟨f9,x0,h⟩:=A6 h;refine⟨_,pR (⟨e8⟩:bH) p_.S f9 (λ_ _=>x0),?_⟩;refine A3 rfl<|A3 rfl<|A3 rfl<|A3 ⟨rfl,rfl,trivial⟩ ?_;obtain⟨a2,w7,h⟩:=A6 h;refine⟨_,CE (⟨p_.I,f9.1,e7,a6⟩:A8) a2 w7,?_⟩;refine A3 rfl<|A7 a2.2.length C6 ?_;obtain⟨k0,h⟩:=C8 h;refine A3 k0<|A7 (List.map cI (List.replicate a2.2.length (0:Int))) (V9 (c:=cI) (z:=0) (n:=a2.2.length) rfl rfl)<|A3 rfl<|A7 (List.length (List.replicate a2.2.length (0:Int))) C6 ?_;obtain⟨k1,h,w9⟩:=A6 h;refine E4 (mkSt [(6,.own 235 1 0),(20,.own 236 1 0),(22,.osl 237 1)] [(235,.box 24 4),(236,.box 24 4),(237,.row 3 1 (List.map cI k1))] [(235,0,.im (nI 0)),(235,1,.im (nI 0)),(235,2,.im (.val (.slice none 0 0))),(235,3,.im (.val (.slice none 0 0))),(236,0,.im (nI a2.1.I)),(236,1,.im (nI a2.1.S)),(236,2,.im (nL (cL cI) a2.1.N)),(236,3,.im (nL (cL cI) a2.1.O))]) ((Holds.cel 236 2 rfl (by decide) rfl).and ((Holds.cel 236 3 rfl (by decide) rfl).and ((Holds.kdl 237 rfl).and hT))) ?_ λhp=>?_;refine E1 h (λ(d9,c0,c6)=>mkSt [(6,.own 235 1 0),(11,.own 236 1 0),(20,.own 238 1 0),(21,C9 cI a2.2),(22,.osl 239 1),(219,B3 (↑(List.length (List.replicate a2.2.length (0:Int))):Int)),(220,A9 c6)] [(235,.box 24 4),(236,.box 146 1),(237,.map (mapV wI wI d9)),(238,.box 24 4),(239,.row 3 1 (List.map cI c0))] [(235,0,.im (nI 0)),(235,1,.im (nI 0)),(235,2,.im (.val (.slice none 0 0))),(235,3,.im (.val (.slice none 0 0))),(236,0,.osl 237 1),(238,0,.im (nI a2.1.I)),(238,1,.im (nI a2.1.S)),(238,2,.im (nL (cL cI) a2.1.N)),(238,3,.im (nL (cL cI) a2.1.O))]) (λ(d9,c0,c6)=>lZ a2.2/\lZ a2.1.N/\lZ a2.1.O/\lZ c0/\True) (eA (J1 [235,235,236,239,237,240,238,20,239,217])) (λ⟨d9,c0,c6⟩=>((D5 21 rfl).and ((Holds.cel 238 2 rfl (by decide) rfl).and ((Holds.cel 238 3 rfl (by decide) rfl).and ((Holds.kdl 239 rfl).and hT))))) ?_;rintro k ⟨d9,c0,c6⟩ o hp h s9;change I2.s68 a2 d9 c0 c6=_ at h;unfold I2.s68 at h;obtain⟨q0,q1,q2,q3,_⟩:=hp;refine B7 h (λk2 h h0=>?_) λk2 h h0=>?_;refine A3 rfl<|A3 ⟨rfl,trivial⟩ ?_;obtain⟨k4,w5,h⟩:=A6 h;refine⟨_,pR (⟨d9⟩:bH) (c6:Int) k4 (λ_ _=>w5),?_⟩;refine L0 h λk5 x5 x7 h=>?_;obtain⟨q4,u5,h⟩:=I5 h;refine A3 ⟨(by omega),rfl,D1 u5⟩<|A3 ⟨rfl,trivial⟩<|⟨_,D3 u5,?_⟩;refine A7 (List.map cI (List.set c0 c6 k5)) (M9 rfl) ?_;obtain⟨k6,h⟩:=C8 h;refine C5.mk k6 ?_;cases h;exact D4 _ s9 eZ;cases h;cases C4 s9;exact C7 (eA (J1 [235,235,236,238,237,239]));replace h:=w9;obtain⟨q5,q6,q7,_⟩:=hp;refine A3 rfl<|A3 rfl ?_;cases h;refine A3 ⟨rfl,trivial⟩ ?_;exact A3 ⟨rfl,trivial⟩ ⟨rfl,rfl⟩
def sp_merge_Fold(p_:A8)(s_ t_:Int)(r:A8×Bool×Int)(h:mE p_ s_ t_=some r):Sp Tryz.prog 30 [.im (.agg (D8 p_)),.im (nI s_),.im (nI t_)] (.tup [.agg (D8 r.1),nB r.2.1,nI r.2.2]):=by
 refine E5 [700003] λhk=>?_;have z1:lZ p_.N:=B8 (D7 hk.1 2 rfl);have z2:lZ p_.O:=B8 (D7 hk.1 3 rfl);unfold mE at h;obtain⟨a8,a3,h⟩:=A6 h;refine⟨_,wG p_ a8 a3,?_⟩;refine B7 h (λb2 h a6=>?_) λb2 h a6=>?_;refine A3 rfl ?_;cases h;refine A3 ⟨rfl,trivial⟩ ?_;exact⟨rfl,rfl⟩;obtain⟨b3,h,a0⟩:=A6 h;refine E4 (mkSt [(1,B3 s_),(2,B3 t_),(3,B9 (D8 p_)),(6,.own 64 1 0),(31,H6 b3)] [(64,.box 24 4)] [(64,0,.im (nI 0)),(64,1,.im (nI 0)),(64,2,.im (.val (.slice none 0 0))),(64,3,.im (.val (.slice none 0 0)))]) hT ?_ λhp=>?_;refine nH h (λa2 h a7=>?_) λa2 h a7=>?_
 iterate 5 (refine D2 (N3 a2) ?_)
 refine A7 p_.N.length C6<|D2 (N3 a2)<|E7 a2 ?_;cases h;exact C7 (eA (J1 [64,6]))
 iterate 6 (refine E7 (cJ a2) ?_)
 refine D2 a2 ?_;cases h;exact C7 (eA (J1 [64,6]));replace h:=a0;refine G8 h (λb4 h=>?_) λb4 h=>?_;refine A3 rfl ?_;cases h;refine A3 ⟨rfl,trivial⟩ ?_;exact⟨rfl,rfl⟩;obtain⟨b5,a4,h⟩:=A6 h;refine⟨_,ztq p_ s_ t_ b5 a4,?_⟩;refine A3 rfl<|A3 rfl<|A3 rfl ?_;cases h;refine A3 ⟨rfl,trivial⟩ ?_;exact⟨rfl,rfl⟩
def wS(o_:I4)(r:A8×Int)(h:U6 o_=some r):Sp Tryz.prog 14 [.im (.agg (N6 o_))] (.tup [.agg (D8 r.1),nI r.2]):=by
 refine E5 [500032,500041,500063,700001] λhk=>?_;have z1:lZ o_.T:=B8 (D7 hk.1 1 rfl);unfold U6 at h;obtain⟨c0,e9,h⟩:=A6 h;refine⟨_,sp_merge_Tree o_ c0 e9,?_⟩;refine A3 rfl<|B7 h (λd3 h c9=>?_) λd3 h c9=>?_;refine A3 rfl ?_;cases h;refine A3 ⟨rfl,trivial⟩ ?_;exact⟨rfl,rfl⟩;refine A3 rfl<|A3 rfl<|A7 c0.1.N.length C6 ?_;obtain⟨d4,h⟩:=C8 h;refine A3 d4<|A7 (List.map cB (List.replicate c0.1.N.length false)) (V9 (c:=cB) (z:=false) (n:=c0.1.N.length) rfl rfl)<|A3 rfl<|A3 rfl ?_;obtain⟨e2,e6,a9,h⟩:=I9 h;refine A3 ⟨e6,rfl,D1 a9⟩<|A3 ⟨rfl,trivial⟩<|⟨_,D3 a9,?_⟩;refine A7 (List.map cB (List.set (List.replicate c0.1.N.length false) c0.1.S.toNat true)) (M9 rfl)<|E1 h (λ(b6,b7,b3,b4,b5)=>mkSt [(2,.own 64 1 0),(4,.own 65 1 0),(6,.osl 66 1)] [(64,.box 24 4),(65,.box 24 4),(66,.row 4 1 (List.map cB b5))] [(64,0,.im (nI 0)),(64,1,.im (nI 0)),(64,2,.im (.val (.slice none 0 0))),(64,3,.im (.val (.slice none 0 0))),(65,0,.im (nI b6)),(65,1,.im (nI b7)),(65,2,.im (nL (cL cI) b3)),(65,3,.im (nL (cL cI) b4))]) (λ(b6,b7,b3,b4,b5)=>lZ b3/\lZ b4/\lZ b5/\True) (eA (J1 [64,2,65,4,66,25])) (λ⟨b6,b7,b3,b4,b5⟩=>((Holds.cel 65 2 rfl (by decide) rfl).and ((Holds.cel 65 3 rfl (by decide) rfl).and ((Holds.kdl 66 rfl).and hT)))) ?_;rintro k ⟨b6,b7,b3,b4,b5⟩ o hp h a4;change U6.s4 b6 b7 b3 b4 b5=_ at h;unfold U6.s4 at h;obtain⟨d5,d6,d7,_⟩:=hp;obtain⟨oc,h,a3⟩:=A6 h;refine T8 oc (Y:=Int×Int×A4×A4×List Bool) (λ(a8,b2,a2,a6,a7)=>mkSt [(2,.own 64 1 0),(4,.own 65 1 0),(6,.osl 66 1)] [(64,.box 24 4),(65,.box 24 4),(66,.row 4 1 (List.map cB a7))] [(64,0,.im (nI 0)),(64,1,.im (nI 0)),(64,2,.im (.val (.slice none 0 0))),(64,3,.im (.val (.slice none 0 0))),(65,0,.im (nI a8)),(65,1,.im (nI b2)),(65,2,.im (nL (cL cI) a2)),(65,3,.im (nL (cL cI) a6))]) (λ(a8,b2,a2,a6,a7)=>lZ a2/\lZ a6/\lZ a7/\True) (by rintro⟨a8,b2,a2,a6,a7⟩;exact((Holds.cel 65 2 rfl (by decide) rfl).and ((Holds.cel 65 3 rfl (by decide) rfl).and ((Holds.kdl 66 rfl).and hT)))) ?_ ?_;refine A3 rfl<|A3 ⟨rfl,trivial⟩ ?_;obtain⟨b9,e4,h⟩:=A6 h;refine⟨_,zph (⟨b6,b7,b3,b4⟩:A8) b5 b9 e4,?_⟩;refine A3 (oA (lL λ_=>⟨_,rfl⟩))<|A3 rfl<|A7 b9.length C6<|B7 h (λd0 h c6=>?_) λd0 h c6=>?_;refine A3 rfl<|A3 rfl ?_;cases h;replace h:some _=some _:=a3;cases h;cases C4 a4;refine A3 ⟨rfl,trivial⟩ ?_;exact⟨rfl,rfl⟩;refine A3 rfl<|A3 ⟨rfl,rfl,trivial⟩ ?_;obtain⟨b8,e7,h⟩:=A6 h;refine⟨_,zol (⟨b6,b7,b3,b4⟩:A8) b5 b9 b8 e7,?_⟩;refine A3 (by simp[kZ,fA,wU])<|A3 rfl<|B7 h (λd1 h c7=>?_) λd1 h c7=>?_;obtain⟨d8,a5,a0,h⟩:=I9 h;refine A3 ⟨a5,rfl,D1 a0⟩<|A3 ⟨rfl,trivial⟩<|⟨_,D3 a0,?_⟩;refine A7 (List.map cB (List.set b5 b8.2.toNat true)) (M9 rfl) ?_;cases h;exact J7.mk' _ rfl eZ;refine A3 rfl<|A3 rfl<|A3 rfl<|A3 rfl<|A3 rfl ?_;obtain⟨c8,e5,h⟩:=A6 h;refine⟨_,sp_merge_Fold (⟨b6,b7,b3,b4⟩:A8) b8.1.red b8.1.blue c8 e5,?_⟩;refine A3 rfl<|A3 rfl<|A3 rfl<|A3 rfl<|A3 ⟨rfl,trivial⟩ ?_;obtain⟨d2,e3,h⟩:=A6 h;refine⟨_,znn (⟨b6,b7,b3,b4⟩:A8) c8.1 b5 d2 e3,?_⟩;refine A3 (oA (lL λ_=>⟨_,rfl⟩))<|A3 rfl ?_;cases h;exact J7.mk' _ rfl (eA (J1 [64,64,65,65,66,63]));rintro⟨a8,b2,a2,a6,a7⟩ rfl hp;have e8:=L4 a3;replace h:U6.k3 a8 b2 a2 a6 a7=some _:=e8;clear e8;unfold U6.k3 at h;obtain⟨d9,e0,e1,_⟩:=hp;cases h;exact D4 _ a4 eZ
def zis(slices_:List (A4))(r:A4)(h:cD slices_=some r):Sp Tryz.prog 95 [.im (nL (cL (cL cI)) slices_)] (.row 60 1 (List.map (cL cI) r)):=by
 refine E5 [4025000] λhk=>?_;have z1:lZ slices_:=B8 hk.1;unfold cD at h;refine A7 slices_.length C6 ?_;obtain⟨a3,h,d3⟩:=A6 h;refine E4 (mkSt [(0,C9 (cL (cL cI)) slices_),(3,A9 a3)] [] []) ((D5 0 rfl).and hT) ?_ λhp=>?_;refine E1 h (λ(a0,a8)=>mkSt [(0,C9 (cL (cL cI)) slices_),(3,A9 a0),(9,C9 (cL (cL cI)) slices_),(10,B3 (slices_.length:Int)),(11,A9 a8)] [] []) (λ(a0,a8)=>lZ slices_/\True) eZ (λ⟨a0,a8⟩=>((D5 0 rfl).and hT)) ?_;rintro k ⟨a0,a8⟩ o hp h a5;change cD.s2 slices_ a0 a8=_ at h;unfold cD.s2 at h;obtain⟨d1,_⟩:=hp;refine B7 h (λb8 h b3=>?_) λb8 h b3=>?_;refine E3 h λb9 d6 h=>?_;refine A7 b9.length C6 ?_;obtain⟨c0,h⟩:=C8 h;refine C5.mk c0<|B7 h (λc6 h b4=>?_) λc6 h b4=>?_;cases h;refine C5.mk (zzR_ (by omega)) ?_;cases h;exact D4 _ a5 eZ;cases h;cases C4 a5;exact C7 eZ;replace h:=d3;obtain⟨d2,_⟩:=hp;obtain⟨c7,d4,h⟩:=A6 h;refine⟨_,zoy (a3:Int) c7 (d4),?_⟩;refine A7 slices_.length C6 ?_;obtain⟨b5,h,a9⟩:=A6 h;refine E4 (mkSt [(6,.osl 64 1)] [(64,.row 60 1 (List.map (cL cI) b5))] []) ((Holds.kdl 64 rfl).and hT) ?_ λhp=>?_;refine E1 h (λ(a2,a6)=>mkSt [(6,.osl 64 1),(25,C9 (cL (cL cI)) slices_),(26,B3 (slices_.length:Int)),(27,A9 a6)] [(64,.row 60 1 (List.map (cL cI) a2))] []) (λ(a2,a6)=>lZ slices_/\lZ a2/\True) (eA (J1 [64,24])) (λ⟨a2,a6⟩=>((D5 25 rfl).and ((Holds.kdl 64 rfl).and hT))) ?_;rintro k ⟨a2,a6⟩ o hp h a4;change cD.s4 slices_ a2 a6=_ at h;unfold cD.s4 at h;obtain⟨c8,c9,_⟩:=hp;refine B7 h (λb6 h b2=>?_) λb6 h b2=>?_;refine E3 h λa7 d5 h=>?_;obtain⟨b7,h⟩:=C8 h;refine A3 ⟨rfl,J9 (l:=a7) (c:=cL cI) λ_=>rfl,show B5 _ 24 by simpa only[C3,G9,K5,F7]using b7⟩ ?_;refine A7 (List.map (cL cI) (a2++a7)) (J8 (l:=a2) (m:=a7) (c:=cL cI))<|C5.mk (zzR_ (by omega)) ?_;cases h;exact D4 _ a4 eZ;cases h;cases C4 a4;exact C7 eZ;replace h:=a9;obtain⟨d0,_⟩:=hp;cases h;exact A3 ⟨rfl,trivial⟩ ⟨rfl,rfl⟩
def zmn(a_ b_:A2)(p2_:(A2)->(A2)->Option Int)(f2_:FuncId)(hf2:∀x0 x1 r,p2_ x0 x1=some r->Sp Tryz.prog f2_ [.im (nL cI x0),.im (nL cI x1)] (.im (nI r)))(r:Bool)(h:pK a_ b_ p2_=some r):Sp Tryz.prog 151 [.im (nL cI a_),.im (nL cI b_),.im (.ref [.fn f2_ []])] (.im (nB r)):=by
 refine E5 [] λhk=>?_;have z1:lZ a_:=B8 hk.1;have z2:lZ b_:=B8 hk.2.1;unfold pK at h;obtain⟨a2,a0,h⟩:=A6 h;refine⟨_,hf2 a_ b_ a2 a0,?_⟩;cases h;exact⟨rfl,rfl⟩
def zgo(s_:A4)(eq_:(A2)->(A2)->Option Bool)(f1_:FuncId)(k1_0:IV)(hk1_0:nz k1_0=k1_0)(hf1:∀x0 x1 r,eq_ x0 x1=some r->Sp Tryz.prog f1_ [.im (nL cI x0),.im (nL cI x1),.im k1_0] (.im (nB r)))(r:A4)(h:OkL (List.map (cL cI) s_)->Ok (.fn f1_ [k1_0])->Y8 s_ eq_=some r):Sp Tryz.prog 150 [.row 60 1 (List.map (cL cI) s_),.im (.fn f1_ [k1_0])] (.row 60 1 (List.map (cL cI) r)):=by
 refine E5 [] λhk=>?_;replace h:=h hk.1 hk.2.1;have z1:lZ s_:=nM hk.1;unfold Y8 at h;refine A3 rfl<|A7 s_.length C6<|B7 h (λd9 h b9=>?_) λd9 h b9=>?_;cases h;exact A3 ⟨rfl,trivial⟩ ⟨rfl,rfl⟩;obtain⟨oc,h,f3⟩:=A6 h;refine T8 oc (Y:=Unit) (λ(_:Unit)=>mkSt [(0,.osl 66 1)] [(66,.row 60 1 (List.map (cL cI) s_))] []) (λ(_:Unit)=>lZ s_/\True) (by rintro⟨⟩;exact((Holds.kdl 66 rfl).and hT)) ?_ ?_;refine E1 h (λa2=>mkSt [(0,.osl 66 1),(1,.im (.fn f1_ [k1_0])),(5,A9 a2)] [(66,.row 60 1 (List.map (cL cI) s_))] []) (λa2=>lZ s_/\True) (eA (J1 [66,0])) (λa2=>((Holds.kdl 66 rfl).and hT)) ?_;rintro k a2 o hp h a0;unfold Y8.s20 at h;obtain⟨e0,_⟩:=hp;refine A3 rfl<|A7 s_.length C6<|B7 h (λc0 h b7=>?_) λc0 h b7=>?_;obtain⟨c6,e7,h⟩:=I5 h;refine A3 ⟨(by omega),rfl,D1 e7⟩<|⟨_,_,⟨rfl,D3 e7,rfl,rfl⟩,?_⟩;refine C5.mk (zzR_ (by omega)) ?_;obtain⟨c7,e9,a9,h⟩:=I9 h;refine A3 ⟨e9,rfl,D1 a9⟩<|⟨_,_,⟨rfl,D3 a9,rfl,rfl⟩,?_⟩;obtain⟨c8,f5,h⟩:=A6 h;refine⟨_,Sp.args (hf1 c6 c7 c8 f5) (by rw[hk1_0];try rfl),?_⟩;refine G8 h (λc9 h=>?_) λc9 h=>?_;obtain⟨b4,h⟩:=C8 h;refine A3 ⟨rfl,b4.1,by have a4:=b4;simp only[C3];omega,by have a4:=b4;simp only[C3];omega⟩ ?_;obtain⟨⟨b2,a8⟩,h,f6⟩:=A6 h;refine E4 (mkSt [(0,.osl 66 1),(5,A9 a8)] [(66,.row 60 1 (List.map (cL cI) b2))] []) ((Holds.kdl 66 rfl).and hT) ?_ λhp=>?_;refine E1 h (λ(a6,b3,a7)=>mkSt [(0,.osl 66 1),(1,.im (.fn f1_ [k1_0])),(5,A9 b3),(6,.osv 66 1 a2 1),(7,A9 a7)] [(66,.row 60 1 (List.map (cL cI) a6))] []) (λ(a6,b3,a7)=>lZ a6/\True) eZ (λ⟨a6,b3,a7⟩=>((Holds.kdl 66 rfl).and hT)) ?_;rintro k ⟨a6,b3,a7⟩ o hp h a3;change Y8.s18 eq_ a2 a6 b3 a7=_ at h;unfold Y8.s18 at h;obtain⟨e1,_⟩:=hp;refine A3 rfl<|A7 (List.length a6-a2) len_own<|B7 h (λd0 h b8=>?_) λd0 h b8=>?_;obtain⟨d1,e5,h⟩:=I5 h;refine A3 ⟨(by omega),rfl,D1 e5⟩<|A7 (a2+a7) rfl<|⟨_,_,⟨rfl,D3 e5,rfl,rfl⟩,?_⟩;refine C5.mk (zzR_ (by omega)) ?_;obtain⟨d2,h⟩:=C8 h;obtain⟨d3,e6,h⟩:=I5 h;refine A3 ⟨d2,rfl,D1 e6⟩<|A7 (a2+(Int.toNat ((a7:Int)-1))) rfl<|⟨_,_,⟨rfl,D3 e6,rfl,rfl⟩,?_⟩;obtain⟨d4,f4,h⟩:=A6 h;refine⟨_,Sp.args (hf1 d1 d3 d4 f4) (by rw[hk1_0];try rfl),?_⟩;refine G8 h (λd5 h=>?_) λd5 h=>?_;obtain⟨d6,a5,h⟩:=I5 h;refine A3 ⟨(by omega),rfl,D1 a5⟩<|A7 (a2+a7) rfl<|⟨_,_,⟨rfl,D3 a5,rfl,rfl⟩,?_⟩;obtain⟨e2,e8,h⟩:=I5 h;refine A3 ⟨(by omega),rfl,D1 e8⟩<|A3 ⟨rfl,trivial⟩<|⟨_,D3 e8,?_⟩;refine A7 (List.map (cL cI) (List.set a6 b3 d6)) (M9 rfl) ?_;obtain⟨d7,h⟩:=C8 h;refine C5.mk d7<|C5.mk (zzR_ (by omega)) ?_;cases h;exact D4 _ a3 eZ;refine C5.mk (zzR_ (by omega)) ?_;cases h;exact D4 _ a3 eZ;cases h;cases C4 a3;exact C7 eZ;replace h:Y8.k19 b2 a8=some _:=f6;unfold Y8.k19 at h;obtain⟨e3,_⟩:=hp;obtain⟨b5,h⟩:=C8 h;refine A3 ⟨rfl,b5.1,by have a4:=b5;simp only[C3];omega,by have a4:=b5;simp only[C3];omega⟩ ?_;obtain⟨d8,h⟩:=C8 h;refine A3 ⟨rfl,by have a4:=d8;simp only[C3];omega⟩ ?_;refine A7 (List.map (cL cI) (List.take a8 b2++List.replicate (List.length b2-a8) [])) (clr_map (z:=[]) rfl) ?_;obtain⟨b6,h⟩:=C8 h;refine A3 ⟨rfl,b6.1,by have a4:=b6;simp only[C3];omega,by have a4:=b6;simp only[C3];omega⟩ ?_;refine A7 (List.map (cL cI) (List.take a8 (List.take a8 b2++List.replicate (List.length b2-a8) []))) cut_own ?_;cases h;cases C4 a0;replace h:some _=some _:=f3;cases h;exact A3 ⟨rfl,trivial⟩ ⟨rfl,rfl⟩;refine C5.mk (zzR_ (by omega)) ?_;cases h;exact D4 _ a0 eZ;cases h;cases C4 a0;exact J7.mk' _ rfl eZ;rintro⟨⟩ rfl hp;replace h:=L4 f3;obtain⟨e4,_⟩:=hp;cases h;exact A3 ⟨rfl,trivial⟩ ⟨rfl,rfl⟩
def zn3(l_:A4)(order_:(A2)->(A2)->Option Int)(f1_:FuncId)(hf1:∀x0 x1 r,order_ x0 x1=some r->Sp Tryz.prog f1_ [.im (nL cI x0),.im (nL cI x1)] (.im (nI r)))(hd1:CmpE Tryz.prog f1_ (λx=>nL cI x) order_)(r:A4)(h:gR l_ order_=some r):Sp Tryz.prog 129 [.im (nL (cL cI) l_),.im (.fn f1_ [])] (.row 60 1 (List.map (cL cI) r)):=by
 refine E5 [13000,16000,2013000] λhk=>?_;have z1:lZ l_:=B8 hk.1;unfold gR at h;obtain⟨b2,c8,h⟩:=A6 h;refine⟨_,zn6 l_ b2 (c8),?_⟩;refine A3 rfl<|A3 ⟨rfl,trivial⟩ ?_;obtain⟨b3,a5,h⟩:=A6 h;refine⟨_,zlp b2 order_ f1_ hd1 b3 (a5),?_⟩;refine A3 ⟨rfl,rfl,trivial⟩ ?_;obtain⟨a7,c9,h⟩:=A6 h;refine⟨_,zgo b3 (λu0 u1=>pK u0 u1 order_) 151 (.ref [.fn f1_ []]) rfl (λu0 u1 r h=>(zmn u0 u1 order_ f1_ hf1 r h)) a7 (λ_ _=>c9),?_⟩;refine A3 rfl<|A7 a7.length C6 ?_;obtain⟨b5,h,a9⟩:=A6 h;refine E4 (mkSt [(5,.osl 64 1)] [(64,.row 60 1 (List.map (cL cI) b5))] []) ((Holds.kdl 64 rfl).and hT) ?_ λhp=>?_;refine E1 h (λ(a2,a6)=>mkSt [(5,.osl 64 1),(16,.osl 64 1),(17,B3 (a7.length:Int)),(18,A9 a6)] [(64,.row 60 1 (List.map (cL cI) a2))] []) (λ(a2,a6)=>lZ a2/\True) (eA (J1 [64,15])) (λ⟨a2,a6⟩=>((Holds.kdl 64 rfl).and hT)) ?_;rintro k ⟨a2,a6⟩ o hp h a0;change gR.s2 a7 a2 a6=_ at h;unfold gR.s2 at h;obtain⟨b9,_⟩:=hp;refine B7 h (λb6 h a8=>?_) λb6 h a8=>?_;obtain⟨b7,a4,h⟩:=I5 h;refine A3 ⟨(by omega),rfl,D1 a4⟩<|⟨_,_,⟨rfl,D3 a4,rfl,rfl⟩,?_⟩;obtain⟨b4,c7,h⟩:=A6 h;refine⟨_,(BP b7 b4 (c7)).im,?_⟩;obtain⟨c0,a3,h⟩:=I5 h;refine A3 ⟨(by omega),rfl,D1 a3⟩<|A3 ⟨rfl,trivial⟩<|⟨_,D3 a3,?_⟩;refine A7 (List.map (cL cI) (List.set a2 a6 b4)) (M9 rfl) ?_;obtain⟨b8,h⟩:=C8 h;refine C5.mk b8 ?_;cases h;exact D4 _ a0 eZ;cases h;cases C4 a0;exact C7 eZ;replace h:=a9;obtain⟨c6,_⟩:=hp;cases h;exact A3 ⟨rfl,trivial⟩ ⟨rfl,rfl⟩
def wL(l_ r:A4)(h:jF l_=some r):Sp Tryz.prog 94 [.im (nL (cL cI) l_)] (.row 60 1 (List.map (cL cI) r)):=by
 refine E5 [] λhk=>?_;have z1:lZ l_:=B8 hk.1;unfold jF at h;obtain⟨a2,a0,h⟩:=A6 h;refine⟨_,zn3 l_ (λu0 u1=>iI u0 u1) 130 (λu0 u1 r h=>(BM u0 u1 r h)) zo9 a2 a0,?_⟩;cases h;exact A3 ⟨rfl,trivial⟩ ⟨rfl,rfl⟩
def zp9(lists_:List (A4))(r:A4)(h:pF lists_=some r):Sp Tryz.prog 57 [.im (nL (cL (cL cI)) lists_)] (.im (nL (cL cI) r)):=by
 refine E5 [] λhk=>?_;have z1:lZ lists_:=B8 hk.1;unfold pF at h;obtain⟨a2,a0,h⟩:=A6 h;refine⟨_,(zis lists_ a2 a0).im,?_⟩;obtain⟨a6,a3,h⟩:=A6 h;refine⟨_,(wL a2 a6 a3).im,?_⟩;cases h;exact⟨rfl,rfl⟩
def zov(p_:A8)(out_:Int)(r:B6×Int)(h:U7 p_ out_=some r):Sp Tryz.prog 53 [.im (.agg (D8 p_)),.im (nI out_)] (.tup [.agg (E9 r.1),nI r.2]):=by
 refine E5 [700002] λhk=>?_;have z1:lZ p_.N:=B8 (D7 hk.1 2 rfl);have z2:lZ p_.O:=B8 (D7 hk.1 3 rfl);unfold U7 at h;obtain⟨e0,h0,h⟩:=A6 h;refine⟨_,wG p_ e0 h0,?_⟩;refine B7 h (λe1 h d0=>?_) λe1 h d0=>?_;refine A3 rfl ?_;cases h;refine A3 ⟨rfl,trivial⟩ ?_;exact⟨rfl,rfl⟩;obtain⟨e2,h,g9⟩:=A6 h;refine E4 (mkSt [(1,B3 out_),(2,B9 (D8 p_)),(4,.own 99 1 0),(24,H6 e2)] [(99,.box 50 4)] [(99,0,.im (nI 0)),(99,1,.im (nI 0)),(99,2,.im (.val (.slice none 0 0))),(99,3,.im (.val (.slice none 0 0)))]) hT ?_ λhp=>?_;refine nH h (λb7 h d1=>?_) λb7 h d1=>?_;refine D2 (N3 b7)<|E7 b7 ?_;cases h;exact C7 (eA (J1 [99,4]));refine E7 (cJ b7)<|D2 b7 ?_;cases h;exact C7 (eA (J1 [99,4]));replace h:=g9;refine G8 h (λe3 h=>?_) λe3 h=>?_;refine A3 rfl ?_;cases h;refine A3 ⟨rfl,trivial⟩ ?_;exact⟨rfl,rfl⟩;refine A7 p_.N.length C6<|B7 h (λe4 h d2=>?_) λe4 h d2=>?_;refine A3 rfl ?_;cases h;refine A3 ⟨rfl,trivial⟩ ?_;exact⟨rfl,rfl⟩;refine A3 rfl<|A7 p_.N.length C6 ?_;obtain⟨⟨b8,b9⟩,h,h2⟩:=A6 h;refine E4 (mkSt [(4,.own 99 1 0),(7,.own 100 1 0)] [(99,.box 50 4),(100,.box 50 4),(101,.row 60 1 (List.map (cL cI) b8)),(102,.row 60 1 (List.map (cL cI) b9))] [(99,0,.im (nI 0)),(99,1,.im (nI 0)),(99,2,.im (.val (.slice none 0 0))),(99,3,.im (.val (.slice none 0 0))),(100,0,.im (nI p_.I)),(100,1,.im (nI p_.S)),(100,2,.osl 101 1),(100,3,.osl 102 1)]) ((Holds.kdl 101 rfl).and ((Holds.kdl 102 rfl).and hT)) ?_ λhp=>?_;refine E1 h (λ(a2,a6,a7)=>mkSt [(1,B3 out_),(2,B9 (D8 p_)),(4,.own 99 1 0),(7,.own 100 1 0),(38,B3 (p_.N.length:Int)),(39,A9 a7)] [(99,.box 50 4),(100,.box 50 4),(101,.row 60 1 (List.map (cL cI) a2)),(102,.row 60 1 (List.map (cL cI) a6))] [(99,0,.im (nI 0)),(99,1,.im (nI 0)),(99,2,.im (.val (.slice none 0 0))),(99,3,.im (.val (.slice none 0 0))),(100,0,.im (nI p_.I)),(100,1,.im (nI p_.S)),(100,2,.osl 101 1),(100,3,.osl 102 1)]) (λ(a2,a6,a7)=>lZ a2/\lZ a6/\True) (eA [(99,some 99),(100,some 7),(101,none),(102,none)]) (λ⟨a2,a6,a7⟩=>((Holds.kdl 101 rfl).and ((Holds.kdl 102 rfl).and hT))) ?_;rintro k ⟨a2,a6,a7⟩ o hp h a5;change U7.s20 p_ out_ a2 a6 a7=_ at h;unfold U7.s20 at h;obtain⟨e5,e6,_⟩:=hp;refine B7 h (λd3 h c0=>?_) λd3 h c0=>?_;obtain⟨d4,h⟩:=C8 h;refine A3 d4<|A7 (List.map cI (List.replicate (Int.toNat p_.I) (0:Int))) (V9 (c:=cI) (z:=0) (n:=(Int.toNat p_.I)) rfl rfl) ?_;obtain⟨d5,h⟩:=C8 h;refine A3 d5<|A7 (List.map cI (List.replicate (Int.toNat p_.I) (0:Int))) (V9 (c:=cI) (z:=0) (n:=(Int.toNat p_.I)) rfl rfl) ?_;refine E3 h λb4 h4 h=>?_;refine A7 b4.length C6 ?_;obtain⟨⟨b5,b6⟩,h,g8⟩:=A6 h;refine E4 (mkSt [(1,B3 out_),(2,B9 (D8 p_)),(4,.own 99 1 0),(7,.own 100 1 0),(9,.osl 103 1),(10,.osl 104 1),(38,B3 (p_.N.length:Int)),(39,A9 a7)] [(99,.box 50 4),(100,.box 50 4),(101,.row 60 1 (List.map (cL cI) a2)),(102,.row 60 1 (List.map (cL cI) a6)),(103,.row 3 1 (List.map cI b5)),(104,.row 3 1 (List.map cI b6))] [(99,0,.im (nI 0)),(99,1,.im (nI 0)),(99,2,.im (.val (.slice none 0 0))),(99,3,.im (.val (.slice none 0 0))),(100,0,.im (nI p_.I)),(100,1,.im (nI p_.S)),(100,2,.osl 101 1),(100,3,.osl 102 1)]) ((Holds.kdl 101 rfl).and ((Holds.kdl 102 rfl).and ((Holds.kdl 103 rfl).and ((Holds.kdl 104 rfl).and hT)))) ?_ λhp=>?_;refine E1 h (λ(b2,b3,a8)=>mkSt [(1,B3 out_),(2,B9 (D8 p_)),(4,.own 99 1 0),(7,.own 100 1 0),(8,A9 a7),(9,.osl 103 1),(10,.osl 104 1),(38,B3 (p_.N.length:Int)),(39,A9 a7),(52,C9 cI b4),(53,B3 (b4.length:Int)),(54,A9 a8)] [(99,.box 50 4),(100,.box 50 4),(101,.row 60 1 (List.map (cL cI) a2)),(102,.row 60 1 (List.map (cL cI) a6)),(103,.row 3 1 (List.map cI b2)),(104,.row 3 1 (List.map cI b3))] [(99,0,.im (nI 0)),(99,1,.im (nI 0)),(99,2,.im (.val (.slice none 0 0))),(99,3,.im (.val (.slice none 0 0))),(100,0,.im (nI p_.I)),(100,1,.im (nI p_.S)),(100,2,.osl 101 1),(100,3,.osl 102 1)]) (λ(b2,b3,a8)=>lZ b4/\lZ a2/\lZ a6/\lZ b2/\lZ b3/\True) (eA (J1 [99,99,100,100,101,101,102,102,103,44,104,47])) (λ⟨b2,b3,a8⟩=>((D5 52 rfl).and ((Holds.kdl 101 rfl).and ((Holds.kdl 102 rfl).and ((Holds.kdl 103 rfl).and ((Holds.kdl 104 rfl).and hT)))))) ?_;rintro k ⟨b2,b3,a8⟩ o hp h a0;change U7.s18 p_ out_ a7 b4 b2 b3 a8=_ at h;unfold U7.s18 at h;obtain⟨e7,e8,e9,f3,f4,_⟩:=hp;refine B7 h (λd6 h c6=>?_) λd6 h c6=>?_;refine E3 h λc7 h6 h=>?_;refine E3 h λf5 h3 h=>?_;refine E3 h λc8 h5 h=>?_;obtain⟨f7,a4,h⟩:=I5 h;refine A3 ⟨(by omega),rfl,D1 a4⟩<|A3 ⟨rfl,trivial⟩<|⟨_,D3 a4,?_⟩;refine A7 (List.map cI (List.set b2 a8 c7)) (M9 rfl) ?_;obtain⟨f8,a9,h⟩:=I5 h;refine A3 ⟨(by omega),rfl,D1 a9⟩<|A3 ⟨rfl,trivial⟩<|⟨_,D3 a9,?_⟩;refine A7 (List.map cI (List.set b3 a8 c8)) (M9 rfl)<|B7 h (λd7 h c9=>?_) λd7 h c9=>?_;obtain⟨f9,a3,h⟩:=I5 h;refine A3 ⟨(by omega),rfl,D1 a3⟩<|A3 ⟨rfl,trivial⟩<|⟨_,D3 a3,?_⟩;refine A7 (List.map cI (List.set (List.set b2 a8 c7) a8 (a7:Int))) (M9 rfl) ?_;obtain⟨g1,f6,h⟩:=I5 h;refine A3 ⟨(by omega),rfl,D1 f6⟩<|A3 ⟨rfl,trivial⟩<|⟨_,D3 f6,?_⟩;refine A7 (List.map cI (List.set (List.set b3 a8 c8) a8 out_)) (M9 rfl)<|C5.mk (zzR_ (by omega)) ?_;cases h;exact D4 _ a0 eZ;refine C5.mk (zzR_ (by omega)) ?_;cases h;exact D4 _ a0 eZ;cases h;cases C4 a0;exact C7 eZ;replace h:U7.k19 a2 a6 a7 b5 b6=some _:=g8;unfold U7.k19 at h;obtain⟨g2,g3,g4,g5,_⟩:=hp;refine A3 rfl<|A3 rfl<|A3 ⟨rfl,trivial⟩ ?_;obtain⟨d8,h⟩:=C8 h;refine A3 ⟨rfl,J9 (l:=[b5]) (c:=cL cI) λ_=>rfl,show B5 _ 24 by simpa only[C3,G9,K5,F7]using d8⟩ ?_;refine A7 (List.map (cL cI) (a2++[b5])) (J8 (l:=a2) (m:=[b5]) (c:=cL cI))<|A3 rfl<|A3 rfl<|A3 ⟨rfl,trivial⟩ ?_;obtain⟨d9,h⟩:=C8 h;refine A3 ⟨rfl,J9 (l:=[b6]) (c:=cL cI) λ_=>rfl,show B5 _ 24 by simpa only[C3,G9,K5,F7]using d9⟩ ?_;refine A7 (List.map (cL cI) (a6++[b6])) (J8 (l:=a6) (m:=[b6]) (c:=cL cI))<|A3 rfl<|A3 rfl<|A3 rfl<|A3 rfl<|C5.mk (zzR_ (by omega)) ?_;cases h;exact D4 _ a5 eZ;cases h;cases C4 a5;exact C7 eZ;replace h:U7.k21 p_ b8 b9=some _:=h2;unfold U7.k21 at h;obtain⟨g6,g7,_⟩:=hp;refine A3 rfl<|A3 rfl ?_;cases h;refine A3 ⟨rfl,trivial⟩ ?_;exact A3 ⟨rfl,rfl,trivial⟩ ⟨rfl,rfl⟩
end Go.Proofs.YtkeplokjplkcmaaGreat.Sym
